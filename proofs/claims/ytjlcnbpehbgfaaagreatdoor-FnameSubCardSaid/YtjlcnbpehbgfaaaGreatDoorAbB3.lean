import Derived.Test.YtjlcnbpehbgfaaaGreatDoorAbY6
import Derived.LoopN
import Derived.Scope
import Derived.Test.YtjlcnbpehbgfaaaGreatDoorAbPrim
import Derived.Lib.Bytealg
import Derived.Carry
import Derived.ChangeSame
import Derived.RowKit
namespace Ab
open Go (IntKind BinOp UnOp World Value Addr Obj undef maxLen Program TypeId Oper Op Operand Act Sem Next Result execOp Builtin Calls Ending Exit)
theorem look_prune {live : List Nat} {env : Env} {t : Nat} : look (prune live env) t = if t ∈ live then look env t else .any := by
 unfold prune
 induction live with
 | nil => simp [look]
 | cons x l ih =>
  simp only [List.map_cons,look,List.mem_cons]
  by_cases h : x = t
  ·subst h; simp
  ·rw [if_neg h,ih]
   simp [Ne.symm h]
theorem look_ren {r : Nat → Option Nat} : ∀ {e e' : Env} {t : Nat},renEnv r e = some e' → look e' t = .any ∨ ∃ v,look e t = v ∧ AV.ren r 3 v = some (look e' t)
 | [],e',t,h => by simp only [renEnv,mapO,Option.some.injEq] at h; subst h; exact .inl rfl
 | (s,v) :: e,e',t,h => by
  simp only [renEnv,mapO] at h
  split at h
  ·rename_i x hx
   split at h
   ·rename_i xs hxs
    simp only [Option.some.injEq] at h; subst h
    obtain ⟨v',hv',rfl⟩ := Option.map_eq_some_iff.1 hx
    simp only [look]
    by_cases hs : s = t
    ·simp only [hs,if_true]; exact .inr ⟨v,rfl,hv'⟩
    ·simp only [hs,if_false]; exact look_ren hxs
   ·cases h
  ·cases h
structure MovesK (k : Nat) (μ : Nat → Value) (H : Heap) (μ' : Nat → Value) (H' : Heap) : Prop where
 len : k ≤ H'.length
 row : ∀ id f sz xs,id < k → H'[id]? = some (.row f sz xs) → ∃ f0 xs0,H[id]? = some (.row f0 sz xs0) ∧ xs0.length ≤ xs.length ∧ (xs0.length = xs.length → μ' id = μ id)
 box : ∀ id cs,id < k → H'[id]? = some (.box cs) → ∃ cs0,H[id]? = some (.box cs0) ∧ μ' id = μ id
theorem Moves.toK {k : Nat} {μ μ' : Nat → Value} {H H' : Heap} (h : Moves μ H μ' H') (hk : k ≤ H.length) : MovesK k μ H μ' H' :=
 ⟨Nat.le_trans hk h.len,fun id f sz xs hi he => h.row id f sz xs (by omega) he,fun id cs hi he => h.box id cs (by omega) he⟩
theorem MovesK.toMoves {μ μ' : Nat → Value} {H H' : Heap} (h : MovesK H.length μ H μ' H') : Moves μ H μ' H' := ⟨h.len,h.row,h.box⟩
theorem MovesK.trans {k : Nat} {μ μ1 μ2 : Nat → Value} {H H1 H2 : Heap} (a : MovesK k μ H μ1 H1) (b : MovesK k μ1 H1 μ2 H2) : MovesK k μ H μ2 H2 where
 len := b.len
 row id f sz xs hi he := by
  obtain ⟨f1,xs1,e1,l1,q1⟩ := b.row id f sz xs hi he
  obtain ⟨f0,xs0,e0,l0,q0⟩ := a.row id f1 sz xs1 hi e1
  exact ⟨f0,xs0,e0,by omega,fun h => by rw [q1 (by omega),q0 (by omega)]⟩
 box id cs hi he := by
  obtain ⟨c1,e1,q1⟩ := b.box id cs hi he
  obtain ⟨c0,e0,q0⟩ := a.box id c1 hi e1
  exact ⟨c0,e0,by rw [q1,q0]⟩
def keepOk (gc : Option Nat) (k : Nat) : Bool := match gc with | none => true | some j => decide (k ≤ j)
section
variable {Γ : Ctx} {N : Names} {w : World} {S : Nat → Prop} {μ : Nat → Value} {H : Heap} {a : Act} {env : Env}
theorem Env.Rel.prune (he : Env.Rel Γ N w S μ H (look env) a) (live : List Nat) : Env.Rel Γ N w S μ H (look (Ab.prune live env)) a :=
 ⟨fun t => by
  rw [look_prune]
  split
  ·exact he.env t
  ·exact .any _,he.gl⟩
theorem norm_sound (hr : Ab.Rel N.fn w S μ H) (he : Env.Rel Γ N w S μ H (look env) a) {live : List Nat} {gc : Option Nat} {e : Env} {h : Heap} (hn : norm live gc env H = some (e,h)) :
  ∃ μ',Run N.fn w S μ H w S μ' h ∧ (∀ k,keepOk gc k = true → k ≤ H.length → MovesK k μ H μ' h) ∧ Env.Rel Γ N w S μ' h (look e) a := by
 simp only [norm] at hn
 split at hn
 ·rename_i j
  split at hn
  ·rename_i e' H' h1 h2
   simp only [Option.some.injEq,Prod.mk.injEq] at hn
   obtain ⟨rfl,rfl⟩ := hn
   refine ⟨_,run_pick hr (reach_nodup _ _ _ List.nodup_range) h2,(fun k hk hkl => ?_),fun t => ?_,he.gl⟩
   ·obtain ⟨X,hX⟩ := reach_prefix (H := H) 64 (((prune live env).flatMap fun x => x.2.refs) ++ (H.take j).flatMap Blk.refs) (List.range j)
    have hkj : k ≤ j := by simpa [keepOk] using hk
    generalize reach H 64 (((prune live env).flatMap fun x => x.2.refs) ++ (H.take j).flatMap Blk.refs) (List.range j) = L at hX h1 h2
    have hL : ∀ id,id < k → L[id]? = some id := fun id hi => by
     rw [hX,List.getElem?_append_left (by rw [List.length_range]; omega),List.getElem?_range (by omega)]
    refine ⟨?_,fun id f sz xs hi hb => ?_,fun id cs hi hb => ?_⟩
    ·rw [(mapO_spec h2).1,hX,List.length_append,List.length_range]; omega
    ·obtain ⟨id',b,g1,g2,g3⟩ := pick_get h2 hb
     rw [hL id hi] at g1
     cases g1
     rw [Blk.ren_row_inv g3] at g2
     exact ⟨f,xs,g2,Nat.le_refl _,fun _ => by simp [picked,hL id hi]⟩
    ·obtain ⟨id',b,g1,g2,g3⟩ := pick_get h2 hb
     rw [hL id hi] at g1
     cases g1
     obtain ⟨cs0,rfl,_⟩ := Blk.ren_box_inv g3
     exact ⟨cs0,g2,by simp [picked,hL id hi]⟩
   rcases look_ren (t := t) h1 with h | ⟨v,hv,h⟩
   ·rw [h]; exact .any _
   ·refine ren_rel (pick_emb h2) 3 ?_ h
    rw [← hv]
    exact (he.prune live).env t
  ·cases hn
 ·simp only [Option.some.injEq,Prod.mk.injEq] at hn
  obtain ⟨rfl,rfl⟩ := hn
  exact ⟨μ,.refl hr,fun _ _ hk => Moves.refl.toK hk,he.prune live⟩
end
end Ab
namespace Ab
open Go (IntKind BinOp UnOp World Value Addr Obj undef maxLen Program TypeId Oper Op Operand Act Sem Next Result execOp Builtin Calls Ending Exit)
def chkSts (P : Program) (N : Names) (ops : Array Oper) (nt : Nat) : List Oper → List St → Bool
 | [],[] => true
 | o :: os,s :: ss => chkSt P N ops nt o s && chkSts P N ops nt os ss
 | _,_ => false
def chkC (P : Program) (N : Names) (nt : Nat) : Go.Code → Code → Bool
 | .skip,.skip => true
 | .label _,.skip => true
 | .region _ ops draw,.ops _ l => chkSts P N ops nt ops.toList l && (match draw with | true => drawOk ops.toList l | false => true)
 | .seq a b,.seq a' b' => chkC P N nt a a' && chkC P N nt b b'
 | .cond c a b,.cond c' a' b' => chkArg N c c' && chkC P N nt a a' && chkC P N nt b b'
 | .block id c,.block _ id' c' => id == id' && chkC P N nt c c'
 | .loop c,.loop _ _ c' => chkC P N nt c c'
 | .exit id,.exit id' => id == id'
 | .ret,.ret => true
 | _,.bad => true
 | .scope c,c' => chkC P N nt c c'
 | _,_ => false
theorem chkSts_spec {P N ops nt} : ∀ {os ss},chkSts P N ops nt os ss = true → ss.length = os.length ∧ ∀ (j : Nat) s,ss[j]? = some s → ∃ o,os[j]? = some o ∧ chkSt P N ops nt o s = true
 | [],[],_ => ⟨rfl,by simp⟩
 | o :: os,s :: ss,h => by
  simp only [chkSts,Bool.and_eq_true] at h
  obtain ⟨h1,h2⟩ := chkSts_spec h.2
  refine ⟨by simp [h1],fun j s' hj => ?_⟩
  cases j with
  | zero => simp only [List.getElem?_cons_zero,Option.some.injEq] at hj; subst hj; exact ⟨o,rfl,h.1⟩
  | succ j => simpa using h2 j s' (by simpa using hj)
 | [],_ :: _,h => by cases h
 | _ :: _,[],h => by cases h
def exitOf : Ex → Exit
 | .nrm => .normal
 | .ex i => .exit i
 | .ret => .ret
section
variable {Γ : Ctx} {N : Names} {P : Program}
def After (Γ : Ctx) (N : Names) (st : Bool) (k : Nat) (w : World) (S : Nat → Prop) (μ : Nat → Value) (H : Heap) (a : Act) (env' : Env) (H' : Heap) (K : Act → World → Prop) : Prop :=
 ∀ a' w' S' μ',Run N.fn w S μ H w' S' μ' H' → (st = true → k ≤ H.length → MovesK k μ H μ' H') → Env.Rel Γ N w' S' μ' H' (look env') a' → a'.tmps.size = a.tmps.size → a'.defers = a.defers → K a' w'
def CodeAt (Γ : Ctx) (N : Names) (P : Program) (n : Nat) : Prop :=
 ∀ (nt : Nat) (c : Go.Code) (c' : Code) (env : Env) (H : Heap) (e : Ex) (env' : Env) (H' : Heap) (k : Nat),chkC P N nt c c' = true → ev Γ n c' env H = some (e,env',H') →
  ∀ w S μ a (Q : Exit → Act → World → Prop),Rel N.fn w S μ H → Env.Rel Γ N w S μ H (look env) a → nt ≤ a.tmps.size → After Γ N (c'.still k) k w S μ H a env' H' (Q (exitOf e)) → c.wp P Q a w
def RoundsAt (Γ : Ctx) (N : Names) (P : Program) (n : Nat) : Prop :=
 ∀ (nt : Nat) (c : Go.Code) (c' : Code) (live : List Nat) (gc : Option Nat) (env : Env) (H : Heap) (e : Ex) (env' : Env) (H' : Heap) (k : Nat),chkC P N nt c c' = true → ev Γ n (.loop live gc c') env H = some (e,env',H') →
  ∀ w S μ a (Q : Exit → Act → World → Prop),Rel N.fn w S μ H → Env.Rel Γ N w S μ H (look env) a → nt ≤ a.tmps.size → After Γ N (Code.still k (.loop live gc c')) k w S μ H a env' H' (Q (exitOf e)) → Go.Code.rounds P c Q n a w
theorem After.trans {st st' : Bool} {k : Nat} {w w1 : World} {S S1 : Nat → Prop} {μ μ1 : Nat → Value} {H H1 H' : Heap} {a a1 : Act} {env' : Env} {K : Act → World → Prop} (h : After Γ N st k w S μ H a env' H' K)
  (hr : Run N.fn w S μ H w1 S1 μ1 H1) (hm : st = true → k ≤ H.length → MovesK k μ H μ1 H1) (hst : st = true → st' = true) (hs : a1.tmps.size = a.tmps.size) (hd : a1.defers = a.defers) : After Γ N st' k w1 S1 μ1 H1 a1 env' H' K :=
 fun a' w' S' μ' hr' hm' he hs' hd' => h a' w' S' μ' (hr.trans hr') (fun e hk => (hm e hk).trans (hm' (hst e) (hm e hk).len)) he (hs'.trans hs) (hd'.trans hd)
theorem After.of {st st' : Bool} {k : Nat} {w : World} {S : Nat → Prop} {μ : Nat → Value} {H H' : Heap} {a : Act} {env' : Env} {K : Act → World → Prop} (h : After Γ N st k w S μ H a env' H' K) (hst : st = true → st' = true) : After Γ N st' k w S μ H a env' H' K :=
 fun a' w' S' μ' hr' hm' he hs' hd' => h a' w' S' μ' hr' (fun e hk => hm' (hst e) hk) he hs' hd'
theorem region_sound (hm : P.follows .mixedOrders = true) {cal : Nat → List AV → Heap → Option (List AV × Heap)} (hcal : CallOk Γ N P cal) {nt id k : Nat} {ops : Array Oper} {draw : Bool} {l : List St} {env env' : Env} {H H' : Heap} {w : World} {S : Nat → Prop} {μ : Nat → Value} {a : Act}
  {Q : Exit → Act → World → Prop} (hc : chkSts P N ops nt ops.toList l = true) (hd : draw = true → drawOk ops.toList l = true) (hv : evSts Γ cal l env H = some (env',H')) (hr : Rel N.fn w S μ H) (he : Env.Rel Γ N w S μ H (look env) a)
  (hn : nt ≤ a.tmps.size) (hQ : After Γ N true k w S μ H a env' H' (Q .normal)) : (Go.Code.region id ops draw).wp P Q a w := by
 obtain ⟨hl,hst⟩ := chkSts_spec hc
 have hl : l.length = ops.size := by simpa using hl
 have hst : ∀ (j : Nat) s,l[j]? = some s → ∃ o,ops[j]? = some o ∧ chkSt P N ops nt o s = true := fun j s hj => by
  obtain ⟨o,h1,h2⟩ := hst j s hj
  exact ⟨o,by simpa using h1,h2⟩
 cases draw with
 | false =>
  refine Go.wp_region ?_
  rw [List.range_eq_range',← hl]
  exact sts_sound hcal l 0 (fun j s hj => by simpa using hst j s hj) hv hr he hn fun a' w' S' μ' h1 h2 h3 h4 => hQ a' w' S' μ' h1.run (fun _ hk => h1.moves.toK hk) h2 h3 h4
 | true =>
  refine Go.wp_region_any hm ?_
  obtain ⟨E,hp,val,hC,rfl,rfl,rfl,rfl⟩ := course_of l hv
  have hdrew : Step N.fn w S μ (hp 0) { w with drawn := w.drawn + 1 } S μ (hp 0) := .grow hr (Grows.drew w) (fun _ h => h) (fun g h => Nat.lt_of_lt_of_le (hr.lt g h) (Grows.drew w).size) (fun _ h => .inl h)
  have hrep : ∀ i,(Array.replicate ops.size false).getD i false = false := fun i => by
   rcases Nat.lt_or_ge i ops.size with h | h
   ·simp [h]
   ·simp [h]
  have e0 : ∀ n t,lastW l (fun i => (Array.replicate ops.size false).getD i false) t n = 0 := fun n t => by
   induction n with
   | zero => rfl
   | succ n ih => unfold lastW; rw [if_neg (by simp [hrep]),ih]
  refine draw_sound hcal (drawOk_spec hl (hd rfl)) hst hC (w0 := { w with drawn := w.drawn + 1 }) (S0 := S) (μ0 := μ) (a0 := a) hn (fun a' w' S' μ' h1 h2 h3 h4 => hQ a' w' S' μ' (hdrew.run.trans h1.run) (fun _ hk => (hdrew.moves.trans h1.moves).toK hk) h2 h3 h4)
   ops.size (List.range ops.size) _ a _ List.nodup_range (fun i => ?_) (by simp) ⟨by simp [hl],fun j o _ hj => ?_,rfl,rfl,S,μ,0,.refl hdrew.rel,fun t => ?_,GlRel.step hr hdrew he.gl,.inl ⟨rfl,fun m s hm => ?_⟩⟩
  ·rw [hrep i,hl]; simp
  ·rw [hrep j] at hj; cases hj
  ·rw [e0]; exact (he.env t).step hr hdrew
  ·rw [hrep m] at hm; cases hm
theorem code_both (hm : P.follows .mixedOrders = true) : ∀ n,(∀ m < n,CallOk Γ N P (callOf Γ (ev Γ m))) → CodeAt Γ N P n ∧ RoundsAt Γ N P n
 | 0,_ => ⟨fun _ _ _ _ _ _ _ _ _ _ h => by simp [ev] at h,fun _ _ _ _ _ _ _ _ _ _ _ _ h => by simp [ev] at h⟩
 | n + 1,hcal => by
  obtain ⟨ihC,ihR⟩ := code_both hm n fun m h => hcal m (by omega)
  have hR : RoundsAt Γ N P (n + 1) := by
   intro nt c c' live gc env H e env' H' k hc hv w S μ a Q hr he hn hQ
   rw [Go.rounds_succ]
   simp only [ev] at hv
   split at hv
   ·cases hv
   ·rename_i e1 h1 hnorm
    obtain ⟨μ1,hrun,hmv,he1⟩ := norm_sound hr he hnorm
    have hst : Code.still k (.loop live gc c') = true → keepOk gc k = true ∧ c'.still k = true := fun h => by simp only [Code.still,Bool.and_eq_true] at h; exact h
    split at hv
    ·rename_i env2 H2 hb
     refine ihC nt c c' e1 h1 _ _ _ k hc hb w S μ1 a _ hrun.rel he1 hn fun a2 w2 S2 μ2 hrun2 hm2 he2 hs2 hd2 => ?_
     exact ihR nt c c' live gc env2 H2 e env' H' k hc hv w2 S2 μ2 a2 Q hrun2.rel he2 (by omega) (hQ.trans (hrun.trans hrun2) (fun h hk => (hmv k (hst h).1 hk).trans (hm2 (hst h).2 (hmv k (hst h).1 hk).len)) id hs2 hd2)
    ·rename_i hno
     obtain ⟨ex,env2,H2⟩ : Out := (e,env',H')
     refine ihC nt c c' e1 h1 _ _ _ k hc hv w S μ1 a _ hrun.rel he1 hn ?_
     have hQ := hQ.trans hrun (fun h hk => hmv k (hst h).1 hk) (fun h => (hst h).2) rfl rfl
     cases e with
     | nrm => exact absurd hv (hno _ _)
     | ex i => exact hQ
     | ret => exact hQ
  refine ⟨?_,hR⟩
  intro nt c
  induction c with
  | scope c ih =>
   intro c' env H e env' H' k hc hv w S μ a Q hr he hn hQ
   have hc : chkC P N nt c c' = true := by cases c' <;> first | exact hc | (simp [ev] at hv)
   refine Go.wp_scope_straight (ih c' env H e env' H' k hc hv w S μ a _ hr he hn ?_)
   cases e <;> exact hQ
  | skip =>
   intro c' env H e env' H' k hc hv w S μ a Q hr he hn hQ
   have nobad : c' ≠ .bad := by rintro rfl; simp [ev] at hv
   cases c' <;> first | (exact Bool.noConfusion hc) | (exact absurd rfl nobad) | skip
   simp only [ev,Option.some.injEq,Prod.mk.injEq] at hv
   obtain ⟨rfl,rfl,rfl⟩ := hv
   exact Go.wp_skip (hQ a w S μ (.refl hr) (fun _ hk => Moves.refl.toK hk) he rfl rfl)
  | label l =>
   intro c' env H e env' H' k hc hv w S μ a Q hr he hn hQ
   have nobad : c' ≠ .bad := by rintro rfl; simp [ev] at hv
   cases c' <;> first | (exact Bool.noConfusion hc) | (exact absurd rfl nobad) | skip
   simp only [ev,Option.some.injEq,Prod.mk.injEq] at hv
   obtain ⟨rfl,rfl,rfl⟩ := hv
   exact Go.wp_label (hQ a w S μ (.refl hr) (fun _ hk => Moves.refl.toK hk) he rfl rfl)
  | ret =>
   intro c' env H e env' H' k hc hv w S μ a Q hr he hn hQ
   have nobad : c' ≠ .bad := by rintro rfl; simp [ev] at hv
   cases c' <;> first | (exact Bool.noConfusion hc) | (exact absurd rfl nobad) | skip
   simp only [ev,Option.some.injEq,Prod.mk.injEq] at hv
   obtain ⟨rfl,rfl,rfl⟩ := hv
   exact Go.wp_ret (hQ a w S μ (.refl hr) (fun _ hk => Moves.refl.toK hk) he rfl rfl)
  | exit id =>
   intro c' env H e env' H' k hc hv w S μ a Q hr he hn hQ
   have nobad : c' ≠ .bad := by rintro rfl; simp [ev] at hv
   cases c' <;> first | (exact Bool.noConfusion hc) | (exact absurd rfl nobad) | skip
   simp only [ev,Option.some.injEq,Prod.mk.injEq] at hv
   obtain ⟨rfl,rfl,rfl⟩ := hv
   simp only [chkC,beq_iff_eq] at hc
   subst hc
   exact Go.wp_exit (hQ a w S μ (.refl hr) (fun _ hk => Moves.refl.toK hk) he rfl rfl)
  | region id ops draw =>
   intro c' env H e env' H' k hc hv w S μ a Q hr he hn hQ
   have nobad : c' ≠ .bad := by rintro rfl; simp [ev] at hv
   cases c' <;> first | (exact Bool.noConfusion hc) | (exact absurd rfl nobad) | skip
   rename_i live l
   simp only [ev,Option.map_eq_some_iff,Prod.mk.injEq] at hv
   obtain ⟨⟨env1,H1⟩,hv,rfl,rfl,rfl⟩ := hv
   simp only [chkC,Bool.and_eq_true] at hc
   refine region_sound (k := k) hm (hcal n (by omega)) hc.1 (fun h => by subst h; exact hc.2) hv hr he hn fun a' w' S' μ' h1 hm1 h2 h3 h4 => ?_
   exact hQ a' w' S' μ' h1 (fun _ hk => hm1 rfl hk) (h2.prune live) h3 h4
  | seq x y _ _ =>
   intro c' env H e env' H' k hc hv w S μ a Q hr he hn hQ
   have nobad : c' ≠ .bad := by rintro rfl; simp [ev] at hv
   cases c' <;> first | (exact Bool.noConfusion hc) | (exact absurd rfl nobad) | skip
   rename_i x' y'
   simp only [chkC,Bool.and_eq_true] at hc
   refine Go.wp_seq ?_
   simp only [ev] at hv
   split at hv
   ·rename_i env1 H1 h1
    refine ihC nt x x' _ _ _ _ _ k hc.1 h1 w S μ a _ hr he hn fun a1 w1 S1 μ1 hrun hm1 he1 hs hd => ?_
    exact ihC nt y y' _ _ _ _ _ k hc.2 hv w1 S1 μ1 a1 Q hrun.rel he1 (by omega) (hQ.trans hrun (fun h hk => hm1 (by simp only [Code.still,Bool.and_eq_true] at h; exact h.1) hk) (fun h => by simp only [Code.still,Bool.and_eq_true] at h; exact h.2) hs hd)
   ·rename_i hno
    refine ihC nt x x' _ _ _ _ _ k hc.1 hv w S μ a _ hr he hn ?_
    have hQ := hQ.of (st' := x'.still k) (fun h => by simp only [Code.still,Bool.and_eq_true] at h; exact h.1)
    cases e with
    | nrm => exact absurd hv (hno _ _)
    | ex i => exact hQ
    | ret => exact hQ
  | cond g x y _ _ =>
   intro c' env H e env' H' k hc hv w S μ a Q hr he hn hQ
   have nobad : c' ≠ .bad := by rintro rfl; simp [ev] at hv
   cases c' <;> first | (exact Bool.noConfusion hc) | (exact absurd rfl nobad) | skip
   rename_i g' x' y'
   simp only [chkC,Bool.and_eq_true] at hc
   have hg := he.arg hc.1.1
   simp only [ev] at hv
   split at hv
   ·rename_i t ht
    rw [ht] at hg
    refine Go.wp_cond hg.bool_inv ?_
    cases t with
    | true => exact ihC nt x x' _ _ _ _ _ k hc.1.2 hv w S μ a Q hr he hn (hQ.of fun h => by simp only [Code.still,Bool.and_eq_true] at h; exact h.1)
    | false => exact ihC nt y y' _ _ _ _ _ k hc.2 hv w S μ a Q hr he hn (hQ.of fun h => by simp only [Code.still,Bool.and_eq_true] at h; exact h.2)
   ·cases hv
  | block id x _ =>
   intro c' env H e env' H' k hc hv w S μ a Q hr he hn hQ
   have nobad : c' ≠ .bad := by rintro rfl; simp [ev] at hv
   cases c' <;> first | (exact Bool.noConfusion hc) | (exact absurd rfl nobad) | skip
   rename_i live id' x'
   simp only [chkC,Bool.and_eq_true,beq_iff_eq] at hc
   obtain ⟨rfl,hc⟩ := hc
   refine Go.wp_block ?_
   simp only [ev] at hv
   split at hv
   ·rename_i env1 H1 h1
    simp only [Option.some.injEq,Prod.mk.injEq] at hv
    obtain ⟨rfl,rfl,rfl⟩ := hv
    exact ihC nt x x' _ _ _ _ _ k hc h1 w S μ a _ hr he hn fun a1 w1 S1 μ1 hrun hm1 he1 hs hd => hQ a1 w1 S1 μ1 hrun hm1 (he1.prune live) hs hd
   ·rename_i i env1 H1 h1
    refine ihC nt x x' _ _ _ _ _ k hc h1 w S μ a _ hr he hn fun a1 w1 S1 μ1 hrun hm1 he1 hs hd => ?_
    simp only [exitOf,Go.Exit.inBlock]
    split at hv
    ·rename_i hi
     simp only [Option.some.injEq,Prod.mk.injEq] at hv
     obtain ⟨rfl,rfl,rfl⟩ := hv
     rw [if_pos hi]
     exact hQ a1 w1 S1 μ1 hrun hm1 (he1.prune live) hs hd
    ·rename_i hi
     simp only [Option.some.injEq,Prod.mk.injEq] at hv
     obtain ⟨rfl,rfl,rfl⟩ := hv
     rw [if_neg hi]
     exact hQ a1 w1 S1 μ1 hrun hm1 he1 hs hd
   ·rename_i h1 h2
    refine ihC nt x x' _ _ _ _ _ k hc hv w S μ a _ hr he hn fun a1 w1 S1 μ1 hrun hm1 he1 hs hd => ?_
    cases e with
    | nrm => exact absurd hv (h1 _ _)
    | ex i => exact absurd hv (h2 _ _ _)
    | ret => exact hQ a1 w1 S1 μ1 hrun hm1 he1 hs hd
  | loop x _ =>
   intro c' env H e env' H' k hc hv w S μ a Q hr he hn hQ
   have nobad : c' ≠ .bad := by rintro rfl; simp [ev] at hv
   cases c' <;> first | (exact Bool.noConfusion hc) | (exact absurd rfl nobad) | skip
   rename_i live gc x'
   simp only [chkC] at hc
   exact Go.wp_loop_rounds (n + 1) (hR nt x x' live gc env H e env' H' k hc hv w S μ a Q hr he hn hQ)
  | rangeFunc f ps x y => intro c' _ _ _ _ _ _ hc hv; cases c' <;> first | (exact Bool.noConfusion hc) | (simp [ev] at hv)
  | goto l => intro c' _ _ _ _ _ _ hc hv; cases c' <;> first | (exact Bool.noConfusion hc) | (simp [ev] at hv)
  | refuse s => intro c' _ _ _ _ _ _ hc hv; cases c' <;> first | (exact Bool.noConfusion hc) | (simp [ev] at hv)
end
end Ab
namespace Ab
open Go (IntKind BinOp UnOp World Value Addr Obj undef maxLen Program TypeId Oper Op Operand Act Sem Next Result execOp Builtin Calls Ending Exit)
def chkRes (P : Program) : List Go.ResultVar → List RV → Bool
 | [], [] => true
 | .tmp t :: rs, .slot t' :: ss => t == t' && chkRes P rs ss
 | .cell t T :: rs, .cell t' sz ag :: ss => t == t' && aggT P T ag && sizeT P T sz && chkRes P rs ss
 | _, _ => false
def chkF (P : Program) (N : Names) (g : Go.Func) (fn : AFn) : Bool :=
 decide (fn.np ≤ g.ntmps) && chkRes P g.results.toList fn.results && !(g.name == "runtime.NumGoroutine") && (match g.body with | some c => chkC P N g.ntmps c fn.body | none => false)
def PrimOk (Γ : Ctx) (N : Names) (P : Program) (f : Nat) (g : List PV → Option (List PV)) : Prop :=
 ∀ ps rs, g ps = some rs → ∀ w S us, (∀ g, S g → g < w.heap.size) → GlRel Γ N w S → All2 (fun u p => RelP N.fn w S p u) us ps →
  Does P (N.fn f) us.toArray w (fun v w' => ∃ vs S', v = resVal vs ∧ Grows w w' ∧ (∀ g, S g → S' g) ∧ (∀ g, S' g → g < w'.heap.size) ∧ (∀ g, S' g → S g ∨ w.heap.size ≤ g) ∧
   All2 (fun u p => RelP N.fn w' S' p u) vs rs)
def FreshOk (Γ : Ctx) (N : Names) (P : Program) (f : Nat) (g : List PV → Option (Nat × List PV)) : Prop :=
 ∀ ps r, g ps = some r → ∀ w S us, (∀ g, S g → g < w.heap.size) → GlRel Γ N w S → All2 (fun u p => RelP N.fn w S p u) us ps →
  Does P (N.fn f) us.toArray w (fun v w' => ∃ cells, Grows w w' ∧ RowAt w' v r.1 r.2.length cells ∧ v.oneCell' = true ∧ FlatRel N.fn w' S r.1 r.2 cells ∧ ∀ g, blkOf v = some g → w.heap.size ≤ g)
def UpdOk (Γ : Ctx) (N : Names) (P : Program) (f : Nat) (g : List PV → Nat → List PV → Option (List PV)) : Prop :=
 ∀ ps sz xs ys, g ps sz xs = some ys → ys.length = xs.length → xs.length ≤ lim → ∀ w S u us cells, (∀ g, S g → g < w.heap.size) → GlRel Γ N w S → RowAt w u sz xs.length cells → FlatRel N.fn w S sz xs cells →
  (∀ g, blkOf u = some g → ¬ S g ∧ g < w.heap.size) → All2 (fun u p => RelP N.fn w S p u) us ps →
  Does P (N.fn f) (u :: us).toArray w (fun v w' => v = resVal [] ∧ w'.os = w.os ∧ w'.tape = w.tape ∧ w'.output = w.output ∧ w.heap.size ≤ w'.heap.size ∧ (∀ b, b < w.heap.size → blkOf u ≠ some b → w'.heap[b]? = w.heap[b]?) ∧
   ∃ cells', RowAt w' u sz ys.length cells' ∧ FlatRel N.fn w' S sz ys cells')
structure Known (Γ : Ctx) (N : Names) (P : Program) : Prop where
 mixed : P.follows .mixedOrders = true
 code : ∀ f fn, Γ.fn f = some (.code fn) → ∃ g, P.funcs[N.fn f]? = some g ∧ chkF P N g fn = true
 prim : ∀ f g, Γ.fn f = some (.prim g) → PrimOk Γ N P f g
 fresh : ∀ f g, Γ.fn f = some (.fresh g) → FreshOk Γ N P f g
 upd : ∀ f g, Γ.fn f = some (.upd g) → UpdOk Γ N P f g
section
variable {Γ : Ctx} {N : Names} {P : Program}
theorem look_init : ∀ {args : List AV} {t : Nat}, look (initEnv args) t = (args[t]?).getD .any := by
 have key : ∀ (args : List AV) (k t : Nat), look ((args.zipIdx k).map fun x => (x.2, x.1)) t = if k ≤ t then (args[t - k]?).getD .any else .any := by
  intro args
  induction args with
  | nil => intro k t; simp [look]
  | cons x r ih =>
   intro k t
   simp only [List.zipIdx_cons, List.map_cons, look]
   by_cases h : k = t
   ·subst h; simp
   ·rw [if_neg h, ih]
    by_cases hk : k ≤ t
    ·rw [if_pos (by omega), if_pos hk, show t - k = (t - (k + 1)) + 1 by omega]; simp
    ·rw [if_neg (by omega), if_neg hk]
 intro args t
 have := key args 0 t
 simpa [initEnv] using this
def resOf (tmps : Array Value) : Go.ResultVar → Sem Value
 | .tmp t => pure (tmps.getD t undef)
 | .cell x t => do Go.loadVar t (← Go.asAddr (tmps.getD x undef))
theorem loadA_ptr {w : World} {S : Nat → Prop} {μ : Nat → Value} {H : Heap} {x : Value} {x' v : AV} {sz : Nat} {ag : Bool} (_hr : Rel N.fn w S μ H) (hx : RelV N.fn w S μ H x' x) (hv : loadA H sz ag x' = some v) : ∃ ad, x = .pointer (some ad) := by
 unfold loadA at hv
 split at hv
 ·cases hx with
  | p _ _ hx => cases hx with
   | ptr cells ad => exact ⟨ad, rfl⟩
 ·cases hx with
  | bx _ _ g _ _ _ h => exact ⟨_, h⟩
 ·rename_i id n i off
  obtain ⟨r, hb, hv⟩ := Option.bind_eq_some_iff.1 hv
  obtain ⟨y, hy, hv⟩ := Option.bind_eq_some_iff.1 hv
  obtain ⟨f, hb, hn⟩ := rowOf_spec hb
  have hi : i < n := by rw [← hn]; exact (List.getElem?_eq_some_iff.1 hy).1
  cases hx with
  | el _ _ _ _ _ hl h hone =>
  obtain ⟨_, h4⟩ := h f _ _ hb
  obtain ⟨g, cap, h5, rfl⟩ := (h4 hn.symm).1 hi
  exact ⟨_, rfl⟩
 ·cases hv
theorem results_sound {w : World} {S : Nat → Prop} {μ : Nat → Value} {H : Heap} {a : Act} {env : Env} (hrel : Rel N.fn w S μ H) (he : Env.Rel Γ N w S μ H (look env) a) : ∀ {rs : List Go.ResultVar} {ss : List RV} {vs : List AV}, chkRes P rs ss = true → mapO (RV.get env H) ss = some vs →
  ∃ us, (rs.mapM (resOf a.tmps)).run P w = .ok us w ∧ All2 (fun u x => RelV N.fn w S μ H x u) us vs
 | [], [], vs, _, h => by
  simp only [mapO, Option.some.injEq] at h; subst h
  exact ⟨[], by simp, trivial⟩
 | .tmp t :: rs, .slot t' :: ss, vs, hc, h => by
  simp only [chkRes, Bool.and_eq_true, beq_iff_eq] at hc
  obtain ⟨rfl, hc⟩ := hc
  simp only [mapO, RV.get] at h
  split at h
  ·rename_i xs hxs
   simp only [Option.some.injEq] at h; subst h
   obtain ⟨us, h1, h2⟩ := results_sound hrel he hc hxs
   refine ⟨a.tmps.getD t undef :: us, ?_, he.env t, h2⟩
   simp only [List.mapM_cons, resOf, Go.Sem.run_bind, Go.Sem.run_pure, Go.Result.andThen_ok, h1]
  ·cases h
 | .cell t T :: rs, .cell t' sz ag :: ss, vs, hc, h => by
  simp only [chkRes, Bool.and_eq_true, beq_iff_eq] at hc
  obtain ⟨⟨⟨rfl, hc1⟩, hc2⟩, hc⟩ := hc
  simp only [mapO, RV.get] at h
  split at h
  ·rename_i x hx
   split at h
   ·rename_i xs hxs
    simp only [Option.some.injEq] at h; subst h
    obtain ⟨us, h1, h2⟩ := results_sound hrel he hc hxs
    obtain ⟨ad, had⟩ := loadA_ptr hrel (he.env t) hx
    obtain ⟨u, h3, h4⟩ := q_load (P := P) hrel (aggT_spec hc1) (sizeT_spec hc2) (he.env t) hx
    rw [had] at h3
    have h3 : (Go.loadVar T ad).run P w = .ok u w := by simpa [Go.Instr.loadAt, Go.Instr.sureAddr] using h3
    refine ⟨u :: us, ?_, h4, h2⟩
    simp only [List.mapM_cons, resOf, had, Go.asAddr, Go.Sem.run_bind, Go.Sem.run_pure, Go.Result.andThen_ok, h3, h1]
   ·cases h
  ·cases h
 | .cell _ _ :: _, .slot _ :: _, _, hc, _ => by simp [chkRes] at hc
 | .tmp _ :: _, .cell _ _ _ :: _, _, hc, _ => by simp [chkRes] at hc
 | [], _ :: _, _, hc, _ => by simp [chkRes] at hc
 | .tmp _ :: _, [], _, hc, _ => by simp [chkRes] at hc
 | .cell _ _ :: _, [], _, hc, _ => by simp [chkRes] at hc
theorem run_results {fn : Go.Func} {tmps : Array Value} {w : World} {us : List Value}
  (h : (fn.results.toList.mapM (resOf tmps)).run P w = .ok us w) :
  (Go.results fn tmps).run P w = .ok (resVal us) w := by
 have e : Go.results fn tmps = (do let vs ← fn.results.mapM (resOf tmps); pure (if h : vs.size = 1 then vs[0] else .tuple vs)) := rfl
 rw [e, Array.mapM_eq_mapM_toList]
 simp only [Go.Sem.run_bind, h, Go.Result.andThen_ok, bind_assoc, map_eq_pure_bind, pure_bind, Go.Sem.run_pure]
 match us with
 | [] => simp [resVal]
 | [x] => simp [resVal]
 | x :: y :: r => simp [resVal]
theorem all_ok (K : Known Γ N P) : ∀ n, CallOk Γ N P (callOf Γ (ev Γ n)) := by
 intro n
 induction n using Nat.strongRecOn with
 | _ n ih =>
  intro f args H rs H' hc
  have hcode := (code_both (Γ := Γ) (N := N) (P := P) K.mixed n ih).1
  unfold callOf at hc
  split at hc
  ·rename_i g hg
   split at hc
   ·rename_i ps hps
    split at hc
    ·rename_i qs hqs
     simp only [Option.some.injEq, Prod.mk.injEq] at hc
     obtain ⟨rfl, rfl⟩ := hc
     have h2 := K.prim f g hg ps qs hqs
     refine fun w S μ us hr hgl ha => (h2 w S us hr.lt hgl ?_).mono ?_
     ·have := pures_spec hps
      subst this
      have ha := ha.get
      refine .of_get (by simpa using ha.1) fun j x y hx hy => ?_
      exact (ha.2 j x (.p y) hx (by simp [hy])).p_inv
     ·rintro e w' ⟨vs, S', rfl, hg, g1, g2, g3, hv⟩
      exact ⟨vs, S', μ, rfl, (Step.grow hr hg g1 g2 g3).run, fun _ => .refl, All2.map_right (hv.imp fun u p h => .p _ _ h)⟩
    ·cases hc
   ·cases hc
  ·rename_i g hg
   split at hc
   rotate_left
   ·cases hc
   rename_i ps hps
   split at hc
   rotate_left
   ·cases hc
   rename_i r hgr
   split at hc
   rotate_left
   ·cases hc
   rename_i h0
   simp only [Option.some.injEq, Prod.mk.injEq] at hc
   obtain ⟨rfl, rfl⟩ := hc
   refine fun w S μ us hr hgl ha => (K.fresh f g hg ps r hgr w S us hr.lt hgl ?_).mono ?_
   ·have := pures_spec hps
    subst this
    have ha := ha.get
    refine .of_get (by simpa using ha.1) fun j x y hx hy => ?_
    exact (ha.2 j x (.p y) hx (by simp [hy])).p_inv
   ·rintro e w' ⟨cells, hgw, hrow, hone, hfl, hn⟩
    obtain ⟨μ', s1, s2⟩ := step_newrow hr hgw h0.1 h0.2 hrow hfl hn
    exact ⟨[e], S, μ', rfl, s1.run, fun _ => s1.moves, s2, trivial⟩
  ·rename_i g hg
   split at hc
   rotate_left
   ·cases hc
   rename_i id n args
   split at hc
   rotate_left
   ·cases hc
   rename_i sz xs hb
   split at hc
   rotate_left
   ·cases hc
   rename_i hxn
   split at hc
   rotate_left
   ·cases hc
   rename_i ps hps
   split at hc
   rotate_left
   ·cases hc
   rename_i ys hys
   split at hc
   rotate_left
   ·cases hc
   rename_i hyl
   simp only [Option.some.injEq, Prod.mk.injEq] at hc
   obtain ⟨rfl, rfl⟩ := hc
   intro w S μ us hr hgl ha
   match us, ha with
   | u :: us, ⟨hu, ha⟩ =>
   have eu : u = μ id := by
    cases hu with
    | own _ _ _ _ h _ => exact (h _ _ _ hb).2 hxn.symm
   subst eu
   obtain ⟨h0, hlim, cells, hrow, hx1, hx2, _⟩ := hr.blk id _ hb
   refine (K.upd f g hg ps sz xs ys hys hyl hlim w S (μ id) us cells hr.lt hgl hrow ⟨hx1, hx2⟩ (fun b hbk => ⟨hr.apart b (alive_iff.2 ⟨id, _, hb, .inr ⟨sz, xs, rfl⟩, hbk⟩), hr.blk_lt hb hbk⟩) ?_).mono ?_
   ·have := pures_spec hps
    subst this
    have ha := ha.get
    refine .of_get (by simpa using ha.1) fun j x y hx hy => ?_
    exact (ha.2 j x (.p y) hx (by simp [hy])).p_inv
   ·rintro e w' ⟨rfl, q1, q2, q3, q4, q5, cells', q6, q7⟩
    have hm : Moves μ H (upd μ id (μ id)) (H.set id (.row false sz ys)) := moves_set_row hb (by omega) (fun _ => rfl)
    have hs : Step N.fn w S μ H w' S (upd μ id (μ id)) (H.set id (.row false sz ys)) :=
     Step.set hr hb (.inr ⟨sz, xs, rfl⟩) q1 q2 q3 q4 (fun b h1 h2 => q5 b h1 h2) hm ⟨h0, by omega, cells', by rw [upd_same]; exact q6, q7.1, q7.2, by simp⟩ (fun b hbk => .inl hbk)
    exact ⟨[], S, _, rfl, hs.run, fun _ => hs.moves, trivial⟩
  ·rename_i fn hf
   obtain ⟨g, hg, hchk⟩ := K.code f fn hf
   simp only [chkF, Bool.and_eq_true, decide_eq_true_eq] at hchk
   obtain ⟨⟨⟨c1, c2⟩, c3⟩, c4⟩ := hchk
   split at c4
   rotate_left
   ·cases c4
   rename_i body hbody
   split at hc
   rotate_left
   ·cases hc
   rename_i hlen
   have henter : Enters P (N.fn f) := fun us w => by
    have hnm : (g.name == "runtime.NumGoroutine") = false := by simpa using c3
    simp only [beq_eq_false_iff_ne, ne_eq] at hnm
    simp [Go.callFunc, hg, hnm, hbody]
   intro w S μ us hr hgl ha
   refine .inl ⟨henter _ _, Go.calls_of_wp hg hbody ?_⟩
   have hul : us.length = args.length := ha.get.1
   have he0 : Env.Rel Γ N w S μ H (look (initEnv args)) { tmps := us.toArray ++ Array.replicate (g.ntmps - us.toArray.size) undef, defers := [] } := by
    refine ⟨fun t => ?_, hgl⟩
    rw [look_init]
    rcases Nat.lt_or_ge t args.length with h | h
    ·rw [List.getElem?_eq_getElem h, Option.getD_some]
     have := ha.get.2 t (us[t]'(by omega)) args[t] (List.getElem?_eq_getElem _) (List.getElem?_eq_getElem _)
     have e : (us.toArray ++ Array.replicate (g.ntmps - us.toArray.size) undef).getD t undef = us[t]'(by omega) := by
      rw [Array.getD_eq_getD_getElem?, Array.getElem?_append_left (by simp; omega)]
      simp [List.getElem?_eq_getElem (show t < us.length by omega)]
     rw [e]; exact this
    ·rw [List.getElem?_eq_none h, Option.getD_none]; exact .any _
   split at hc
   ·cases hc
   ·rename_i ex env' H1 hno hev
    split at hc
    ·rename_i vs hvs
     simp only [Option.some.injEq, Prod.mk.injEq] at hc
     obtain ⟨rfl, rfl⟩ := hc
     refine hcode g.ntmps body fn.body (initEnv args) H ex env' H1 H.length c4 hev w S μ _ _ hr he0 (by simp; omega) fun a' w' S' μ' hrun hmv he' hs hd => ?_
     have hmv : stillF Γ H.length f = true → Moves μ H μ' H1 := fun h => (hmv (by simpa [stillF, hf] using h) (Nat.le_refl _)).toMoves
     obtain ⟨us', h1, h2⟩ := results_sound hrun.rel he' c2 hvs
     have h3 := run_results h1
     cases ex with
     | nrm => exact ⟨hd, _, h3, _, rfl, us', S', μ', rfl, hrun, hmv, h2⟩
     | ret => exact ⟨hd, _, h3, _, rfl, us', S', μ', rfl, hrun, hmv, h2⟩
     | ex i => exact (hno i rfl).elim
    ·cases hc
   ·cases hc
  ·cases hc
theorem run_sound (K : Known Γ N P) {n f : Nat} {ps rs : List PV} {r : List AV × Heap} {us : List Value} {w : World} {T : Nat → Prop} (hT : ∀ g, T g → g < w.heap.size) (hgl : GlRel Γ N w T)
  (ha : All2 (fun u p => RelP N.fn w T p u) us ps) (hc : callOf Γ (ev Γ n) f (ps.map .p) [] = some r) (hrs : mapO (reify r.2 4) r.1 = some rs) :
  Does P (N.fn f) us.toArray w (fun v w' => ∃ vs, v = resVal vs ∧ Grows w w' ∧
   All2 (fun u p => RelP N.fn w' (fun g => T g ∨ (w.heap.size ≤ g ∧ g < w'.heap.size)) p u) vs rs) :=
 pure_call (all_ok K n) hT hgl ha hc hrs
end
end Ab
namespace Ab
open Go (IntKind BinOp UnOp World Value Addr Obj undef maxLen Program TypeId Oper Op Operand Act Sem Next Result execOp Builtin Calls Ending Exit)
def RowFor (P : Program) (f : Nat) (e : Array Value → Sem Value) : Prop :=
 ∃ fn, P.funcs[f]? = some fn ∧ (fn.name == "runtime.NumGoroutine") = false ∧ fn.body.isNone = true ∧ Go.Extern.findNext fn = none ∧ Go.Extern.find fn = some e
theorem RowFor.does {P : Program} {f : Nat} {e : Array Value → Sem Value} (h : RowFor P f e) {us : Array Value} {w w' : World} {v : Value} {R : Value → World → Prop} (hrun : (e us).run P w = .ok v w') (hR : R v w') : Does P f us w R := by
 obtain ⟨fn, h1, h2, h3, h4, h5⟩ := h
 refine .inr ⟨v, w', ?_, hR⟩
 simp only [beq_eq_false_iff_ne, ne_eq] at h2
 have h3 := Option.isNone_iff_eq_none.1 h3
 simp [Go.callFunc, h1, h2, h3, h4, h5, hrun, Go.mark, Sem.run]
theorem ixB_eq (s : List UInt8) (c : UInt8) : Go.Lib.indexByte s c = ixB s c := by
 induction s with
 | nil => rfl
 | cons b l ih => simp only [Go.Lib.indexByte, ixB, ih]
section
variable {Γ : Ctx} {N : Names} {P : Program} {f : Nat}
theorem prim_indexByte (h : RowFor P (N.fn f) Go.Extern.BytealgIndexByte.indexByte) : PrimOk Γ N P f indexByteG := by
 intro ps rs hg w S us hS hgl ha
 unfold indexByteG at hg
 split at hg
 rotate_left
 ·cases hg
 rename_i s c
 simp only [Option.some.injEq] at hg
 subst hg
 match us, ha with
 | [u1, u2], ⟨h1, h2, _⟩ =>
  rw [h1.str_inv, h2.int_inv]
  rw [← ixB_eq]
  exact h.does (w' := w) (Go.Lib.run_indexByteString ⟨s.toArray⟩ c w) ⟨[.int .i64 (Go.Lib.indexByte s c.toNat.toUInt8)], S, rfl, .refl w, fun _ h => h, hS, fun _ h => .inl h, .int _ _, trivial⟩
theorem prim_count (h : RowFor P (N.fn f) Go.Extern.BytealgCount.count) : PrimOk Γ N P f countG := by
 intro ps rs hg w S us hS hgl ha
 unfold countG at hg
 split at hg
 rotate_left
 ·cases hg
 rename_i s c
 simp only [Option.some.injEq] at hg
 subst hg
 match us, ha with
 | [u1, u2], ⟨h1, h2, _⟩ =>
  rw [h1.str_inv, h2.int_inv]
  exact h.does (w' := w) (Go.Lib.run_countString ⟨s.toArray⟩ c w) ⟨[.int .i64 (s.count c.toNat.toUInt8 : Nat)], S, rfl, .refl w, fun _ h => h, hS, fun _ h => .inl h, .int _ _, trivial⟩
end
end Ab
namespace Ab
open Go (IntKind BinOp UnOp World Value Addr Obj undef maxLen Program TypeId Oper Op Operand Act Sem Next Result execOp Builtin Calls Ending Exit DataW Lit MemPlace)
def tiles (P : Program) : List Go.Field → Nat → Option Nat
 | [],k => some k
 | f :: fs,k => if f.offset = k then tiles P fs (k + P.cellsOf f.type) else none
def plainT (P : Program) : Nat → TypeId → Bool
 | 0,_ => false
 | n + 1,t => match P.underlying t with
  | some .bool | some (.int _) | some .string => true
  | some (.slice e) => plainT P n e && decide (0 < P.cellsOf e) && (aggB P e).isSome
  | some (.struct fs) => (match tiles P fs.toList 0 with | some k => k == P.cellsOf t | none => false) && fs.toList.all fun f => plainT P n f.type
  | _ => false
def okFs (R : TypeId → List PV → Prop) : List TypeId → List PV → Prop
 | [],pcs => pcs = []
 | t :: ts,pcs => ∃ a b,pcs = a ++ b ∧ R t a ∧ okFs R ts b
def okT (P : Program) : Nat → TypeId → List PV → Prop
 | 0,_,_ => False
 | n + 1,t,pcs => match P.underlying t with
  | some .bool => ∃ b,pcs = [.bool b]
  | some (.int k) => ∃ m,pcs = [.int k m] ∧ (Lit.int k m).wf = true
  | some .string => ∃ s,pcs = [.str s] ∧ s.length ≤ maxLen
  | some (.slice e) => ∃ k xs,pcs = [.sl k (P.cellsOf e) xs] ∧ xs.length ≤ maxLen ∧ ((k = .nil ∧ xs = []) ∨ k = .mem) ∧ ∀ x ∈ xs,x.one = !((aggB P e).getD true) ∧ okT P n e x.cells
  | some (.struct fs) => okFs (okT P n) (fs.toList.map (·.type)) pcs
  | _ => False
section
variable {H : Type} {enc : TypeId × Value → H} {P : Program} {N : Names} {w : World} {sp : Nat → Bool} {held : Bool} {S : Nat → Prop}
structure Trees (ν : Nat → Nat) (w : World) (S : Nat → Prop) (pcs : List PV) (cs : List Value) : Prop where
 len : pcs.length = cs.length
 one : ∀ c ∈ pcs,c.one = true
 rel : ∀ (j : Nat) c,pcs[j]? = some c → RelP ν w S c (cs.getD j undef)
theorem Trees.single {c : PV} {v : Value} (h : RelP N.fn w S c v) (h1 : c.one = true) : Trees N.fn w S [c] [v] :=
 ⟨rfl,by simpa using h1,fun j c' hc => by
  cases j with
  | zero => simp only [List.getElem?_cons_zero,Option.some.injEq] at hc; subst hc; simpa using h
  | succ j => simp at hc⟩
theorem Trees.append {a b : List PV} {cs ds : List Value} (ha : Trees N.fn w S a cs) (hb : Trees N.fn w S b ds) : Trees N.fn w S (a ++ b) (cs ++ ds) := by
 refine ⟨by simp [ha.len,hb.len],fun c hc => ?_,fun j c hc => ?_⟩
 ·rcases List.mem_append.1 hc with h | h
  ·exact ha.one c h
  ·exact hb.one c h
 ·by_cases hj : j < a.length
  ·rw [List.getElem?_append_left hj] at hc
   have := ha.rel j c hc
   rwa [List.getD_eq_getElem?_getD,List.getElem?_append_left (by rw [← ha.len]; exact hj),← List.getD_eq_getElem?_getD]
  ·rw [List.getElem?_append_right (by omega)] at hc
   have := hb.rel _ c hc
   rwa [List.getD_eq_getElem?_getD,List.getElem?_append_right (by rw [← ha.len]; omega),← ha.len,← List.getD_eq_getElem?_getD]
theorem cell?_lt {a : Addr} {v : Value} (h : w.cell? a = some v) : a.block < w.heap.size := by
 have hs := Go.World.cell?_spot h
 unfold World.cell? at h
 cases hg : w.heap[a.block]? with
 | none => simp [hg] at h
 | some o => exact (Array.getElem?_eq_some_iff.1 hg).1
theorem tiles_trees (R : TypeId → List PV → Prop) (cs : List Value) (n F : Nat) (ih : ∀ t (cs : List Value) d ps,plainT P n t = true → DataW.trod enc P w 0 sp held F t cs = some (d,ps) → ∃ pcs,R t pcs ∧ Trees N.fn w S pcs cs) :
  ∀ (fs : List Go.Field) (k m : Nat) (xs : List (DataW H × List MemPlace)),tiles P fs k = some m → (fs.all fun f => plainT P n f.type) = true → m = cs.length →
   fs.mapM (fun f => DataW.trod enc P w 0 sp held F f.type ((cs.drop f.offset).take (P.cellsOf f.type))) = some xs → k ≤ m ∧ ∃ pcs,okFs R (fs.map (·.type)) pcs ∧ Trees N.fn w S pcs (cs.drop k)
 | [],k,m,xs,ht,_,hm,_ => by
  simp only [tiles,Option.some.injEq] at ht
  subst ht
  refine ⟨Nat.le_refl _,[],rfl,?_⟩
  rw [List.drop_of_length_le (by omega)]
  exact ⟨rfl,by simp,by simp⟩
 | f :: fs,k,m,xs,ht,hp,hm,hx => by
  simp only [tiles] at ht
  split at ht
  rotate_left
  ·cases ht
  rename_i hk
  simp only [List.all_cons,Bool.and_eq_true] at hp
  simp only [List.mapM_cons,Option.pure_def,Option.bind_eq_bind,Option.bind_eq_some_iff,Option.some.injEq] at hx
  obtain ⟨⟨d,ps⟩,hd,ys,hys,rfl⟩ := hx
  obtain ⟨hle,pcs,h1,h2⟩ := tiles_trees R cs n F ih fs (k + P.cellsOf f.type) m ys ht hp.2 hm hys
  obtain ⟨a,h3,h4⟩ := ih f.type _ d ps hp.1 hd
  refine ⟨by omega,a ++ pcs,⟨a,pcs,rfl,h3,h1⟩,?_⟩
  have := h4.append h2
  rw [hk] at this
  rw [← List.drop_drop,List.take_append_drop] at this
  exact this
theorem trod_trees (hS : ∀ g,g < w.heap.size → S g) : ∀ (F n : Nat) (t : TypeId) (cs : List Value) d ps,plainT P n t = true → DataW.trod enc P w 0 sp held F t cs = some (d,ps) → ∃ pcs,okT P n t pcs ∧ Trees N.fn w S pcs cs
 | 0,_,_,_,_,_,_,h => by simp [DataW.trod] at h
 | F + 1,0,_,_,_,_,hp,_ => by cases hp
 | F + 1,n + 1,t,cs,d,ps,hp,h => by
  simp only [plainT] at hp
  split at hp
  ·rename_i hu
   obtain ⟨b,rfl,_⟩ := DataW.trod_bool hu h
   exact ⟨_,by rw [okT,hu]; exact ⟨b,rfl⟩,.single (.bool b) rfl⟩
  ·rename_i k hu
   obtain ⟨m,rfl,_,hw⟩ := DataW.trod_int hu h
   exact ⟨_,by rw [okT,hu]; exact ⟨m,rfl,hw⟩,.single (.int k m) rfl⟩
  ·rename_i hu
   obtain ⟨s,rfl,_,hs⟩ := DataW.trod_string hu h
   refine ⟨_,by rw [okT,hu]; exact ⟨s.data.toList,rfl,by rw [Array.length_toList]; exact hs⟩,.single ?_ rfl⟩
   have := RelP.str (ν := N.fn) (w := w) (S := S) s.data.toList
   simpa using this
  ·rename_i e hu
   simp only [Bool.and_eq_true,decide_eq_true_eq] at hp
   obtain ⟨⟨hp,h0⟩,hag⟩ := hp
   obtain ⟨ag,hag⟩ := Option.isSome_iff_exists.1 hag
   rcases DataW.trod_slice hu h with ⟨rfl,_⟩ | ⟨a,len,cap,elems,rest,F',hF,rfl,_,_,hlc,hcm,hel,hget,_⟩
   ·refine ⟨[.sl .nil (P.cellsOf e) []],by rw [okT,hu]; exact ⟨.nil,[],rfl,by simp,.inl ⟨rfl,rfl⟩,by simp⟩,.single ?_ rfl⟩
    exact .sl .nil _ [] none 0 (fun _ _ => undef) (Nat.le_refl _) (Nat.zero_le _) (by simp) (by simp) (by simp) (by simp) (by simp) (by simp)
   ·obtain rfl : F = F' := by omega
    have each : ∀ i,i < len → ∃ (x : PV) (us : List Value),us.length = P.cellsOf e ∧ (∀ j,j < P.cellsOf e → w.cell? ((a.add (i * P.cellsOf e)).add j) = us[j]?) ∧ x.one = !ag ∧ okT P n e x.cells ∧ Trees N.fn w S x.cells us := by
     intro i hi
     have := hget i hi
     rw [List.getElem?_eq_getElem (by omega)] at this
     obtain ⟨us,hus,hd⟩ := Option.bind_eq_some_iff.1 this
     obtain ⟨_,hul,huc⟩ := Go.World.cells?_some hus
     obtain ⟨pcs,hok,htr⟩ := trod_trees hS F n e us _ _ hp hd
     cases ag with
     | true => exact ⟨.agg pcs,us,hul,huc,rfl,hok,htr⟩
     | false =>
      obtain ⟨c,rfl⟩ : ∃ c,pcs = [c] := by
       cases n with
       | zero => exact hok.elim
       | succ n =>
        rw [okT] at hok
        unfold aggB at hag
        split at hok
        ·obtain ⟨_,h⟩ := hok; exact ⟨_,h⟩
        ·obtain ⟨_,h,_⟩ := hok; exact ⟨_,h⟩
        ·obtain ⟨_,h,_⟩ := hok; exact ⟨_,h⟩
        ·obtain ⟨_,_,h,_⟩ := hok; exact ⟨_,h⟩
        ·rename_i hs; rw [hs] at hag; simp at hag
        ·exact hok.elim
      have hone := htr.one c (by simp)
      exact ⟨c,us,hul,huc,hone,by rw [PV.cells_one hone]; exact hok,by rw [PV.cells_one hone]; exact htr⟩
    have : ∃ (xs : List PV) (us : Nat → List Value),xs.length = len ∧ ∀ i x,xs[i]? = some x → (us i).length = P.cellsOf e ∧ (∀ j,j < P.cellsOf e → w.cell? ((a.add (i * P.cellsOf e)).add j) = (us i)[j]?) ∧ x.one = !ag ∧ okT P n e x.cells ∧ Trees N.fn w S x.cells (us i) := by
     refine ⟨(List.range len).map fun i => if hi : i < len then (each i hi).choose else .nilp,fun i => if hi : i < len then (each i hi).choose_spec.choose else [],by simp,fun i x hx => ?_⟩
     simp only [List.getElem?_map,Option.map_eq_some_iff] at hx
     obtain ⟨i',hi',rfl⟩ := hx
     obtain ⟨hlt,he⟩ := List.getElem?_eq_some_iff.1 hi'
     simp only [List.length_range] at hlt
     simp only [List.getElem_range] at he
     subst he
     simp only [hlt,dif_pos]
     exact (each i hlt).choose_spec.choose_spec
    obtain ⟨xs,us,hxl,hxs⟩ := this
    refine ⟨[.sl .mem (P.cellsOf e) xs],by rw [okT,hu]; refine ⟨.mem,xs,rfl,by omega,.inr rfl,fun x hx => ?_⟩; obtain ⟨i,hi⟩ := List.getElem?_of_mem hx; obtain ⟨_,_,h3,h4,_⟩ := hxs i x hi; rw [hag]; exact ⟨h3,h4⟩,.single ?_ rfl⟩
    rw [← hxl]
    refine .sl .mem _ xs (some a) cap (fun i j => (us i).getD j undef) (by omega) hcm (fun x hx => ?_) (by simp) (by simp) (fun hne => ⟨a,rfl,hS _ ?_⟩) (fun ad had i x j c hx hc => ?_) (fun i x j c hx hc => ?_)
    ·obtain ⟨i,hi⟩ := List.getElem?_of_mem hx
     obtain ⟨h1,_,_,_,h5⟩ := hxs i x hi
     exact ⟨by rw [h5.len,h1],h5.one⟩
    ·cases xs with
     | nil => exact absurd rfl hne
     | cons x xs =>
      obtain ⟨h1,h2,_,_,_⟩ := hxs 0 x rfl
      have := h2 0 h0
      rw [List.getElem?_eq_getElem (by omega)] at this
      have := cell?_lt this
      rwa [block_add,block_add] at this
    ·cases had
     obtain ⟨h1,h2,_,_,h5⟩ := hxs i x hx
     have hj : j < P.cellsOf e := by rw [← h1,← h5.len]; exact (List.getElem?_eq_some_iff.1 hc).1
     have := h2 j hj
     rw [add_add] at this
     rw [this,List.getD_eq_getElem?_getD,List.getElem?_eq_getElem (by omega),Option.getD_some]
    ·obtain ⟨_,_,_,_,h5⟩ := hxs i x hx
     exact h5.rel j c hc
  ·rename_i fs hu
   simp only [Bool.and_eq_true] at hp
   obtain ⟨hp1,hp2⟩ := hp
   split at hp1
   ·rename_i k hk
    simp only [beq_iff_eq] at hp1
    obtain ⟨xs,F',hF,_,hl,hxl,hget⟩ := DataW.trod_struct hu h
    obtain rfl : F = F' := by omega
    have hm : fs.toList.mapM (fun f => DataW.trod enc P w 0 sp held F f.type ((cs.drop f.offset).take (P.cellsOf f.type))) = some xs := by
     have key : ∀ (l : List Go.Field) (ys : List (DataW H × List MemPlace)),ys.length = l.length → (∀ (i : Nat) f,l[i]? = some f → DataW.trod enc P w 0 sp held F f.type ((cs.drop f.offset).take (P.cellsOf f.type)) = ys[i]?) →
       l.mapM (fun f => DataW.trod enc P w 0 sp held F f.type ((cs.drop f.offset).take (P.cellsOf f.type))) = some ys := by
      intro l
      induction l with
      | nil => intro ys h1 _; cases ys with | nil => rfl | cons _ _ => simp at h1
      | cons f l ih =>
       intro ys h1 h2
       cases ys with
       | nil => simp at h1
       | cons y ys =>
        have e0 := h2 0 f rfl
        simp only [List.getElem?_cons_zero] at e0
        have e1 := ih ys (by simpa using h1) fun i g hg => by simpa using h2 (i + 1) g (by simpa using hg)
        simp [List.mapM_cons,e0,e1]
     exact key fs.toList xs (by simpa using hxl) fun i f hf => hget i f (by simpa using hf)
    obtain ⟨_,pcs,h1,h2⟩ := tiles_trees (N := N) (S := S) (okT P n) cs n F (fun t cs d ps hp hd => trod_trees hS F n t cs d ps hp hd) fs.toList 0 k xs hk hp2 (by omega) hm
    refine ⟨pcs,by rw [okT,hu]; exact h1,by simpa using h2⟩
   ·cases hp1
  ·cases hp
end
end Ab
namespace Ab
open Go (IntKind BinOp UnOp World Value Addr Obj undef maxLen Program TypeId Oper Op Operand Act Sem Next Result execOp Builtin Calls Ending Exit DataW Lit MemPlace)
def treeT (P : Program) (n : Nat) (p : PV) (t : TypeId) : Prop := p.one = !((aggB P t).getD true) ∧ okT P n t p.cells
section
variable {H : Type} {enc : TypeId × Value → H} {P : Program} {N : Names} {Γ : Ctx} {W : World}
theorem cellOk_one {r : Go.Reach} {b : Nat} {t : TypeId} {v : Value} (h : Go.Cell.okWide P W r b t v) : v.oneCell' = true := by
 unfold Go.Cell.okWide at h
 split at h <;> first | rfl | (unfold Go.Cell.ok at h; split at h <;> first | rfl | exact h.elim)
theorem cells_single {v : Value} (h : v.oneCell' = true) : v.cells.toList = [v] := by cases v <;> first | rfl | cases h
theorem arg_tree {S : Nat → Prop} (hS : ∀ g,g < W.heap.size → S g) {n : Nat} {t : TypeId} {v : Value} {d : DataW H} {ps : List MemPlace} {b0 : Nat} {r : Go.Reach} (hp : plainT P n t = true) (hv : Value.okWide P W r b0 t v)
  (hd : DataW.Trod enc P W 0 (fun _ => true) true t v d ps) : ∃ p,treeT P n p t ∧ RelP N.fn W S p v := by
 obtain ⟨F,hd⟩ := hd
 obtain ⟨pcs,hok,htr⟩ := trod_trees (N := N) hS F n t _ _ _ hp hd
 cases n with
 | zero => cases hp
 | succ n =>
  have leaf : ∀ c,pcs = [c] → aggB P t = some false → v.oneCell' = true → ∃ p,treeT P (n + 1) p t ∧ RelP N.fn W S p v := by
   rintro c rfl ha h1
   have hone := htr.one c (by simp)
   refine ⟨c,⟨by rw [hone,ha]; rfl,by rw [PV.cells_one hone]; exact hok⟩,?_⟩
   have := htr.rel 0 c rfl
   rw [cells_single h1] at this
   simpa using this
  simp only [plainT] at hp
  unfold Value.okWide at hv
  have hok' := hok
  rw [okT] at hok'
  split at hp
  ·rename_i hu
   rw [hu] at hv hok'
   obtain ⟨b,h⟩ := hok'
   exact leaf _ h (by simp [aggB,hu]) (cellOk_one hv)
  ·rename_i k hu
   rw [hu] at hv hok'
   obtain ⟨b,h,_⟩ := hok'
   exact leaf _ h (by simp [aggB,hu]) (cellOk_one hv)
  ·rename_i hu
   rw [hu] at hv hok'
   obtain ⟨b,h,_⟩ := hok'
   exact leaf _ h (by simp [aggB,hu]) (cellOk_one hv)
  ·rename_i e hu
   rw [hu] at hv hok'
   obtain ⟨_,_,h,_⟩ := hok'
   exact leaf _ h (by simp [aggB,hu]) (cellOk_one hv)
  ·rename_i fs hu
   rw [hu] at hv
   obtain ⟨cs,rfl,_,_⟩ := hv
   refine ⟨.agg pcs,⟨by simp [aggB,hu,PV.one],hok⟩,.agg pcs cs ?_ htr.one (fun j c hc => ?_)⟩
   ·have := htr.len
    simpa [Value.cells] using this.symm
   ·have := htr.rel j c hc
    rwa [show (Value.agg cs).cells.toList = cs.toList from rfl,getD_toList] at this
  ·cases hp
theorem args_trees {S : Nat → Prop} (hS : ∀ g,g < W.heap.size → S g) {n : Nat} {b0 : Nat} {r : Go.Reach} : ∀ {ts : List TypeId} {vs : List Value} {ds : List (DataW H)} {ps : List MemPlace},ts.all (plainT P n) = true → (∀ (j : Nat) t v,ts[j]? = some t → vs[j]? = some v → Value.okWide P W r b0 t v) →
  DataW.TrodAll enc P W 0 (fun _ => true) true ts vs ds ps → ∃ trees,All2 (treeT P n) trees ts ∧ All2 (fun u p => RelP N.fn W S p u) vs trees ∧ ds.length = ts.length
 | [],[],[],_,_,_,_ => ⟨[],trivial,trivial,rfl⟩
 | t :: ts,v :: vs,d :: ds,ps,hp,hv,h => by
  obtain ⟨p,q,h1,h2,_⟩ := h
  simp only [List.all_cons,Bool.and_eq_true] at hp
  obtain ⟨x,hx1,hx2⟩ := arg_tree (N := N) hS hp.1 (hv 0 t v rfl rfl) h1
  obtain ⟨xs,hxs1,hxs2,hl⟩ := args_trees hS hp.2 (fun j t v ht hv' => hv (j + 1) t v (by simpa using ht) (by simpa using hv')) h2
  exact ⟨x :: xs,⟨hx1,hxs1⟩,⟨hx2,hxs2⟩,by simp [hl]⟩
 | [],[],_ :: _,_,_,_,h => by cases h
 | [],_ :: _,_,_,_,_,h => by simp [DataW.TrodAll] at h
 | _ :: _,[],_,_,_,_,h => by simp [DataW.TrodAll] at h
 | _ :: _,_ :: _,[],_,_,_,h => by simp [DataW.TrodAll] at h
theorem args_stay (hl : Go.laidOutB P = true) {W' : World} (hg : Grows W W') {sp : Nat → Bool} : ∀ {ts : List TypeId} {vs : List Value} {ds : List (DataW H)} {ps : List MemPlace},ts.all (fun t => P.readableRec t && decide (t < P.types.size)) = true →
  DataW.TrodAll enc P W 0 (fun _ => true) true ts vs ds ps → (∀ x ∈ ps,x.block < W.heap.size) → (∀ x ∈ ps,sp x.block = true) → DataW.TrodAll enc P W' 0 sp true ts vs ds ps
 | [],[],[],_,_,h,_,_ => h
 | t :: ts,v :: vs,d :: ds,ps,hp,h,hlt,hsp => by
  obtain ⟨p,q,h1,h2,rfl⟩ := h
  simp only [List.all_cons,Bool.and_eq_true,decide_eq_true_eq] at hp
  have hb : Go.RowKit.Below W.heap.size W W' := ⟨hg.os,hg.tape,hg.output,hg.size,hg.keep⟩
  exact ⟨p,q,Go.WideElems.Trod_stays hl hp.1.1 hp.1.2 h1 (fun x hx => hb.same (hlt x (by simp [hx]))) (fun x hx => hsp x (by simp [hx])),
   args_stay hl hg hp.2 h2 (fun x hx => hlt x (by simp [hx])) (fun x hx => hsp x (by simp [hx])),rfl⟩
 | [],[],_ :: _,_,_,h,_,_ => by cases h
 | [],_ :: _,_,_,_,h,_,_ => by simp [DataW.TrodAll] at h
 | _ :: _,[],_,_,_,h,_,_ => by simp [DataW.TrodAll] at h
 | _ :: _,_ :: _,[],_,_,h,_,_ => by simp [DataW.TrodAll] at h
end
end Ab
namespace Ab
open Go (IntKind BinOp UnOp World Value Addr Obj undef maxLen Program TypeId Oper Op Operand Act Sem Next Result execOp Builtin Calls Ending Exit DataW Lit MemPlace ChangeSpec)
theorem post_same {H : Type} {enc : TypeId × Value → H} {P : Program} {f : Go.Func} {s : ChangeSpec} {apart fresh handsOn again : Bool} {W W' : World} {args : Array Value} {v : Value} {ds gs : List (DataW H)} {before pa pv : List MemPlace}
  (hW : DataW.Whole enc P f.params.toList s.vars apart W args.toList ds gs before)
  (hres : ∀ (b : Nat) (sp : Nat → Bool) (hd : Bool), DataW.TrodAll enc P W' b sp hd f.resultTypes.toList (v.resultList f.resultTypes.size) (s.fn H (ds ++ gs)).results [])
  (hargs : ∀ sp : Nat → Bool, (∀ p ∈ before, sp p.block = true) → DataW.TrodAll enc P W' 0 sp true f.params.toList args.toList (s.fn H (ds ++ gs)).args pa)
  (hvars : ∀ sp : Nat → Bool, (∀ p ∈ before, sp p.block = true) → DataW.TrodVars enc P W' sp s.vars (s.fn H (ds ++ gs)).vars pv)
  (hps : before = pa ++ pv) (hk : W.keptBut W' (· ∈ before)) (hfz : ∀ p ∈ before, ∀ b off, p = .cell b off → W'.frozen? ⟨b, off, none⟩ = W.frozen? ⟨b, off, none⟩)
  (hok : ∀ (j : Nat) (t : TypeId) (r : Value), f.resultTypes[j]? = some t → (v.resultList f.resultTypes.size)[j]? = some r → Value.okWide P W' .any 0 t r) :
  s.post enc P f apart fresh handsOn again W args v W' := by
 have hold : ∀ p ∈ before, (fun b => decide (b < W.heap.size)) p.block = true := fun p hp => by simpa using hW.lt p hp
 refine ⟨ds, gs, before, [], pa, pv, hW, hres _ _ _, hargs _ hold, hvars _ hold, World.keptBut_mono (fun p hp => ⟨hp, ?_⟩) hk, fun _ => ?_⟩
 ·rw [hps, List.mem_append] at hp
  exact Or.inr hp
 ·obtain ⟨_, _, _, _, _, hz, hn⟩ := hW
  refine ⟨hok, _, _, ([] ++ pa) ++ pv, ⟨[] ++ pa, pv, Go.ChangeShapes.trodAll_append (hargs _ (fun _ _ => rfl)) (hres _ _ _), hvars _ (fun _ _ => rfl), rfl, ?_, ?_⟩, ?_⟩
  ·intro b off hp
   have hp' : MemPlace.cell b off ∈ before := by rw [hps]; simpa using hp
   rw [hfz _ hp' b off rfl]
   exact hz b off hp'
  ·intro ha
   have := hn ha
   rw [hps] at this
   simpa using this
  ·intro p hp _
   rw [hps]
   simpa using hp
section
variable {H : Type} {enc : TypeId × Value → H} {P : Program} {N : Names} {Γ : Ctx} {W : World}
theorem enters_of {f : Nat} {g : Go.Func} (hf : P.funcs[f]? = some g) (hn : (g.name == "runtime.NumGoroutine") = false) (hb : g.body.isNone = false) : Enters P f := fun us w => by
 simp only [beq_eq_false_iff_ne, ne_eq] at hn
 simp only [Go.callFunc, Go.Sem.run_bind, Go.run_program, Go.Result.andThen_ok, hf, hb, Bool.false_eq_true, if_false, beq_iff_eq, hn, Go.Sem.run_pure]
theorem law_calls (K : Known Γ N P) {f lf n : Nat} {fn : Go.Func} {tb : TypeId} {s : ChangeSpec} {apart fresh handsOn again : Bool} {args : Array Value} {ds gs : List (DataW H)} {before : List MemPlace} {b0 : Nat} {r : Go.Reach}
  (hN : N.fn lf = f) (hE : Enters P f) (hgl : GlRel Γ N W fun g => g < W.heap.size) (hp : fn.params.toList.all (plainT P n) = true) (hrd : fn.params.toList.all (fun t => P.readableRec t && decide (t < P.types.size)) = true)
  (hl : Go.laidOutB P = true) (hres : fn.resultTypes = #[tb]) (htb : P.underlying tb = some .bool) (hvars : s.vars = [])
  (hspec : ∀ ds : List (DataW H), ds.length = fn.params.toList.length → s.fn H ds = { results := [.lit (.bool true)], args := ds })
  (law : ∀ trees, All2 (treeT P n) trees fn.params.toList → ∃ m h, callOf Γ (ev Γ m) lf (trees.map .p) [] = some ([.p (.bool true)], h))
  (hval : ∀ (j : Nat) t v, fn.params[j]? = some t → args[j]? = some v → Value.okWide P W r b0 t v) (hW : DataW.Whole enc P fn.params.toList s.vars apart W args.toList ds gs before) :
  Calls P f args W fun e W' => ∃ v, e = .returned v ∧ s.post enc P fn apart fresh handsOn again W args v W' := by
 have hlt := hW.lt
 have hW' := hW
 obtain ⟨p, q, hA, hV, rfl, hz, _⟩ := hW'
 obtain ⟨trees, ht1, ht2, hdl⟩ := args_trees (N := N) (S := fun g => g < W.heap.size) (fun _ h => h) hp (fun j t v ht hv => hval j t v (by simpa using ht) (by simpa using hv)) hA
 obtain ⟨m, h, hcall⟩ := law trees ht1
 have hrun := run_sound K (T := fun g => g < W.heap.size) (fun _ h => h) hgl ht2 hcall (rs := [.bool true]) rfl
 rw [hN] at hrun
 have hvg : gs = [] ∧ q = [] := by
  rw [hvars] at hV
  cases gs <;> simp_all [DataW.TrodVars]
 obtain ⟨rfl, rfl⟩ := hvg
 have hcalls : Calls P f args W fun e W' => ∃ v, e = .returned v ∧ (∃ vs, v = resVal vs ∧ Grows W W' ∧ All2 (fun u p => RelP N.fn W' (fun g => g < W.heap.size ∨ (W.heap.size ≤ g ∧ g < W'.heap.size)) p u) vs [.bool true]) := by
  rcases hrun with ⟨_, h⟩ | ⟨v, w', h, _⟩
  ·simpa using h
  ·rw [hE] at h; cases h
 refine hcalls.mono ?_
 rintro e W' ⟨v, rfl, vs, rfl, hg, hv⟩
 match vs, hv with
 | [u], ⟨hu, _⟩ =>
  cases hu
  have hb : Go.RowKit.Below W.heap.size W W' := ⟨hg.os, hg.tape, hg.output, hg.size, hg.keep⟩
  refine ⟨_, rfl, post_same (pa := p) (pv := []) hW (fun b sp hd => ?_) (fun sp hsp => ?_) (fun _ _ => ?_) rfl (hb.frame _) (fun x hx b off e => ?_) (Go.RowKit.ok_one hres rfl (Go.RowKit.okWide_bool_mk htb _))⟩
  ·rw [List.append_nil, hspec ds hdl, hres]
   exact ⟨[], [], Go.RowKit.shut_bool htb _, rfl, rfl⟩
  ·rw [List.append_nil, hspec ds hdl]
   exact args_stay hl hg hrd hA (fun x hx => hlt x (by simp [hx])) (fun x hx => hsp x (by simp [hx]))
  ·rw [List.append_nil, hspec ds hdl, hvars]; rfl
  ·subst e; exact hb.frozen (hlt _ hx)
end
end Ab
