import Derived.Test.YtlgclfmmnifgoaaGreatDoorAbY6
import Derived.LoopN
import Derived.Scope
import Derived.Test.YtlgclfmmnifgoaaGreatDoorAbPrim
import Derived.Lib.Bytealg
import Derived.Sort.KeysCollected
import Derived.Calls
namespace Ab
open Go (IntKind BinOp UnOp World Value Addr Obj undef maxLen Program TypeId Oper Op Operand Act Sem Next Result execOp Builtin Calls Ending Exit)
theorem yc {live : List Nat} {env : Env} {t : Nat} : look (prune live env) t = if t ∈ live then look env t else .any := by
 unfold prune
 induction live with
 | nil => simp [look]
 | cons x l ih =>
  simp only [List.map_cons,look,List.mem_cons]
  by_cases h : x = t
  ·subst h; simp
  ·rw [if_neg h,ih]
   simp [Ne.symm h]
theorem uV {r : Nat → Option Nat} : ∀ {e e' : Env} {t : Nat},si r e = some e' → look e' t = .any ∨ ∃ v,look e t = v ∧ AV.ren r 3 v = some (look e' t)
 | [],e',t,h => by simp only [si,mapO,Option.some.injEq] at h; subst h; exact .inl rfl
 | (s,v) :: e,e',t,h => by
  simp only [si,mapO] at h
  split at h
  ·rename_i x hx
   split at h
   ·rename_i xs hxs
    simp only [Option.some.injEq] at h; subst h
    obtain ⟨v',hv',rfl⟩ := Option.map_eq_some_iff.1 hx
    simp only [look]
    by_cases hs : s = t
    ·simp only [hs,if_true]; exact .inr ⟨v,rfl,hv'⟩
    ·simp only [hs,if_false]; exact uV hxs
   ·cases h
  ·cases h
structure MovesK (k : Nat) (μ : Nat → Value) (H : Heap) (μ' : Nat → Value) (H' : Heap) : Prop where
 len : k ≤ H'.length
 row : ∀ id f sz xs,id < k → H'[id]? = some (.row f sz xs) → ∃ f0 xs0,H[id]? = some (.row f0 sz xs0) ∧ xs0.length ≤ xs.length ∧ (xs0.length = xs.length → μ' id = μ id)
 box : ∀ id cs,id < k → H'[id]? = some (.box cs) → ∃ cs0,H[id]? = some (.box cs0) ∧ μ' id = μ id
theorem Moves.toK {k : Nat} {μ μ' : Nat → Value} {H H' : Heap} (h : Moves μ H μ' H') (hk : k ≤ H.length) : MovesK k μ H μ' H' :=
 ⟨Nat.le_trans hk h.len,fun id f sz xs hi he => h.row id f sz xs (by omega) he,fun id cs hi he => h.box id cs (by omega) he⟩
theorem MovesK.toMoves {μ μ' : Nat → Value} {H H' : Heap} (h : MovesK H.length μ H μ' H') : Moves μ H μ' H' := ⟨h.len,h.row,h.box⟩
theorem MovesK.trans {k : Nat} {μ μ1 μ2 : Nat → Value} {H H1 H2 : Heap} (a : MovesK k μ H μ1 H1) (b : MovesK k μ1 H1 μ2 H2) : MovesK k μ H μ2 H2 where
 len := b.len
 row id f sz xs hi he := by
  obtain ⟨f1,xs1,e1,l1,q1⟩ := b.row id f sz xs hi he
  obtain ⟨f0,xs0,e0,l0,q0⟩ := a.row id f1 sz xs1 hi e1
  exact ⟨f0,xs0,e0,by omega,fun h => by rw [q1 (by omega),q0 (by omega)]⟩
 box id cs hi he := by
  obtain ⟨c1,e1,q1⟩ := b.box id cs hi he
  obtain ⟨c0,e0,q0⟩ := a.box id c1 hi e1
  exact ⟨c0,e0,by rw [q1,q0]⟩
def zg (gc : Option Nat) (k : Nat) : Bool := match gc with | none => true | some j => decide (k ≤ j)
section
variable {Γ : Ctx} {N : Names} {w : World} {S : Nat → Prop} {μ : Nat → Value} {H : Heap} {a : Act} {env : Env}
theorem Env.Rel.prune (he : Env.Rel Γ N w S μ H (look env) a) (live : List Nat) : Env.Rel Γ N w S μ H (look (Ab.prune live env)) a :=
 ⟨fun t => by
  rw [yc]
  split
  ·exact he.env t
  ·exact .any _,he.gl⟩
theorem yA (hr : Ab.Rel N.fn w S μ H) (he : Env.Rel Γ N w S μ H (look env) a) {live : List Nat} {gc : Option Nat} {e : Env} {h : Heap} (hn : norm live gc env H = some (e,h)) :
  ∃ μ',Run N.fn w S μ H w S μ' h ∧ (∀ k,zg gc k = true → k ≤ H.length → MovesK k μ H μ' h) ∧ Env.Rel Γ N w S μ' h (look e) a := by
 simp only [norm] at hn
 split at hn
 ·rename_i j
  split at hn
  ·rename_i e' H' h1 h2
   simp only [Option.some.injEq,Prod.mk.injEq] at hn
   obtain ⟨rfl,rfl⟩ := hn
   refine ⟨_,kx hr (dM _ _ _ List.nodup_range) h2,(fun k hk hkl => ?_),fun t => ?_,he.gl⟩
   ·obtain ⟨X,hX⟩ := fa (H := H) 64 (((prune live env).flatMap fun x => x.2.refs) ++ (H.take j).flatMap Blk.refs) (List.range j)
    have hkj : k ≤ j := by simpa [zg] using hk
    generalize ct H 64 (((prune live env).flatMap fun x => x.2.refs) ++ (H.take j).flatMap Blk.refs) (List.range j) = L at hX h1 h2
    have hL : ∀ id,id < k → L[id]? = some id := fun id hi => by
     rw [hX,List.getElem?_append_left (by rw [List.length_range]; omega),List.getElem?_range (by omega)]
    refine ⟨?_,fun id f sz xs hi hb => ?_,fun id cs hi hb => ?_⟩
    ·rw [(aV h2).1,hX,List.length_append,List.length_range]; omega
    ·obtain ⟨id',b,g1,g2,g3⟩ := fb h2 hb
     rw [hL id hi] at g1
     cases g1
     rw [Blk.ren_row_inv g3] at g2
     exact ⟨f,xs,g2,Nat.le_refl _,fun _ => by simp [picked,hL id hi]⟩
    ·obtain ⟨id',b,g1,g2,g3⟩ := fb h2 hb
     rw [hL id hi] at g1
     cases g1
     obtain ⟨cs0,rfl,_⟩ := Blk.ren_box_inv g3
     exact ⟨cs0,g2,by simp [picked,hL id hi]⟩
   rcases uV (t := t) h1 with h | ⟨v,hv,h⟩
   ·rw [h]; exact .any _
   ·refine qR (kr h2) 3 ?_ h
    rw [← hv]
    exact (he.prune live).env t
  ·cases hn
 ·simp only [Option.some.injEq,Prod.mk.injEq] at hn
  obtain ⟨rfl,rfl⟩ := hn
  exact ⟨μ,.refl hr,fun _ _ hk => Moves.refl.toK hk,he.prune live⟩
end
end Ab
namespace Ab
open Go (IntKind BinOp UnOp World Value Addr Obj undef maxLen Program TypeId Oper Op Operand Act Sem Next Result execOp Builtin Calls Ending Exit)
def oX (P : Program) (N : Names) (ops : Array Oper) (nt : Nat) : List Oper → List St → Bool
 | [],[] => true
 | o :: os,s :: ss => mq P N ops nt o s && oX P N ops nt os ss
 | _,_ => false
def chkC (P : Program) (N : Names) (nt : Nat) : Go.Code → Code → Bool
 | .skip,.skip => true
 | .label _,.skip => true
 | .region _ ops draw,.ops _ l => oX P N ops nt ops.toList l && (match draw with | true => rD ops.toList l | false => true)
 | .seq a b,.seq a' b' => chkC P N nt a a' && chkC P N nt b b'
 | .cond c a b,.cond c' a' b' => ak N c c' && chkC P N nt a a' && chkC P N nt b b'
 | .block id c,.block _ id' c' => id == id' && chkC P N nt c c'
 | .loop c,.loop _ _ c' => chkC P N nt c c'
 | .exit id,.exit id' => id == id'
 | .ret,.ret => true
 | _,.bad => true
 | .scope c,c' => chkC P N nt c c'
 | _,_ => false
theorem jQ {P N ops nt} : ∀ {os ss},oX P N ops nt os ss = true → ss.length = os.length ∧ ∀ (j : Nat) s,ss[j]? = some s → ∃ o,os[j]? = some o ∧ mq P N ops nt o s = true
 | [],[],_ => ⟨rfl,by simp⟩
 | o :: os,s :: ss,h => by
  simp only [oX,Bool.and_eq_true] at h
  obtain ⟨h1,h2⟩ := jQ h.2
  refine ⟨by simp [h1],fun j s' hj => ?_⟩
  cases j with
  | zero => simp only [List.getElem?_cons_zero,Option.some.injEq] at hj; subst hj; exact ⟨o,rfl,h.1⟩
  | succ j => simpa using h2 j s' (by simpa using hj)
 | [],_ :: _,h => by cases h
 | _ :: _,[],h => by cases h
def B1 : Ex → Exit
 | .nrm => .normal
 | .ex i => .exit i
 | .ret => .ret
section
variable {Γ : Ctx} {N : Names} {P : Program}
def After (Γ : Ctx) (N : Names) (st : Bool) (k : Nat) (w : World) (S : Nat → Prop) (μ : Nat → Value) (H : Heap) (a : Act) (env' : Env) (H' : Heap) (K : Act → World → Prop) : Prop :=
 ∀ a' w' S' μ',Run N.fn w S μ H w' S' μ' H' → (st = true → k ≤ H.length → MovesK k μ H μ' H') → Env.Rel Γ N w' S' μ' H' (look env') a' → a'.tmps.size = a.tmps.size → a'.defers = a.defers → K a' w'
def CodeAt (Γ : Ctx) (N : Names) (P : Program) (n : Nat) : Prop :=
 ∀ (nt : Nat) (c : Go.Code) (c' : Code) (env : Env) (H : Heap) (e : Ex) (env' : Env) (H' : Heap) (k : Nat),chkC P N nt c c' = true → ev Γ n c' env H = some (e,env',H') →
  ∀ w S μ a (Q : Exit → Act → World → Prop),Rel N.fn w S μ H → Env.Rel Γ N w S μ H (look env) a → nt ≤ a.tmps.size → After Γ N (c'.still k) k w S μ H a env' H' (Q (B1 e)) → c.wp P Q a w
def v7 (Γ : Ctx) (N : Names) (P : Program) (n : Nat) : Prop :=
 ∀ (nt : Nat) (c : Go.Code) (c' : Code) (live : List Nat) (gc : Option Nat) (env : Env) (H : Heap) (e : Ex) (env' : Env) (H' : Heap) (k : Nat),chkC P N nt c c' = true → ev Γ n (.loop live gc c') env H = some (e,env',H') →
  ∀ w S μ a (Q : Exit → Act → World → Prop),Rel N.fn w S μ H → Env.Rel Γ N w S μ H (look env) a → nt ≤ a.tmps.size → After Γ N (Code.still k (.loop live gc c')) k w S μ H a env' H' (Q (B1 e)) → Go.Code.rounds P c Q n a w
theorem After.trans {st st' : Bool} {k : Nat} {w w1 : World} {S S1 : Nat → Prop} {μ μ1 : Nat → Value} {H H1 H' : Heap} {a a1 : Act} {env' : Env} {K : Act → World → Prop} (h : After Γ N st k w S μ H a env' H' K)
  (hr : Run N.fn w S μ H w1 S1 μ1 H1) (hm : st = true → k ≤ H.length → MovesK k μ H μ1 H1) (hst : st = true → st' = true) (hs : a1.tmps.size = a.tmps.size) (hd : a1.defers = a.defers) : After Γ N st' k w1 S1 μ1 H1 a1 env' H' K :=
 fun a' w' S' μ' hr' hm' he hs' hd' => h a' w' S' μ' (hr.trans hr') (fun e hk => (hm e hk).trans (hm' (hst e) (hm e hk).len)) he (hs'.trans hs) (hd'.trans hd)
theorem After.of {st st' : Bool} {k : Nat} {w : World} {S : Nat → Prop} {μ : Nat → Value} {H H' : Heap} {a : Act} {env' : Env} {K : Act → World → Prop} (h : After Γ N st k w S μ H a env' H' K) (hst : st = true → st' = true) : After Γ N st' k w S μ H a env' H' K :=
 fun a' w' S' μ' hr' hm' he hs' hd' => h a' w' S' μ' hr' (fun e hk => hm' (hst e) hk) he hs' hd'
theorem rT (hm : P.follows .mixedOrders = true) {cal : Nat → List AV → Heap → Option (List AV × Heap)} (hcal : dq Γ N P cal) {nt id k : Nat} {ops : Array Oper} {draw : Bool} {l : List St} {env env' : Env} {H H' : Heap} {w : World} {S : Nat → Prop} {μ : Nat → Value} {a : Act}
  {Q : Exit → Act → World → Prop} (hc : oX P N ops nt ops.toList l = true) (hd : draw = true → rD ops.toList l = true) (hv : dp Γ cal l env H = some (env',H')) (hr : Rel N.fn w S μ H) (he : Env.Rel Γ N w S μ H (look env) a)
  (hn : nt ≤ a.tmps.size) (hQ : After Γ N true k w S μ H a env' H' (Q .normal)) : (Go.Code.region id ops draw).wp P Q a w := by
 obtain ⟨hl,hst⟩ := jQ hc
 have hl : l.length = ops.size := by simpa using hl
 have hst : ∀ (j : Nat) s,l[j]? = some s → ∃ o,ops[j]? = some o ∧ mq P N ops nt o s = true := fun j s hj => by
  obtain ⟨o,h1,h2⟩ := hst j s hj
  exact ⟨o,by simpa using h1,h2⟩
 cases draw with
 | false =>
  refine Go.wp_region ?_
  rw [List.range_eq_range',← hl]
  exact sg hcal l 0 (fun j s hj => by simpa using hst j s hj) hv hr he hn fun a' w' S' μ' h1 h2 h3 h4 => hQ a' w' S' μ' h1.run (fun _ hk => h1.moves.toK hk) h2 h3 h4
 | true =>
  refine Go.wp_region_any hm ?_
  obtain ⟨E,hp,val,hC,rfl,rfl,rfl,rfl⟩ := mW l hv
  have hdrew : Step N.fn w S μ (hp 0) { w with drawn := w.drawn + 1 } S μ (hp 0) := .grow hr (Grows.drew w) (fun _ h => h) (fun g h => Nat.lt_of_lt_of_le (hr.lt g h) (Grows.drew w).size) (fun _ h => .inl h)
  have hrep : ∀ i,(Array.replicate ops.size false).getD i false = false := fun i => by
   rcases Nat.lt_or_ge i ops.size with h | h
   ·simp [h]
   ·simp [h]
  have e0 : ∀ n t,jU l (fun i => (Array.replicate ops.size false).getD i false) t n = 0 := fun n t => by
   induction n with
   | zero => rfl
   | succ n ih => unfold jU; rw [if_neg (by simp [hrep]),ih]
  refine oU hcal (nk hl (hd rfl)) hst hC (w0 := { w with drawn := w.drawn + 1 }) (S0 := S) (μ0 := μ) (a0 := a) hn (fun a' w' S' μ' h1 h2 h3 h4 _ => hQ a' w' S' μ' (hdrew.run.trans h1.run) (fun _ hk => (hdrew.moves.trans h1.moves).toK hk) h2 h3 h4)
   ops.size (List.range ops.size) _ a _ List.nodup_range (fun i => ?_) (by simp) ⟨by simp [hl],fun j o _ hj => ?_,rfl,rfl,fun _ _ => rfl,S,μ,0,fun _ => 0,⟨.refl hdrew.rel,GlRel.step hr hdrew he.gl,Nat.zero_le _,fun m s hm => by omega,fun m hm => ?_,fun m _ hm => ?_,fun t _ => ?_⟩,fun m hm => ?_⟩
  ·rw [hrep i,hl]; simp
  ·rw [hrep j] at hj; cases hj
  ·have := hm.2.1; rw [hrep m] at this; cases this
  ·have := hm.2.1; rw [hrep m] at this; cases this
  ·rw [e0]; exact (he.env t).step hr hdrew
  ·have := hm.2.1; rw [hrep m] at this; cases this
theorem rk (hm : P.follows .mixedOrders = true) {cal : Nat → List AV → Heap → Option (List AV × Heap)} (hcal : dq Γ N P cal) {nt id : Nat} {ops : Array Oper} {l : List St} {env env' : Env} {H H' : Heap} {w : World} {S : Nat → Prop} {μ : Nat → Value} {a : Act}
  {Q : Exit → Act → World → Prop} (hc : oX P N ops nt ops.toList l = true) (hd : rD ops.toList l = true) (hv : dp Γ cal l env H = some (env',H')) (hr : Rel N.fn w S μ H) (he : Env.Rel Γ N w S μ H (look env) a)
  (hn : nt ≤ a.tmps.size) (hQ : ∀ a' w' S' μ',Step N.fn w S μ H w' S' μ' H' → Env.Rel Γ N w' S' μ' H' (look env') a' → a'.tmps.size = a.tmps.size → a'.defers = a.defers → (∀ t,(∀ s ∈ l,s.dst ≠ some t) → a'.tmps.getD t undef = a.tmps.getD t undef) → Q .normal a' w') : (Go.Code.region id ops true).wp P Q a w := by
 obtain ⟨hl,hst⟩ := jQ hc
 have hl : l.length = ops.size := by simpa using hl
 have hst : ∀ (j : Nat) s,l[j]? = some s → ∃ o,ops[j]? = some o ∧ mq P N ops nt o s = true := fun j s hj => by
  obtain ⟨o,h1,h2⟩ := hst j s hj
  exact ⟨o,by simpa using h1,h2⟩
 refine Go.wp_region_any hm ?_
 obtain ⟨E,hp,val,hC,rfl,rfl,rfl,rfl⟩ := mW l hv
 have hdrew : Step N.fn w S μ (hp 0) { w with drawn := w.drawn + 1 } S μ (hp 0) := .grow hr (Grows.drew w) (fun _ h => h) (fun g h => Nat.lt_of_lt_of_le (hr.lt g h) (Grows.drew w).size) (fun _ h => .inl h)
 have hrep : ∀ i,(Array.replicate ops.size false).getD i false = false := fun i => by
  rcases Nat.lt_or_ge i ops.size with h | h
  ·simp [h]
  ·simp [h]
 have e0 : ∀ n t,jU l (fun i => (Array.replicate ops.size false).getD i false) t n = 0 := fun n t => by
  induction n with
  | zero => rfl
  | succ n ih => unfold jU; rw [if_neg (by simp [hrep]),ih]
 refine oU hcal (nk hl hd) hst hC (w0 := { w with drawn := w.drawn + 1 }) (S0 := S) (μ0 := μ) (a0 := a) hn (fun a' w' S' μ' h1 h2 h3 h4 h5 => hQ a' w' S' μ' (hdrew.trans h1) h2 h3 h4 h5)
  ops.size (List.range ops.size) _ a _ List.nodup_range (fun i => ?_) (by simp) ⟨by simp [hl],fun j o _ hj => ?_,rfl,rfl,fun _ _ => rfl,S,μ,0,fun _ => 0,⟨.refl hdrew.rel,GlRel.step hr hdrew he.gl,Nat.zero_le _,fun m s hm => by omega,fun m hm => ?_,fun m _ hm => ?_,fun t _ => ?_⟩,fun m hm => ?_⟩
 ·rw [hrep i,hl]; simp
 ·rw [hrep j] at hj; cases hj
 ·have := hm.2.1; rw [hrep m] at this; cases this
 ·have := hm.2.1; rw [hrep m] at this; cases this
 ·rw [e0]; exact (he.env t).step hr hdrew
 ·have := hm.2.1; rw [hrep m] at this; cases this
theorem rC (hm : P.follows .mixedOrders = true) : ∀ n,(∀ m < n,dq Γ N P (callOf Γ (ev Γ m))) → CodeAt Γ N P n ∧ v7 Γ N P n
 | 0,_ => ⟨fun _ _ _ _ _ _ _ _ _ _ h => by simp [ev] at h,fun _ _ _ _ _ _ _ _ _ _ _ _ h => by simp [ev] at h⟩
 | n + 1,hcal => by
  obtain ⟨ihC,ihR⟩ := rC hm n fun m h => hcal m (by omega)
  have hR : v7 Γ N P (n + 1) := by
   intro nt c c' live gc env H e env' H' k hc hv w S μ a Q hr he hn hQ
   rw [Go.rounds_succ]
   simp only [ev] at hv
   split at hv
   ·cases hv
   ·rename_i e1 h1 hnorm
    obtain ⟨μ1,hrun,hmv,he1⟩ := yA hr he hnorm
    have hst : Code.still k (.loop live gc c') = true → zg gc k = true ∧ c'.still k = true := fun h => by simp only [Code.still,Bool.and_eq_true] at h; exact h
    split at hv
    ·rename_i env2 H2 hb
     refine ihC nt c c' e1 h1 _ _ _ k hc hb w S μ1 a _ hrun.rel he1 hn fun a2 w2 S2 μ2 hrun2 hm2 he2 hs2 hd2 => ?_
     exact ihR nt c c' live gc env2 H2 e env' H' k hc hv w2 S2 μ2 a2 Q hrun2.rel he2 (by omega) (hQ.trans (hrun.trans hrun2) (fun h hk => (hmv k (hst h).1 hk).trans (hm2 (hst h).2 (hmv k (hst h).1 hk).len)) id hs2 hd2)
    ·rename_i hno
     obtain ⟨ex,env2,H2⟩ : Out := (e,env',H')
     refine ihC nt c c' e1 h1 _ _ _ k hc hv w S μ1 a _ hrun.rel he1 hn ?_
     have hQ := hQ.trans hrun (fun h hk => hmv k (hst h).1 hk) (fun h => (hst h).2) rfl rfl
     cases e with
     | nrm => exact absurd hv (hno _ _)
     | ex i => exact hQ
     | ret => exact hQ
  refine ⟨?_,hR⟩
  intro nt c
  induction c with
  | scope c ih =>
   intro c' env H e env' H' k hc hv w S μ a Q hr he hn hQ
   have hc : chkC P N nt c c' = true := by cases c' <;> first | exact hc | (simp [ev] at hv)
   refine Go.wp_scope_straight (ih c' env H e env' H' k hc hv w S μ a _ hr he hn ?_)
   cases e <;> exact hQ
  | skip =>
   intro c' env H e env' H' k hc hv w S μ a Q hr he hn hQ
   have nobad : c' ≠ .bad := by rintro rfl; simp [ev] at hv
   cases c' <;> first | (exact Bool.noConfusion hc) | (exact absurd rfl nobad) | skip
   simp only [ev,Option.some.injEq,Prod.mk.injEq] at hv
   obtain ⟨rfl,rfl,rfl⟩ := hv
   exact Go.wp_skip (hQ a w S μ (.refl hr) (fun _ hk => Moves.refl.toK hk) he rfl rfl)
  | label l =>
   intro c' env H e env' H' k hc hv w S μ a Q hr he hn hQ
   have nobad : c' ≠ .bad := by rintro rfl; simp [ev] at hv
   cases c' <;> first | (exact Bool.noConfusion hc) | (exact absurd rfl nobad) | skip
   simp only [ev,Option.some.injEq,Prod.mk.injEq] at hv
   obtain ⟨rfl,rfl,rfl⟩ := hv
   exact Go.wp_label (hQ a w S μ (.refl hr) (fun _ hk => Moves.refl.toK hk) he rfl rfl)
  | ret =>
   intro c' env H e env' H' k hc hv w S μ a Q hr he hn hQ
   have nobad : c' ≠ .bad := by rintro rfl; simp [ev] at hv
   cases c' <;> first | (exact Bool.noConfusion hc) | (exact absurd rfl nobad) | skip
   simp only [ev,Option.some.injEq,Prod.mk.injEq] at hv
   obtain ⟨rfl,rfl,rfl⟩ := hv
   exact Go.wp_ret (hQ a w S μ (.refl hr) (fun _ hk => Moves.refl.toK hk) he rfl rfl)
  | exit id =>
   intro c' env H e env' H' k hc hv w S μ a Q hr he hn hQ
   have nobad : c' ≠ .bad := by rintro rfl; simp [ev] at hv
   cases c' <;> first | (exact Bool.noConfusion hc) | (exact absurd rfl nobad) | skip
   simp only [ev,Option.some.injEq,Prod.mk.injEq] at hv
   obtain ⟨rfl,rfl,rfl⟩ := hv
   simp only [chkC,beq_iff_eq] at hc
   subst hc
   exact Go.wp_exit (hQ a w S μ (.refl hr) (fun _ hk => Moves.refl.toK hk) he rfl rfl)
  | region id ops draw =>
   intro c' env H e env' H' k hc hv w S μ a Q hr he hn hQ
   have nobad : c' ≠ .bad := by rintro rfl; simp [ev] at hv
   cases c' <;> first | (exact Bool.noConfusion hc) | (exact absurd rfl nobad) | skip
   rename_i live l
   simp only [ev,Option.map_eq_some_iff,Prod.mk.injEq] at hv
   obtain ⟨⟨env1,H1⟩,hv,rfl,rfl,rfl⟩ := hv
   simp only [chkC,Bool.and_eq_true] at hc
   refine rT (k := k) hm (hcal n (by omega)) hc.1 (fun h => by subst h; exact hc.2) hv hr he hn fun a' w' S' μ' h1 hm1 h2 h3 h4 => ?_
   exact hQ a' w' S' μ' h1 (fun _ hk => hm1 rfl hk) (h2.prune live) h3 h4
  | seq x y _ _ =>
   intro c' env H e env' H' k hc hv w S μ a Q hr he hn hQ
   have nobad : c' ≠ .bad := by rintro rfl; simp [ev] at hv
   cases c' <;> first | (exact Bool.noConfusion hc) | (exact absurd rfl nobad) | skip
   rename_i x' y'
   simp only [chkC,Bool.and_eq_true] at hc
   refine Go.wp_seq ?_
   simp only [ev] at hv
   split at hv
   ·rename_i env1 H1 h1
    refine ihC nt x x' _ _ _ _ _ k hc.1 h1 w S μ a _ hr he hn fun a1 w1 S1 μ1 hrun hm1 he1 hs hd => ?_
    exact ihC nt y y' _ _ _ _ _ k hc.2 hv w1 S1 μ1 a1 Q hrun.rel he1 (by omega) (hQ.trans hrun (fun h hk => hm1 (by simp only [Code.still,Bool.and_eq_true] at h; exact h.1) hk) (fun h => by simp only [Code.still,Bool.and_eq_true] at h; exact h.2) hs hd)
   ·rename_i hno
    refine ihC nt x x' _ _ _ _ _ k hc.1 hv w S μ a _ hr he hn ?_
    have hQ := hQ.of (st' := x'.still k) (fun h => by simp only [Code.still,Bool.and_eq_true] at h; exact h.1)
    cases e with
    | nrm => exact absurd hv (hno _ _)
    | ex i => exact hQ
    | ret => exact hQ
  | cond g x y _ _ =>
   intro c' env H e env' H' k hc hv w S μ a Q hr he hn hQ
   have nobad : c' ≠ .bad := by rintro rfl; simp [ev] at hv
   cases c' <;> first | (exact Bool.noConfusion hc) | (exact absurd rfl nobad) | skip
   rename_i g' x' y'
   simp only [chkC,Bool.and_eq_true] at hc
   have hg := he.arg hc.1.1
   simp only [ev] at hv
   split at hv
   ·rename_i t ht
    rw [ht] at hg
    refine Go.wp_cond hg.bool_inv ?_
    cases t with
    | true => exact ihC nt x x' _ _ _ _ _ k hc.1.2 hv w S μ a Q hr he hn (hQ.of fun h => by simp only [Code.still,Bool.and_eq_true] at h; exact h.1)
    | false => exact ihC nt y y' _ _ _ _ _ k hc.2 hv w S μ a Q hr he hn (hQ.of fun h => by simp only [Code.still,Bool.and_eq_true] at h; exact h.2)
   ·cases hv
  | block id x _ =>
   intro c' env H e env' H' k hc hv w S μ a Q hr he hn hQ
   have nobad : c' ≠ .bad := by rintro rfl; simp [ev] at hv
   cases c' <;> first | (exact Bool.noConfusion hc) | (exact absurd rfl nobad) | skip
   rename_i live id' x'
   simp only [chkC,Bool.and_eq_true,beq_iff_eq] at hc
   obtain ⟨rfl,hc⟩ := hc
   refine Go.wp_block ?_
   simp only [ev] at hv
   split at hv
   ·rename_i env1 H1 h1
    simp only [Option.some.injEq,Prod.mk.injEq] at hv
    obtain ⟨rfl,rfl,rfl⟩ := hv
    exact ihC nt x x' _ _ _ _ _ k hc h1 w S μ a _ hr he hn fun a1 w1 S1 μ1 hrun hm1 he1 hs hd => hQ a1 w1 S1 μ1 hrun hm1 (he1.prune live) hs hd
   ·rename_i i env1 H1 h1
    refine ihC nt x x' _ _ _ _ _ k hc h1 w S μ a _ hr he hn fun a1 w1 S1 μ1 hrun hm1 he1 hs hd => ?_
    simp only [B1,Go.Exit.inBlock]
    split at hv
    ·rename_i hi
     simp only [Option.some.injEq,Prod.mk.injEq] at hv
     obtain ⟨rfl,rfl,rfl⟩ := hv
     rw [if_pos hi]
     exact hQ a1 w1 S1 μ1 hrun hm1 (he1.prune live) hs hd
    ·rename_i hi
     simp only [Option.some.injEq,Prod.mk.injEq] at hv
     obtain ⟨rfl,rfl,rfl⟩ := hv
     rw [if_neg hi]
     exact hQ a1 w1 S1 μ1 hrun hm1 he1 hs hd
   ·rename_i h1 h2
    refine ihC nt x x' _ _ _ _ _ k hc hv w S μ a _ hr he hn fun a1 w1 S1 μ1 hrun hm1 he1 hs hd => ?_
    cases e with
    | nrm => exact absurd hv (h1 _ _)
    | ex i => exact absurd hv (h2 _ _ _)
    | ret => exact hQ a1 w1 S1 μ1 hrun hm1 he1 hs hd
  | loop x _ =>
   intro c' env H e env' H' k hc hv w S μ a Q hr he hn hQ
   have nobad : c' ≠ .bad := by rintro rfl; simp [ev] at hv
   cases c' <;> first | (exact Bool.noConfusion hc) | (exact absurd rfl nobad) | skip
   rename_i live gc x'
   simp only [chkC] at hc
   exact Go.wp_loop_rounds (n + 1) (hR nt x x' live gc env H e env' H' k hc hv w S μ a Q hr he hn hQ)
  | rangeFunc f ps x y => intro c' _ _ _ _ _ _ hc hv; cases c' <;> first | (exact Bool.noConfusion hc) | (simp [ev] at hv)
  | goto l => intro c' _ _ _ _ _ _ hc hv; cases c' <;> first | (exact Bool.noConfusion hc) | (simp [ev] at hv)
  | refuse s => intro c' _ _ _ _ _ _ hc hv; cases c' <;> first | (exact Bool.noConfusion hc) | (simp [ev] at hv)
end
end Ab
namespace Ab
open Go (IntKind BinOp UnOp World Value Addr Obj undef maxLen Program TypeId Oper Op Operand Act Sem Next Result execOp Builtin Calls Ending Exit)
def ic (P : Program) : List Go.ResultVar → List RV → Bool
 | [], [] => true
 | .tmp t :: rs, .slot t' :: ss => t == t' && ic P rs ss
 | .cell t T :: rs, .cell t' sz ag :: ss => t == t' && aggT P T ag && fW P T sz && ic P rs ss
 | _, _ => false
def chkF (P : Program) (N : Names) (g : Go.Func) (fn : AFn) : Bool :=
 decide (fn.np ≤ g.ntmps) && ic P g.results.toList fn.results && !(g.name == "runtime.NumGoroutine") && (match g.body with | some c => chkC P N g.ntmps c fn.body | none => false)
def ph (Γ : Ctx) (N : Names) (P : Program) (f : Nat) (g : List PV → Option (List PV)) : Prop :=
 ∀ ps rs, g ps = some rs → ∀ w S us, (∀ g, S g → g < w.heap.size) → GlRel Γ N w S → All2 (fun u p => RelP N.fn w S p u) us ps →
  Does P (N.fn f) us.toArray w (fun v w' => ∃ vs S', v = dw vs ∧ Grows w w' ∧ (∀ g, S g → S' g) ∧ (∀ g, S' g → g < w'.heap.size) ∧ (∀ g, S' g → S g ∨ w.heap.size ≤ g) ∧
   All2 (fun u p => RelP N.fn w' S' p u) vs rs)
def FreshOk (Γ : Ctx) (N : Names) (P : Program) (f : Nat) (g : List PV → Option (Nat × List PV)) : Prop :=
 ∀ ps r, g ps = some r → ∀ w S us, (∀ g, S g → g < w.heap.size) → GlRel Γ N w S → All2 (fun u p => RelP N.fn w S p u) us ps →
  Does P (N.fn f) us.toArray w (fun v w' => ∃ cells, Grows w w' ∧ RowAt w' v r.1 r.2.length cells ∧ v.oneCell' = true ∧ FlatRel N.fn w' S r.1 r.2 cells ∧ ∀ g, au v = some g → w.heap.size ≤ g)
def UpdOk (Γ : Ctx) (N : Names) (P : Program) (f : Nat) (g : List PV → Nat → List PV → Option (List PV)) : Prop :=
 ∀ ps sz xs ys, g ps sz xs = some ys → ys.length = xs.length → xs.length ≤ lim → ∀ w S u us cells, (∀ g, S g → g < w.heap.size) → GlRel Γ N w S → RowAt w u sz xs.length cells → FlatRel N.fn w S sz xs cells →
  (∀ g, au u = some g → ¬ S g ∧ g < w.heap.size) → All2 (fun u p => RelP N.fn w S p u) us ps →
  Does P (N.fn f) (u :: us).toArray w (fun v w' => v = dw [] ∧ w'.os = w.os ∧ w'.tape = w.tape ∧ w'.output = w.output ∧ w.heap.size ≤ w'.heap.size ∧ (∀ b, b < w.heap.size → au u ≠ some b → w'.heap[b]? = w.heap[b]?) ∧
   ∃ cells', RowAt w' u sz ys.length cells' ∧ FlatRel N.fn w' S sz ys cells')
def Be (Γ : Ctx) (N : Names) (P : Program) (f : Nat) (g : List AV → Heap → Option (List PV)) : Prop :=
 ∀ args H rs, g args H = some rs → ∀ w S μ us, Rel N.fn w S μ H → GlRel Γ N w S → All2 (fun u x => RelV N.fn w S μ H x u) us args →
  Does P (N.fn f) us.toArray w (fun v w' => ∃ vs S', v = dw vs ∧ Grows w w' ∧ (∀ g, S g → S' g) ∧ (∀ g, S' g → g < w'.heap.size) ∧ (∀ g, S' g → S g ∨ w.heap.size ≤ g) ∧
   All2 (fun u p => RelP N.fn w' S' p u) vs rs)
def LookcOk (Γ : Ctx) (N : Names) (P : Program) (f c : Nat) (q : List AV → Heap → Option (List (List PV × Int))) (g : List AV → Heap → Option (List PV)) : Prop :=
 ∀ args H ps rs, q args H = some ps → g args H = some rs →
  (∀ p ∈ ps, ∀ w T us, (∀ g, T g → g < w.heap.size) → GlRel Γ N w T → All2 (fun u p => RelP N.fn w T p u) us p.1 → Does P (N.fn c) us.toArray w (fun v w' => v = .int .i64 p.2 ∧ Grows w w')) →
  ∀ w S μ us, Rel N.fn w S μ H → GlRel Γ N w S → All2 (fun u x => RelV N.fn w S μ H x u) us args →
  Does P (N.fn f) us.toArray w (fun v w' => ∃ vs S', v = dw vs ∧ Grows w w' ∧ (∀ g, S g → S' g) ∧ (∀ g, S' g → g < w'.heap.size) ∧ (∀ g, S' g → S g ∨ w.heap.size ≤ g) ∧
   All2 (fun u p => RelP N.fn w' S' p u) vs rs)
def HiOk (Γ : Ctx) (N : Names) (P : Program) (f : Nat) (g : HiFn) : Prop :=
 ∀ cal, dq Γ N P cal → ∀ args H rs H', g.go cal args H = some (rs, H') → ∀ w S μ us, Rel N.fn w S μ H → GlRel Γ N w S → All2 (fun u x => RelV N.fn w S μ H x u) us args →
  Does P (N.fn f) us.toArray w (fun v w' => ∃ vs S' μ', v = dw vs ∧ Run N.fn w S μ H w' S' μ' H' ∧ Moves μ H μ' H' ∧ All2 (fun u x => RelV N.fn w' S' μ' H' x u) vs rs)
structure Known (Γ : Ctx) (N : Names) (P : Program) : Prop where
 mixed : P.follows .mixedOrders = true
 code : ∀ f fn, Γ.fn f = some (.code fn) → ∃ g, P.funcs[N.fn f]? = some g ∧ chkF P N g fn = true
 prim : ∀ f g, Γ.fn f = some (.prim g) → ph Γ N P f g
 fresh : ∀ f g, Γ.fn f = some (.fresh g) → FreshOk Γ N P f g
 upd : ∀ f g, Γ.fn f = some (.upd g) → UpdOk Γ N P f g
 look : ∀ f g, Γ.fn f = some (.look g) → Be Γ N P f g
 lookc : ∀ f c q g, Γ.fn f = some (.lookc c q g) → LookcOk Γ N P f c q g
 hi : ∀ f g, Γ.fn f = some (.hi g) → HiOk Γ N P f g
section
variable {Γ : Ctx} {N : Names} {P : Program}
theorem BR : ∀ {args : List AV} {t : Nat}, look (fw args) t = (args[t]?).getD .any := by
 have key : ∀ (args : List AV) (k t : Nat), look ((args.zipIdx k).map fun x => (x.2, x.1)) t = if k ≤ t then (args[t - k]?).getD .any else .any := by
  intro args
  induction args with
  | nil => intro k t; simp [look]
  | cons x r ih =>
   intro k t
   simp only [List.zipIdx_cons, List.map_cons, look]
   by_cases h : k = t
   ·subst h; simp
   ·rw [if_neg h, ih]
    by_cases hk : k ≤ t
    ·rw [if_pos (by omega), if_pos hk, show t - k = (t - (k + 1)) + 1 by omega]; simp
    ·rw [if_neg (by omega), if_neg hk]
 intro args t
 have := key args 0 t
 simpa [fw] using this
def yt (tmps : Array Value) : Go.ResultVar → Sem Value
 | .tmp t => pure (tmps.getD t undef)
 | .cell x t => do Go.loadVar t (← Go.asAddr (tmps.getD x undef))
theorem Al {w : World} {S : Nat → Prop} {μ : Nat → Value} {H : Heap} {x : Value} {x' v : AV} {sz : Nat} {ag : Bool} (_hr : Rel N.fn w S μ H) (hx : RelV N.fn w S μ H x' x) (hv : eH H sz ag x' = some v) : ∃ ad, x = .pointer (some ad) := by
 unfold eH at hv
 split at hv
 ·cases hx with
  | p _ _ hx => cases hx with
   | ptr cells ad => exact ⟨ad, rfl⟩
 ·cases hx with
  | bx _ _ g _ _ _ h => exact ⟨_, h⟩
 ·rename_i id n i off
  obtain ⟨r, hb, hv⟩ := Option.bind_eq_some_iff.1 hv
  obtain ⟨y, hy, hv⟩ := Option.bind_eq_some_iff.1 hv
  obtain ⟨f, hb, hn⟩ := aO hb
  have hi : i < n := by rw [← hn]; exact (List.getElem?_eq_some_iff.1 hy).1
  cases hx with
  | el _ _ _ _ _ hl h hone =>
  obtain ⟨_, h4⟩ := h f _ _ hb
  obtain ⟨g, cap, h5, rfl⟩ := (h4 hn.symm).1 hi
  exact ⟨_, rfl⟩
 ·cases hv
theorem fY {w : World} {S : Nat → Prop} {μ : Nat → Value} {H : Heap} {a : Act} {env : Env} (hrel : Rel N.fn w S μ H) (he : Env.Rel Γ N w S μ H (look env) a) : ∀ {rs : List Go.ResultVar} {ss : List RV} {vs : List AV}, ic P rs ss = true → mapO (RV.get env H) ss = some vs →
  ∃ us, (rs.mapM (yt a.tmps)).run P w = .ok us w ∧ All2 (fun u x => RelV N.fn w S μ H x u) us vs
 | [], [], vs, _, h => by
  simp only [mapO, Option.some.injEq] at h; subst h
  exact ⟨[], by simp, trivial⟩
 | .tmp t :: rs, .slot t' :: ss, vs, hc, h => by
  simp only [ic, Bool.and_eq_true, beq_iff_eq] at hc
  obtain ⟨rfl, hc⟩ := hc
  simp only [mapO, RV.get] at h
  split at h
  ·rename_i xs hxs
   simp only [Option.some.injEq] at h; subst h
   obtain ⟨us, h1, h2⟩ := fY hrel he hc hxs
   refine ⟨a.tmps.getD t undef :: us, ?_, he.env t, h2⟩
   simp only [List.mapM_cons, yt, Go.Sem.run_bind, Go.Sem.run_pure, Go.Result.andThen_ok, h1]
  ·cases h
 | .cell t T :: rs, .cell t' sz ag :: ss, vs, hc, h => by
  simp only [ic, Bool.and_eq_true, beq_iff_eq] at hc
  obtain ⟨⟨⟨rfl, hc1⟩, hc2⟩, hc⟩ := hc
  simp only [mapO, RV.get] at h
  split at h
  ·rename_i x hx
   split at h
   ·rename_i xs hxs
    simp only [Option.some.injEq] at h; subst h
    obtain ⟨us, h1, h2⟩ := fY hrel he hc hxs
    obtain ⟨ad, had⟩ := Al hrel (he.env t) hx
    obtain ⟨u, h3, h4⟩ := AH (P := P) hrel (gY hc1) (aM hc2) (he.env t) hx
    rw [had] at h3
    have h3 : (Go.loadVar T ad).run P w = .ok u w := by simpa [Go.Instr.loadAt, Go.Instr.sureAddr] using h3
    refine ⟨u :: us, ?_, h4, h2⟩
    simp only [List.mapM_cons, yt, had, Go.asAddr, Go.Sem.run_bind, Go.Sem.run_pure, Go.Result.andThen_ok, h3, h1]
   ·cases h
  ·cases h
 | .cell _ _ :: _, .slot _ :: _, _, hc, _ => by simp [ic] at hc
 | .tmp _ :: _, .cell _ _ _ :: _, _, hc, _ => by simp [ic] at hc
 | [], _ :: _, _, hc, _ => by simp [ic] at hc
 | .tmp _ :: _, [], _, hc, _ => by simp [ic] at hc
 | .cell _ _ :: _, [], _, hc, _ => by simp [ic] at hc
theorem nN {fn : Go.Func} {tmps : Array Value} {w : World} {us : List Value}
  (h : (fn.results.toList.mapM (yt tmps)).run P w = .ok us w) :
  (Go.results fn tmps).run P w = .ok (dw us) w := by
 have e : Go.results fn tmps = (do let vs ← fn.results.mapM (yt tmps); pure (if h : vs.size = 1 then vs[0] else .tuple vs)) := rfl
 rw [e, Array.mapM_eq_mapM_toList]
 simp only [Go.Sem.run_bind, h, Go.Result.andThen_ok, bind_assoc, map_eq_pure_bind, pure_bind, Go.Sem.run_pure]
 match us with
 | [] => simp [dw]
 | [x] => simp [dw]
 | x :: y :: r => simp [dw]
def dE (Γ : Ctx) (n : Nat) : Nat → List AV → Heap → Option (List AV × Heap) := fun f args H =>
 match Γ.fn f with
 | some (.lookc _ _ _) => none
 | some (.hi _) => none
 | _ => callOf Γ (ev Γ n) f args H
theorem plain_ok (K : Known Γ N P) (n : Nat) (ih : ∀ m, m < n → dq Γ N P (callOf Γ (ev Γ m))) : dq Γ N P (dE Γ n) := by
  intro f args H rs H' hc
  have hno : ∀ c q g, Γ.fn f ≠ some (.lookc c q g) := by
   intro c q g e
   unfold dE at hc
   rw [e] at hc
   cases hc
  have hnh : ∀ g, Γ.fn f ≠ some (.hi g) := by
   intro g e
   unfold dE at hc
   rw [e] at hc
   cases hc
  replace hc : callOf Γ (ev Γ n) f args H = some (rs, H') := by
   unfold dE at hc
   split at hc
   ·cases hc
   ·cases hc
   ·exact hc
  have hcode := (rC (Γ := Γ) (N := N) (P := P) K.mixed n ih).1
  unfold callOf at hc
  split at hc
  ·rename_i g hg
   split at hc
   ·rename_i ps hps
    split at hc
    ·rename_i qs hqs
     simp only [Option.some.injEq, Prod.mk.injEq] at hc
     obtain ⟨rfl, rfl⟩ := hc
     have h2 := K.prim f g hg ps qs hqs
     refine fun w S μ us hr hgl ha => (h2 w S us hr.lt hgl ?_).mono ?_
     ·have := dJ hps
      subst this
      have ha := ha.get
      refine .of_get (by simpa using ha.1) fun j x y hx hy => ?_
      exact (ha.2 j x (.p y) hx (by simp [hy])).p_inv
     ·rintro e w' ⟨vs, S', rfl, hg, g1, g2, g3, hv⟩
      exact ⟨vs, S', μ, rfl, (Step.grow hr hg g1 g2 g3).run, fun _ => .refl, All2.map_right (hv.imp fun u p h => .p _ _ h)⟩
    ·cases hc
   ·cases hc
  ·rename_i g hg
   split at hc
   rotate_left
   ·cases hc
   rename_i ps hps
   split at hc
   rotate_left
   ·cases hc
   rename_i r hgr
   split at hc
   rotate_left
   ·cases hc
   rename_i h0
   simp only [Option.some.injEq, Prod.mk.injEq] at hc
   obtain ⟨rfl, rfl⟩ := hc
   refine fun w S μ us hr hgl ha => (K.fresh f g hg ps r hgr w S us hr.lt hgl ?_).mono ?_
   ·have := dJ hps
    subst this
    have ha := ha.get
    refine .of_get (by simpa using ha.1) fun j x y hx hy => ?_
    exact (ha.2 j x (.p y) hx (by simp [hy])).p_inv
   ·rintro e w' ⟨cells, hgw, hrow, hone, hfl, hn⟩
    obtain ⟨μ', s1, s2⟩ := bV hr hgw h0.1 h0.2 hrow hfl hn
    exact ⟨[e], S, μ', rfl, s1.run, fun _ => s1.moves, s2, trivial⟩
  ·rename_i g hg
   split at hc
   rotate_left
   ·cases hc
   rename_i id n args
   split at hc
   rotate_left
   ·cases hc
   rename_i sz xs hb
   split at hc
   rotate_left
   ·cases hc
   rename_i hxn
   split at hc
   rotate_left
   ·cases hc
   rename_i ps hps
   split at hc
   rotate_left
   ·cases hc
   rename_i ys hys
   split at hc
   rotate_left
   ·cases hc
   rename_i hyl
   simp only [Option.some.injEq, Prod.mk.injEq] at hc
   obtain ⟨rfl, rfl⟩ := hc
   intro w S μ us hr hgl ha
   match us, ha with
   | u :: us, ⟨hu, ha⟩ =>
   have eu : u = μ id := by
    cases hu with
    | own _ _ _ _ h _ => exact (h _ _ _ hb).2 hxn.symm
   subst eu
   obtain ⟨h0, hlim, cells, hrow, hx1, hx2, _⟩ := hr.blk id _ hb
   refine (K.upd f g hg ps sz xs ys hys hyl hlim w S (μ id) us cells hr.lt hgl hrow ⟨hx1, hx2⟩ (fun b hbk => ⟨hr.apart b (alive_iff.2 ⟨id, _, hb, .inr ⟨sz, xs, rfl⟩, hbk⟩), hr.blk_lt hb hbk⟩) ?_).mono ?_
   ·have := dJ hps
    subst this
    have ha := ha.get
    refine .of_get (by simpa using ha.1) fun j x y hx hy => ?_
    exact (ha.2 j x (.p y) hx (by simp [hy])).p_inv
   ·rintro e w' ⟨rfl, q1, q2, q3, q4, q5, cells', q6, q7⟩
    have hm : Moves μ H (upd μ id (μ id)) (H.set id (.row false sz ys)) := dD hb (by omega) (fun _ => rfl)
    have hs : Step N.fn w S μ H w' S (upd μ id (μ id)) (H.set id (.row false sz ys)) :=
     Step.set hr hb (.inr ⟨sz, xs, rfl⟩) q1 q2 q3 q4 (fun b h1 h2 => q5 b h1 h2) hm ⟨h0, by omega, cells', by rw [upd_same]; exact q6, q7.1, q7.2, by simp⟩ (fun b hbk => .inl hbk)
    exact ⟨[], S, _, rfl, hs.run, fun _ => hs.moves, trivial⟩
  ·rename_i g hg
   split at hc
   ·rename_i qs hqs
    simp only [Option.some.injEq, Prod.mk.injEq] at hc
    obtain ⟨rfl, rfl⟩ := hc
    have h2 := K.look f g hg args H qs hqs
    refine fun w S μ us hr hgl ha => (h2 w S μ us hr hgl ha).mono ?_
    rintro e w' ⟨vs, S', rfl, hg, g1, g2, g3, hv⟩
    exact ⟨vs, S', μ, rfl, (Step.grow hr hg g1 g2 g3).run, fun _ => .refl, All2.map_right (hv.imp fun u p h => .p _ _ h)⟩
   ·cases hc
  ·rename_i c q g hg
   exact absurd hg (hno c q g)
  ·rename_i g hg
   exact absurd hg (hnh g)
  ·rename_i fn hf
   obtain ⟨g, hg, hchk⟩ := K.code f fn hf
   simp only [chkF, Bool.and_eq_true, decide_eq_true_eq] at hchk
   obtain ⟨⟨⟨c1, c2⟩, c3⟩, c4⟩ := hchk
   split at c4
   rotate_left
   ·cases c4
   rename_i body hbody
   split at hc
   rotate_left
   ·cases hc
   rename_i hlen
   have henter : Enters P (N.fn f) := fun us w => by
    have hnm : (g.name == "runtime.NumGoroutine") = false := by simpa using c3
    simp only [beq_eq_false_iff_ne, ne_eq] at hnm
    simp [Go.callFunc, hg, hnm, hbody]
   intro w S μ us hr hgl ha
   refine .inl ⟨henter _ _, Go.calls_of_wp hg hbody ?_⟩
   have hul : us.length = args.length := ha.get.1
   have he0 : Env.Rel Γ N w S μ H (look (fw args)) { tmps := us.toArray ++ Array.replicate (g.ntmps - us.toArray.size) undef, defers := [] } := by
    refine ⟨fun t => ?_, hgl⟩
    rw [BR]
    rcases Nat.lt_or_ge t args.length with h | h
    ·rw [List.getElem?_eq_getElem h, Option.getD_some]
     have := ha.get.2 t (us[t]'(by omega)) args[t] (List.getElem?_eq_getElem _) (List.getElem?_eq_getElem _)
     have e : (us.toArray ++ Array.replicate (g.ntmps - us.toArray.size) undef).getD t undef = us[t]'(by omega) := by
      rw [Array.getD_eq_getD_getElem?, Array.getElem?_append_left (by simp; omega)]
      simp [List.getElem?_eq_getElem (show t < us.length by omega)]
     rw [e]; exact this
    ·rw [List.getElem?_eq_none h, Option.getD_none]; exact .any _
   split at hc
   ·cases hc
   ·rename_i ex env' H1 hno hev
    split at hc
    ·rename_i vs hvs
     simp only [Option.some.injEq, Prod.mk.injEq] at hc
     obtain ⟨rfl, rfl⟩ := hc
     refine hcode g.ntmps body fn.body (fw args) H ex env' H1 H.length c4 hev w S μ _ _ hr he0 (by simp; omega) fun a' w' S' μ' hrun hmv he' hs hd => ?_
     have hmv : jW Γ H.length f = true → Moves μ H μ' H1 := fun h => (hmv (by simpa [jW, hf] using h) (Nat.le_refl _)).toMoves
     obtain ⟨us', h1, h2⟩ := fY hrun.rel he' c2 hvs
     have h3 := nN h1
     cases ex with
     | nrm => exact ⟨hd, _, h3, _, rfl, us', S', μ', rfl, hrun, hmv, h2⟩
     | ret => exact ⟨hd, _, h3, _, rfl, us', S', μ', rfl, hrun, hmv, h2⟩
     | ex i => exact (hno i rfl).elim
    ·cases hc
   ·cases hc
  ·cases hc
theorem yN {n c : Nat} {asX : List PV} {m : Int} (h : runI Γ (ev Γ n) c asX = some m) : ∃ H', dE Γ n c (asX.map .p) [] = some ([.p (.int .i64 m)], H') := by
 unfold runI at h
 split at h
 ·rename_i fn hf
  split at h
  ·rename_i hl
   split at h
   ·cases h
   ·rename_i x env' H' hno ho
    split at h
    ·rename_i k hk
     simp only [Option.some.injEq] at h
     subst h
     refine ⟨H', ?_⟩
     unfold dE
     rw [hf]
     simp only
     unfold callOf
     rw [hf]
     simp only [hl, if_true, ho]
     cases x with
     | nrm => simp only [hk]
     | ret => simp only [hk]
     | ex i => exact (hno i rfl).elim
    ·cases h
   ·cases h
  ·cases h
 ·cases h
theorem rY {n c : Nat} : ∀ {ps : List (List PV × Int)}, tR Γ (ev Γ n) c ps = true → ∀ p ∈ ps, runI Γ (ev Γ n) c p.1 = some p.2
 | [], _, p, hp => by simp at hp
 | x :: r, h, p, hp => by
  simp only [tR, Bool.and_eq_true, beq_iff_eq] at h
  rcases List.mem_cons.1 hp with rfl | hp
  ·exact h.1
  ·exact rY h.2 p hp
theorem tv {n f : Nat} {args : List AV} {H : Heap} {r : List AV × Heap} (h : wR Γ (ev Γ n) f args H = some r) : dE Γ n f args H = some r := by
 unfold wR at h
 unfold dE
 cases e : Γ.fn f with
 | none => rw [e] at h; cases h
 | some x =>
  rw [e] at h
  cases x with
  | code fn => simp only at h ⊢; unfold callOf; rw [e]; exact h
  | prim g => simp only at h ⊢; unfold callOf; rw [e]; exact h
  | _ => cases h
theorem all_ok (K : Known Γ N P) : ∀ n, dq Γ N P (callOf Γ (ev Γ n)) := by
 intro n
 induction n using Nat.strongRecOn with
 | _ n ih =>
  have hp := plain_ok K n ih
  intro f args H rs H' hc
  by_cases hl : ∃ c q g, Γ.fn f = some (.lookc c q g)
  ·obtain ⟨c, q, g, hf⟩ := hl
   unfold callOf at hc
   rw [hf] at hc
   simp only at hc
   split at hc
   rotate_left
   ·cases hc
   rename_i ps hps
   split at hc
   rotate_left
   ·cases hc
   rename_i qs hqs
   split at hc
   rotate_left
   ·cases hc
   rename_i hruns
   simp only [Option.some.injEq, Prod.mk.injEq] at hc
   obtain ⟨rfl, rfl⟩ := hc
   have h2 := K.lookc f c q g hf args H ps qs hps hqs fun p hpm w T us hT hgl ha => by
    obtain ⟨H', hpl⟩ := yN (rY hruns p hpm)
    refine (fT hp hT hgl ha hpl (rs := [.int .i64 p.2]) rfl).mono ?_
    rintro v w' ⟨vs, rfl, hg, hvs⟩
    match vs, hvs with
    | [v], ⟨hv, _⟩ => exact ⟨hv.int_inv, hg⟩
   refine fun w S μ us hr hgl ha => (h2 w S μ us hr hgl ha).mono ?_
   rintro e w' ⟨vs, S', rfl, hg, g1, g2, g3, hv⟩
   exact ⟨vs, S', μ, rfl, (Step.grow hr hg g1 g2 g3).run, fun _ => .refl, All2.map_right (hv.imp fun u p h => .p _ _ h)⟩
  ·by_cases hh : ∃ g, Γ.fn f = some (.hi g)
   ·obtain ⟨g, hf⟩ := hh
    unfold callOf at hc
    rw [hf] at hc
    refine fun w S μ us hr hgl ha => (K.hi f g hf _ (fun f args H rs H' hc => hp f args H rs H' (tv hc)) args H rs H' hc w S μ us hr hgl ha).mono ?_
    rintro v w' ⟨vs, S', μ', h1, h2, h3, h4⟩
    exact ⟨vs, S', μ', h1, h2, fun _ => h3, h4⟩
   refine hp f args H rs H' ?_
   unfold dE
   split
   ·rename_i c q g e
    exact absurd ⟨c, q, g, e⟩ hl
   ·rename_i g e
    exact absurd ⟨g, e⟩ hh
   ·exact hc
theorem y9 (K : Known Γ N P) {n f : Nat} {ps rs : List PV} {r : List AV × Heap} {us : List Value} {w : World} {T : Nat → Prop} (hT : ∀ g, T g → g < w.heap.size) (hgl : GlRel Γ N w T)
  (ha : All2 (fun u p => RelP N.fn w T p u) us ps) (hc : callOf Γ (ev Γ n) f (ps.map .p) [] = some r) (hrs : mapO (aq r.2 4) r.1 = some rs) :
  Does P (N.fn f) us.toArray w (fun v w' => ∃ vs, v = dw vs ∧ Grows w w' ∧
   All2 (fun u p => RelP N.fn w' (fun g => T g ∨ (w.heap.size ≤ g ∧ g < w'.heap.size)) p u) vs rs) :=
 fT (all_ok K n) hT hgl ha hc hrs
end
end Ab
namespace Ab
open Go (IntKind BinOp UnOp World Value Addr Obj undef maxLen Program TypeId Oper Op Operand Act Sem Next Result execOp Builtin Calls Ending Exit)
def RowFor (P : Program) (f : Nat) (e : Array Value → Sem Value) : Prop :=
 ∃ fn, P.funcs[f]? = some fn ∧ (fn.name == "runtime.NumGoroutine") = false ∧ fn.body.isNone = true ∧ Go.Extern.findNext fn = none ∧ Go.Extern.find fn = some e
theorem RowFor.does {P : Program} {f : Nat} {e : Array Value → Sem Value} (h : RowFor P f e) {us : Array Value} {w w' : World} {v : Value} {R : Value → World → Prop} (hrun : (e us).run P w = .ok v w') (hR : R v w') : Does P f us w R := by
 obtain ⟨fn, h1, h2, h3, h4, h5⟩ := h
 refine .inr ⟨v, w', ?_, hR⟩
 simp only [beq_eq_false_iff_ne, ne_eq] at h2
 have h3 := Option.isNone_iff_eq_none.1 h3
 simp [Go.callFunc, h1, h2, h3, h4, h5, hrun, Go.mark, Sem.run]
theorem ixB_eq (s : List UInt8) (c : UInt8) : Go.Lib.indexByte s c = ixB s c := by
 induction s with
 | nil => rfl
 | cons b l ih => simp only [Go.Lib.indexByte, ixB, ih]
section
variable {Γ : Ctx} {N : Names} {P : Program} {f : Nat}
theorem oE (h : RowFor P (N.fn f) Go.Extern.BytealgIndexByte.indexByte) : ph Γ N P f iV := by
 intro ps rs hg w S us hS hgl ha
 unfold iV at hg
 split at hg
 rotate_left
 ·cases hg
 rename_i s c
 simp only [Option.some.injEq] at hg
 subst hg
 match us, ha with
 | [u1, u2], ⟨h1, h2, _⟩ =>
  rw [h1.str_inv, h2.int_inv]
  rw [← ixB_eq]
  exact h.does (w' := w) (Go.Lib.run_indexByteString ⟨s.toArray⟩ c w) ⟨[.int .i64 (Go.Lib.indexByte s c.toNat.toUInt8)], S, rfl, .refl w, fun _ h => h, hS, fun _ h => .inl h, .int _ _, trivial⟩
theorem yr (h : RowFor P (N.fn f) Go.Extern.BytealgCount.count) : ph Γ N P f wt := by
 intro ps rs hg w S us hS hgl ha
 unfold wt at hg
 split at hg
 rotate_left
 ·cases hg
 rename_i s c
 simp only [Option.some.injEq] at hg
 subst hg
 match us, ha with
 | [u1, u2], ⟨h1, h2, _⟩ =>
  rw [h1.str_inv, h2.int_inv]
  exact h.does (w' := w) (Go.Lib.run_countString ⟨s.toArray⟩ c w) ⟨[.int .i64 (s.count c.toNat.toUInt8 : Nat)], S, rfl, .refl w, fun _ h => h, hS, fun _ h => .inl h, .int _ _, trivial⟩
end
end Ab
namespace Ab
open Go (IntKind BinOp UnOp World Value Addr Obj undef maxLen Program TypeId Oper Op Operand Act Sem Next Result execOp Builtin Calls Ending Exit MapEntry DataW MemPlace Lit)
open Go.RowKit
theorem less_iff : ∀ {a b : List UInt8},bytesLess a b = true ↔ a < b
 | _,[] => by simp [bytesLess,List.not_lt_nil]
 | [],b :: y => by simp [bytesLess,List.nil_lt_cons]
 | a :: x,b :: y => by
  rw [List.cons_lt_cons_iff,← less_iff]
  simp [bytesLess]
theorem ni (s : List UInt8) : ∀ l,(insB s l).Perm (s :: l)
 | [] => .refl _
 | t :: r => by
  unfold insB
  split
  ·exact ((ni s r).cons t).trans (.swap s t r)
  ·exact .refl _
theorem lE : ∀ l,(dP l).Perm l
 | [] => .refl _
 | s :: r => (ni s _).trans ((lE r).cons s)
theorem jN (s : List UInt8) : ∀ {l : List (List UInt8)},l.Pairwise (· ≤ ·) → (insB s l).Pairwise (· ≤ ·)
 | [],_ => by simp [insB]
 | t :: r,h => by
  obtain ⟨h1,h2⟩ := List.pairwise_cons.1 h
  unfold insB
  split
  ·rename_i hb
   refine List.pairwise_cons.2 ⟨fun x hx => ?_,jN s h2⟩
   rcases List.mem_cons.1 ((ni s r).mem_iff.1 hx) with rfl | hx
   ·exact List.le_of_lt (less_iff.1 hb)
   ·exact h1 x hx
  ·rename_i hb
   have hst : s ≤ t := by
    have : ¬ t < s := fun e => hb (less_iff.2 e)
    exact this
   refine List.pairwise_cons.2 ⟨fun x hx => ?_,h⟩
   rcases List.mem_cons.1 hx with rfl | hx
   ·exact hst
   ·exact List.le_trans hst (h1 x hx)
theorem fo : ∀ l : List (List UInt8),(dP l).Pairwise (· ≤ ·)
 | [] => .nil
 | s :: r => jN s (fo r)
theorem sortB_eq {l l' : List (List UInt8)} (hp : l.Perm l') : l.mergeSort (fun x y => decide (x ≤ y)) = dP l' := by
 have tr : ∀ a b c : List UInt8,Go.leB a b = true → Go.leB b c = true → Go.leB a c = true := fun a b c h1 h2 => by simp only [Go.leB,decide_eq_true_eq] at *; exact List.le_trans h1 h2
 have to : ∀ a b : List UInt8,(Go.leB a b || Go.leB b a) = true := fun a b => by simp only [Go.leB,Bool.or_eq_true,decide_eq_true_eq]; exact List.le_total a b
 refine List.Perm.eq_of_pairwise (le := fun a b => Go.leB a b = true) (fun a b _ _ h1 h2 => ?_) (List.pairwise_mergeSort tr to l) ?_ (((List.mergeSort_perm l Go.leB).trans hp).trans (lE l').symm)
 ·simp only [Go.leB,decide_eq_true_eq] at h1 h2
  exact List.le_antisymm h1 h2
 ·exact (fo l').imp fun h => by simpa [Go.leB] using h
structure KeysOk (P : Program) (f K : Nat) (k : TypeId) : Prop where
 key : P.underlying k = some .string
 enters : Enters P f
 some : ∀ (bm b nn : Nat) (D0 : DataW Unit) (R : Value → Option (DataW Unit × List MemPlace)) (w : World),bm < w.heap.size → w.cell? ⟨bm,0,none⟩ = some (.map (some b)) → w.ownsMap P k R b nn D0 → Go.Maps.size D0 ≤ maxLen → Go.Maps.size D0 * 16 ≤ 140737488355328 →
  Calls P f #[.func (.func K) #[] #[.pointer (some ⟨bm,0,none⟩)]] w fun e w' => ∃ (v : Value) (ss : List (List UInt8)),e = .returned v ∧ ss.Perm (Go.strKeys D0) ∧
   w'.ownsRow w.heap.size k 1 v ss.length ((ss.mergeSort (fun x y => decide (x ≤ y))).map Go.Proofs.encStr) ∧ (v = .slice none 0 0 ↔ ss = []) ∧ Below w.heap.size w w'
 none : ∀ (bm : Nat) (w : World),bm < w.heap.size → w.cell? ⟨bm,0,.none⟩ = .some (.map .none) →
  Calls P f #[.func (.func K) #[] #[.pointer (.some ⟨bm,0,.none⟩)]] w fun e w' => e = .returned (.slice .none 0 0) ∧ Below w.heap.size w w'
theorem fu : ∀ {es : List (PV × AV)} {ss : List (List UInt8)},bB es = some ss → es.map (·.1) = ss.map .str ∧ ∀ s ∈ ss,s.length ≤ lim
 | [],ss,h => by simp only [bB,Option.some.injEq] at h; subst h; simp
 | (k,v) :: r,ss,h => by
  cases k <;> simp only [bB] at h <;> try cases h
  rename_i s0
  split at h
  ·rename_i hl
   obtain ⟨r',h1,rfl⟩ := Option.map_eq_some_iff.1 h
   obtain ⟨h2,h3⟩ := fu h1
   refine ⟨by simp [h2],fun s hs => ?_⟩
   rcases List.mem_cons.1 hs with rfl | hs
   ·exact hl
   ·exact h3 s hs
  ·cases h
abbrev anyR : Value → Option (DataW Unit × List MemPlace) := fun _ => some (.nil,[])
section
variable {Γ : Ctx} {N : Names} {P : Program} {w : World} {S : Nat → Prop} {μ : Nat → Value} {H : Heap}
theorem nL {ν : Nat → Nat} {k : TypeId} (hk : P.underlying k = some .string) : ∀ {es : List (PV × AV)} {l : List MapEntry} {ss : List (List UInt8)},MapRel ν w S μ H es l → bB es = some ss →
  l.map (Go.WideElems.rg P k anyR) = ss.map (fun s => (Lit.string s,DataW.nil)) ∧ ∀ x ∈ l,∃ y,Go.WideElems.rd P k anyR x = some y
 | [],[],ss,_,h => by simp only [bB,Option.some.injEq] at h; subst h; simp
 | (kk,v) :: es,e :: l,ss,hm,h => by
  cases kk <;> simp only [bB] at h <;> try cases h
  rename_i s0
  split at h
  ·rename_i hl
   obtain ⟨r',h1,rfl⟩ := Option.map_eq_some_iff.1 h
   obtain ⟨g1,g2⟩ := nL hk hm.2.2.2 h1
   have hkey : Go.keyOf P k e.key = some (.string s0) := by
    have h0 := hm.1
    generalize e.key = z at h0
    cases h0
    have : (⟨s0.toArray⟩ : ByteArray).size ≤ maxLen := by
     show s0.toArray.size ≤ maxLen
     rw [List.size_toArray]
     exact Nat.le_trans hl (by decide)
    simp [Go.keyOf,Go.mapKey,hk,this]
   have hrd : Go.WideElems.rd P k anyR e = some (.string s0,.nil) := by simp [Go.WideElems.rd,hkey]
   refine ⟨by simp [g1,Go.WideElems.rg_of hrd],fun x hx => ?_⟩
   rcases List.mem_cons.1 hx with rfl | hx
   ·exact ⟨_,hrd⟩
   ·exact g2 x hx
  ·cases h
 | [],_ :: _,_,h,_ => h.elim
 | (_,_) :: _,[],_,h,_ => h.elim
theorem tZ {l : List (Lit × DataW Unit)} : Go.strKeys (DataW.map (l.foldr DataW.insert [])) = (l.foldr DataW.insert []).map fun p => Go.strOf p.1 := rfl
theorem owns_of {id g : Nat} {k : TypeId} (hk : P.underlying k = some .string) (hr : Rel N.fn w S μ H) {es : List (PV × AV)} {ss : List (List UInt8)} (hes : mapOf H id = some es) (hss : bB es = some ss) (hl : es.length ≤ lim) (hg : μ id = .pointer (some ⟨g,0,none⟩)) :
  ∃ D0 : DataW Unit,w.ownsMap P k anyR g es.length D0 ∧ (Go.strKeys D0).Perm ss ∧ Go.Maps.size D0 = es.length := by
 obtain ⟨g',arr,clock,e1,e2,est,e3⟩ := hr.map_of hes
 rw [hg] at e1
 cases e1
 obtain ⟨g1,g2⟩ := nL hk e3 hss
 have hsz : arr.size = es.length := by simpa using e3.len
 have hlen : ss.length = es.length := by simpa using (congrArg List.length (fu hss).1).symm
 refine ⟨_,⟨arr,clock,e2,⟨by rw [hsz]; exact Nat.le_trans hl (by decide),est,g2⟩,by omega,rfl⟩,?_,?_⟩
 ·rw [g1,tZ]
  refine ((Go.WideShapes.sorted_perm _).map _).trans ?_
  rw [List.map_map]
  simp [Function.comp_def,Go.strOf]
 ·show (List.foldr DataW.insert [] _).length = _
  rw [(Go.WideShapes.sorted_perm _).length_eq,g1,List.length_map,hlen]
theorem BF {ν : Nat → Nat} {base : Nat} {k : TypeId} {v : Value} {l : List (List UInt8)} {w' : World} (hrow : w'.ownsRow base k 1 v l.length (l.map Go.Proofs.encStr)) (hn : v = .slice none 0 0 ↔ l = []) (hl : l.length ≤ lim) {S : Nat → Prop} (hS : ∀ g,S g → g < base) (hb : base ≤ w'.heap.size) :
  ∃ S' : Nat → Prop,(∀ g,S g → S' g) ∧ (∀ g,S' g → g < w'.heap.size) ∧ (∀ g,S' g → S g ∨ base ≤ g) ∧ RelP ν w' S' (rowS l) v := by
 cases l with
 | nil =>
  obtain rfl := hn.2 rfl
  exact ⟨S,fun _ h => h,fun g h => Nat.lt_of_lt_of_le (hS g h) hb,fun _ h => .inl h,.sl .nil 1 [] none 0 (fun _ _ => undef) (Nat.le_refl _) (Nat.zero_le _) (by simp) (by simp) (by simp) (by simp) (by simp) (by simp)⟩
 | cons s r =>
  obtain ⟨h1,h2 | ⟨g,cap,cur,rfl,hg,hc,h3,h4,h5,h6⟩⟩ := hrow
  ·exact absurd h2.2 (by simp)
  have hlt : g < w'.heap.size := (Array.getElem?_eq_some_iff.1 hc).1
  refine ⟨fun x => S x ∨ x = g,fun _ h => .inl h,fun x h => ?_,fun x h => ?_,?_⟩
  ·rcases h with h | rfl
   ·exact Nat.lt_of_lt_of_le (hS x h) hb
   ·exact hlt
  ·rcases h with h | rfl
   ·exact .inl h
   ·exact .inr hg
  have hlen : ((s :: r).map PV.str).length = (s :: r).length := by simp
  have cell : ∀ (i : Nat) t,(s :: r)[i]? = some t → w'.cell? ⟨g,i,none⟩ = some (.string ⟨t.toArray⟩) := by
   intro i t hi
   have hil := (List.getElem?_eq_some_iff.1 hi).1
   have : cur[i]? = some (.string ⟨t.toArray⟩) := by
    have h7 := congrArg (fun l => l[i]?) h6
    simp only [List.getElem?_map,hi,Option.map_some,List.getElem?_take] at h7
    rw [if_pos (by simpa using hil)] at h7
    simpa using h7
   simp [World.cell?,hc,this]
  have hgoal : RelP ν w' (fun x => S x ∨ x = g) (.sl .any 1 ((s :: r).map .str)) (.slice (some ⟨g,0,none⟩) ((s :: r).map PV.str).length cap) := by
   refine .sl .any 1 ((s :: r).map .str) (some ⟨g,0,none⟩) cap (fun i _ => .string ⟨((s :: r).getD i []).toArray⟩) (by rw [hlen]; exact h3) h4 (fun x hx => ?_) (by simp) (by simp) (fun _ => ⟨_,rfl,.inr rfl⟩) (fun ad he i x j c hx hj => ?_) (fun i x j c hx hj => ?_)
   ·obtain ⟨t,_,rfl⟩ := List.mem_map.1 hx
    exact ⟨rfl,fun c hc => by simp only [PV.cells,List.mem_singleton] at hc; subst hc; rfl⟩
   ·cases he
    rw [List.getElem?_map,Option.map_eq_some_iff] at hx
    obtain ⟨t,ht,rfl⟩ := hx
    match j,hj with
    | 0,_ =>
     have := cell i t ht
     have e : (s :: r).getD i [] = t := by rw [List.getD_eq_getElem?_getD,ht]; rfl
     rw [e,← this]
     congr 1
     by_cases hi : i = 0 <;> simp [Addr.add,hi]
   ·rw [List.getElem?_map,Option.map_eq_some_iff] at hx
    obtain ⟨t,ht,rfl⟩ := hx
    match j,hj with
    | 0,hj =>
     simp only [PV.cells,List.getElem?_cons_zero,Option.some.injEq] at hj
     subst hj
     have e : (s :: r).getD i [] = t := by rw [List.getD_eq_getElem?_getD,ht]; rfl
     rw [e]
     exact .str t
  rw [hlen] at hgoal
  exact hgoal
theorem zt {f : Nat} {Ks : List Nat} {k : TypeId} (h : ∀ K ∈ Ks,KeysOk P (N.fn f) (N.fn K) k) : Be Γ N P f (wU Ks) := by
 intro args H rs hg w S μ us hr hgl ha
 unfold wU at hg
 split at hg
 rotate_left
 ·cases hg
 rename_i kf b
 split at hg
 rotate_left
 ·cases hg
 rename_i hk
 have h := h kf (List.contains_iff_mem.1 hk)
 obtain ⟨cs,hb,hg⟩ := Option.bind_eq_some_iff.1 hg
 match us,ha with
 | [u],⟨hu,_⟩ =>
 cases hu with
 | clo _ _ us q1 q2 q3 =>
 have hu0 := q3 0 (.bx b 0) rfl
 obtain ⟨gb,hgb,hbl,hμ⟩ := hu0.bx_inv
 have hH := eF hb
 have hμ := hμ _ hH
 have hus : us = #[.pointer (some ⟨gb,0,none⟩)] := by
  have : us.size = 1 := q1
  obtain ⟨u0,rfl⟩ : ∃ u0,us = #[u0] := by
   refine ⟨us[0],Array.ext (by simp [this]) fun i h1 h2 => ?_⟩
   have : i = 0 := by simp at h2; omega
   subst this; rfl
  simp at hgb
  rw [hgb]
 subst hus
 obtain ⟨g',e1,hrest⟩ := hr.blk b _ hH
 rw [hμ] at e1
 cases e1
 have hbm : gb < w.heap.size := by
  rcases hrest with ⟨arr,t,h2,_⟩ | ⟨_,_,_,h2⟩ | ⟨_,arr,_,_,h2,_⟩ <;> exact (Array.getElem?_eq_some_iff.1 h2).1
 have one : ∀ c,cs = [c] → ∃ x,w.cell? ⟨gb,0,none⟩ = some x ∧ RelV N.fn w S μ H c x := by
  rintro c rfl
  rcases hrest with ⟨arr,t,h2,h3,h4,h5⟩ | ⟨s,pos,h2,_⟩ | ⟨es,arr,clock,h2,_⟩
  ·have h6 : 0 < arr.size := by rw [h3]; simp
   refine ⟨arr[0],by simp [World.cell?,h2,h6],?_⟩
   simpa [h6] using h5 0 c rfl
  ·simp [cv] at h2
  ·simp [ah] at h2
 unfold keysV at hg
 split at hg
 ·rename_i id
  obtain ⟨es,hes,hg⟩ := Option.bind_eq_some_iff.1 hg
  obtain ⟨ss,hss,hg⟩ := Option.bind_eq_some_iff.1 hg
  simp only [Option.ite_none_right_eq_some,Option.some.injEq] at hg
  obtain ⟨hl,rfl⟩ := hg
  obtain ⟨x,hx1,hx2⟩ := one _ rfl
  obtain ⟨g,rfl,_,hg⟩ := hx2.mp_inv
  have hg := hg _ (cg hes)
  obtain ⟨D0,d1,d2,d3⟩ := owns_of h.key hr hes hss hl hg
  have hlen : ss.length = es.length := by simpa using (congrArg List.length (fu hss).1).symm
  refine .inl ⟨h.enters _ _,(h.some gb g es.length D0 anyR w hbm hx1 d1 (by rw [d3]; exact Nat.le_trans hl (by decide)) (by rw [d3]; exact Nat.le_trans (Nat.mul_le_mul_right 16 hl) (by decide))).mono ?_⟩
  rintro e w' ⟨v,zs,rfl,z1,z2,z3,z4⟩
  rw [sortB_eq (z1.trans d2)] at z2
  have zl : zs.length = ss.length := (z1.trans d2).length_eq
  have sl : (dP ss).length = ss.length := (lE ss).length_eq
  rw [show zs.length = (dP ss).length by omega] at z2
  have znil : v = .slice none 0 0 ↔ dP ss = [] := by
   rw [z3,← List.length_eq_zero_iff,← List.length_eq_zero_iff,zl,sl]
  obtain ⟨S',s1,s2,s3,s4⟩ := BF (ν := N.fn) z2 znil (by omega) hr.lt z4.size
  exact ⟨_,rfl,[v],S',rfl,⟨z4.os,z4.tape,z4.output,z4.size,fun g hg => z4.block g hg⟩,s1,s2,s3,s4,trivial⟩
 ·simp only [Option.some.injEq] at hg
  subst hg
  obtain ⟨x,hx1,hx2⟩ := one _ rfl
  have : x = .map none := by
   have := hx2.p_inv
   cases this
   rfl
  subst this
  refine .inl ⟨h.enters _ _,(h.none gb w hbm hx1).mono ?_⟩
  rintro e w' ⟨rfl,z4⟩
  exact ⟨_,rfl,[.slice none 0 0],S,rfl,⟨z4.os,z4.tape,z4.output,z4.size,fun g hg => z4.block g hg⟩,fun _ h => h,fun g hg => Nat.lt_of_lt_of_le (hr.lt g hg) z4.size,fun _ h => .inl h,.sl .nil 1 [] none 0 (fun _ _ => undef) (Nat.le_refl _) (Nat.zero_le _) (by simp) (by simp) (by simp) (by simp) (by simp) (by simp),trivial⟩
 ·cases hg
end
end Ab
namespace Ab
open Go
def StLe (n : Nat) : Stepped → Prop
 | .next m => n ≤ m.world.drawn
 | _ => True
def MvLe (n : Nat) : Move → Prop
 | .goroutine m _ => n ≤ m.world.drawn
 | .machine s _ => StLe n s
theorem StLe.mono {n k : Nat} {s : Stepped} (h : StLe k s) (hn : n ≤ k) : StLe n s := by
 cases s with
 | next m => exact Nat.le_trans hn h
 | ended => trivial
theorem MvLe.mono {n k : Nat} {s : Move} (h : MvLe k s) (hn : n ≤ k) : MvLe n s := by
 cases s with
 | goroutine m i => exact Nat.le_trans hn h
 | machine s ops => exact StLe.mono h hn
end Ab
