import Derived.Test.YtlgclfmmnifgoaaGreatDoorAbLate
namespace Ab
open Go (IntKind BinOp UnOp World Value Addr Obj undef maxLen Program TypeId Oper Op Operand Act Sem Next Result execOp Builtin Calls Ending Exit)
section
variable {Γ : Ctx} {cal : Nat → List AV → Heap → Option (List AV × Heap)}
structure Course (Γ : Ctx) (cal : Nat → List AV → Heap → Option (List AV × Heap)) (sts : List St) (E : Nat → Env) (hp : Nat → Heap) (val : Nat → AV) : Prop where
 one : ∀ (i : Nat) s,sts[i]? = some s → cu Γ cal s (look (E i)) (hp i) = some (val i,hp (i + 1))
 env : ∀ (i : Nat) s,sts[i]? = some s → E (i + 1) = put (E i) s.dst (val i)
theorem mW : ∀ (sts : List St) {env env' : Env} {H H' : Heap},dp Γ cal sts env H = some (env',H') → ∃ E hp val,Course Γ cal sts E hp val ∧ E 0 = env ∧ hp 0 = H ∧ E sts.length = env' ∧ hp sts.length = H'
 | [],env,env',H,H',h => by
  simp only [dp,Option.some.injEq,Prod.mk.injEq] at h
  obtain ⟨rfl,rfl⟩ := h
  exact ⟨fun _ => env,fun _ => H,fun _ => .any,⟨by simp,by simp⟩,rfl,rfl,rfl,rfl⟩
 | s :: sts,env,env',H,H',h => by
  rw [px,Option.bind_eq_some_iff] at h
  obtain ⟨⟨v,H1⟩,h1,h2⟩ := h
  obtain ⟨E,hp,val,hc,e1,e2,e3,e4⟩ := mW sts h2
  refine ⟨fun i => match i with | 0 => env | i + 1 => E i,fun i => match i with | 0 => H | i + 1 => hp i,fun i => match i with | 0 => v | i + 1 => val i,⟨fun i s' hs => ?_,fun i s' hs => ?_⟩,rfl,rfl,e3,e4⟩
  ·cases i with
   | zero => simp only [List.getElem?_cons_zero,Option.some.injEq] at hs; subst hs; rw [h1]; exact congrArg some (Prod.ext rfl e2.symm)
   | succ i => exact hc.one i s' (by simpa using hs)
  ·cases i with
   | zero => simp only [List.getElem?_cons_zero,Option.some.injEq] at hs; subst hs; exact e1
   | succ i => exact hc.env i s' (by simpa using hs)
def gU (sts : List St) (k : Nat) : Option Nat := (sts[k]?).bind (·.dst)
def jU (sts : List St) (L : Nat → Bool) (t : Nat) : Nat → Nat
 | 0 => 0
 | k + 1 => if L k = true ∧ gU sts k = some t then k + 1 else jU sts L t k
theorem jw {sts : List St} {L L' : Nat → Bool} {t : Nat} : ∀ n,(∀ k < n,gU sts k = some t → L k = L' k) → jU sts L t n = jU sts L' t n
 | 0,_ => rfl
 | n + 1,h => by
  have ih := jw n fun k hk => h k (by omega)
  unfold jU
  by_cases hd : gU sts n = some t
  ·rw [h n (by omega) hd,ih]
  ·simp only [hd,and_false,if_false]; exact ih
theorem qE {sts : List St} {L : Nat → Bool} {t i : Nat} (hL : L i = true) (hd : gU sts i = some t) : ∀ n,i < n → (∀ k,i < k → k < n → gU sts k = some t → L k = false) → jU sts L t n = i + 1
 | 0,h,_ => by omega
 | n + 1,h,hk => by
  unfold jU
  by_cases he : i = n
  ·subst he; simp [hL,hd]
  ·have hno : ¬ (L n = true ∧ gU sts n = some t) := fun ⟨h1,h2⟩ => by rw [hk n (by omega) (by omega) h2] at h1; cases h1
   rw [if_neg hno]
   exact qE hL hd n (by omega) fun k h1 h2 => hk k h1 (by omega)
theorem Course.agree {sts : List St} {E : Nat → Env} {hp : Nat → Heap} {val : Nat → AV} (hc : Course Γ cal sts E hp val) {L : Nat → Bool} {t i : Nat} (hL : ∀ k,gU sts k = some t → (L k = true ↔ k < i)) :
  ∀ j,j ≤ sts.length → look (E (jU sts L t j)) t = look (E (min i j)) t
 | 0,_ => by simp [jU]
 | j + 1,hj => by
  have ih := hc.agree hL j (by omega)
  have hs : sts[j]? = some sts[j] := List.getElem?_eq_getElem (by omega)
  have hE := hc.env j _ hs
  have hd : gU sts j = (sts[j]).dst := by simp [gU,hs]
  unfold jU
  by_cases h : L j = true ∧ gU sts j = some t
  ·rw [if_pos h]
   have : j < i := (hL j h.2).1 h.1
   rw [show min i (j + 1) = j + 1 by omega]
  ·rw [if_neg h,ih]
   by_cases hi : i ≤ j
   ·rw [show min i j = i by omega,show min i (j + 1) = i by omega]
   ·rw [show min i j = j by omega,show min i (j + 1) = j + 1 by omega,hE,kM]
    have : ¬ (sts[j]).dst = some t := fun e => by
     rw [← hd] at e
     exact h ⟨(hL j e).2 (by omega),e⟩
    rw [if_neg this]
theorem Course.quiet {sts : List St} {E : Nat → Env} {hp : Nat → Heap} {val : Nat → AV} (hc : Course Γ cal sts E hp val) {i : Nat} {s : St} (hs : sts[i]? = some s) (hx : isX s.op = false) : hp (i + 1) = hp i := by
 have h := hc.one i s hs
 simp only [cu] at h
 split at h
 ·cases h
 ·simp only [Option.some.injEq,Prod.mk.injEq] at h; exact h.2.symm
 ·split at h
  ·simp only [Option.map_eq_some_iff,Prod.mk.injEq] at h
   obtain ⟨_,_,_,h⟩ := h; exact h.symm
  ·rename_i x hx'
   rw [hx'] at hx
   cases x <;> first | (cases hx; done) | skip
   simp only [evX,Option.map_eq_some_iff,Prod.mk.injEq] at h
   obtain ⟨_,_,_,h⟩ := h; exact h.symm
theorem Course.between {sts : List St} {E : Nat → Env} {hp : Nat → Heap} {val : Nat → AV} (hc : Course Γ cal sts E hp val) {k : Nat} : ∀ i,k ≤ i → i ≤ sts.length → (∀ (m : Nat) s,k ≤ m → m < i → sts[m]? = some s → isX s.op = false) → hp i = hp k
 | 0,h,_,_ => by rw [show k = 0 by omega]
 | i + 1,h,hi,hq => by
  by_cases hk : k = i + 1
  ·rw [hk]
  ·have hs : sts[i]? = some sts[i] := List.getElem?_eq_getElem (by omega)
   rw [hc.quiet hs (hq i _ (by omega) (by omega) hs)]
   exact hc.between i (by omega) (by omega) fun m s h1 h2 => hq m s h1 (by omega)
theorem xu {s : St} {σ : Nat → AV} {H H2 H' : Heap} {v : AV} (hf : jj s.op = true) (h : cu Γ cal s σ H = some (v,H')) : cu Γ cal s σ H2 = some (v,H2) := by
 unfold cu at *
 split at h
 ·cases h
 ·simp only [Option.some.injEq,Prod.mk.injEq] at h
  simp [h.1]
 ·cases hs : s.op with
  | inr x =>
   rw [hs] at hf h
   cases x <;> first | (cases hf; done) | skip
   simp only [evX,Option.map_eq_some_iff,Prod.mk.injEq] at h
   obtain ⟨v',h,rfl,_⟩ := h
   simp only [evX,h,Option.map_some]
  | inl q =>
   rw [hs] at hf h
   simp only [Option.map_eq_some_iff,Prod.mk.injEq] at h
   obtain ⟨v',h,rfl,_⟩ := h
   have e : evQ Γ cal σ H2 q = evQ Γ cal σ H q := by cases q <;> first | rfl | cases hf
   simp only [e,h,Option.map_some]
theorem evOne_up {s : St} {σ : Nat → AV} {H E H' : Heap} {v : AV} (hx : isX s.op = false) (h : cu Γ cal s σ H = some (v,H')) : cu Γ cal s σ (H ++ E) = some (v,H ++ E) := by
 unfold cu at *
 split at h
 ·cases h
 ·simp only [Option.some.injEq,Prod.mk.injEq] at h
  simp [h.1]
 ·cases hs : s.op with
  | inr x =>
   rw [hs] at hx h
   cases x <;> first | (cases hx; done) | skip
   simp only [evX,Option.map_eq_some_iff,Prod.mk.injEq] at h
   obtain ⟨v',h,rfl,_⟩ := h
   simp only [evX,h,Option.map_some]
  | inl q =>
   rw [hs] at h
   simp only [Option.map_eq_some_iff,Prod.mk.injEq] at h
   obtain ⟨v',h,rfl,_⟩ := h
   simp only [evQ_up h,Option.map_some]
mutual
theorem v6 : ∀ {a b : PV},eqP a b = true → a = b
 | .int _ _,b,h => by cases b <;> simp_all [eqP]
 | .bool _,b,h => by cases b <;> simp_all [eqP]
 | .str _,b,h => by cases b <;> simp_all [eqP]
 | .nilp,b,h => by cases b <;> simp_all [eqP]
 | .nilfn,b,h => by cases b <;> simp_all [eqP]
 | .nilmap,b,h => by cases b <;> simp_all [eqP]
 | .clo _ xs,b,h => by
  cases b with
  | clo g ys => simp only [eqP,Bool.and_eq_true,beq_iff_eq] at h; rw [h.1,fP h.2]
  | _ => simp [eqP] at h
 | .sl _ _ xs,b,h => by
  cases b with
  | sl k sz ys => simp only [eqP,Bool.and_eq_true,beq_iff_eq,decide_eq_true_eq] at h; rw [h.1.1,h.1.2,fP h.2]
  | _ => simp [eqP] at h
 | .ptr xs,b,h => by
  cases b with
  | ptr ys => simp only [eqP] at h; rw [fP h]
  | _ => simp [eqP] at h
 | .agg xs,b,h => by
  cases b with
  | agg ys => simp only [eqP] at h; rw [fP h]
  | _ => simp [eqP] at h
theorem fP : ∀ {a b : List PV},eqPs a b = true → a = b
 | [],[],_ => rfl
 | a :: r,b :: q,h => by
  simp only [eqPs,Bool.and_eq_true] at h
  rw [v6 h.1,fP h.2]
 | [],_ :: _,h => by simp [eqPs] at h
 | _ :: _,[],h => by simp [eqPs] at h
end
mutual
theorem eqA_spec : ∀ {a b : AV},eqA a b = true → a = b
 | .p x,b,h => by
  cases b with
  | p y => simp only [eqA] at h; rw [v6 h]
  | _ => simp [eqA] at h
 | .own _ _,b,h => by cases b <;> simp_all [eqA]
 | .bx _ _,b,h => by cases b <;> simp_all [eqA]
 | .el _ _ _ _,b,h => by cases b <;> simp_all [eqA]
 | .mp _,b,h => by cases b <;> simp_all [eqA]
 | .nov,b,h => by cases b <;> simp_all [eqA]
 | .any,b,h => by cases b <;> simp_all [eqA]
 | .agg xs,b,h => by
  cases b with
  | agg ys => simp only [eqA] at h; rw [fM h]
  | _ => simp [eqA] at h
 | .tup xs,b,h => by
  cases b with
  | tup ys => simp only [eqA] at h; rw [fM h]
  | _ => simp [eqA] at h
 | .clo _ xs,b,h => by
  cases b with
  | clo g ys => simp only [eqA,Bool.and_eq_true,beq_iff_eq] at h; rw [h.1,fM h.2]
  | _ => simp [eqA] at h
theorem fM : ∀ {a b : List AV},eqAs a b = true → a = b
 | [],[],_ => rfl
 | a :: r,b :: q,h => by
  simp only [eqAs,Bool.and_eq_true] at h
  rw [eqA_spec h.1,fM h.2]
 | [],_ :: _,h => by simp [eqAs] at h
 | _ :: _,[],h => by simp [eqAs] at h
end
theorem eqB_spec : ∀ {a b : Blk},eqB a b = true → a = b
 | .box _,.box _,h => by simp only [eqB] at h; rw [fM h]
 | .row _ _ _,.row _ _ _,h => by simp only [eqB,Bool.and_eq_true,beq_iff_eq] at h; rw [h.1.1,h.1.2,fP h.2]
 | .dead,.dead,_ => rfl
 | .box _,.row _ _ _,h => by cases h
 | .box _,.dead,h => by cases h
 | .row _ _ _,.box _,h => by cases h
 | .row _ _ _,.dead,h => by cases h
 | .dead,.box _,h => by cases h
 | .dead,.row _ _ _,h => by cases h
theorem rB : ∀ {H H' : Heap},preB H H' = true → ∃ X,H' = H ++ X
 | [],H',_ => ⟨H',rfl⟩
 | b :: r,c :: q,h => by
  simp only [preB,Bool.and_eq_true] at h
  obtain ⟨X,e⟩ := rB h.2
  exact ⟨X,by rw [eqB_spec h.1,e]; rfl⟩
 | _ :: _,[],h => by cases h
theorem Course.more {sts : List St} {E : Nat → Env} {hp : Nat → Heap} {val : Nat → AV} (hc : Course Γ cal sts E hp val) {i : Nat} {s : St} (hs : sts[i]? = some s) (hx : isX s.op = true → k9 s.op = true) : ∃ X,hp (i + 1) = hp i ++ X := by
 cases hq : isX s.op with
 | false => exact ⟨[],by rw [hc.quiet hs hq,List.append_nil]⟩
 | true =>
  have ha := hx hq
  have h := hc.one i s hs
  simp only [cu] at h
  split at h
  ·cases h
  ·simp only [Option.some.injEq,Prod.mk.injEq] at h; exact ⟨[],by rw [← h.2,List.append_nil]⟩
  ·cases hop : s.op with
   | inl q => rw [hop] at hq; cases hq
   | inr x =>
    rw [hop] at h ha
    cases x <;> try cases ha
    case h_3.inr.callwr.refl =>
     simp only [evX,lp,Option.map_eq_some_iff,Option.bind_eq_some_iff,ifB_some,Prod.mk.injEq] at h
     obtain ⟨r,⟨r',_,hk,e⟩,_,e2⟩ := h
     cases e
     obtain ⟨X,hX⟩ := rB hk
     exact ⟨X,by rw [← e2,hX]⟩
    case h_3.inr.brow.refl =>
     simp only [evX,yR] at h
     obtain ⟨cs,_,h⟩ := Option.bind_eq_some_iff.1 h
     obtain ⟨ps,_,h⟩ := Option.bind_eq_some_iff.1 h
     simp only [Option.ite_none_right_eq_some,Option.some.injEq,Prod.mk.injEq] at h
     exact ⟨_,h.2.2.symm⟩
    all_goals
     simp only [evX,Option.some.injEq,Prod.mk.injEq] at h
     exact ⟨_,h.2.symm⟩
theorem nD : ∀ {L : List Nat} {bs : List Blk} {H : Heap} {id : Nat},id ∉ L → (bC H L bs)[id]? = H[id]?
 | [],bs,H,id,_ => by cases bs <;> rfl
 | x :: L,[],H,id,_ => rfl
 | x :: L,b :: bs,H,id,h => by
  simp only [bC]
  rw [nD (fun hm => h (by simp [hm]))]
  exact List.getElem?_set_ne (fun e => h (by simp [e]))
theorem zE {H H' : Heap} {f : AV} {as rs : List AV} {fc : Nat × List AV} {id : Nat} (hf : callee f = some fc) (hid : id < H.length) (hn : id ∉ ct H 64 ((as ++ fc.2).flatMap AV.refs) []) (h : oO Γ cal H f as = some (rs,H')) : H'[id]? = H[id]? := by
 unfold oO at h
 rw [hf] at h
 simp only [Option.bind_some,ifB_some,Option.bind_eq_some_iff] at h
 obtain ⟨_,as',_,HL,_,r,_,r',_,h⟩ := h
 simp only [mG,Option.bind_eq_some_iff,Option.map_eq_some_iff,Prod.mk.injEq] at h
 obtain ⟨_,_,bs,_,_,rfl⟩ := h
 rw [List.getElem?_append_left (by rw [da]; exact hid),nD hn]
theorem kN {H : Heap} {L : List Nat} {ks : List AV} {id off : Nat} (h : mt H L ks = true) (hm : .bx id off ∈ ks) : id < H.length ∧ id ∉ L := by
 have := List.all_eq_true.1 h _ hm
 simpa using this
theorem yJ {H H' : Heap} {sz id off : Nat} {x v : AV} {ks : List AV} (h : nS H sz x v ks = some H') (hm : .bx id off ∈ ks) : H'[id]? = H[id]? := by
 simp only [nS,ifB_some] at h
 obtain ⟨h1,h2⟩ := h
 have hk := kN h1 hm
 unfold ia at h2
 split at h2
 ·obtain ⟨_,_,h2⟩ := Option.bind_eq_some_iff.1 h2
  simp only [Option.ite_none_right_eq_some,Option.some.injEq] at h2
  rw [← h2.2]
  exact List.getElem?_set_ne (fun e => hk.2 (by simp [e]))
 ·split at h2
  ·simp only [Option.ite_none_right_eq_some,Option.bind_eq_some_iff,Option.some.injEq] at h2
   obtain ⟨_,_,_,_,_,_,rfl⟩ := h2
   exact List.getElem?_set_ne (fun e => hk.2 (by simp [e]))
  ·cases h2
 ·cases h2
theorem vf : ∀ {L : List Nat} {H : Heap} {id : Nat},id ∉ L → (kill H L)[id]? = H[id]?
 | [],_,_,_ => rfl
 | x :: L,H,id,h => by
  simp only [kill]
  rw [vf (fun hm => h (by simp [hm]))]
  split
  ·exact List.getElem?_set_ne (fun e => h (by simp [e]))
  ·rfl
theorem kP : ∀ {xs : List PV} {l : List (List UInt8)},A7 xs = some l → xs = l.map .str
 | [],l,h => by cases h; rfl
 | x :: r,l,h => by
  cases x <;> simp only [A7,reduceCtorEq] at h
  obtain ⟨m,h1,rfl⟩ := Option.map_eq_some_iff.1 h
  rw [List.map_cons,← kP h1]
theorem appk_far {H H' : Heap} {sz id off : Nat} {x v : AV} {ys : List PV} {ks : List AV} (hb : jy H ks = true) (hm : .bx id off ∈ ks) (h : aW H sz x ys = some (v,H')) : H'[id]? = H[id]? := by
 have hb := List.all_eq_true.1 hb _ hm
 have hbox : ∃ cs,H[id]? = some (.box cs) := by
  simp only at hb
  split at hb
  ·rename_i e; exact ⟨_,e⟩
  ·cases hb
 obtain ⟨cs,hbox⟩ := hbox
 have hlt := (List.getElem?_eq_some_iff.1 hbox).1
 unfold aW at h
 split at h
 ·split at h
  ·rename_i e
   simp only [Option.ite_none_right_eq_some,Option.some.injEq,Prod.mk.injEq] at h
   rw [← h.2.2]
   exact List.getElem?_set_ne (fun e2 => by rw [e2,hbox] at e; cases e)
  ·cases h
 ·simp only [Option.ite_none_right_eq_some] at h
  obtain ⟨_,h⟩ := h
  split at h <;> simp only [Option.some.injEq,Prod.mk.injEq] at h <;> rw [← h.2]
  ·exact List.getElem?_append_left hlt
  ·exact List.getElem?_append_left hlt
 ·cases h
theorem mb {H H' : Heap} {id : Nat} (h : eV H H' id = true) : H'[id]? = H[id]? ∧ ∀ i n,H[id]? = some (.box [.own i n]) → rowLen H i n = true ∧ rowLen H' i n = true := by
 unfold eV at h
 split at h
 ·rename_i e1 e2
  simp only [Bool.and_eq_true,beq_iff_eq] at h
  obtain ⟨⟨⟨rfl,rfl⟩,h3⟩,h4⟩ := h
  refine ⟨by rw [e1,e2],fun i n e => ?_⟩
  rw [e1] at e
  simp only [Option.some.injEq,Blk.box.injEq,List.cons.injEq,AV.own.injEq,and_true] at e
  obtain ⟨rfl,rfl⟩ := e
  exact ⟨h3,h4⟩
 ·rename_i e1 e2
  simp only [beq_iff_eq] at h
  subst h
  refine ⟨by rw [e1,e2],fun i n e => ?_⟩
  rw [e1] at e
  simp at e
 ·rename_i e1 e2
  simp only [Bool.and_eq_true,beq_iff_eq] at h
  obtain ⟨rfl,h⟩ := h
  split at h
  ·rename_i l m e3 e4
   have h : l = m := by simpa using h
   subst h
   refine ⟨by rw [e1,e2,kP e3,kP e4],fun i n e => ?_⟩
   rw [e1] at e
   simp at e
  ·cases h
 ·rename_i e1 e2
  simp only [Bool.and_eq_true,Bool.not_eq_true'] at h
  refine ⟨by rw [e1,e2,fM h.1],fun i n e => ?_⟩
  rw [e1] at e
  simp only [Option.some.injEq,Blk.box.injEq] at e
  subst e
  cases h.2
 ·cases h
theorem o0 {H H' : Heap} {ks : List AV} {id off : Nat} (h : keepW H H' ks = true) (hm : .bx id off ∈ ks) : eV H H' id = true := List.all_eq_true.1 h _ hm
theorem sB {H : Heap} {i n : Nat} (h : rowLen H i n = true) : asLen H false (.own i n) = some n := by
 unfold rowLen at h
 split at h
 ·rename_i e
  simp only [beq_iff_eq] at h
  simp only [asLen,rowOf,e]
  rw [if_pos h]
  rfl
 ·cases h
theorem BA {H H' : Heap} {id off : Nat} {x : AV} (h : eV H H' id = true) : yp H' x (.bx id off) = yp H x (.bx id off) := by
 obtain ⟨h1,h2⟩ := mb h
 have hb : bN H' id = bN H id := by unfold bN; rw [h1]
 show (bN H' id).bind _ = (bN H id).bind _
 rw [hb]
 cases e : bN H id with
 | none => rfl
 | some cs =>
  have e' : H[id]? = some (.box cs) := by
   unfold bN at e
   split at e
   ·cases e
   ·rename_i e2; cases e; exact e2
   ·cases e
  simp only [Option.bind_some]
  cases hh : heldC cs x with
  | false => rfl
  | true =>
   unfold heldC at hh
   split at hh
   ·simp only [Bool.and_eq_true,beq_iff_eq] at hh
    obtain ⟨rfl,rfl⟩ := hh
    obtain ⟨h3,h4⟩ := h2 _ _ e'
    rw [sB h3,sB h4]
   ·rfl
   ·cases hh
theorem keep_far {σ : Nat → AV} {H H' : Heap} {x : XOp} {v : AV} {t id off : Nat} (h : evX Γ cal σ H x = some (v,H')) (ht : .v t ∈ fy (.inr x)) (hσ : σ t = .bx id off) : H'[id]? = H[id]? := by
 cases x <;> simp only [fy,List.not_mem_nil] at ht
 ·rename_i f as ks
  simp only [evX,sI,Option.map_eq_some_iff,Option.bind_eq_some_iff,ifB_some,Prod.mk.injEq] at h
  obtain ⟨⟨rs,H1⟩,⟨fc,hf,hk,hc⟩,_,rfl⟩ := h
  have hm : AV.bx id off ∈ ks.map (Arg.ev Γ σ) := List.mem_map.2 ⟨_,ht,hσ⟩
  obtain ⟨k1,k2⟩ := kN hk hm
  exact zE hf k1 k2 hc
 ·rename_i f as ks
  simp only [evX,jF,Option.map_eq_some_iff,Option.bind_eq_some_iff,ifB_some,Prod.mk.injEq] at h
  obtain ⟨r,⟨r',_,hk,e⟩,_,rfl⟩ := h
  cases e
  exact (mb (o0 hk (List.mem_map.2 ⟨_,ht,hσ⟩))).1
 ·rename_i sz x y ks
  simp only [evX,Option.map_eq_some_iff,Prod.mk.injEq] at h
  obtain ⟨H1,hc,_,rfl⟩ := h
  exact yJ hc (List.mem_map.2 ⟨_,ht,hσ⟩)
 ·rename_i sz x y ks
  simp only [evX,ifB_some,Option.bind_eq_some_iff] at h
  obtain ⟨hb,ys,_,h⟩ := h
  exact appk_far hb (List.mem_map.2 ⟨_,ht,hσ⟩) h
 ·rename_i sz ag n zero parts ks
  simp only [evX,bslkA,i6,Option.bind_eq_some_iff,ifB_some,cl,Option.map_eq_some_iff,Option.some.injEq,Prod.mk.injEq] at h
  obtain ⟨l,_,hk,l',rfl,q,⟨_,_,_,_,_,_,rfl⟩,_,_,rfl⟩ := h
  exact vf (kN hk (List.mem_map.2 ⟨_,ht,hσ⟩)).2
theorem keep_row {σ : Nat → AV} {H H' : Heap} {x : XOp} {v : AV} {t id off : Nat} (h : evX Γ cal σ H x = some (v,H')) (ht : .v t ∈ sc (.inr x)) (hσ : σ t = .bx id off) : eV H H' id = true := by
 cases x <;> simp only [sc,List.not_mem_nil] at ht
 rename_i f as ks
 simp only [evX,jF,Option.map_eq_some_iff,Option.bind_eq_some_iff,ifB_some,Prod.mk.injEq] at h
 obtain ⟨r,⟨r',_,hk,e⟩,_,rfl⟩ := h
 cases e
 exact o0 hk (List.mem_map.2 ⟨_,ht,hσ⟩)
theorem yE {x : QOp ⊕ XOp} {a : Arg} (h : a ∈ sc x) : a ∈ fy x := by
 unfold sc at h
 split at h
 ·exact h
 ·cases h
theorem keep_iff {s : St} {x : XOp} {σ σx : Nat → AV} {H H' : Heap} {v v0 : AV} (h : evX Γ cal σx H x = some (v0,H')) (hg : dW (.inr x) s.op = true)
  (hσ : ∀ t,(ji s.op = some t ∨ lenOf s.op = some t) → .v t ∈ fy (.inr x) → σ t = σx t) : cu Γ cal s σ H = some (v,H) ↔ cu Γ cal s σ H' = some (v,H') := by
 unfold dW at hg
 rw [Bool.or_eq_true] at hg
 rcases hg with hg | hg
 ·cases hl : ji s.op with
  | none => rw [hl] at hg; cases hg
  | some t =>
   rw [hl] at hg
   obtain ⟨a,ha,hat⟩ := List.any_eq_true.1 hg
   have := nA hat
   subst this
   have e1 := hσ t (.inl hl) ha
   unfold ji at hl
   split at hl
   rotate_left
   ·cases hl
   rename_i sz ag y t' hs'
   simp only [Option.some.injEq] at hl
   subst hl
   have key : evQ Γ cal σ H' (.loadk sz ag y (.v t')) = evQ Γ cal σ H (.loadk sz ag y (.v t')) := by
    simp only [evQ,Arg.ev]
    unfold oA
    split
    ·rename_i id off id' off' e2 e3
     split
     ·rename_i e4
      subst e4
      have e5 := keep_far h ha (by rw [← e1]; exact e3)
      simp only [eH,bN,e5]
     ·rfl
    ·rfl
   simp only [cu,hs',key]
   cases wanted σ s.g with
   | none => simp
   | some b => cases b <;> simp
 ·cases hl : lenOf s.op with
  | none => rw [hl] at hg; cases hg
  | some t =>
   rw [hl] at hg
   obtain ⟨a,ha,hat⟩ := List.any_eq_true.1 hg
   have := nA hat
   subst this
   have e1 := hσ t (.inr hl) (yE ha)
   unfold lenOf at hl
   split at hl
   rotate_left
   ·cases hl
   rename_i y t' hs'
   simp only [Option.some.injEq] at hl
   subst hl
   have key : evQ Γ cal σ H' (.lenk y (.v t')) = evQ Γ cal σ H (.lenk y (.v t')) := by
    simp only [evQ,Arg.ev]
    cases e2 : σ t' with
    | bx id off => exact BA (keep_row h ha (by rw [← e1]; exact e2))
    | _ => rfl
   simp only [cu,hs',key]
   cases wanted σ s.g with
   | none => simp
   | some b => cases b <;> simp
theorem Course.keep {sts : List St} {E : Nat → Env} {hp : Nat → Heap} {val : Nat → AV} (hc : Course Γ cal sts E hp val) {m : Nat} {sm s : St} (hs : sts[m]? = some sm) (hX : isX sm.op = true) (hg : dW sm.op s.op = true)
  {σ : Nat → AV} {v : AV} (hσ : ∀ t,(ji s.op = some t ∨ lenOf s.op = some t) → .v t ∈ fy sm.op → σ t = look (E m) t) : cu Γ cal s σ (hp m) = some (v,hp m) ↔ cu Γ cal s σ (hp (m + 1)) = some (v,hp (m + 1)) := by
 have h1 := hc.one m sm hs
 simp only [cu] at h1
 split at h1
 ·cases h1
 ·simp only [Option.some.injEq,Prod.mk.injEq] at h1
  rw [← h1.2]
 ·cases hop : sm.op with
  | inl q => rw [hop] at hX; cases hX
  | inr x =>
   rw [hop] at h1 hg hσ
   exact keep_iff h1 hg hσ
theorem Course.stay {sts : List St} {E : Nat → Env} {hp : Nat → Heap} {val : Nat → AV} (hc : Course Γ cal sts E hp val) {m : Nat} {sm s : St} (hs : sts[m]? = some sm) (hq : isX s.op = false) (hx : isX sm.op = true → goesBy sm.op s.op = true)
  {σ : Nat → AV} {v : AV} (hσ : ∀ t,(ji s.op = some t ∨ lenOf s.op = some t) → .v t ∈ fy sm.op → σ t = look (E m) t) (h : cu Γ cal s σ (hp m) = some (v,hp m)) : cu Γ cal s σ (hp (m + 1)) = some (v,hp (m + 1)) := by
 cases hX : isX sm.op with
 | false => rw [hc.quiet hs hX]; exact h
 | true =>
  have hg := hx hX
  unfold goesBy at hg
  rw [Bool.or_eq_true] at hg
  rcases hg with hg | hg
  ·simp only [Bool.and_eq_true] at hg
   obtain ⟨X,hX⟩ := hc.more hs (fun _ => hg.1)
   rw [hX]
   exact evOne_up hq h
  ·exact (hc.keep hs hX hg hσ).1 h
theorem Course.still {sts : List St} {E : Nat → Env} {hp : Nat → Heap} {val : Nat → AV} (hc : Course Γ cal sts E hp val) {t : Nat} (ht : ∀ (k : Nat) s,sts[k]? = some s → s.dst ≠ some t) : ∀ i,i ≤ sts.length → look (E i) t = look (E 0) t
 | 0,_ => rfl
 | i + 1,hi => by
  have hs : sts[i]? = some sts[i] := List.getElem?_eq_getElem (by omega)
  rw [hc.env i _ hs,kM,if_neg (ht i _ hs)]
  exact hc.still ht i (by omega)
theorem Course.grows {sts : List St} {E : Nat → Env} {hp : Nat → Heap} {val : Nat → AV} (hc : Course Γ cal sts E hp val) {k : Nat} : ∀ i,k ≤ i → i ≤ sts.length → (∀ (m : Nat) s,k ≤ m → m < i → sts[m]? = some s → isX s.op = true → k9 s.op = true) → ∃ X,hp i = hp k ++ X
 | 0,h,_,_ => ⟨[],by rw [show k = 0 by omega,List.append_nil]⟩
 | i + 1,h,hi,hq => by
  by_cases hk : k = i + 1
  ·exact ⟨[],by rw [hk,List.append_nil]⟩
  ·have hs : sts[i]? = some sts[i] := List.getElem?_eq_getElem (by omega)
   obtain ⟨X,hX⟩ := hc.grows (k := k) i (by omega) (by omega) fun m s h1 h2 => hq m s h1 (by omega)
   obtain ⟨Y,hY⟩ := hc.more hs (hq i _ (by omega) (by omega) hs)
   exact ⟨X ++ Y,by rw [hY,hX,List.append_assoc]⟩
end
section
variable {Γ : Ctx} {N : Names} {P : Program} {cal : Nat → List AV → Heap → Option (List AV × Heap)} {ops : Array Oper} {sts : List St}
theorem getD_both {listed : Array Bool} {i : Nat} (h : listed.getD i true = false) : listed.getD i false = false := by
 rcases Nat.lt_or_ge i listed.size with h' | h'
 ·simp [h'] at h ⊢; exact h
 ·simp [Array.getElem?_eq_none h'] at h
theorem getD_in {listed : Array Bool} {i : Nat} (hi : i < listed.size) (h : listed.getD i false = false) : listed.getD i true = false := by
 simp [hi] at h ⊢; exact h
theorem lG {listed : Array Bool} (hcl : ∀ (j : Nat) o,ops[j]? = some o → listed.getD j false = true → ∀ e ∈ o.after,Go.Region.binds .any e = true → listed.getD e.on false = true) {j i : Nat} (h : Waits ops j i) :
  listed.getD j false = true → listed.getD i false = true := by
 induction h with
 | one j o e ho he hb => exact fun hj => hcl j o ho hj e he hb
 | more j o e i ho he hb _ ih => exact fun hj => ih (hcl j o ho hj e he hb)
theorem tc {listed : Array Bool} (hcl : ∀ (j : Nat) o,ops[j]? = some o → listed.getD j false = true → ∀ e ∈ o.after,Go.Region.binds .any e = true → listed.getD e.on false = true) {j i : Nat}
  (hj : j ∈ Go.Region.ready .any ops listed) (h : Waits ops j i) : listed.getD i false = true := by
 obtain ⟨_,o,ho,hall⟩ := Go.mem_ready.1 hj
 cases h with
 | one _ o' e ho' he hb => rw [ho] at ho'; cases ho'; exact hall e he hb
 | more _ o' e i ho' he hb hw => rw [ho] at ho'; cases ho'; exact lG hcl hw (hall e he hb)
def Vin (n : Nat) : AV → Prop
 | .own id _ | .bx id _ | .el id _ _ _ | .mp id => id < n
 | _ => True
theorem RelV.vin {ν : Nat → Nat} {w : World} {S : Nat → Prop} {μ : Nat → Value} {H : Heap} {v : AV} {u : Value} (h : RelV ν w S μ H v u) : Vin H.length v := by
 cases h <;> first | assumption | trivial
theorem iK {H X : Heap} {id n : Nat} (h : id < H.length) : rowOf (H ++ X) id n = rowOf H id n := by
 unfold rowOf; rw [List.getElem?_append_left h]
theorem wT {H X : Heap} {id : Nat} (h : id < H.length) : bN (H ++ X) id = bN H id := by
 unfold bN; rw [List.getElem?_append_left h]
theorem wN {H X : Heap} {sz : Nat} {ag : Bool} : ∀ {v : AV},Vin H.length v → eH (H ++ X) sz ag v = eH H sz ag v
 | .p (.ptr _),_ => rfl
 | .bx _ _,h => by simp only [eH,wT (show _ < H.length from h)]
 | .el _ _ _ _,h => by simp only [eH,iK (show _ < H.length from h)]
 | .own _ _,_ => rfl
 | .mp _,_ => rfl
 | .agg _,_ => rfl
 | .tup _,_ => rfl
 | .clo _ _,_ => rfl
 | .nov,_ => rfl
 | .any,_ => rfl
 | .p (.int _ _),_ => rfl
 | .p (.bool _),_ => rfl
 | .p (.str _),_ => rfl
 | .p .nilp,_ => rfl
 | .p .nilfn,_ => rfl
 | .p .nilmap,_ => rfl
 | .p (.clo _ _),_ => rfl
 | .p (.sl _ _ _),_ => rfl
 | .p (.agg _),_ => rfl
theorem xB {H X : Heap} {b : Bool} {v : AV} (hv : Vin H.length v) : asLen (H ++ X) b v = asLen H b v := by
 unfold asLen
 split
 ·rfl
 ·rfl
 ·rename_i id n
  exact congrArg (Option.map fun _ => n) (iK (show id < H.length from hv))
 ·rfl
theorem t7 {H X : Heap} {sz : Nat} {v i : AV} (hv : Vin H.length v) : iaddrA (H ++ X) sz v i = iaddrA H sz v i := by
 unfold iaddrA
 split
 ·rfl
 ·rename_i id n k i
  rw [iK (X := X) (n := n) (show id < H.length from hv)]
 ·rfl
theorem sw {H X : Heap} {id n i : Nat} (h : id < H.length) : elOk (H ++ X) id n i = elOk H id n i := by
 unfold elOk; rw [iK h]
theorem sa {H X : Heap} {v : AV} (hv : Vin H.length v) : eS (H ++ X) v = eS H v := by
 unfold eS
 split
 ·rfl
 ·rfl
 ·rename_i id n i off
  rw [sw (X := X) (show id < H.length from hv)]
 ·rfl
 ·rfl
 ·rfl
theorem uI {H X : Heap} {o : Nat} {v : AV} (hv : Vin H.length v) : ju (H ++ X) o v = ju H o v := by
 unfold ju
 split
 ·rfl
 ·rfl
 ·rename_i id n i off
  rw [sw (X := X) (show id < H.length from hv)]
 ·rfl
theorem yw {s : St} {σ : Nat → AV} {H X : Heap} {v : AV} (hs : gx s.op = true) (hv : ∀ t ∈ s.reads,Vin H.length (σ t)) (h : cu Γ cal s σ (H ++ X) = some (v,H ++ X)) : cu Γ cal s σ H = some (v,H) := by
 have key : ∀ q : QOp,s.op = .inl q → evQ Γ cal σ (H ++ X) q = evQ Γ cal σ H q := fun q hq => by
  rw [hq] at hs
  unfold gx at hs
  split at hs
  ·rename_i sz ag t e
   cases e
   exact wN (hv t (by simp [St.reads,hq,kw,QOp.args,Arg.tmps]))
  ·rename_i b t e
   cases e
   exact congrArg (Option.map fun (n : Nat) => AV.p (.int .i64 (n : Int))) (xB (hv t (by simp [St.reads,hq,kw,QOp.args,Arg.tmps])))
  ·rename_i sz t i e
   cases e
   exact t7 (hv t (by simp [St.reads,hq,kw,QOp.args,Arg.tmps]))
  ·rename_i t e
   cases e
   exact sa (hv t (by simp [St.reads,hq,kw,QOp.args,Arg.tmps]))
  ·rename_i off t e
   cases e
   exact uI (hv t (by simp [St.reads,hq,kw,QOp.args,Arg.tmps]))
  ·cases hs
 have hx := vp hs
 unfold cu at h ⊢
 split at h
 ·cases h
 ·simp only [Option.some.injEq,Prod.mk.injEq] at h ⊢
  exact ⟨h.1,trivial⟩
 ·cases hop : s.op with
  | inr x => rw [hop] at hs; cases hs
  | inl q =>
   rw [hop] at h
   simp only [Option.map_eq_some_iff,Prod.mk.injEq] at h ⊢
   obtain ⟨v',h1,rfl,_⟩ := h
   exact ⟨v',by rw [← key q hop]; exact h1,rfl,trivial⟩
theorem s6 {j i m : Nat} (h : Waits ops j i) (h2 : Waits ops i m) : Waits ops j m := by
 induction h with
 | one j o e ho he hb => exact .more j o e m ho he hb h2
 | more j o e i ho he hb _ ih => exact .more j o e m ho he hb (ih h2)
theorem x8 {j m : Nat} (h : Waits ops j m) : ∃ p o e,ops[p]? = some o ∧ e ∈ o.after ∧ Go.Region.binds .any e = true ∧ e.on = m ∧ (p = j ∨ Waits ops j p) := by
 induction h with
 | one j o e ho he hb => exact ⟨j,o,e,ho,he,hb,rfl,.inl rfl⟩
 | more j o e i ho he hb _ ih =>
  obtain ⟨p,o',e',h1,h2,h3,h4,h5⟩ := ih
  refine ⟨p,o',e',h1,h2,h3,h4,.inr ?_⟩
  rcases h5 with rfl | h5
  ·exact .one j o e ho he hb
  ·exact .more j o e p ho he hb h5
structure Pend (N : Names) (ops : Array Oper) (sts : List St) (w0 : World) (listed : Array Bool) (a : Act) (w : World) (S : Nat → Prop) (μ : Nat → Value) (H : Heap) (m g : Nat) : Prop where
 late : LateAt ops sts m
 new : w0.heap.size ≤ g
 un : Un w S μ H g
 box : ∃ us T d z,sts[m]? = some ⟨some d,none,.inr (.alloc z)⟩ ∧ w.heap[g]? = some (.cells us T) ∧ CellsRel N.fn w S μ H (z.map .p) us ∧ a.tmps.getD d undef = .pointer (some ⟨g,0,none⟩) ∧
  ∀ (n : Nat) s',n ≠ m → sts[n]? = some s' → s'.dst = some d → listed.getD n false = false
def IsP (sts : List St) (listed : Array Bool) (k m : Nat) : Prop := k ≤ m ∧ listed.getD m false = true ∧ ∃ s,sts[m]? = some s ∧ isX s.op = true
structure Front (N : Names) (Γ : Ctx) (ops : Array Oper) (sts : List St) (E : Nat → Env) (hp : Nat → Heap) (w0 : World) (S0 : Nat → Prop) (μ0 : Nat → Value) (listed : Array Bool) (a : Act) (w : World) (S : Nat → Prop) (μ : Nat → Value) (k : Nat) (G : Nat → Nat) : Prop where
 step : Step N.fn w0 S0 μ0 (hp 0) w S μ (hp k)
 gl : GlRel Γ N w S
 le : k ≤ sts.length
 below : ∀ (m : Nat) s,m < k → sts[m]? = some s → isX s.op = true → listed.getD m false = true
 pend : ∀ m,IsP sts listed k m → Pend N ops sts w0 listed a w S μ (hp k) m (G m)
 dist : ∀ m n,IsP sts listed k m → IsP sts listed k n → G m = G n → m = n
 slots : ∀ t,(∀ (m : Nat) s,IsP sts listed k m → sts[m]? = some s → s.dst ≠ some t) → RelV N.fn w S μ (hp k) (look (E (jU sts (fun i => listed.getD i false) t sts.length)) t) (a.tmps.getD t undef)
def Bd (sts : List St) (listed : Array Bool) (k : Nat) : Prop :=
 ∀ m,IsP sts listed k m → ∃ n s',k ≤ n ∧ n < m ∧ sts[n]? = some s' ∧ isX s'.op = true ∧ listed.getD n false = false
theorem Front.catch {E : Nat → Env} {hp : Nat → Heap} {val : Nat → AV} (hC : Course Γ cal sts E hp val) {w0 w : World} {S0 S : Nat → Prop} {μ0 : Nat → Value} {listed : Array Bool} {a : Act} : ∀ (n : Nat) (μ : Nat → Value) (k : Nat) (G : Nat → Nat),sts.length - k = n →
  Front N Γ ops sts E hp w0 S0 μ0 listed a w S μ k G → ∃ μ' k' G',Front N Γ ops sts E hp w0 S0 μ0 listed a w S μ' k' G' ∧ Bd sts listed k' := by
 intro n
 induction n with
 | zero =>
  intro μ k G hn hF
  refine ⟨μ,k,G,hF,fun m hm => ?_⟩
  obtain ⟨h1,_,s,h2,_⟩ := hm
  have := (List.getElem?_eq_some_iff.1 h2).1
  have := hF.le
  omega
 | succ n ih =>
  intro μ k G hn hF
  have hk : k < sts.length := by omega
  have hs : sts[k]? = some sts[k] := List.getElem?_eq_getElem hk
  generalize sts[k] = s at hs
  have sub : ∀ m,IsP sts listed (k + 1) m → IsP sts listed k m := fun m hm => ⟨by have := hm.1; omega,hm.2⟩
  cases hx : isX s.op with
  | false =>
   have e := hC.quiet hs hx
   have back : ∀ m,IsP sts listed k m → IsP sts listed (k + 1) m := fun m hm => by
    refine ⟨?_,hm.2⟩
    obtain ⟨h1,_,s',h2,h3⟩ := hm
    have : k ≠ m := fun h => by subst h; rw [hs] at h2; cases h2; rw [hx] at h3; cases h3
    omega
   refine ih μ (k + 1) G (by omega) ⟨by rw [e]; exact hF.step,hF.gl,hk,fun m s' hm hs' hx' => ?_,fun m hm => by rw [e]; exact hF.pend m (sub m hm),fun m n hm hn => hF.dist m n (sub m hm) (sub n hn),fun t ht => by rw [e]; exact hF.slots t fun m s' hm => ht m s' (back m hm)⟩
   by_cases h : m = k
   ·subst h; rw [hs] at hs'; cases hs'; rw [hx] at hx'; cases hx'
   ·exact hF.below m s' (by omega) hs' hx'
  | true =>
   cases hl : listed.getD k false with
   | false =>
    refine ⟨μ,k,G,hF,fun m hm => ⟨k,s,Nat.le_refl _,?_,hs,hx,hl⟩⟩
    have : k ≠ m := fun h => by subst h; have := hm.2.1; rw [hl] at this; cases this
    have := hm.1
    omega
   | true =>
    have hP : IsP sts listed k k := ⟨Nat.le_refl _,hl,s,hs,hx⟩
    have hp0 := hF.pend k hP
    obtain ⟨us,T,d,z,q1,q2,q3,q4,q5⟩ := hp0.box
    rw [hs] at q1
    simp only [Option.some.injEq] at q1
    subst q1
    have hev := hC.one k _ hs
    simp only [cu,wanted,evX,Option.some.injEq,Prod.mk.injEq] at hev
    obtain ⟨v1,v2⟩ := hev
    obtain ⟨μ',b1,b2,b3,b4⟩ := hF.step.bind hp0.new hp0.un q2 q3
    rw [v2] at b1 b2 b3 b4
    rw [v1] at b4
    refine ih μ' (k + 1) G (by omega) ⟨b1,hF.gl,hk,fun m s' hm hs' hx' => ?_,fun m hm => ?_,fun m n hm hn => hF.dist m n (sub m hm) (sub n hn),fun t ht => ?_⟩
    ·by_cases h : m = k
     ·subst h; exact hl
     ·exact hF.below m s' (by omega) hs' hx'
    ·have hm0 := hF.pend m (sub m hm)
     obtain ⟨us,T,d',z',r1,r2,r3,r4⟩ := hm0.box
     refine ⟨hm0.late,hm0.new,b3 _ hm0.un fun h => ?_,us,T,d',z',r1,r2,r3.keep (fun _ h => h) (fun _ _ => rfl) b2,r4⟩
     have := hF.dist m k (sub m hm) hP h
     have := hm.1
     omega
    ·by_cases htd : t = d
     ·subst htd
      rw [qE (i := k) hl (by simp [gU,hs]) sts.length hk fun m hm hml hmd => ?_]
      ·rw [hC.env k _ hs,kM,if_pos rfl,q4]
       exact b4
      ·unfold gU at hmd
       obtain ⟨s',hs',hmd⟩ := Option.bind_eq_some_iff.1 hmd
       exact q5 m s' (by omega) hs' hmd
     ·refine (hF.slots t fun m s' hm hs' => ?_).keep (fun _ h => h) (fun _ _ => rfl) b2
      by_cases h : m = k
      ·subst h
       rw [hs] at hs'
       simp only [Option.some.injEq] at hs'
       subst hs'
       simp only [ne_eq,Option.some.injEq]
       exact fun e => htd e.symm
      ·exact ht m s' ⟨by have := hm.1; omega,hm.2⟩ hs'
structure Mid (N : Names) (Γ : Ctx) (ops : Array Oper) (sts : List St) (E : Nat → Env) (hp : Nat → Heap) (w0 : World) (S0 : Nat → Prop) (μ0 : Nat → Value) (a0 : Act) (listed : Array Bool) (a : Act) (w : World) : Prop where
 size : listed.size = sts.length
 closed : ∀ (j : Nat) o,ops[j]? = some o → listed.getD j false = true → ∀ e ∈ o.after,Go.Region.binds .any e = true → listed.getD e.on false = true
 tmps : a.tmps.size = a0.tmps.size
 defers : a.defers = a0.defers
 others : ∀ t,(∀ s ∈ sts,s.dst ≠ some t) → a.tmps.getD t undef = a0.tmps.getD t undef
 state : ∃ S μ k G,Front N Γ ops sts E hp w0 S0 μ0 listed a w S μ k G ∧ Bd sts listed k
theorem getD_set {listed : Array Bool} {i m : Nat} (hi : i < listed.size) : (listed.setIfInBounds i true).getD m false = (if i = m then true else listed.getD m false) := by
 by_cases h : i = m
 ·subst h; simp [hi]
 ·simp [Array.getD_eq_getD_getElem?,Array.getElem?_setIfInBounds_ne h,h]
theorem oU (hcal : dq Γ N P cal) {nt : Nat} (hD : Draw ops sts) (hst : ∀ (j : Nat) s,sts[j]? = some s → ∃ o,ops[j]? = some o ∧ mq P N ops nt o s = true) {E : Nat → Env} {hp : Nat → Heap} {val : Nat → AV}
  (hC : Course Γ cal sts E hp val) {w0 : World} {S0 : Nat → Prop} {μ0 : Nat → Value} {a0 : Act} (hn : nt ≤ a0.tmps.size) {Q : Exit → Act → World → Prop}
  (hQ : ∀ a' w' S' μ',Step N.fn w0 S0 μ0 (hp 0) w' S' μ' (hp sts.length) → Env.Rel Γ N w' S' μ' (hp sts.length) (look (E sts.length)) a' → a'.tmps.size = a0.tmps.size → a'.defers = a0.defers → (∀ t,(∀ s ∈ sts,s.dst ≠ some t) → a'.tmps.getD t undef = a0.tmps.getD t undef) → Q .normal a' w') :
  ∀ (fuel : Nat) (todo : List Nat) (listed : Array Bool) (a : Act) (w : World),todo.Nodup → (∀ i,i ∈ todo ↔ i < sts.length ∧ listed.getD i false = false) → todo.length ≤ fuel →
   Mid N Γ ops sts E hp w0 S0 μ0 a0 listed a w → Go.wpAny P .any ops Q fuel listed a w := by
 have done : ∀ (listed : Array Bool) (a : Act) (w : World),Mid N Γ ops sts E hp w0 S0 μ0 a0 listed a w → Go.Region.ready .any ops listed = [] → Q .normal a w := by
  intro listed a w hM hrd
  have all : ∀ i,i < sts.length → listed.getD i false = true := by
   intro i
   induction i using Nat.strongRecOn with
   | _ i ih =>
    intro hi
    cases hl : listed.getD i false with
    | true => rfl
    | false =>
     have ho : ops[i]? = some (ops[i]'(by rw [← hD.len]; exact hi)) := Array.getElem?_eq_getElem _
     have : i ∈ Go.Region.ready .any ops listed := Go.mem_ready.2 ⟨getD_in (by rw [hM.size]; exact hi) hl,_,ho,fun e he hb => ih e.on (hD.back i _ ho e he hb) (by have := hD.back i _ ho e he hb; omega)⟩
     rw [hrd] at this; cases this
  obtain ⟨S,μ,k,G,hF,hCt⟩ := hM.state
  have none : ∀ m,¬ IsP sts listed k m := fun m hm => by
   obtain ⟨n,s',_,h2,h3,_,h5⟩ := hCt m hm
   rw [all n (List.getElem?_eq_some_iff.1 h3).1] at h5; cases h5
  have hk : hp k = hp sts.length := by
   refine (hC.between sts.length hF.le (Nat.le_refl _) fun m s' h1 h2 hs' => ?_).symm
   cases hx : isX s'.op with
   | false => rfl
   | true => exact absurd ⟨h1,all m h2,s',hs',hx⟩ (none m)
  refine hQ a w S μ (by rw [← hk]; exact hF.step) ⟨fun t => ?_,hF.gl⟩ hM.tmps hM.defers hM.others
  have := hC.agree (L := fun i => listed.getD i false) (t := t) (i := sts.length) (fun k hd => ⟨fun _ => by
   unfold gU at hd
   cases hs : sts[k]? with
   | none => rw [hs] at hd; cases hd
   | some s => exact (List.getElem?_eq_some_iff.1 hs).1,fun h => all k h⟩) sts.length (Nat.le_refl _)
  rw [Nat.min_self] at this
  rw [← this,← hk]
  exact hF.slots t fun m _ hm => absurd hm (none m)
 intro fuel
 induction fuel with
 | zero =>
  intro todo listed a w hnd htodo hlen hM
  have hemp : todo = [] := by cases todo with | nil => rfl | cons x l => simp at hlen
  have hrd : Go.Region.ready .any ops listed = [] := by
   rw [List.eq_nil_iff_forall_not_mem]
   intro i hi
   obtain ⟨hun,o,ho,_⟩ := Go.mem_ready.1 hi
   have : i ∈ todo := (htodo i).2 ⟨by rw [hD.len]; exact (Array.getElem?_eq_some_iff.1 ho).1,getD_both hun⟩
   rw [hemp] at this; cases this
  exact ⟨hrd,done listed a w hM hrd⟩
 | succ fuel ih =>
  intro todo listed a w hnd htodo hlen hM
  refine ⟨done listed a w hM,fun i hi => ?_⟩
  obtain ⟨hun,o,ho,hall⟩ := Go.mem_ready.1 hi
  have hun := getD_both hun
  have hin : i < sts.length := by rw [hD.len]; exact (Array.getElem?_eq_some_iff.1 ho).1
  have hs : sts[i]? = some sts[i] := List.getElem?_eq_getElem hin
  generalize sts[i] = s at hs
  obtain ⟨o',ho',hso⟩ := hst i s hs
  rw [ho] at ho'; cases ho'
  obtain ⟨S,μ,k,G,hF,hCt⟩ := hM.state
  have wl : ∀ {j},Waits ops i j → listed.getD j false = true := fun h => tc hM.closed hi h
  have lw : ∀ {j},Waits ops j i → listed.getD j false = false := fun {j} h => by
   cases hj : listed.getD j false with
   | false => rfl
   | true => rw [lG hM.closed h hj] at hun; cases hun
  have hnw : ∀ m,IsP sts listed k m → ¬ Waits ops i m := fun m hm hw => by
   obtain ⟨n0,s0,_,h2,h3,h4,h5⟩ := hCt m hm
   obtain ⟨p,op,e,p1,p2,p3,p4,p5⟩ := x8 hw
   have hmp : m < p := by have := hD.back p op p1 e p2 p3; omega
   have hwp := (hF.pend m hm).late.all p op e p1 p2 p3 p4 n0 s0 (by omega) (by omega) h3 h4
   have hwi : Waits ops i n0 := by
    rcases p5 with rfl | p5
    ·exact hwp
    ·exact s6 p5 hwp
   rw [wl hwi] at h5; cases h5
  have hfree : ∀ {m j},LateAt ops sts m → ¬ Waits ops m j := fun {m j} hl hw => by
   cases hw with
   | one _ o' e ho' he hb => exact hl.free o' ho' e he hb
   | more _ o' e i ho' he hb hw => exact hl.free o' ho' e he hb
  have hnn : ∀ m s',IsP sts listed k m → sts[m]? = some s' → ∀ t ∈ s.names,s'.dst ≠ some t := fun m s' hm hs' t ht hd => by
   obtain ⟨n1,n2⟩ := hD.names i s hs t ht m s' hs' hd
   rcases Nat.lt_trichotomy m i with h | h | h
   ·exact hnw m hm (n1 h)
   ·subst h; have := hm.2.1; rw [hun] at this; cases this
   ·exact hfree (hF.pend m hm).late (n2 h)
  have hset := fun m => getD_set (m := m) (i := i) (listed := listed) (by rw [hM.size]; exact hin)
  have hdt : ∀ d,s.dst = some d → d < a.tmps.size := fun d hd => by
   simp only [mq,hd,Bool.and_eq_true,decide_eq_true_eq] at hso
   rw [hM.tmps]; omega
  -- what every step leaves
  have next : ∀ (u : Value) (w' : World),(∃ S' μ' k' G',Front N Γ ops sts E hp w0 S0 μ0 (listed.setIfInBounds i true) (a.put s.dst u) w' S' μ' k' G' ∧ Bd sts (listed.setIfInBounds i true) k') → Go.wpAny P .any ops Q fuel (listed.setIfInBounds i true) (a.put s.dst u) w' := fun u w' hst => by
   refine ih (todo.erase i) (listed.setIfInBounds i true) _ w' (hnd.erase i) (fun j => ?_) ?_ ⟨by simp [hM.size],fun j oj hoj hj e he hb => ?_,by rw [qP]; exact hM.tmps,by rw [put_defers]; exact hM.defers,fun t ht => by rw [dN (ht s (List.mem_of_getElem? hs))]; exact hM.others t ht,hst⟩
   ·rw [hnd.mem_erase_iff,htodo j,hset j]
    by_cases h : i = j
    ·subst h; simp
    ·simp [h,Ne.symm h]
   ·rw [List.length_erase_of_mem ((htodo i).2 ⟨hin,hun⟩)]; omega
   ·rw [hset j] at hj
    rw [hset e.on]
    by_cases h1 : i = e.on
    ·rw [if_pos h1]
    ·rw [if_neg h1]
     by_cases h2 : i = j
     ·subst h2
      rw [ho] at hoj; cases hoj
      exact hall e he hb
     ·rw [if_neg h2] at hj
      exact hM.closed j oj hoj hj e he hb
  have mine : ∀ m,IsP sts listed k m → ∀ d,(∃ s',sts[m]? = some s' ∧ s'.dst = some d) → s.dst ≠ some d := fun m hm d ⟨s',hs',hd⟩ h => hnn m s' hm hs' d (by simp [St.names,h]) hd
  by_cases hlate : LateAt ops sts i ∧ ∃ n0 s0,k ≤ n0 ∧ n0 < i ∧ sts[n0]? = some s0 ∧ isX s0.op = true ∧ listed.getD n0 false = false
  ·obtain ⟨hli,n0,s0,m1,m2,m3,m4,m5⟩ := hlate
   obtain ⟨d,z,hop⟩ := hli.op
   rw [hs] at hop
   simp only [Option.some.injEq] at hop
   subst hop
   have hr : Rel N.fn w S μ (hp k) := hF.step.rel
   refine AG ho hso (σ := fun _ => .any) (S := S) (μ := μ) (H := hp k) ⟨fun t => .any _,hF.gl⟩ fun us T hc => next _ _ ⟨S,μ,k,fun m => if m = i then w.heap.size else G m,?_,?_⟩
   ·have hgr := Grows.alloc w (.cells us T)
    have hst : Step N.fn w S μ (hp k) (w.alloc (.cells us T)) S μ (hp k) := .grow hr hgr (fun _ h => h) (fun g h => Nat.lt_of_lt_of_le (hr.lt g h) hgr.size) (fun _ h => .inl h)
    have keep := hr.keepS hgr
    have old : ∀ m,IsP sts (listed.setIfInBounds i true) k m → m ≠ i → IsP sts listed k m := fun m hm hne => ⟨hm.1,by have := hm.2.1; rwa [hset m,if_neg (Ne.symm hne)] at this,hm.2.2⟩
    refine ⟨hF.step.trans hst,hF.gl.step hr hst,hF.le,fun m s' hm hs' hx => ?_,fun m hm => ?_,fun m n hm hn hG => ?_,fun t ht => ?_⟩
    ·rw [hset m]
     split
     ·rfl
     ·exact hF.below m s' hm hs' hx
    ·by_cases h : m = i
     ·subst h
      simp only [if_true]
      refine ⟨hli,hF.step.ext.size,.fresh hr _,us,T,d,z,hs,Go.heap_alloc_new w _,hc.keep (fun _ h => h) keep .refl,jE (hdt d rfl),fun n s' hne hs' hd => ?_⟩
      rw [hset n,if_neg (Ne.symm hne)]
      obtain ⟨n1,n2⟩ := hD.names n s' hs' d (by simp [St.names,hd]) m _ hs rfl
      rcases Nat.lt_or_gt_of_ne hne with h | h
      ·exact absurd (n2 h) (hfree hli)
      ·exact lw (n1 h)
     ·have hm0 := old m hm h
      have hp0 := hF.pend m hm0
      obtain ⟨us',T',d',z',q1,q2,q3,q4,q5⟩ := hp0.box
      simp only [if_neg h]
      refine ⟨hp0.late,hp0.new,hp0.un.size hgr.size,us',T',d',z',q1,by rw [hgr.keep _ hp0.un.1]; exact q2,q3.keep (fun _ h => h) keep .refl,?_,fun n s' hne hs' hd => ?_⟩
      ·rw [dN (mine m hm0 d' ⟨_,q1,rfl⟩)]; exact q4
      ·rw [hset n,if_neg fun e => ?_]
       ·exact q5 n s' hne hs' hd
       ·subst e
        rw [hs] at hs'
        simp only [Option.some.injEq] at hs'
        subst hs'
        exact mine m hm0 d' ⟨_,q1,rfl⟩ hd
    ·by_cases h : m = i <;> by_cases h' : n = i
     ·rw [h,h']
     ·simp only [if_pos h,if_neg h'] at hG
      have := (hF.pend n (old n hn h')).un.1
      omega
     ·simp only [if_neg h,if_pos h'] at hG
      have := (hF.pend m (old m hm h)).un.1
      omega
     ·simp only [if_neg h,if_neg h'] at hG
      exact hF.dist m n (old m hm h) (old n hn h') hG
    ·have htd : some d ≠ some t := ht i _ ⟨by omega,by rw [hset i,if_pos rfl],_,hs,rfl⟩ hs
     rw [dN htd,jw (L' := fun m => listed.getD m false) sts.length fun m _ hmd => ?_]
     ·exact (hF.slots t fun m s' hm => ht m s' ⟨hm.1,by
       rw [hset m]
       split
       ·rfl
       ·exact hm.2.1,hm.2.2⟩).step hr hst
     ·rw [hset m,if_neg fun e => ?_]
      subst e; simp [gU,hs] at hmd; exact htd (by rw [hmd])
   ·intro m hm
    by_cases h : m = i
    ·subst h
     exact ⟨n0,s0,m1,m2,m3,m4,by rw [hset n0,if_neg (by omega)]; exact m5⟩
    ·have hm0 : IsP sts listed k m := ⟨hm.1,by have := hm.2.1; rwa [hset m,if_neg (Ne.symm h)] at this,hm.2.2⟩
     obtain ⟨n,s',c1,c2,c3,c4,c5⟩ := hCt m hm0
     by_cases h' : n = i
     ·subst h'
      exact ⟨n0,s0,m1,by omega,m3,m4,by rw [hset n0,if_neg (by omega)]; exact m5⟩
     ·exact ⟨n,s',c1,c2,c3,c4,by rw [hset n,if_neg (Ne.symm h')]; exact c5⟩
  -- memory is as in the order of the text,for those that look at it
  have xnf : ∀ {s : St},isX s.op = true → jj s.op = false := fun {s} h => by
   cases hs : s.op with
   | inl q => rw [hs] at h; cases h
   | inr x => rw [hs] at h; cases x <;> first | rfl | cases h
  have tailX : ∀ (j : Nat) (s1 : St),sts[j]? = some s1 → isX s1.op = true → ∀ (k : Nat) (s' : St),k < j → sts[k]? = some s' → jj s'.op = false → (goesBy s1.op s'.op = true ∨ dW s'.op s1.op = true ∨ (isX s1.op = false ∧ isX s'.op = false)) ∨ (LateAt ops sts j ∧ isX s'.op = true) ∨ Waits ops j k := fun j s1 h1 h2 => by
   rcases hD.tail j s1 h1 (xnf h2) ⟨j,s1,Nat.le_refl _,h1,h2⟩ with h | h
   ·rw [vp h.1] at h2; cases h2
   ·exact h
  have hmem : isX s.op = true → k ≤ i ∧ (∀ (m : Nat) s',k ≤ m → m < i → sts[m]? = some s' → isX s'.op = false) := fun hsx => by
   have before : ∀ (m : Nat) s',m < i → sts[m]? = some s' → isX s'.op = true → listed.getD m false = true := fun m s' hm hs' hx' => by
    rcases tailX i s hs hsx m s' hm hs' (xnf hx') with (h | h | h) | h | h
    ·rw [vt h] at hx'; cases hx'
    ·rw [lC h] at hsx; cases hsx
    ·rw [h.1] at hsx; cases hsx
    ·cases hl : listed.getD m false with
     | true => rfl
     | false =>
      refine absurd ⟨h.1,m,s',?_,hm,hs',hx',hl⟩ hlate
      rcases Nat.lt_or_ge m k with hlt | hge
      ·rw [hF.below m s' hlt hs' hx'] at hl; cases hl
      ·exact hge
    ·exact wl h
   refine ⟨?_,fun m s' h7 h8 hs' => ?_⟩
   ·rcases Nat.lt_or_ge i k with hlt | hge
    ·rw [hF.below i s hlt hs hsx] at hun; cases hun
    ·exact hge
   ·cases hx : isX s'.op with
    | false => rfl
    | true =>
     obtain ⟨n,s2,c1,c2,c3,c4,c5⟩ := hCt m ⟨h7,before m s' h8 hs' hx,s',hs',hx⟩
     rw [before n s2 (by omega) c3 c4] at c5; cases c5
  have hhp : jj s.op = false → hp i = hp k ∨ (isX s.op = false ∧ ∀ σ v,(∀ t,(ji s.op = some t ∨ lenOf s.op = some t) → σ t = look (E i) t) → (∀ t ∈ s.reads,Vin (hp k).length (σ t)) → cu Γ cal s σ (hp i) = some (v,hp i) → cu Γ cal s σ (hp k) = some (v,hp k)) := fun hf => by
   cases hsx : isX s.op with
   | true =>
    have h := hmem hsx
    exact .inl (hC.between i h.1 (by omega) fun m s' h7 h8 hs' => h.2 m s' h7 h8 hs')
   | false =>
    refine .inr ⟨rfl,fun σ v hσ hvin hev => ?_⟩
    have slot : ∀ (m : Nat) sm,m ≤ sts.length → sts[m]? = some sm → ∀ t,(ji s.op = some t ∨ lenOf s.op = some t) → .v t ∈ fy sm.op → σ t = look (E m) t := fun m sm hml hs2 t ht hk => by
     have hw := fun (k : Nat) s' hs' => hD.keep m _ hs2 t hk k s' hs'
     rw [hσ t ht,hC.still hw i (by omega),hC.still hw m hml]
    by_cases hik : i ≤ k
    ·
     have alloc : ∀ (m : Nat) (s2 : St),i ≤ m → m < k → sts[m]? = some s2 → isX s2.op = true → goesBy s2.op s.op = true := fun m s2 h7 h8 hs2 hx2 => by
      have hne : i ≠ m := fun h => by subst h; rw [hs] at hs2; cases hs2; rw [hsx] at hx2; cases hx2
      rcases tailX m s2 hs2 hx2 i s (by omega) hs hf with (h | h | h) | h | h
      ·exact h
      ·rw [lC h] at hx2; cases hx2
      ·rw [h.1] at hx2; cases hx2
      ·rw [hsx] at h; cases h.2
      ·have hml := hF.below m s2 h8 hs2 hx2
       rw [lw h] at hml; cases hml
     have hkl := hF.le
     have go : ∀ n,i + n ≤ k → cu Γ cal s σ (hp (i + n)) = some (v,hp (i + n)) := by
      intro n
      induction n with
      | zero => exact fun _ => hev
      | succ n ihn =>
       intro hn
       have hs2 : sts[i + n]? = some sts[i + n] := List.getElem?_eq_getElem (by omega)
       exact hC.stay hs2 hsx (alloc (i + n) _ (by omega) (by omega) hs2) (slot (i + n) _ (by omega) hs2) (ihn (by omega))
     have := go (k - i) (by omega)
     rwa [show i + (k - i) = k by omega] at this
    ·
     by_cases hxb : ∃ (m : Nat) (s1 : St),k ≤ m ∧ m < i ∧ sts[m]? = some s1 ∧ isX s1.op = true
     rotate_left
     ·have e : hp i = hp k := hC.between i (by omega) (by omega) fun m s' h7 h8 hs' => by
       cases hx : isX s'.op with
       | false => rfl
       | true => exact absurd ⟨m,s',h7,h8,hs',hx⟩ hxb
      rw [e] at hev; exact hev
     obtain ⟨m0,sm0,g1,g2,g3,g4⟩ := hxb
     rcases hD.tail i s hs hf ⟨m0,sm0,by omega,g3,g4⟩ with hdn | htail
     ·obtain ⟨X,hX⟩ := hC.grows (k := k) i (by omega) (by omega) fun m s' h7 h8 hs' hx' => by
       rcases hdn.2 m s' h8 hs' hx' with h | h
       ·exact h
       ·exact absurd h (hnw m ⟨h7,wl h,s',hs',hx'⟩)
      rw [hX] at hev
      exact yw hdn.1 hvin hev
     have go : ∀ n,n ≤ i - k → cu Γ cal s σ (hp (i - n)) = some (v,hp (i - n)) := by
      intro n
      induction n with
      | zero => exact fun _ => hev
      | succ n ihn =>
       intro hn
       have ihn := ihn (by omega)
       have hs2 : sts[i - (n + 1)]? = some sts[i - (n + 1)] := List.getElem?_eq_getElem (by omega)
       generalize sts[i - (n + 1)] = sm at hs2
       have em : i - n = i - (n + 1) + 1 := by omega
       rw [em] at ihn
       cases hx2 : isX sm.op with
       | false => rw [hC.quiet hs2 hx2] at ihn; exact ihn
       | true =>
        rcases htail (i - (n + 1)) sm (by omega) hs2 (xnf hx2) with (h | h | h) | h | h
        ·rw [vt h] at hx2; cases hx2
        ·exact (hC.keep hs2 hx2 h (slot _ _ (by omega) hs2)).2 ihn
        ·rw [h.2] at hx2; cases hx2
        ·obtain ⟨d,z,hop⟩ := h.1.op
         rw [hs] at hop
         simp only [Option.some.injEq] at hop
         subst hop
         cases hsx
        ·exact absurd h (hnw _ ⟨by omega,wl h,sm,hs2,hx2⟩)
     have := go (i - k) (Nat.le_refl _)
     rwa [show i - (i - k) = k by omega] at this
  -- names are as in the order of the text
  have hnm : ∀ t ∈ s.names,look (E (jU sts (fun i => listed.getD i false) t sts.length)) t = look (E i) t := fun t ht => by
   have := hC.agree (L := fun i => listed.getD i false) (t := t) (i := i) (fun m hd => by
    unfold gU at hd
    obtain ⟨s',hs',hd⟩ := Option.bind_eq_some_iff.1 hd
    obtain ⟨n1,n2⟩ := hD.names i s hs t ht m s' hs' hd
    refine ⟨fun hm => ?_,fun hm => wl (n1 hm)⟩
    rcases Nat.lt_trichotomy m i with h | h | h
    ·exact h
    ·subst h; have hm : listed.getD m false = true := hm; rw [hm] at hun; cases hun
    ·have hm : listed.getD m false = true := hm; rw [lw (n2 h)] at hm; cases hm) sts.length (Nat.le_refl _)
   rw [this,Nat.min_eq_left (by omega)]
  have hev := hC.one i s hs
  obtain ⟨Hn,hσ,hX,hQn⟩ : ∃ Hn,cu Γ cal s (fun t => if t ∈ s.reads then look (E i) t else .any) (hp k) = some (val i,Hn) ∧ (isX s.op = true → Hn = hp (i + 1)) ∧ (isX s.op = false → Hn = hp k) := by
   have hσ : cu Γ cal s (fun t => if t ∈ s.reads then look (E i) t else .any) (hp i) = some (val i,hp (i + 1)) := by
    rw [← hev]
    exact uy fun t ht => by simp [ht]
   cases hf : jj s.op with
   | true => exact ⟨hp k,xu hf hσ,(fun hx => by rw [xnf hx] at hf; exact Bool.noConfusion hf),fun _ => rfl⟩
   | false =>
    rcases hhp hf with h | ⟨hx,hX⟩
    ·exact ⟨hp (i + 1),by rw [← h]; exact hσ,fun _ => rfl,fun hx => by rw [hC.quiet hs hx,h]⟩
    ·refine ⟨hp k,hX _ _ (fun t ht => ?_) (fun t ht => ?_) (by rw [hC.quiet hs hx] at hσ; exact hσ),(fun h => by rw [hx] at h; cases h),fun _ => rfl⟩
     rotate_left
     ·rw [if_pos ht,← hnm t (by simp [St.names,ht])]
      exact (hF.slots t fun m s' hm hs' => hnn m s' hm hs' t (by simp [St.names,ht])).vin
     have : t ∈ s.reads := by
      rcases ht with ht | ht
      ·unfold ji at ht
       split at ht
       ·rename_i hop
        simp only [Option.some.injEq] at ht
        subst ht
        simp [St.reads,hop,kw,QOp.args,Arg.tmps]
       ·cases ht
      ·unfold lenOf at ht
       split at ht
       ·rename_i hop
        simp only [Option.some.injEq] at ht
        subst ht
        simp [St.reads,hop,kw,QOp.args,Arg.tmps]
       ·cases ht
     rw [if_pos this]
  have he : Env.Rel Γ N w S μ (hp k) (fun t => if t ∈ s.reads then look (E i) t else .any) a := by
   refine ⟨fun t => ?_,hF.gl⟩
   by_cases ht : t ∈ s.reads
   ·have := hF.slots t fun m s' hm hs' => hnn m s' hm hs' t (by simp [St.names,ht])
    rw [hnm t (by simp [St.names,ht])] at this
    rw [if_pos ht]
    exact this
   ·rw [if_neg ht]; exact .any _
  have hr : Rel N.fn w S μ (hp k) := hF.step.rel
  refine sj hcal ho hso he hr hσ fun u w' S' μ' hstep hu => next u w' ?_
  have hdd : gU sts i = s.dst := by simp [gU,hs]
  -- how far memory is now
  obtain ⟨k',e1,e2,e3,e4,e5⟩ : ∃ k',Hn = hp k' ∧ k' ≤ sts.length ∧ (∀ (m : Nat) s',m < k' → sts[m]? = some s' → isX s'.op = true → (listed.setIfInBounds i true).getD m false = true) ∧ (∀ m,IsP sts (listed.setIfInBounds i true) k' m → IsP sts listed k m ∧ m ≠ i) ∧
    (∀ m,IsP sts listed k m → IsP sts (listed.setIfInBounds i true) k' m) := by
   have up : ∀ m,listed.getD m false = true → (listed.setIfInBounds i true).getD m false = true := fun m hm => by
    rw [hset m]
    split
    ·rfl
    ·exact hm
   cases hx : isX s.op with
   | true =>
    have h := hmem hx
    have lo : ∀ m,IsP sts listed k m → i + 1 ≤ m := fun m hm => by
     obtain ⟨m1,m2,s',m3,m4⟩ := hm
     rcases Nat.lt_trichotomy m i with hlt | rfl | hgt
     ·rw [h.2 m s' m1 hlt m3] at m4; cases m4
     ·rw [hun] at m2; cases m2
     ·exact hgt
    refine ⟨i + 1,hX hx,hin,fun m s' hm hs' hx' => ?_,fun m hm => ?_,fun m hm => ⟨lo m hm,up m hm.2.1,hm.2.2⟩⟩
    ·rcases Nat.lt_trichotomy m i with hlt | rfl | hgt
     ·rcases Nat.lt_or_ge m k with hlk | hge
      ·exact up m (hF.below m s' hlk hs' hx')
      ·rw [h.2 m s' hge hlt hs'] at hx'; cases hx'
     ·rw [hset m,if_pos rfl]
     ·omega
    ·have hne : i ≠ m := by have := hm.1; omega
     exact ⟨⟨by have := hm.1; have := h.1; omega,by have := hm.2.1; rwa [hset m,if_neg hne] at this,hm.2.2⟩,Ne.symm hne⟩
   | false =>
    refine ⟨k,hQn hx,hF.le,fun m s' hm hs' hx' => up m (hF.below m s' hm hs' hx'),fun m hm => ?_,fun m hm => ⟨hm.1,up m hm.2.1,hm.2.2⟩⟩
    have hne : i ≠ m := fun e => by
     subst e
     obtain ⟨_,_,s',m3,m4⟩ := hm
     rw [hs] at m3; cases m3; rw [hx] at m4; cases m4
    exact ⟨⟨hm.1,by have := hm.2.1; rwa [hset m,if_neg hne] at this,hm.2.2⟩,Ne.symm hne⟩
  subst e1
  have step' : Step N.fn w S μ (hp k) w' S' μ' (hp k') := hstep
  have keep : ∀ g,S g → w'.heap[g]? = w.heap[g]? := fun g hg => step'.ext.keep g (hr.lt g hg) fun ha => hr.apart g ha hg
  refine (fun (hF2 : Front N Γ ops sts E hp w0 S0 μ0 (listed.setIfInBounds i true) (a.put s.dst u) w' S' μ' k' G) => ?_)
   ⟨hF.step.trans step',hF.gl.step hr step',e2,e3,fun m hm => ?_,fun m n hm hn => hF.dist m n (e4 m hm).1 (e4 n hn).1,fun t ht => ?_⟩
  ·obtain ⟨μ2,k2,G2,f1,f2⟩ := hF2.catch hC _ μ' k' G rfl
   exact ⟨S',μ2,k2,G2,f1,f2⟩
  ·obtain ⟨hm0,hne⟩ := e4 m hm
   have hp0 := hF.pend m hm0
   obtain ⟨us',T',d',z',q1,q2,q3,q4,q5⟩ := hp0.box
   obtain ⟨u1,u2⟩ := hp0.un.run step'.run
   refine ⟨hp0.late,hp0.new,u1,us',T',d',z',q1,by rw [u2]; exact q2,q3.keep step'.ext.more keep step'.moves,?_,fun n s' hne hs' hd => ?_⟩
   ·rw [dN (mine m hm0 d' ⟨_,q1,rfl⟩)]; exact q4
   ·rw [hset n,if_neg fun e => ?_]
    ·exact q5 n s' hne hs' hd
    ·subst e
     rw [hs] at hs'
     simp only [Option.some.injEq] at hs'
     subst hs'
     exact mine m hm0 d' ⟨_,q1,rfl⟩ hd
  ·by_cases htd : s.dst = some t
   ·rw [qE (i := i) (by simp [hset]) (by rw [hdd]; exact htd) sts.length hin fun m hm hml hmd => ?_]
    ·rw [hC.env i s hs,kM,if_pos htd,htd,jE (hdt t htd)]
     exact hu
    ·rw [hset m,if_neg (by omega)]
     unfold gU at hmd
     obtain ⟨s',hs',hmd⟩ := Option.bind_eq_some_iff.1 hmd
     exact lw ((hD.names i s hs t (by simp [St.names,htd]) m s' hs' hmd).2 hm)
   ·rw [dN htd,jw (L' := fun m => listed.getD m false) sts.length fun m _ hmd => ?_]
    ·exact (hF.slots t fun m s' hm => ht m s' (e5 m hm)).step hr step'
    ·rw [hset m,if_neg fun e => ?_]
     subst e; rw [hdd] at hmd; exact htd hmd
end
end Ab
