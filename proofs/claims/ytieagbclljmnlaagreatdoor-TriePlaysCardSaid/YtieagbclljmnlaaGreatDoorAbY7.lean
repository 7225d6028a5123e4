import Derived.Test.YtieagbclljmnlaaGreatDoorAbY4
namespace Ab
open Go (IntKind BinOp UnOp World Value Addr Obj undef maxLen Program TypeId Oper Op Operand Act Sem Next Result execOp Builtin Calls Ending Exit)
inductive Waits (ops : Array Oper) : Nat → Nat → Prop
 | one (j : Nat) (o : Oper) (e : Go.Edge) : ops[j]? = some o → e ∈ o.after → Go.Region.binds .any e = true → Waits ops j e.on
 | more (j : Nat) (o : Oper) (e : Go.Edge) (i : Nat) : ops[j]? = some o → e ∈ o.after → Go.Region.binds .any e = true → Waits ops e.on i → Waits ops j i
def orMask (acc : List Nat) : List Go.Edge → Nat → Nat
 | [],m => m
 | e :: es,m => orMask acc es (match Go.Region.binds .any e with | true => m ||| 2 ^ e.on ||| acc.getD e.on 0 | false => m)
def masks : List Oper → List Nat → List Nat
 | [],acc => acc
 | o :: os,acc => masks os (acc ++ [orMask acc o.after.toList 0])
theorem orMask_spec {ops : Array Oper} {j : Nat} {o : Oper} {acc : List Nat} (ho : ops[j]? = some o) (hacc : ∀ (k m i : Nat),acc[k]? = some m → m.testBit i = true → Waits ops k i) :
  ∀ (es : List Go.Edge) (m : Nat),(∀ e ∈ es,e ∈ o.after) → (∀ i,m.testBit i = true → Waits ops j i) → ∀ i,(orMask acc es m).testBit i = true → Waits ops j i
 | [],m,_,hm,i,h => hm i h
 | e :: es,m,he,hm,i,h => by
  refine orMask_spec ho hacc es _ (fun e' h' => he e' (by simp [h'])) (fun i hi => ?_) i h
  cases hb : Go.Region.binds .any e with
  | false => rw [hb] at hi; exact hm i hi
  | true =>
   rw [hb] at hi
   simp only [Nat.testBit_or,Bool.or_eq_true] at hi
   rcases hi with (hi | hi) | hi
   ·exact hm i hi
   ·rw [Nat.testBit_two_pow] at hi
    have : e.on = i := by simpa using hi
    subst this
    exact .one j o e ho (he e (by simp)) hb
   ·cases hg : acc[e.on]? with
    | none => simp [List.getD_eq_getElem?_getD,hg] at hi
    | some x =>
     simp only [List.getD_eq_getElem?_getD,hg,Option.getD_some] at hi
     exact .more j o e i ho (he e (by simp)) hb (hacc _ _ _ hg hi)
theorem masks_spec {ops : Array Oper} : ∀ (os : List Oper) (acc : List Nat),(∀ j,os[j]? = ops[acc.length + j]?) → (∀ (k m i : Nat),acc[k]? = some m → m.testBit i = true → Waits ops k i) →
  ∀ (k m i : Nat),(masks os acc)[k]? = some m → m.testBit i = true → Waits ops k i
 | [],acc,_,hacc => hacc
 | o :: os,acc,hos,hacc => by
  have ho : ops[acc.length]? = some o := by simpa using (hos 0).symm
  refine masks_spec os _ (fun j => ?_) (fun k m i hk hi => ?_)
  ·have := hos (j + 1)
   simp only [List.getElem?_cons_succ] at this
   rw [this]; congr 1; simp; omega
  ·by_cases hlt : k < acc.length
   ·rw [List.getElem?_append_left hlt] at hk; exact hacc k m i hk hi
   ·rw [List.getElem?_append_right (by omega)] at hk
    have hk0 : k - acc.length = 0 := by
     cases h : k - acc.length with
     | zero => rfl
     | succ n => rw [h] at hk; simp at hk
    rw [hk0] at hk
    simp only [List.getElem?_cons_zero,Option.some.injEq] at hk
    have : k = acc.length := by omega
    subst this
    subst hk
    exact orMask_spec ho hacc o.after.toList 0 (fun e he => by simpa using he) (by simp) i hi
def isX : QOp ⊕ XOp → Bool
 | .inl _ => false
 | .inr (.pureq _) => false
 | .inr _ => true
def isFree : QOp ⊕ XOp → Bool
 | .inl (.mov _) | .inl (.pick _ _ _) | .inl (.bin _ _ _) | .inl (.eqs _ _ _ _) | .inl (.eqk _ _ _ _) | .inl (.un _ _) | .inl (.conv _ _) | .inl (.same _) | .inl (.idx _ _) | .inl (.aidx _ _ _ _ _)
 | .inl (.fld _ _ _ _) | .inl (.sliceS _ _ _) | .inl (.slice _ _ _ _) | .inl (.build _ _) | .inl (.bslice _ _ _ _ _) | .inl (.ext _ _) | .inl (.minmax _ _) | .inl (.clos _ _) | .inl (.appq _ _ _) | .inr (.pureq _) => true
 | _ => false
def isAlloc : QOp ⊕ XOp → Bool
 | .inr (.alloc _) | .inr (.newrow _) | .inr (.brow _ _ _ _ _) | .inr .mkmap => true
 | _ => false
def keepsOf : QOp ⊕ XOp → List Arg
 | .inr (.callk _ _ ks) | .inr (.callwk _ _ ks) | .inr (.storek _ _ _ ks) | .inr (.appk _ _ _ ks) | .inr (.bslk _ _ _ _ _ ks) => ks
 | _ => []
def loadOf : QOp ⊕ XOp → Option Nat
 | .inl (.loadk _ _ _ (.v t)) => some t
 | _ => none
def keepsW : QOp ⊕ XOp → List Arg
 | .inr (.callwk _ _ ks) => ks
 | _ => []
def lenOf : QOp ⊕ XOp → Option Nat
 | .inl (.lenk _ (.v t)) => some t
 | _ => none
def argIsV (t : Nat) : Arg → Bool
 | .v s => s == t
 | _ => false
def goesKeep (x q : QOp ⊕ XOp) : Bool := (match loadOf q with | some t => (keepsOf x).any (argIsV t) | none => false) || (match lenOf q with | some t => (keepsW x).any (argIsV t) | none => false)
def goesBy (x q : QOp ⊕ XOp) : Bool := (isAlloc x && !isX q) || goesKeep x q
theorem argIsV_spec {t : Nat} {a : Arg} (h : argIsV t a = true) : a = .v t := by
 cases a <;> simp [argIsV] at h
 rw [h]
theorem goesKeep_q {x q : QOp ⊕ XOp} (h : goesKeep x q = true) : isX q = false := by
 unfold goesKeep at h
 rw [Bool.or_eq_true] at h
 rcases h with h | h
 ·unfold loadOf at h
  split at h
  ·rename_i e
   split at e
   ·rfl
   ·cases e
  ·cases h
 ·unfold lenOf at h
  split at h
  ·rename_i e
   split at e
   ·rfl
   ·cases e
  ·cases h
theorem goesBy_q {x q : QOp ⊕ XOp} (h : goesBy x q = true) : isX q = false := by
 unfold goesBy at h
 rw [Bool.or_eq_true] at h
 rcases h with h | h
 ·simp only [Bool.and_eq_true,Bool.not_eq_true'] at h; exact h.2
 ·exact goesKeep_q h
def keepsOk (dsts : List (Option Nat)) (s : St) : Bool := (keepsOf s.op).all fun a => match a with
 | .v t => !dsts.contains (some t)
 | _ => true
def St.names (s : St) : List Nat := s.dst.toList ++ s.reads
def namesOk (M : List Nat) (dsts : List (Option Nat)) (i : Nat) (s : St) : Bool :=
 s.names.all fun t => (List.range dsts.length).all fun k => match dsts[k]? with
  | some (some d) => if d = t then (if k < i then (M.getD i 0).testBit k else if i < k then (M.getD k 0).testBit i else true) else true
  | _ => true
def tailOk (M : List Nat) (F : List Bool) (O : List (QOp ⊕ XOp)) : Nat → Bool → List St → Bool
 | _,_,[] => true
 | i,x,s :: r => match x || isX s.op with
  | true => (isFree s.op || (List.range i).all (fun k => F.getD k false || goesBy s.op (O.getD k (.inr .mkmap)) || goesKeep (O.getD k (.inr .mkmap)) s.op || (!isX s.op && !isX (O.getD k (.inr .mkmap))) || (M.getD i 0).testBit k)) && tailOk M F O (i + 1) true r
  | false => tailOk M F O (i + 1) false r
def backOk : Nat → List Oper → Bool
 | _,[] => true
 | i,o :: r => o.after.toList.all (fun e => match Go.Region.binds .any e with | true => decide (e.on < i) | false => true) && backOk (i + 1) r
def allNames (M : List Nat) (dsts : List (Option Nat)) : Nat → List St → Bool
 | _,[] => true
 | i,s :: r => namesOk M dsts i s && allNames M dsts (i + 1) r
def drawOk (ops : List Oper) (sts : List St) : Bool :=
 let M := masks ops []
 backOk 0 ops && tailOk M (sts.map fun s => isFree s.op) (sts.map (·.op)) 0 false sts && allNames M (sts.map (·.dst)) 0 sts && sts.all (keepsOk (sts.map (·.dst)))
theorem getD_bit {M : List Nat} {i k : Nat} (h : (M.getD i 0).testBit k = true) : ∃ m,M[i]? = some m ∧ m.testBit k = true := by
 cases hm : M[i]? with
 | none => simp [List.getD_eq_getElem?_getD,hm] at h
 | some m => simp only [List.getD_eq_getElem?_getD,hm,Option.getD_some] at h; exact ⟨m,rfl,h⟩
theorem backOk_spec : ∀ (l : List Oper) (i : Nat),backOk i l = true → ∀ (j : Nat) o,l[j]? = some o → ∀ e ∈ o.after,Go.Region.binds .any e = true → e.on < i + j
 | o :: l,i,h,j,o',hj,e,he,hb => by
  simp only [backOk,Bool.and_eq_true] at h
  cases j with
  | zero =>
   simp only [List.getElem?_cons_zero,Option.some.injEq] at hj; subst hj
   have := List.all_eq_true.1 h.1 e (by simpa using he)
   rw [hb] at this
   simpa using this
  | succ j => have := backOk_spec l (i + 1) h.2 j o' (by simpa using hj) e he hb; omega
 | [],_,_,_,_,hj,_,_,_ => by simp at hj
theorem tailOk_spec {M : List Nat} {F : List Bool} {O : List (QOp ⊕ XOp)} : ∀ (l : List St) (i : Nat) (x : Bool),tailOk M F O i x l = true → ∀ (j : Nat) (s : St),l[j]? = some s → isFree s.op = false → (x = true ∨ ∃ k s,k ≤ j ∧ l[k]? = some s ∧ isX s.op = true) →
  ∀ k < i + j,((F.getD k false = true ∨ goesBy s.op (O.getD k (.inr .mkmap)) = true) ∨ goesKeep (O.getD k (.inr .mkmap)) s.op = true ∨ (isX s.op = false ∧ isX (O.getD k (.inr .mkmap)) = false)) ∨ (M.getD (i + j) 0).testBit k = true
 | s :: l,i,x,h,j,s0,hj,hf,hx,k,hk => by
  simp only [tailOk] at h
  split at h
  ·rename_i hb
   simp only [Bool.and_eq_true,Bool.or_eq_true] at h
   cases j with
   | zero =>
    simp only [List.getElem?_cons_zero,Option.some.injEq] at hj; subst hj
    rcases h.1 with h1 | h1
    ·rw [hf] at h1; cases h1
    ·have := List.all_eq_true.1 h1 k (by simpa using hk)
     simpa [Bool.or_eq_true,Bool.and_eq_true,or_assoc] using this
   | succ j =>
    have := tailOk_spec l (i + 1) true h.2 j s0 (by simpa using hj) hf (.inl rfl) k (by omega)
    rwa [show i + 1 + j = i + (j + 1) by omega] at this
  ·rename_i hb
   simp only [Bool.or_eq_false_iff] at hb
   cases j with
   | zero =>
    rcases hx with hx | ⟨k',s',hk',hs',hx⟩
    ·rw [hb.1] at hx; cases hx
    ·have : k' = 0 := by omega
     subst this
     simp only [List.getElem?_cons_zero,Option.some.injEq] at hs'; subst hs'
     rw [hb.2] at hx; cases hx
   | succ j =>
    have := tailOk_spec l (i + 1) false h j s0 (by simpa using hj) hf (by
     rcases hx with hx | ⟨k',s',hk',hs',hx⟩
     ·rw [hb.1] at hx; cases hx
     ·cases k' with
      | zero => simp only [List.getElem?_cons_zero,Option.some.injEq] at hs'; subst hs'; rw [hb.2] at hx; cases hx
      | succ k' => exact .inr ⟨k',s',by omega,by simpa using hs',hx⟩) k (by omega)
    rwa [show i + 1 + j = i + (j + 1) by omega] at this
 | [],_,_,_,j,_,hj,_,_,_,_ => by simp at hj
theorem allNames_spec {M : List Nat} {dsts : List (Option Nat)} : ∀ (l : List St) (i : Nat),allNames M dsts i l = true → ∀ (j : Nat) s,l[j]? = some s → namesOk M dsts (i + j) s = true
 | s :: l,i,h,j,s',hj => by
  simp only [allNames,Bool.and_eq_true] at h
  cases j with
  | zero => simp only [List.getElem?_cons_zero,Option.some.injEq] at hj; subst hj; exact h.1
  | succ j =>
   have := allNames_spec l (i + 1) h.2 j s' (by simpa using hj)
   rwa [show i + 1 + j = i + (j + 1) by omega] at this
 | [],_,_,_,_,hj => by simp at hj
structure Draw (ops : Array Oper) (sts : List St) : Prop where
 len : sts.length = ops.size
 back : ∀ (j : Nat) o,ops[j]? = some o → ∀ e ∈ o.after,Go.Region.binds .any e = true → e.on < j
 tail : ∀ (j : Nat) (s : St),sts[j]? = some s → isFree s.op = false → (∃ (k : Nat) (s : St),k ≤ j ∧ sts[k]? = some s ∧ isX s.op = true) → ∀ (k : Nat) (s' : St),k < j → sts[k]? = some s' → isFree s'.op = false → (goesBy s.op s'.op = true ∨ goesKeep s'.op s.op = true ∨ (isX s.op = false ∧ isX s'.op = false)) ∨ Waits ops j k
 keep : ∀ (i : Nat) s,sts[i]? = some s → ∀ t,.v t ∈ keepsOf s.op → ∀ (k : Nat) s',sts[k]? = some s' → s'.dst ≠ some t
 names : ∀ (i : Nat) s,sts[i]? = some s → ∀ t ∈ s.names,∀ (k : Nat) s',sts[k]? = some s' → s'.dst = some t → (k < i → Waits ops i k) ∧ (i < k → Waits ops k i)
theorem drawOk_spec {ops : Array Oper} {sts : List St} (hl : sts.length = ops.size) (h : drawOk ops.toList sts = true) : Draw ops sts := by
 simp only [drawOk,Bool.and_eq_true] at h
 obtain ⟨⟨⟨h1,h2⟩,h3⟩,h4⟩ := h
 have hm : ∀ i k,((masks ops.toList []).getD i 0).testBit k = true → Waits ops i k := fun i k hb => by
  obtain ⟨m,hm,hk⟩ := getD_bit hb
  exact masks_spec ops.toList [] (by simp) (by simp) i m k hm hk
 refine ⟨hl,fun j o ho e he hb => ?_,fun j s hs hf hx k s' hk hs' hf' => ?_,fun i s hs t ht k s' hs' hd => ?_,fun i s hs t ht k s' hs' hd => ?_⟩
 ·have := backOk_spec ops.toList 0 h1 j o (by simpa using ho) e he hb; omega
 ·have := tailOk_spec sts 0 false h2 j s hs hf (.inr hx) k (by omega)
  rw [Nat.zero_add] at this
  rcases this with ((h | h) | h | h) | h
  ·simp [List.getD_eq_getElem?_getD,hs',hf'] at h
  ·exact .inl (.inl (by simpa [List.getD_eq_getElem?_getD,hs'] using h))
  ·exact .inl (.inr (.inl (by simpa [List.getD_eq_getElem?_getD,hs'] using h)))
  ·exact .inl (.inr (.inr (by simpa [List.getD_eq_getElem?_getD,hs'] using h)))
  ·exact .inr (hm _ _ h)
 ·have := List.all_eq_true.1 h4 s (List.mem_of_getElem? hs)
  have := List.all_eq_true.1 this _ ht
  simp only [Bool.not_eq_true',List.contains_eq_mem,decide_eq_false_iff_not] at this
  exact this (List.mem_map.2 ⟨s',List.mem_of_getElem? hs',hd⟩)
 ·have := allNames_spec sts 0 h3 i s hs
  rw [Nat.zero_add] at this
  have := List.all_eq_true.1 this t ht
  have := List.all_eq_true.1 this k (by simpa using (List.getElem?_eq_some_iff.1 hs').1)
  simp only [List.getElem?_map,hs',Option.map_some,hd,if_true] at this
  refine ⟨fun hki => hm _ _ ?_,fun hik => hm _ _ ?_⟩
  ·rw [if_pos hki] at this; exact this
  ·rw [if_neg (by omega),if_pos hik] at this; exact this
end Ab
namespace Ab
open Go (IntKind BinOp UnOp World Value Addr Obj undef maxLen Program TypeId Oper Op Operand Act Sem Next Result execOp Builtin Calls Ending Exit)
section
variable {Γ : Ctx} {cal : Nat → List AV → Heap → Option (List AV × Heap)}
structure Course (Γ : Ctx) (cal : Nat → List AV → Heap → Option (List AV × Heap)) (sts : List St) (E : Nat → Env) (hp : Nat → Heap) (val : Nat → AV) : Prop where
 one : ∀ (i : Nat) s,sts[i]? = some s → evOne Γ cal s (look (E i)) (hp i) = some (val i,hp (i + 1))
 env : ∀ (i : Nat) s,sts[i]? = some s → E (i + 1) = put (E i) s.dst (val i)
theorem course_of : ∀ (sts : List St) {env env' : Env} {H H' : Heap},evSts Γ cal sts env H = some (env',H') → ∃ E hp val,Course Γ cal sts E hp val ∧ E 0 = env ∧ hp 0 = H ∧ E sts.length = env' ∧ hp sts.length = H'
 | [],env,env',H,H',h => by
  simp only [evSts,Option.some.injEq,Prod.mk.injEq] at h
  obtain ⟨rfl,rfl⟩ := h
  exact ⟨fun _ => env,fun _ => H,fun _ => .any,⟨by simp,by simp⟩,rfl,rfl,rfl,rfl⟩
 | s :: sts,env,env',H,H',h => by
  rw [evSts_cons,Option.bind_eq_some_iff] at h
  obtain ⟨⟨v,H1⟩,h1,h2⟩ := h
  obtain ⟨E,hp,val,hc,e1,e2,e3,e4⟩ := course_of sts h2
  refine ⟨fun i => match i with | 0 => env | i + 1 => E i,fun i => match i with | 0 => H | i + 1 => hp i,fun i => match i with | 0 => v | i + 1 => val i,⟨fun i s' hs => ?_,fun i s' hs => ?_⟩,rfl,rfl,e3,e4⟩
  ·cases i with
   | zero => simp only [List.getElem?_cons_zero,Option.some.injEq] at hs; subst hs; rw [h1]; exact congrArg some (Prod.ext rfl e2.symm)
   | succ i => exact hc.one i s' (by simpa using hs)
  ·cases i with
   | zero => simp only [List.getElem?_cons_zero,Option.some.injEq] at hs; subst hs; exact e1
   | succ i => exact hc.env i s' (by simpa using hs)
def dstOf (sts : List St) (k : Nat) : Option Nat := (sts[k]?).bind (·.dst)
def lastW (sts : List St) (L : Nat → Bool) (t : Nat) : Nat → Nat
 | 0 => 0
 | k + 1 => if L k = true ∧ dstOf sts k = some t then k + 1 else lastW sts L t k
theorem lastW_congr {sts : List St} {L L' : Nat → Bool} {t : Nat} : ∀ n,(∀ k < n,dstOf sts k = some t → L k = L' k) → lastW sts L t n = lastW sts L' t n
 | 0,_ => rfl
 | n + 1,h => by
  have ih := lastW_congr n fun k hk => h k (by omega)
  unfold lastW
  by_cases hd : dstOf sts n = some t
  ·rw [h n (by omega) hd,ih]
  ·simp only [hd,and_false,if_false]; exact ih
theorem lastW_at {sts : List St} {L : Nat → Bool} {t i : Nat} (hL : L i = true) (hd : dstOf sts i = some t) : ∀ n,i < n → (∀ k,i < k → k < n → dstOf sts k = some t → L k = false) → lastW sts L t n = i + 1
 | 0,h,_ => by omega
 | n + 1,h,hk => by
  unfold lastW
  by_cases he : i = n
  ·subst he; simp [hL,hd]
  ·have hno : ¬ (L n = true ∧ dstOf sts n = some t) := fun ⟨h1,h2⟩ => by rw [hk n (by omega) (by omega) h2] at h1; cases h1
   rw [if_neg hno]
   exact lastW_at hL hd n (by omega) fun k h1 h2 => hk k h1 (by omega)
theorem Course.agree {sts : List St} {E : Nat → Env} {hp : Nat → Heap} {val : Nat → AV} (hc : Course Γ cal sts E hp val) {L : Nat → Bool} {t i : Nat} (hL : ∀ k,dstOf sts k = some t → (L k = true ↔ k < i)) :
  ∀ j,j ≤ sts.length → look (E (lastW sts L t j)) t = look (E (min i j)) t
 | 0,_ => by simp [lastW]
 | j + 1,hj => by
  have ih := hc.agree hL j (by omega)
  have hs : sts[j]? = some sts[j] := List.getElem?_eq_getElem (by omega)
  have hE := hc.env j _ hs
  have hd : dstOf sts j = (sts[j]).dst := by simp [dstOf,hs]
  unfold lastW
  by_cases h : L j = true ∧ dstOf sts j = some t
  ·rw [if_pos h]
   have : j < i := (hL j h.2).1 h.1
   rw [show min i (j + 1) = j + 1 by omega]
  ·rw [if_neg h,ih]
   by_cases hi : i ≤ j
   ·rw [show min i j = i by omega,show min i (j + 1) = i by omega]
   ·rw [show min i j = j by omega,show min i (j + 1) = j + 1 by omega,hE,look_put]
    have : ¬ (sts[j]).dst = some t := fun e => by
     rw [← hd] at e
     exact h ⟨(hL j e).2 (by omega),e⟩
    rw [if_neg this]
theorem Course.quiet {sts : List St} {E : Nat → Env} {hp : Nat → Heap} {val : Nat → AV} (hc : Course Γ cal sts E hp val) {i : Nat} {s : St} (hs : sts[i]? = some s) (hx : isX s.op = false) : hp (i + 1) = hp i := by
 have h := hc.one i s hs
 simp only [evOne] at h
 split at h
 ·cases h
 ·simp only [Option.some.injEq,Prod.mk.injEq] at h; exact h.2.symm
 ·split at h
  ·simp only [Option.map_eq_some_iff,Prod.mk.injEq] at h
   obtain ⟨_,_,_,h⟩ := h; exact h.symm
  ·rename_i x hx'
   rw [hx'] at hx
   cases x <;> first | (cases hx; done) | skip
   simp only [evX,Option.map_eq_some_iff,Prod.mk.injEq] at h
   obtain ⟨_,_,_,h⟩ := h; exact h.symm
theorem Course.between {sts : List St} {E : Nat → Env} {hp : Nat → Heap} {val : Nat → AV} (hc : Course Γ cal sts E hp val) {k : Nat} : ∀ i,k ≤ i → i ≤ sts.length → (∀ (m : Nat) s,k ≤ m → m < i → sts[m]? = some s → isX s.op = false) → hp i = hp k
 | 0,h,_,_ => by rw [show k = 0 by omega]
 | i + 1,h,hi,hq => by
  by_cases hk : k = i + 1
  ·rw [hk]
  ·have hs : sts[i]? = some sts[i] := List.getElem?_eq_getElem (by omega)
   rw [hc.quiet hs (hq i _ (by omega) (by omega) hs)]
   exact hc.between i (by omega) (by omega) fun m s h1 h2 => hq m s h1 (by omega)
theorem evOne_free {s : St} {σ : Nat → AV} {H H2 H' : Heap} {v : AV} (hf : isFree s.op = true) (h : evOne Γ cal s σ H = some (v,H')) : evOne Γ cal s σ H2 = some (v,H2) := by
 unfold evOne at *
 split at h
 ·cases h
 ·simp only [Option.some.injEq,Prod.mk.injEq] at h
  simp [h.1]
 ·cases hs : s.op with
  | inr x =>
   rw [hs] at hf h
   cases x <;> first | (cases hf; done) | skip
   simp only [evX,Option.map_eq_some_iff,Prod.mk.injEq] at h
   obtain ⟨v',h,rfl,_⟩ := h
   simp only [evX,h,Option.map_some]
  | inl q =>
   rw [hs] at hf h
   simp only [Option.map_eq_some_iff,Prod.mk.injEq] at h
   obtain ⟨v',h,rfl,_⟩ := h
   have e : evQ Γ cal σ H2 q = evQ Γ cal σ H q := by cases q <;> first | rfl | cases hf
   simp only [e,h,Option.map_some]
theorem evOne_up {s : St} {σ : Nat → AV} {H E H' : Heap} {v : AV} (hx : isX s.op = false) (h : evOne Γ cal s σ H = some (v,H')) : evOne Γ cal s σ (H ++ E) = some (v,H ++ E) := by
 unfold evOne at *
 split at h
 ·cases h
 ·simp only [Option.some.injEq,Prod.mk.injEq] at h
  simp [h.1]
 ·cases hs : s.op with
  | inr x =>
   rw [hs] at hx h
   cases x <;> first | (cases hx; done) | skip
   simp only [evX,Option.map_eq_some_iff,Prod.mk.injEq] at h
   obtain ⟨v',h,rfl,_⟩ := h
   simp only [evX,h,Option.map_some]
  | inl q =>
   rw [hs] at h
   simp only [Option.map_eq_some_iff,Prod.mk.injEq] at h
   obtain ⟨v',h,rfl,_⟩ := h
   simp only [evQ_up h,Option.map_some]
theorem Course.more {sts : List St} {E : Nat → Env} {hp : Nat → Heap} {val : Nat → AV} (hc : Course Γ cal sts E hp val) {i : Nat} {s : St} (hs : sts[i]? = some s) (hx : isX s.op = true → isAlloc s.op = true) : ∃ X,hp (i + 1) = hp i ++ X := by
 cases hq : isX s.op with
 | false => exact ⟨[],by rw [hc.quiet hs hq,List.append_nil]⟩
 | true =>
  have ha := hx hq
  have h := hc.one i s hs
  simp only [evOne] at h
  split at h
  ·cases h
  ·simp only [Option.some.injEq,Prod.mk.injEq] at h; exact ⟨[],by rw [← h.2,List.append_nil]⟩
  ·cases hop : s.op with
   | inl q => rw [hop] at hq; cases hq
   | inr x =>
    rw [hop] at h ha
    cases x <;> try cases ha
    case h_3.inr.brow.refl =>
     simp only [evX,browA] at h
     obtain ⟨cs,_,h⟩ := Option.bind_eq_some_iff.1 h
     obtain ⟨ps,_,h⟩ := Option.bind_eq_some_iff.1 h
     simp only [Option.ite_none_right_eq_some,Option.some.injEq,Prod.mk.injEq] at h
     exact ⟨_,h.2.2.symm⟩
    all_goals
     simp only [evX,Option.some.injEq,Prod.mk.injEq] at h
     exact ⟨_,h.2.symm⟩
theorem putBack_far : ∀ {L : List Nat} {bs : List Blk} {H : Heap} {id : Nat},id ∉ L → (putBack H L bs)[id]? = H[id]?
 | [],bs,H,id,_ => by cases bs <;> rfl
 | x :: L,[],H,id,_ => rfl
 | x :: L,b :: bs,H,id,h => by
  simp only [putBack]
  rw [putBack_far (fun hm => h (by simp [hm]))]
  exact List.getElem?_set_ne (fun e => h (by simp [e]))
theorem callS_far {H H' : Heap} {f : AV} {as rs : List AV} {fc : Nat × List AV} {id : Nat} (hf : callee f = some fc) (hid : id < H.length) (hn : id ∉ reach H 64 ((as ++ fc.2).flatMap AV.refs) []) (h : callS Γ cal H f as = some (rs,H')) : H'[id]? = H[id]? := by
 unfold callS at h
 rw [hf] at h
 simp only [Option.bind_some,ifB_some,Option.bind_eq_some_iff] at h
 obtain ⟨_,as',_,HL,_,r,_,r',_,h⟩ := h
 simp only [joinBack,Option.bind_eq_some_iff,Option.map_eq_some_iff,Prod.mk.injEq] at h
 obtain ⟨_,_,bs,_,_,rfl⟩ := h
 rw [List.getElem?_append_left (by rw [putBack_len]; exact hid),putBack_far hn]
theorem keptA_spec {H : Heap} {L : List Nat} {ks : List AV} {id off : Nat} (h : keptA H L ks = true) (hm : .bx id off ∈ ks) : id < H.length ∧ id ∉ L := by
 have := List.all_eq_true.1 h _ hm
 simpa using this
theorem storeA_far {H H' : Heap} {sz id off : Nat} {x v : AV} {ks : List AV} (h : storekA H sz x v ks = some H') (hm : .bx id off ∈ ks) : H'[id]? = H[id]? := by
 simp only [storekA,ifB_some] at h
 obtain ⟨h1,h2⟩ := h
 have hk := keptA_spec h1 hm
 unfold storeA at h2
 split at h2
 ·obtain ⟨_,_,h2⟩ := Option.bind_eq_some_iff.1 h2
  simp only [Option.ite_none_right_eq_some,Option.some.injEq] at h2
  rw [← h2.2]
  exact List.getElem?_set_ne (fun e => hk.2 (by simp [e]))
 ·split at h2
  ·simp only [Option.ite_none_right_eq_some,Option.bind_eq_some_iff,Option.some.injEq] at h2
   obtain ⟨_,_,_,_,_,_,rfl⟩ := h2
   exact List.getElem?_set_ne (fun e => hk.2 (by simp [e]))
  ·cases h2
 ·cases h2
theorem kill_far : ∀ {L : List Nat} {H : Heap} {id : Nat},id ∉ L → (kill H L)[id]? = H[id]?
 | [],_,_,_ => rfl
 | x :: L,H,id,h => by
  simp only [kill]
  rw [kill_far (fun hm => h (by simp [hm]))]
  split
  ·exact List.getElem?_set_ne (fun e => h (by simp [e]))
  ·rfl
theorem strsB_spec : ∀ {xs : List PV} {l : List (List UInt8)},strsB xs = some l → xs = l.map .str
 | [],l,h => by cases h; rfl
 | x :: r,l,h => by
  cases x <;> simp only [strsB,reduceCtorEq] at h
  obtain ⟨m,h1,rfl⟩ := Option.map_eq_some_iff.1 h
  rw [List.map_cons,← strsB_spec h1]
theorem appk_far {H H' : Heap} {sz id off : Nat} {x v : AV} {ys : List PV} {ks : List AV} (hb : boxesAt H ks = true) (hm : .bx id off ∈ ks) (h : appendA H sz x ys = some (v,H')) : H'[id]? = H[id]? := by
 have hb := List.all_eq_true.1 hb _ hm
 have hbox : ∃ cs,H[id]? = some (.box cs) := by
  simp only at hb
  split at hb
  ·rename_i e; exact ⟨_,e⟩
  ·cases hb
 obtain ⟨cs,hbox⟩ := hbox
 have hlt := (List.getElem?_eq_some_iff.1 hbox).1
 unfold appendA at h
 split at h
 ·split at h
  ·rename_i e
   simp only [Option.ite_none_right_eq_some,Option.some.injEq,Prod.mk.injEq] at h
   rw [← h.2.2]
   exact List.getElem?_set_ne (fun e2 => by rw [e2,hbox] at e; cases e)
  ·cases h
 ·simp only [Option.ite_none_right_eq_some] at h
  obtain ⟨_,h⟩ := h
  split at h <;> simp only [Option.some.injEq,Prod.mk.injEq] at h <;> rw [← h.2]
  ·exact List.getElem?_append_left hlt
  ·exact List.getElem?_append_left hlt
 ·cases h
theorem keepOne_spec {H H' : Heap} {id : Nat} (h : keepOne H H' id = true) : H'[id]? = H[id]? ∧ ∀ i n,H[id]? = some (.box [.own i n]) → rowLen H i n = true ∧ rowLen H' i n = true := by
 unfold keepOne at h
 split at h
 ·rename_i e1 e2
  simp only [Bool.and_eq_true,beq_iff_eq] at h
  obtain ⟨⟨⟨rfl,rfl⟩,h3⟩,h4⟩ := h
  refine ⟨by rw [e1,e2],fun i n e => ?_⟩
  rw [e1] at e
  simp only [Option.some.injEq,Blk.box.injEq,List.cons.injEq,AV.own.injEq,and_true] at e
  obtain ⟨rfl,rfl⟩ := e
  exact ⟨h3,h4⟩
 ·rename_i e1 e2
  simp only [beq_iff_eq] at h
  subst h
  refine ⟨by rw [e1,e2],fun i n e => ?_⟩
  rw [e1] at e
  simp at e
 ·rename_i e1 e2
  simp only [Bool.and_eq_true,beq_iff_eq] at h
  obtain ⟨rfl,h⟩ := h
  split at h
  ·rename_i l m e3 e4
   have h : l = m := by simpa using h
   subst h
   refine ⟨by rw [e1,e2,strsB_spec e3,strsB_spec e4],fun i n e => ?_⟩
   rw [e1] at e
   simp at e
  ·cases h
 ·cases h
theorem keepW_spec {H H' : Heap} {ks : List AV} {id off : Nat} (h : keepW H H' ks = true) (hm : .bx id off ∈ ks) : keepOne H H' id = true := List.all_eq_true.1 h _ hm
theorem rowLen_of {H : Heap} {i n : Nat} (h : rowLen H i n = true) : asLen H false (.own i n) = some n := by
 unfold rowLen at h
 split at h
 ·rename_i e
  simp only [beq_iff_eq] at h
  simp only [asLen,rowOf,e]
  rw [if_pos h]
  rfl
 ·cases h
theorem lenk_same {H H' : Heap} {id off : Nat} {x : AV} (h : keepOne H H' id = true) : lenkA H' x (.bx id off) = lenkA H x (.bx id off) := by
 obtain ⟨h1,h2⟩ := keepOne_spec h
 have hb : boxOf H' id = boxOf H id := by unfold boxOf; rw [h1]
 show (boxOf H' id).bind _ = (boxOf H id).bind _
 rw [hb]
 cases e : boxOf H id with
 | none => rfl
 | some cs =>
  have e' : H[id]? = some (.box cs) := by
   unfold boxOf at e
   split at e
   ·cases e
   ·rename_i e2; cases e; exact e2
   ·cases e
  simp only [Option.bind_some]
  cases hh : heldC cs x with
  | false => rfl
  | true =>
   unfold heldC at hh
   split at hh
   ·simp only [Bool.and_eq_true,beq_iff_eq] at hh
    obtain ⟨rfl,rfl⟩ := hh
    obtain ⟨h3,h4⟩ := h2 _ _ e'
    rw [rowLen_of h3,rowLen_of h4]
   ·rfl
   ·cases hh
theorem keep_far {σ : Nat → AV} {H H' : Heap} {x : XOp} {v : AV} {t id off : Nat} (h : evX Γ cal σ H x = some (v,H')) (ht : .v t ∈ keepsOf (.inr x)) (hσ : σ t = .bx id off) : H'[id]? = H[id]? := by
 cases x <;> simp only [keepsOf,List.not_mem_nil] at ht
 ·rename_i f as ks
  simp only [evX,callkA,Option.map_eq_some_iff,Option.bind_eq_some_iff,ifB_some,Prod.mk.injEq] at h
  obtain ⟨⟨rs,H1⟩,⟨fc,hf,hk,hc⟩,_,rfl⟩ := h
  have hm : AV.bx id off ∈ ks.map (Arg.ev Γ σ) := List.mem_map.2 ⟨_,ht,hσ⟩
  obtain ⟨k1,k2⟩ := keptA_spec hk hm
  exact callS_far hf k1 k2 hc
 ·rename_i f as ks
  simp only [evX,callwkA,Option.map_eq_some_iff,Option.bind_eq_some_iff,ifB_some,Prod.mk.injEq] at h
  obtain ⟨r,⟨r',_,hk,e⟩,_,rfl⟩ := h
  cases e
  exact (keepOne_spec (keepW_spec hk (List.mem_map.2 ⟨_,ht,hσ⟩))).1
 ·rename_i sz x y ks
  simp only [evX,Option.map_eq_some_iff,Prod.mk.injEq] at h
  obtain ⟨H1,hc,_,rfl⟩ := h
  exact storeA_far hc (List.mem_map.2 ⟨_,ht,hσ⟩)
 ·rename_i sz x y ks
  simp only [evX,ifB_some,Option.bind_eq_some_iff] at h
  obtain ⟨hb,ys,_,h⟩ := h
  exact appk_far hb (List.mem_map.2 ⟨_,ht,hσ⟩) h
 ·rename_i sz ag n zero parts ks
  simp only [evX,bslkA,bslicefA,Option.bind_eq_some_iff,ifB_some,treesOf,Option.map_eq_some_iff,Option.some.injEq,Prod.mk.injEq] at h
  obtain ⟨l,_,hk,l',rfl,q,⟨_,_,_,_,_,_,rfl⟩,_,_,rfl⟩ := h
  exact kill_far (keptA_spec hk (List.mem_map.2 ⟨_,ht,hσ⟩)).2
theorem keep_row {σ : Nat → AV} {H H' : Heap} {x : XOp} {v : AV} {t id off : Nat} (h : evX Γ cal σ H x = some (v,H')) (ht : .v t ∈ keepsW (.inr x)) (hσ : σ t = .bx id off) : keepOne H H' id = true := by
 cases x <;> simp only [keepsW,List.not_mem_nil] at ht
 rename_i f as ks
 simp only [evX,callwkA,Option.map_eq_some_iff,Option.bind_eq_some_iff,ifB_some,Prod.mk.injEq] at h
 obtain ⟨r,⟨r',_,hk,e⟩,_,rfl⟩ := h
 cases e
 exact keepW_spec hk (List.mem_map.2 ⟨_,ht,hσ⟩)
theorem keepsW_sub {x : QOp ⊕ XOp} {a : Arg} (h : a ∈ keepsW x) : a ∈ keepsOf x := by
 unfold keepsW at h
 split at h
 ·exact h
 ·cases h
theorem keep_iff {s : St} {x : XOp} {σ σx : Nat → AV} {H H' : Heap} {v v0 : AV} (h : evX Γ cal σx H x = some (v0,H')) (hg : goesKeep (.inr x) s.op = true)
  (hσ : ∀ t,(loadOf s.op = some t ∨ lenOf s.op = some t) → .v t ∈ keepsOf (.inr x) → σ t = σx t) : evOne Γ cal s σ H = some (v,H) ↔ evOne Γ cal s σ H' = some (v,H') := by
 unfold goesKeep at hg
 rw [Bool.or_eq_true] at hg
 rcases hg with hg | hg
 ·cases hl : loadOf s.op with
  | none => rw [hl] at hg; cases hg
  | some t =>
   rw [hl] at hg
   obtain ⟨a,ha,hat⟩ := List.any_eq_true.1 hg
   have := argIsV_spec hat
   subst this
   have e1 := hσ t (.inl hl) ha
   unfold loadOf at hl
   split at hl
   rotate_left
   ·cases hl
   rename_i sz ag y t' hs'
   simp only [Option.some.injEq] at hl
   subst hl
   have key : evQ Γ cal σ H' (.loadk sz ag y (.v t')) = evQ Γ cal σ H (.loadk sz ag y (.v t')) := by
    simp only [evQ,Arg.ev]
    unfold loadkA
    split
    ·rename_i id off id' off' e2 e3
     split
     ·rename_i e4
      subst e4
      have e5 := keep_far h ha (by rw [← e1]; exact e3)
      simp only [loadA,boxOf,e5]
     ·rfl
    ·rfl
   simp only [evOne,hs',key]
   cases wanted σ s.g with
   | none => simp
   | some b => cases b <;> simp
 ·cases hl : lenOf s.op with
  | none => rw [hl] at hg; cases hg
  | some t =>
   rw [hl] at hg
   obtain ⟨a,ha,hat⟩ := List.any_eq_true.1 hg
   have := argIsV_spec hat
   subst this
   have e1 := hσ t (.inr hl) (keepsW_sub ha)
   unfold lenOf at hl
   split at hl
   rotate_left
   ·cases hl
   rename_i y t' hs'
   simp only [Option.some.injEq] at hl
   subst hl
   have key : evQ Γ cal σ H' (.lenk y (.v t')) = evQ Γ cal σ H (.lenk y (.v t')) := by
    simp only [evQ,Arg.ev]
    cases e2 : σ t' with
    | bx id off => exact lenk_same (keep_row h ha (by rw [← e1]; exact e2))
    | _ => rfl
   simp only [evOne,hs',key]
   cases wanted σ s.g with
   | none => simp
   | some b => cases b <;> simp
theorem Course.keep {sts : List St} {E : Nat → Env} {hp : Nat → Heap} {val : Nat → AV} (hc : Course Γ cal sts E hp val) {m : Nat} {sm s : St} (hs : sts[m]? = some sm) (hX : isX sm.op = true) (hg : goesKeep sm.op s.op = true)
  {σ : Nat → AV} {v : AV} (hσ : ∀ t,(loadOf s.op = some t ∨ lenOf s.op = some t) → .v t ∈ keepsOf sm.op → σ t = look (E m) t) : evOne Γ cal s σ (hp m) = some (v,hp m) ↔ evOne Γ cal s σ (hp (m + 1)) = some (v,hp (m + 1)) := by
 have h1 := hc.one m sm hs
 simp only [evOne] at h1
 split at h1
 ·cases h1
 ·simp only [Option.some.injEq,Prod.mk.injEq] at h1
  rw [← h1.2]
 ·cases hop : sm.op with
  | inl q => rw [hop] at hX; cases hX
  | inr x =>
   rw [hop] at h1 hg hσ
   exact keep_iff h1 hg hσ
theorem Course.stay {sts : List St} {E : Nat → Env} {hp : Nat → Heap} {val : Nat → AV} (hc : Course Γ cal sts E hp val) {m : Nat} {sm s : St} (hs : sts[m]? = some sm) (hq : isX s.op = false) (hx : isX sm.op = true → goesBy sm.op s.op = true)
  {σ : Nat → AV} {v : AV} (hσ : ∀ t,(loadOf s.op = some t ∨ lenOf s.op = some t) → .v t ∈ keepsOf sm.op → σ t = look (E m) t) (h : evOne Γ cal s σ (hp m) = some (v,hp m)) : evOne Γ cal s σ (hp (m + 1)) = some (v,hp (m + 1)) := by
 cases hX : isX sm.op with
 | false => rw [hc.quiet hs hX]; exact h
 | true =>
  have hg := hx hX
  unfold goesBy at hg
  rw [Bool.or_eq_true] at hg
  rcases hg with hg | hg
  ·simp only [Bool.and_eq_true] at hg
   obtain ⟨X,hX⟩ := hc.more hs (fun _ => hg.1)
   rw [hX]
   exact evOne_up hq h
  ·exact (hc.keep hs hX hg hσ).1 h
theorem Course.still {sts : List St} {E : Nat → Env} {hp : Nat → Heap} {val : Nat → AV} (hc : Course Γ cal sts E hp val) {t : Nat} (ht : ∀ (k : Nat) s,sts[k]? = some s → s.dst ≠ some t) : ∀ i,i ≤ sts.length → look (E i) t = look (E 0) t
 | 0,_ => rfl
 | i + 1,hi => by
  have hs : sts[i]? = some sts[i] := List.getElem?_eq_getElem (by omega)
  rw [hc.env i _ hs,look_put,if_neg (ht i _ hs)]
  exact hc.still ht i (by omega)
theorem Course.quiets {sts : List St} {E : Nat → Env} {hp : Nat → Heap} {val : Nat → AV} (hc : Course Γ cal sts E hp val) : ∀ i,i ≤ sts.length → (∀ (k : Nat) s,k < i → sts[k]? = some s → isX s.op = false) → hp i = hp 0
 | 0,_,_ => rfl
 | i + 1,hi,h => by
  have hs : sts[i]? = some sts[i] := List.getElem?_eq_getElem (by omega)
  rw [hc.quiet hs (h i _ (by omega) hs)]
  exact hc.quiets i (by omega) fun k s hk => h k s (by omega)
end
section
variable {Γ : Ctx} {N : Names} {P : Program} {cal : Nat → List AV → Heap → Option (List AV × Heap)} {ops : Array Oper} {sts : List St}
theorem getD_both {listed : Array Bool} {i : Nat} (h : listed.getD i true = false) : listed.getD i false = false := by
 rcases Nat.lt_or_ge i listed.size with h' | h'
 ·simp [h'] at h ⊢; exact h
 ·simp [Array.getElem?_eq_none h'] at h
theorem getD_in {listed : Array Bool} {i : Nat} (hi : i < listed.size) (h : listed.getD i false = false) : listed.getD i true = false := by
 simp [hi] at h ⊢; exact h
theorem waits_listed {listed : Array Bool} (hcl : ∀ (j : Nat) o,ops[j]? = some o → listed.getD j false = true → ∀ e ∈ o.after,Go.Region.binds .any e = true → listed.getD e.on false = true) {j i : Nat} (h : Waits ops j i) :
  listed.getD j false = true → listed.getD i false = true := by
 induction h with
 | one j o e ho he hb => exact fun hj => hcl j o ho hj e he hb
 | more j o e i ho he hb _ ih => exact fun hj => ih (hcl j o ho hj e he hb)
theorem ready_waits {listed : Array Bool} (hcl : ∀ (j : Nat) o,ops[j]? = some o → listed.getD j false = true → ∀ e ∈ o.after,Go.Region.binds .any e = true → listed.getD e.on false = true) {j i : Nat}
  (hj : j ∈ Go.Region.ready .any ops listed) (h : Waits ops j i) : listed.getD i false = true := by
 obtain ⟨_,o,ho,hall⟩ := Go.mem_ready.1 hj
 cases h with
 | one _ o' e ho' he hb => rw [ho] at ho'; cases ho'; exact hall e he hb
 | more _ o' e i ho' he hb hw => rw [ho] at ho'; cases ho'; exact waits_listed hcl hw (hall e he hb)
structure Mid (N : Names) (Γ : Ctx) (ops : Array Oper) (sts : List St) (E : Nat → Env) (hp : Nat → Heap) (w0 : World) (S0 : Nat → Prop) (μ0 : Nat → Value) (a0 : Act) (listed : Array Bool) (a : Act) (w : World) : Prop where
 size : listed.size = sts.length
 closed : ∀ (j : Nat) o,ops[j]? = some o → listed.getD j false = true → ∀ e ∈ o.after,Go.Region.binds .any e = true → listed.getD e.on false = true
 tmps : a.tmps.size = a0.tmps.size
 defers : a.defers = a0.defers
 state : ∃ S μ k,Step N.fn w0 S0 μ0 (hp 0) w S μ (hp k) ∧ (∀ t,RelV N.fn w S μ (hp k) (look (E (lastW sts (fun i => listed.getD i false) t sts.length)) t) (a.tmps.getD t undef)) ∧ GlRel Γ N w S ∧
  ((k = 0 ∧ ∀ (m : Nat) s,listed.getD m false = true → sts[m]? = some s → isX s.op = false) ∨
   ∃ (x : Nat) (s : St),k = x + 1 ∧ listed.getD x false = true ∧ sts[x]? = some s ∧ isX s.op = true ∧ ∀ (m : Nat) s',x < m → listed.getD m false = true → sts[m]? = some s' → isX s'.op = false)
theorem getD_set {listed : Array Bool} {i m : Nat} (hi : i < listed.size) : (listed.setIfInBounds i true).getD m false = (if i = m then true else listed.getD m false) := by
 by_cases h : i = m
 ·subst h; simp [hi]
 ·simp [Array.getD_eq_getD_getElem?,Array.getElem?_setIfInBounds_ne h,h]
theorem draw_sound (hcal : CallOk Γ N P cal) {nt : Nat} (hD : Draw ops sts) (hst : ∀ (j : Nat) s,sts[j]? = some s → ∃ o,ops[j]? = some o ∧ chkSt P N ops nt o s = true) {E : Nat → Env} {hp : Nat → Heap} {val : Nat → AV}
  (hC : Course Γ cal sts E hp val) {w0 : World} {S0 : Nat → Prop} {μ0 : Nat → Value} {a0 : Act} (hn : nt ≤ a0.tmps.size) {Q : Exit → Act → World → Prop}
  (hQ : ∀ a' w' S' μ',Step N.fn w0 S0 μ0 (hp 0) w' S' μ' (hp sts.length) → Env.Rel Γ N w' S' μ' (hp sts.length) (look (E sts.length)) a' → a'.tmps.size = a0.tmps.size → a'.defers = a0.defers → Q .normal a' w') :
  ∀ (fuel : Nat) (todo : List Nat) (listed : Array Bool) (a : Act) (w : World),todo.Nodup → (∀ i,i ∈ todo ↔ i < sts.length ∧ listed.getD i false = false) → todo.length ≤ fuel →
   Mid N Γ ops sts E hp w0 S0 μ0 a0 listed a w → Go.wpAny P .any ops Q fuel listed a w := by
 have done : ∀ (listed : Array Bool) (a : Act) (w : World),Mid N Γ ops sts E hp w0 S0 μ0 a0 listed a w → Go.Region.ready .any ops listed = [] → Q .normal a w := by
  intro listed a w hM hrd
  have all : ∀ i,i < sts.length → listed.getD i false = true := by
   intro i
   induction i using Nat.strongRecOn with
   | _ i ih =>
    intro hi
    cases hl : listed.getD i false with
    | true => rfl
    | false =>
     have ho : ops[i]? = some (ops[i]'(by rw [← hD.len]; exact hi)) := Array.getElem?_eq_getElem _
     have : i ∈ Go.Region.ready .any ops listed := Go.mem_ready.2 ⟨getD_in (by rw [hM.size]; exact hi) hl,_,ho,fun e he hb => ih e.on (hD.back i _ ho e he hb) (by have := hD.back i _ ho e he hb; omega)⟩
     rw [hrd] at this; cases this
  obtain ⟨S,μ,k,h1,h2,h3,h4⟩ := hM.state
  have hk : hp k = hp sts.length := by
   rcases h4 with ⟨rfl,h4⟩ | ⟨x,s,rfl,_,hx,_,h4⟩
   ·refine (hC.quiets sts.length (Nat.le_refl _) fun k s hk hs => h4 k s (all k hk) hs).symm
   ·have := (List.getElem?_eq_some_iff.1 hx).1
    exact (hC.between sts.length (by omega) (Nat.le_refl _) fun m s' h1 h2 hs' => h4 m s' (by omega) (all m h2) hs').symm
  rw [hk] at h1 h2
  refine hQ a w S μ h1 ⟨fun t => ?_,h3⟩ hM.tmps hM.defers
  have := hC.agree (L := fun i => listed.getD i false) (t := t) (i := sts.length) (fun k hd => ⟨fun _ => by
   unfold dstOf at hd
   cases hs : sts[k]? with
   | none => rw [hs] at hd; cases hd
   | some s => exact (List.getElem?_eq_some_iff.1 hs).1,fun h => all k h⟩) sts.length (Nat.le_refl _)
  rw [Nat.min_self] at this
  rw [← this]
  exact h2 t
 intro fuel
 induction fuel with
 | zero =>
  intro todo listed a w hnd htodo hlen hM
  have hemp : todo = [] := by cases todo with | nil => rfl | cons x l => simp at hlen
  have hrd : Go.Region.ready .any ops listed = [] := by
   rw [List.eq_nil_iff_forall_not_mem]
   intro i hi
   obtain ⟨hun,o,ho,_⟩ := Go.mem_ready.1 hi
   have : i ∈ todo := (htodo i).2 ⟨by rw [hD.len]; exact (Array.getElem?_eq_some_iff.1 ho).1,getD_both hun⟩
   rw [hemp] at this; cases this
  exact ⟨hrd,done listed a w hM hrd⟩
 | succ fuel ih =>
  intro todo listed a w hnd htodo hlen hM
  refine ⟨done listed a w hM,fun i hi => ?_⟩
  obtain ⟨hun,o,ho,hall⟩ := Go.mem_ready.1 hi
  have hun := getD_both hun
  have hin : i < sts.length := by rw [hD.len]; exact (Array.getElem?_eq_some_iff.1 ho).1
  have hs : sts[i]? = some sts[i] := List.getElem?_eq_getElem hin
  generalize sts[i] = s at hs
  obtain ⟨o',ho',hso⟩ := hst i s hs
  rw [ho] at ho'; cases ho'
  obtain ⟨S,μ,k,h1,h2,h3,h4⟩ := hM.state
  have wl : ∀ {j},Waits ops i j → listed.getD j false = true := fun h => ready_waits hM.closed hi h
  have lw : ∀ {j},Waits ops j i → listed.getD j false = false := fun {j} h => by
   cases hj : listed.getD j false with
   | false => rfl
   | true => rw [waits_listed hM.closed h hj] at hun; cases hun
  -- memory is as in the order of the text,for those that look at it
  have xnf : ∀ {s : St},isX s.op = true → isFree s.op = false := fun {s} h => by
   cases hs : s.op with
   | inl q => rw [hs] at h; cases h
   | inr x => rw [hs] at h; cases x <;> first | rfl | cases h
  have hhp : isFree s.op = false → hp i = hp k ∨ (isX s.op = false ∧ ∀ σ v,(∀ t,(loadOf s.op = some t ∨ lenOf s.op = some t) → σ t = look (E i) t) → evOne Γ cal s σ (hp i) = some (v,hp i) → evOne Γ cal s σ (hp k) = some (v,hp k)) := fun hf => by
   have xx : ∀ {m n : Nat} {s1 s2 : St},sts[m]? = some s1 → sts[n]? = some s2 → isX s1.op = true → isX s2.op = true → n < m → Waits ops m n := fun {m n s1 s2} a1 a2 b1 b2 hlt => by
    rcases hD.tail m s1 a1 (xnf b1) ⟨m,s1,Nat.le_refl _,a1,b1⟩ n s2 hlt a2 (xnf b2) with (h | h | h) | h
    ·rw [goesBy_q h] at b2; cases b2
    ·rw [goesKeep_q h] at b1; cases b1
    ·rw [h.1] at b1; cases b1
    ·exact h
   cases hsx : isX s.op with
   | true =>
    have below : ∀ (m : Nat) s',m < i → sts[m]? = some s' → isX s'.op = true → listed.getD m false = true := fun m s' hm hs' hx' => wl (xx hs hs' hsx hx' hm)
    rcases h4 with ⟨rfl,h4⟩ | ⟨x,s',rfl,hxl,hx,hxx,h4⟩
    ·refine .inl (hC.quiets i (by omega) fun m s' hm hs' => ?_)
     cases hx : isX s'.op with
     | false => rfl
     | true => rw [h4 m s' (below m s' hm hs' hx) hs'] at hx; cases hx
    ·have h6 : i ≠ x := fun h => by subst h; rw [hun] at hxl; cases hxl
     by_cases h5 : i < x
     ·have := lw (xx hx hs hxx hsx h5)
      rw [hxl] at this; cases this
     ·refine .inl (hC.between i (by omega) (by omega) fun m s2 h7 h8 hs2 => ?_)
      cases hx2 : isX s2.op with
      | false => rfl
      | true => rw [h4 m s2 (by omega) (below m s2 h8 hs2 hx2) hs2] at hx2; cases hx2
   | false =>
    refine .inr ⟨rfl,fun σ v hσ hev => ?_⟩
    have slot : ∀ (m : Nat) sm,m ≤ sts.length → sts[m]? = some sm → ∀ t,(loadOf s.op = some t ∨ lenOf s.op = some t) → .v t ∈ keepsOf sm.op → σ t = look (E m) t := fun m sm hml hs2 t ht hk => by
     have hw := fun (k : Nat) s' hs' => hD.keep m _ hs2 t hk k s' hs'
     rw [hσ t ht,hC.still hw i (by omega),hC.still hw m hml]
    by_cases hik : i ≤ k
    ·
     have alloc : ∀ (m : Nat) (s2 : St),i ≤ m → m < k → sts[m]? = some s2 → isX s2.op = true → goesBy s2.op s.op = true := fun m s2 h7 h8 hs2 hx2 => by
      have hne : i ≠ m := fun h => by subst h; rw [hs] at hs2; cases hs2; rw [hsx] at hx2; cases hx2
      rcases hD.tail m s2 hs2 (xnf hx2) ⟨m,s2,Nat.le_refl _,hs2,hx2⟩ i s (by omega) hs hf with (h | h | h) | h
      ·exact h
      ·rw [goesKeep_q h] at hx2; cases hx2
      ·rw [h.1] at hx2; cases hx2
      ·have hml : listed.getD m false = true := by
        rcases h4 with ⟨rfl,h4⟩ | ⟨x,s',rfl,hxl,hx,hxx,h4⟩
        ·omega
        ·by_cases hmx : m = x
         ·rw [hmx]; exact hxl
         ·exact waits_listed hM.closed (xx hx hs2 hxx hx2 (by omega)) hxl
       rw [lw h] at hml; cases hml
     have hkl : k ≤ sts.length := by
      rcases h4 with ⟨rfl,_⟩ | ⟨x,s',rfl,hxl,hx,_⟩
      ·omega
      ·have := (List.getElem?_eq_some_iff.1 hx).1; omega
     have go : ∀ n,i + n ≤ k → evOne Γ cal s σ (hp (i + n)) = some (v,hp (i + n)) := by
      intro n
      induction n with
      | zero => exact fun _ => hev
      | succ n ihn =>
       intro hn
       have hs2 : sts[i + n]? = some sts[i + n] := List.getElem?_eq_getElem (by omega)
       exact hC.stay hs2 hsx (alloc (i + n) _ (by omega) (by omega) hs2) (slot (i + n) _ (by omega) hs2) (ihn (by omega))
     have := go (k - i) (by omega)
     rwa [show i + (k - i) = k by omega] at this
    ·
     have go : ∀ n,n ≤ i - k → evOne Γ cal s σ (hp (i - n)) = some (v,hp (i - n)) := by
      intro n
      induction n with
      | zero => exact fun _ => hev
      | succ n ihn =>
       intro hn
       have ihn := ihn (by omega)
       have hs2 : sts[i - (n + 1)]? = some sts[i - (n + 1)] := List.getElem?_eq_getElem (by omega)
       generalize sts[i - (n + 1)] = sm at hs2
       have em : i - n = i - (n + 1) + 1 := by omega
       rw [em] at ihn
       cases hx2 : isX sm.op with
       | false => rw [hC.quiet hs2 hx2] at ihn; exact ihn
       | true =>
        rcases hD.tail i s hs hf ⟨_,sm,by omega,hs2,hx2⟩ (i - (n + 1)) sm (by omega) hs2 (xnf hx2) with (h | h | h) | h
        ·rw [goesBy_q h] at hx2; cases hx2
        ·exact (hC.keep hs2 hx2 h (slot _ _ (by omega) hs2)).2 ihn
        ·rw [h.2] at hx2; cases hx2
        ·have hl := wl h
         rcases h4 with ⟨rfl,h4⟩ | ⟨x,s',rfl,hxl,hx,hxx,h4⟩
         ·rw [h4 _ sm hl hs2] at hx2; cases hx2
         ·rw [h4 _ sm (by omega) hl hs2] at hx2; cases hx2
     have := go (i - k) (Nat.le_refl _)
     rwa [show i - (i - k) = k by omega] at this
  -- names are as in the order of the text
  have hnm : ∀ t ∈ s.names,look (E (lastW sts (fun i => listed.getD i false) t sts.length)) t = look (E i) t := fun t ht => by
   have := hC.agree (L := fun i => listed.getD i false) (t := t) (i := i) (fun m hd => by
    unfold dstOf at hd
    obtain ⟨s',hs',hd⟩ := Option.bind_eq_some_iff.1 hd
    obtain ⟨n1,n2⟩ := hD.names i s hs t ht m s' hs' hd
    refine ⟨fun hm => ?_,fun hm => wl (n1 hm)⟩
    rcases Nat.lt_trichotomy m i with h | h | h
    ·exact h
    ·subst h; have hm : listed.getD m false = true := hm; rw [hm] at hun; cases hun
    ·have hm : listed.getD m false = true := hm; rw [lw (n2 h)] at hm; cases hm) sts.length (Nat.le_refl _)
   rw [this,Nat.min_eq_left (by omega)]
  have hev := hC.one i s hs
  obtain ⟨Hn,hσ,hX,hQn⟩ : ∃ Hn,evOne Γ cal s (fun t => if t ∈ s.reads then look (E i) t else .any) (hp k) = some (val i,Hn) ∧ (isX s.op = true → Hn = hp (i + 1)) ∧ (isX s.op = false → Hn = hp k) := by
   have hσ : evOne Γ cal s (fun t => if t ∈ s.reads then look (E i) t else .any) (hp i) = some (val i,hp (i + 1)) := by
    rw [← hev]
    exact evOne_congr fun t ht => by simp [ht]
   cases hf : isFree s.op with
   | true => exact ⟨hp k,evOne_free hf hσ,(fun hx => by rw [xnf hx] at hf; exact Bool.noConfusion hf),fun _ => rfl⟩
   | false =>
    rcases hhp hf with h | ⟨hx,hX⟩
    ·exact ⟨hp (i + 1),by rw [← h]; exact hσ,fun _ => rfl,fun hx => by rw [hC.quiet hs hx,h]⟩
    ·refine ⟨hp k,hX _ _ (fun t ht => ?_) (by rw [hC.quiet hs hx] at hσ; exact hσ),(fun h => by rw [hx] at h; cases h),fun _ => rfl⟩
     have : t ∈ s.reads := by
      rcases ht with ht | ht
      ·unfold loadOf at ht
       split at ht
       ·rename_i hop
        simp only [Option.some.injEq] at ht
        subst ht
        simp [St.reads,hop,opArgs,QOp.args,Arg.tmps]
       ·cases ht
      ·unfold lenOf at ht
       split at ht
       ·rename_i hop
        simp only [Option.some.injEq] at ht
        subst ht
        simp [St.reads,hop,opArgs,QOp.args,Arg.tmps]
       ·cases ht
     rw [if_pos this]
  have he : Env.Rel Γ N w S μ (hp k) (fun t => if t ∈ s.reads then look (E i) t else .any) a := by
   refine ⟨fun t => ?_,h3⟩
   by_cases ht : t ∈ s.reads
   ·have := h2 t
    rw [hnm t (by simp [St.names,ht])] at this
    rw [if_pos ht]
    exact this
   ·rw [if_neg ht]; exact .any _
  have hr : Rel N.fn w S μ (hp k) := h1.rel
  refine one_sound hcal ho hso he hr hσ fun u w' S' μ' hstep hu => ?_
  have hd : ∀ d,s.dst = some d → d < a.tmps.size := fun d hd => by
   simp only [chkSt,hd,Bool.and_eq_true,decide_eq_true_eq] at hso
   rw [hM.tmps]; omega
  have hset := fun m => getD_set (m := m) (i := i) (listed := listed) (by rw [hM.size]; exact hin)
  refine ih (todo.erase i) (listed.setIfInBounds i true) _ w' (hnd.erase i) (fun j => ?_) ?_ ⟨by simp [hM.size],fun j oj hoj hj e he hb => ?_,by rw [put_size]; exact hM.tmps,by rw [put_defers]; exact hM.defers,S',μ',?_⟩
  ·rw [hnd.mem_erase_iff,htodo j,hset j]
   by_cases h : i = j
   ·subst h; simp
   ·simp [h,Ne.symm h]
  ·rw [List.length_erase_of_mem ((htodo i).2 ⟨hin,hun⟩)]; omega
  ·rw [hset j] at hj
   rw [hset e.on]
   by_cases h1 : i = e.on
   ·rw [if_pos h1]
   ·rw [if_neg h1]
    by_cases h2 : i = j
    ·subst h2
     rw [ho] at hoj; cases hoj
     exact hall e he hb
    ·rw [if_neg h2] at hj
     exact hM.closed j oj hoj hj e he hb
  ·have hdd : dstOf sts i = s.dst := by simp [dstOf,hs]
   have step' : Step N.fn w S μ (hp k) w' S' μ' Hn := hstep
   have slots : ∀ t,RelV N.fn w' S' μ' Hn (look (E (lastW sts (fun m => (listed.setIfInBounds i true).getD m false) t sts.length)) t) ((a.put s.dst u).tmps.getD t undef) := fun t => by
    by_cases ht : s.dst = some t
    ·rw [lastW_at (i := i) (by simp [hset]) (by rw [hdd]; exact ht) sts.length hin fun m hm hml hmd => ?_]
     ·rw [hC.env i s hs,look_put,if_pos ht,ht,put_getD_eq (hd t ht)]
      exact hu
     ·rw [hset m,if_neg (by omega)]
      unfold dstOf at hmd
      obtain ⟨s',hs',hmd⟩ := Option.bind_eq_some_iff.1 hmd
      exact lw ((hD.names i s hs t (by simp [St.names,ht]) m s' hs' hmd).2 hm)
    ·rw [put_getD_ne ht,lastW_congr (L' := fun m => listed.getD m false) sts.length fun m _ hmd => ?_]
     ·exact (h2 t).step h1.rel step'
     ·rw [hset m,if_neg fun e => ?_]
      subst e; rw [hdd] at hmd; exact ht hmd
   have ssteps : Step N.fn w0 S0 μ0 (hp 0) w' S' μ' Hn := h1.trans step'
   cases hx : isX s.op with
   | true =>
    have e := hX hx
    subst e
    refine ⟨i + 1,ssteps,slots,h3.step h1.rel step',.inr ⟨i,s,rfl,by simp [hset],hs,hx,fun m s' hm hl hs' => ?_⟩⟩
    rw [hset m,if_neg (by omega)] at hl
    cases hx' : isX s'.op with
    | false => rfl
    | true =>
     rcases hD.tail m s' hs' (xnf hx') ⟨m,s',Nat.le_refl _,hs',hx'⟩ i s hm hs (xnf hx) with (h | h | h) | h
     ·rw [goesBy_q h] at hx; cases hx
     ·rw [goesKeep_q h] at hx'; cases hx'
     ·rw [h.1] at hx'; cases hx'
     ·rw [lw h] at hl; cases hl
   | false =>
    have e := hQn hx
    subst e
    refine ⟨k,ssteps,slots,h3.step h1.rel step',?_⟩
    rcases h4 with ⟨hk0,h4⟩ | ⟨x,s',hk,hxl,h5,h6,h4⟩
    ·refine .inl ⟨hk0,fun m s' hm hs' => ?_⟩
     rw [hset m] at hm
     by_cases h : i = m
     ·subst h; rw [hs] at hs'; cases hs'; exact hx
     ·rw [if_neg h] at hm; exact h4 m s' hm hs'
    ·have hxl' : (listed.setIfInBounds i true).getD x false = true := by
      rw [hset x]
      split
      ·rfl
      ·exact hxl
     refine .inr ⟨x,s',hk,hxl',h5,h6,fun m s2 hm hl hs2 => ?_⟩
     rw [hset m] at hl
     by_cases h : i = m
     ·subst h; rw [hs] at hs2; cases hs2; exact hx
     ·rw [if_neg h] at hl; exact h4 m s2 hm hl hs2
end
end Ab
namespace Ab
open Go (IntKind BinOp UnOp World Value Addr Obj undef maxLen Program TypeId Oper Op Operand Act Sem Next Result execOp Builtin Calls Ending Exit)
theorem look_prune {live : List Nat} {env : Env} {t : Nat} : look (prune live env) t = if t ∈ live then look env t else .any := by
 unfold prune
 induction live with
 | nil => simp [look]
 | cons x l ih =>
  simp only [List.map_cons,look,List.mem_cons]
  by_cases h : x = t
  ·subst h; simp
  ·rw [if_neg h,ih]
   simp [Ne.symm h]
theorem look_ren {r : Nat → Option Nat} : ∀ {e e' : Env} {t : Nat},renEnv r e = some e' → look e' t = .any ∨ ∃ v,look e t = v ∧ AV.ren r 3 v = some (look e' t)
 | [],e',t,h => by simp only [renEnv,mapO,Option.some.injEq] at h; subst h; exact .inl rfl
 | (s,v) :: e,e',t,h => by
  simp only [renEnv,mapO] at h
  split at h
  ·rename_i x hx
   split at h
   ·rename_i xs hxs
    simp only [Option.some.injEq] at h; subst h
    obtain ⟨v',hv',rfl⟩ := Option.map_eq_some_iff.1 hx
    simp only [look]
    by_cases hs : s = t
    ·simp only [hs,if_true]; exact .inr ⟨v,rfl,hv'⟩
    ·simp only [hs,if_false]; exact look_ren hxs
   ·cases h
  ·cases h
structure MovesK (k : Nat) (μ : Nat → Value) (H : Heap) (μ' : Nat → Value) (H' : Heap) : Prop where
 len : k ≤ H'.length
 row : ∀ id f sz xs,id < k → H'[id]? = some (.row f sz xs) → ∃ f0 xs0,H[id]? = some (.row f0 sz xs0) ∧ xs0.length ≤ xs.length ∧ (xs0.length = xs.length → μ' id = μ id)
 box : ∀ id cs,id < k → H'[id]? = some (.box cs) → ∃ cs0,H[id]? = some (.box cs0) ∧ μ' id = μ id
theorem Moves.toK {k : Nat} {μ μ' : Nat → Value} {H H' : Heap} (h : Moves μ H μ' H') (hk : k ≤ H.length) : MovesK k μ H μ' H' :=
 ⟨Nat.le_trans hk h.len,fun id f sz xs hi he => h.row id f sz xs (by omega) he,fun id cs hi he => h.box id cs (by omega) he⟩
theorem MovesK.toMoves {μ μ' : Nat → Value} {H H' : Heap} (h : MovesK H.length μ H μ' H') : Moves μ H μ' H' := ⟨h.len,h.row,h.box⟩
theorem MovesK.trans {k : Nat} {μ μ1 μ2 : Nat → Value} {H H1 H2 : Heap} (a : MovesK k μ H μ1 H1) (b : MovesK k μ1 H1 μ2 H2) : MovesK k μ H μ2 H2 where
 len := b.len
 row id f sz xs hi he := by
  obtain ⟨f1,xs1,e1,l1,q1⟩ := b.row id f sz xs hi he
  obtain ⟨f0,xs0,e0,l0,q0⟩ := a.row id f1 sz xs1 hi e1
  exact ⟨f0,xs0,e0,by omega,fun h => by rw [q1 (by omega),q0 (by omega)]⟩
 box id cs hi he := by
  obtain ⟨c1,e1,q1⟩ := b.box id cs hi he
  obtain ⟨c0,e0,q0⟩ := a.box id c1 hi e1
  exact ⟨c0,e0,by rw [q1,q0]⟩
def keepOk (gc : Option Nat) (k : Nat) : Bool := match gc with | none => true | some j => decide (k ≤ j)
section
variable {Γ : Ctx} {N : Names} {w : World} {S : Nat → Prop} {μ : Nat → Value} {H : Heap} {a : Act} {env : Env}
theorem Env.Rel.prune (he : Env.Rel Γ N w S μ H (look env) a) (live : List Nat) : Env.Rel Γ N w S μ H (look (Ab.prune live env)) a :=
 ⟨fun t => by
  rw [look_prune]
  split
  ·exact he.env t
  ·exact .any _,he.gl⟩
theorem norm_sound (hr : Ab.Rel N.fn w S μ H) (he : Env.Rel Γ N w S μ H (look env) a) {live : List Nat} {gc : Option Nat} {e : Env} {h : Heap} (hn : norm live gc env H = some (e,h)) :
  ∃ μ',Run N.fn w S μ H w S μ' h ∧ (∀ k,keepOk gc k = true → k ≤ H.length → MovesK k μ H μ' h) ∧ Env.Rel Γ N w S μ' h (look e) a := by
 simp only [norm] at hn
 split at hn
 ·rename_i j
  split at hn
  ·rename_i e' H' h1 h2
   simp only [Option.some.injEq,Prod.mk.injEq] at hn
   obtain ⟨rfl,rfl⟩ := hn
   refine ⟨_,run_pick hr (reach_nodup _ _ _ List.nodup_range) h2,(fun k hk hkl => ?_),fun t => ?_,he.gl⟩
   ·obtain ⟨X,hX⟩ := reach_prefix (H := H) 64 (((prune live env).flatMap fun x => x.2.refs) ++ (H.take j).flatMap Blk.refs) (List.range j)
    have hkj : k ≤ j := by simpa [keepOk] using hk
    generalize reach H 64 (((prune live env).flatMap fun x => x.2.refs) ++ (H.take j).flatMap Blk.refs) (List.range j) = L at hX h1 h2
    have hL : ∀ id,id < k → L[id]? = some id := fun id hi => by
     rw [hX,List.getElem?_append_left (by rw [List.length_range]; omega),List.getElem?_range (by omega)]
    refine ⟨?_,fun id f sz xs hi hb => ?_,fun id cs hi hb => ?_⟩
    ·rw [(mapO_spec h2).1,hX,List.length_append,List.length_range]; omega
    ·obtain ⟨id',b,g1,g2,g3⟩ := pick_get h2 hb
     rw [hL id hi] at g1
     cases g1
     rw [Blk.ren_row_inv g3] at g2
     exact ⟨f,xs,g2,Nat.le_refl _,fun _ => by simp [picked,hL id hi]⟩
    ·obtain ⟨id',b,g1,g2,g3⟩ := pick_get h2 hb
     rw [hL id hi] at g1
     cases g1
     obtain ⟨cs0,rfl,_⟩ := Blk.ren_box_inv g3
     exact ⟨cs0,g2,by simp [picked,hL id hi]⟩
   rcases look_ren (t := t) h1 with h | ⟨v,hv,h⟩
   ·rw [h]; exact .any _
   ·refine ren_rel (pick_emb h2) 3 ?_ h
    rw [← hv]
    exact (he.prune live).env t
  ·cases hn
 ·simp only [Option.some.injEq,Prod.mk.injEq] at hn
  obtain ⟨rfl,rfl⟩ := hn
  exact ⟨μ,.refl hr,fun _ _ hk => Moves.refl.toK hk,he.prune live⟩
end
end Ab
