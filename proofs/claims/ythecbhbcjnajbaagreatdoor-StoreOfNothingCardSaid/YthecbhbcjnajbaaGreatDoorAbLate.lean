import Derived.Test.YthecbhbcjnajbaaGreatDoorAbY4
namespace Ab
open Go (IntKind BinOp UnOp World Value Addr Obj undef maxLen Program TypeId Oper Op Operand Act Sem Next Result execOp Builtin Calls Ending Exit)
inductive Waits (ops : Array Oper) : Nat → Nat → Prop
 | one (j : Nat) (o : Oper) (e : Go.Edge) : ops[j]? = some o → e ∈ o.after → Go.Region.binds .any e = true → Waits ops j e.on
 | more (j : Nat) (o : Oper) (e : Go.Edge) (i : Nat) : ops[j]? = some o → e ∈ o.after → Go.Region.binds .any e = true → Waits ops e.on i → Waits ops j i
def orMask (acc : List Nat) : List Go.Edge → Nat → Nat
 | [],m => m
 | e :: es,m => orMask acc es (match Go.Region.binds .any e with | true => m ||| 2 ^ e.on ||| acc.getD e.on 0 | false => m)
def masks : List Oper → List Nat → List Nat
 | [],acc => acc
 | o :: os,acc => masks os (acc ++ [orMask acc o.after.toList 0])
theorem orMask_spec {ops : Array Oper} {j : Nat} {o : Oper} {acc : List Nat} (ho : ops[j]? = some o) (hacc : ∀ (k m i : Nat),acc[k]? = some m → m.testBit i = true → Waits ops k i) :
  ∀ (es : List Go.Edge) (m : Nat),(∀ e ∈ es,e ∈ o.after) → (∀ i,m.testBit i = true → Waits ops j i) → ∀ i,(orMask acc es m).testBit i = true → Waits ops j i
 | [],m,_,hm,i,h => hm i h
 | e :: es,m,he,hm,i,h => by
  refine orMask_spec ho hacc es _ (fun e' h' => he e' (by simp [h'])) (fun i hi => ?_) i h
  cases hb : Go.Region.binds .any e with
  | false => rw [hb] at hi; exact hm i hi
  | true =>
   rw [hb] at hi
   simp only [Nat.testBit_or,Bool.or_eq_true] at hi
   rcases hi with (hi | hi) | hi
   ·exact hm i hi
   ·rw [Nat.testBit_two_pow] at hi
    have : e.on = i := by simpa using hi
    subst this
    exact .one j o e ho (he e (by simp)) hb
   ·cases hg : acc[e.on]? with
    | none => simp [List.getD_eq_getElem?_getD,hg] at hi
    | some x =>
     simp only [List.getD_eq_getElem?_getD,hg,Option.getD_some] at hi
     exact .more j o e i ho (he e (by simp)) hb (hacc _ _ _ hg hi)
theorem masks_spec {ops : Array Oper} : ∀ (os : List Oper) (acc : List Nat),(∀ j,os[j]? = ops[acc.length + j]?) → (∀ (k m i : Nat),acc[k]? = some m → m.testBit i = true → Waits ops k i) →
  ∀ (k m i : Nat),(masks os acc)[k]? = some m → m.testBit i = true → Waits ops k i
 | [],acc,_,hacc => hacc
 | o :: os,acc,hos,hacc => by
  have ho : ops[acc.length]? = some o := by simpa using (hos 0).symm
  refine masks_spec os _ (fun j => ?_) (fun k m i hk hi => ?_)
  ·have := hos (j + 1)
   simp only [List.getElem?_cons_succ] at this
   rw [this]; congr 1; simp; omega
  ·by_cases hlt : k < acc.length
   ·rw [List.getElem?_append_left hlt] at hk; exact hacc k m i hk hi
   ·rw [List.getElem?_append_right (by omega)] at hk
    have hk0 : k - acc.length = 0 := by
     cases h : k - acc.length with
     | zero => rfl
     | succ n => rw [h] at hk; simp at hk
    rw [hk0] at hk
    simp only [List.getElem?_cons_zero,Option.some.injEq] at hk
    have : k = acc.length := by omega
    subst this
    subst hk
    exact orMask_spec ho hacc o.after.toList 0 (fun e he => by simpa using he) (by simp) i hi
def isX : QOp ⊕ XOp → Bool
 | .inl _ => false
 | .inr (.pureq _) => false
 | .inr _ => true
def isFree : QOp ⊕ XOp → Bool
 | .inl (.mov _) | .inl (.pick _ _ _) | .inl (.bin _ _ _) | .inl (.eqs _ _ _ _) | .inl (.eqk _ _ _ _) | .inl (.un _ _) | .inl (.conv _ _) | .inl (.same _) | .inl (.idx _ _) | .inl (.aidx _ _ _ _ _)
 | .inl (.fld _ _ _ _) | .inl (.sliceS _ _ _) | .inl (.slice _ _ _ _) | .inl (.build _ _) | .inl (.bslice _ _ _ _ _) | .inl (.ext _ _) | .inl (.minmax _ _) | .inl (.clos _ _) | .inl (.appq _ _ _) | .inl (.mkt _ _ _ _ _) | .inr (.pureq _) => true
 | _ => false
def isAlloc : QOp ⊕ XOp → Bool
 | .inr (.alloc _) | .inr (.newrow _) | .inr (.brow _ _ _ _ _) | .inr .mkmap => true
 | _ => false
def keepsOf : QOp ⊕ XOp → List Arg
 | .inr (.callk _ _ ks) | .inr (.callwk _ _ ks) | .inr (.storek _ _ _ ks) | .inr (.appk _ _ _ ks) | .inr (.bslk _ _ _ _ _ ks) => ks
 | _ => []
def loadOf : QOp ⊕ XOp → Option Nat
 | .inl (.loadk _ _ _ (.v t)) => some t
 | _ => none
def keepsW : QOp ⊕ XOp → List Arg
 | .inr (.callwk _ _ ks) => ks
 | _ => []
def lenOf : QOp ⊕ XOp → Option Nat
 | .inl (.lenk _ (.v t)) => some t
 | _ => none
def argIsV (t : Nat) : Arg → Bool
 | .v s => s == t
 | _ => false
def goesKeep (x q : QOp ⊕ XOp) : Bool := (match loadOf q with | some t => (keepsOf x).any (argIsV t) | none => false) || (match lenOf q with | some t => (keepsW x).any (argIsV t) | none => false)
def goesBy (x q : QOp ⊕ XOp) : Bool := (isAlloc x && !isX q) || goesKeep x q
theorem argIsV_spec {t : Nat} {a : Arg} (h : argIsV t a = true) : a = .v t := by
 cases a <;> simp [argIsV] at h
 rw [h]
theorem goesKeep_q {x q : QOp ⊕ XOp} (h : goesKeep x q = true) : isX q = false := by
 unfold goesKeep at h
 rw [Bool.or_eq_true] at h
 rcases h with h | h
 ·unfold loadOf at h
  split at h
  ·rename_i e
   split at e
   ·rfl
   ·cases e
  ·cases h
 ·unfold lenOf at h
  split at h
  ·rename_i e
   split at e
   ·rfl
   ·cases e
  ·cases h
theorem goesBy_q {x q : QOp ⊕ XOp} (h : goesBy x q = true) : isX q = false := by
 unfold goesBy at h
 rw [Bool.or_eq_true] at h
 rcases h with h | h
 ·simp only [Bool.and_eq_true,Bool.not_eq_true'] at h; exact h.2
 ·exact goesKeep_q h
def keepsOk (dsts : List (Option Nat)) (s : St) : Bool := (keepsOf s.op).all fun a => match a with
 | .v t => !dsts.contains (some t)
 | _ => true
def St.names (s : St) : List Nat := s.dst.toList ++ s.reads
def namesOk (M : List Nat) (dsts : List (Option Nat)) (i : Nat) (s : St) : Bool :=
 s.names.all fun t => (List.range dsts.length).all fun k => match dsts[k]? with
  | some (some d) => if d = t then (if k < i then (M.getD i 0).testBit k else if i < k then (M.getD k 0).testBit i else true) else true
  | _ => true
def tailOk (M : List Nat) (L F : List Bool) (O : List (QOp ⊕ XOp)) : Nat → Bool → List St → Bool
 | _,_,[] => true
 | i,x,s :: r => match x || isX s.op with
  | true => (isFree s.op || (List.range i).all (fun k => F.getD k false || (L.getD i false && isX (O.getD k (.inr .mkmap))) || goesBy s.op (O.getD k (.inr .mkmap)) || goesKeep (O.getD k (.inr .mkmap)) s.op || (!isX s.op && !isX (O.getD k (.inr .mkmap))) || (M.getD i 0).testBit k)) && tailOk M L F O (i + 1) true r
  | false => tailOk M L F O (i + 1) false r
def isBoxZ (s : St) : Bool := s.g.isNone && s.dst.isSome && match s.op with
 | .inr (.alloc _) => true
 | _ => false
def lateOk (ops : List Oper) (M : List Nat) (O : List (QOp ⊕ XOp)) (i : Nat) (s : St) : Bool :=
 isBoxZ s && (match ops[i]? with | some o => o.after.toList.all (fun e => !Go.Region.binds .any e) | none => false) &&
 (List.range ops.length).all fun j => match ops[j]? with
  | some o => !(o.after.toList.any fun e => Go.Region.binds .any e && e.on == i) || (List.range j).all fun k => k == i || !isX (O.getD k (.inr .mkmap)) || (M.getD j 0).testBit k
  | none => true
def lates (ops : List Oper) (M : List Nat) (O : List (QOp ⊕ XOp)) : Nat → List St → List Bool
 | _,[] => []
 | i,s :: r => lateOk ops M O i s :: lates ops M O (i + 1) r
theorem lates_get {ops : List Oper} {M : List Nat} {O : List (QOp ⊕ XOp)} : ∀ (l : List St) (i j : Nat),(lates ops M O i l).getD j false = true → ∃ s,l[j]? = some s ∧ lateOk ops M O (i + j) s = true
 | [],_,_,h => by simp [lates] at h
 | s :: r,i,0,h => ⟨s,rfl,by simpa [lates] using h⟩
 | s :: r,i,j + 1,h => by
  obtain ⟨s',h1,h2⟩ := lates_get r (i + 1) j (by simpa [lates] using h)
  exact ⟨s',by simpa using h1,by rwa [show i + 1 + j = i + (j + 1) by omega] at h2⟩
def backOk : Nat → List Oper → Bool
 | _,[] => true
 | i,o :: r => o.after.toList.all (fun e => match Go.Region.binds .any e with | true => decide (e.on < i) | false => true) && backOk (i + 1) r
def allNames (M : List Nat) (dsts : List (Option Nat)) : Nat → List St → Bool
 | _,[] => true
 | i,s :: r => namesOk M dsts i s && allNames M dsts (i + 1) r
def drawOk (ops : List Oper) (sts : List St) : Bool :=
 let M := masks ops []
 backOk 0 ops && tailOk M (lates ops M (sts.map (·.op)) 0 sts) (sts.map fun s => isFree s.op) (sts.map (·.op)) 0 false sts && allNames M (sts.map (·.dst)) 0 sts && sts.all (keepsOk (sts.map (·.dst)))
theorem getD_bit {M : List Nat} {i k : Nat} (h : (M.getD i 0).testBit k = true) : ∃ m,M[i]? = some m ∧ m.testBit k = true := by
 cases hm : M[i]? with
 | none => simp [List.getD_eq_getElem?_getD,hm] at h
 | some m => simp only [List.getD_eq_getElem?_getD,hm,Option.getD_some] at h; exact ⟨m,rfl,h⟩
theorem backOk_spec : ∀ (l : List Oper) (i : Nat),backOk i l = true → ∀ (j : Nat) o,l[j]? = some o → ∀ e ∈ o.after,Go.Region.binds .any e = true → e.on < i + j
 | o :: l,i,h,j,o',hj,e,he,hb => by
  simp only [backOk,Bool.and_eq_true] at h
  cases j with
  | zero =>
   simp only [List.getElem?_cons_zero,Option.some.injEq] at hj; subst hj
   have := List.all_eq_true.1 h.1 e (by simpa using he)
   rw [hb] at this
   simpa using this
  | succ j => have := backOk_spec l (i + 1) h.2 j o' (by simpa using hj) e he hb; omega
 | [],_,_,_,_,hj,_,_,_ => by simp at hj
theorem tailOk_spec {M : List Nat} {L F : List Bool} {O : List (QOp ⊕ XOp)} : ∀ (l : List St) (i : Nat) (x : Bool),tailOk M L F O i x l = true → ∀ (j : Nat) (s : St),l[j]? = some s → isFree s.op = false → (x = true ∨ ∃ k s,k ≤ j ∧ l[k]? = some s ∧ isX s.op = true) →
  ∀ k < i + j,(((F.getD k false = true ∨ (L.getD (i + j) false = true ∧ isX (O.getD k (.inr .mkmap)) = true)) ∨ goesBy s.op (O.getD k (.inr .mkmap)) = true) ∨ goesKeep (O.getD k (.inr .mkmap)) s.op = true ∨ (isX s.op = false ∧ isX (O.getD k (.inr .mkmap)) = false)) ∨ (M.getD (i + j) 0).testBit k = true
 | s :: l,i,x,h,j,s0,hj,hf,hx,k,hk => by
  simp only [tailOk] at h
  split at h
  ·rename_i hb
   simp only [Bool.and_eq_true,Bool.or_eq_true] at h
   cases j with
   | zero =>
    simp only [List.getElem?_cons_zero,Option.some.injEq] at hj; subst hj
    rcases h.1 with h1 | h1
    ·rw [hf] at h1; cases h1
    ·have := List.all_eq_true.1 h1 k (by simpa using hk)
     simpa [Bool.or_eq_true,Bool.and_eq_true,or_assoc] using this
   | succ j =>
    have := tailOk_spec l (i + 1) true h.2 j s0 (by simpa using hj) hf (.inl rfl) k (by omega)
    rwa [show i + 1 + j = i + (j + 1) by omega] at this
  ·rename_i hb
   simp only [Bool.or_eq_false_iff] at hb
   cases j with
   | zero =>
    rcases hx with hx | ⟨k',s',hk',hs',hx⟩
    ·rw [hb.1] at hx; cases hx
    ·have : k' = 0 := by omega
     subst this
     simp only [List.getElem?_cons_zero,Option.some.injEq] at hs'; subst hs'
     rw [hb.2] at hx; cases hx
   | succ j =>
    have := tailOk_spec l (i + 1) false h j s0 (by simpa using hj) hf (by
     rcases hx with hx | ⟨k',s',hk',hs',hx⟩
     ·rw [hb.1] at hx; cases hx
     ·cases k' with
      | zero => simp only [List.getElem?_cons_zero,Option.some.injEq] at hs'; subst hs'; rw [hb.2] at hx; cases hx
      | succ k' => exact .inr ⟨k',s',by omega,by simpa using hs',hx⟩) k (by omega)
    rwa [show i + 1 + j = i + (j + 1) by omega] at this
 | [],_,_,_,j,_,hj,_,_,_,_ => by simp at hj
theorem allNames_spec {M : List Nat} {dsts : List (Option Nat)} : ∀ (l : List St) (i : Nat),allNames M dsts i l = true → ∀ (j : Nat) s,l[j]? = some s → namesOk M dsts (i + j) s = true
 | s :: l,i,h,j,s',hj => by
  simp only [allNames,Bool.and_eq_true] at h
  cases j with
  | zero => simp only [List.getElem?_cons_zero,Option.some.injEq] at hj; subst hj; exact h.1
  | succ j =>
   have := allNames_spec l (i + 1) h.2 j s' (by simpa using hj)
   rwa [show i + 1 + j = i + (j + 1) by omega] at this
 | [],_,_,_,_,hj => by simp at hj
structure LateAt (ops : Array Oper) (sts : List St) (i : Nat) : Prop where
 op : ∃ d z,sts[i]? = some ⟨some d,none,.inr (.alloc z)⟩
 free : ∀ o,ops[i]? = some o → ∀ e ∈ o.after,Go.Region.binds .any e = true → False
 all : ∀ (j : Nat) o e,ops[j]? = some o → e ∈ o.after → Go.Region.binds .any e = true → e.on = i → ∀ (k : Nat) s,k < j → k ≠ i → sts[k]? = some s → isX s.op = true → Waits ops j k
structure Draw (ops : Array Oper) (sts : List St) : Prop where
 len : sts.length = ops.size
 back : ∀ (j : Nat) o,ops[j]? = some o → ∀ e ∈ o.after,Go.Region.binds .any e = true → e.on < j
 tail : ∀ (j : Nat) (s : St),sts[j]? = some s → isFree s.op = false → (∃ (k : Nat) (s : St),k ≤ j ∧ sts[k]? = some s ∧ isX s.op = true) → ∀ (k : Nat) (s' : St),k < j → sts[k]? = some s' → isFree s'.op = false → (goesBy s.op s'.op = true ∨ goesKeep s'.op s.op = true ∨ (isX s.op = false ∧ isX s'.op = false)) ∨ (LateAt ops sts j ∧ isX s'.op = true) ∨ Waits ops j k
 keep : ∀ (i : Nat) s,sts[i]? = some s → ∀ t,.v t ∈ keepsOf s.op → ∀ (k : Nat) s',sts[k]? = some s' → s'.dst ≠ some t
 names : ∀ (i : Nat) s,sts[i]? = some s → ∀ t ∈ s.names,∀ (k : Nat) s',sts[k]? = some s' → s'.dst = some t → (k < i → Waits ops i k) ∧ (i < k → Waits ops k i)
theorem drawOk_spec {ops : Array Oper} {sts : List St} (hl : sts.length = ops.size) (h : drawOk ops.toList sts = true) : Draw ops sts := by
 simp only [drawOk,Bool.and_eq_true] at h
 obtain ⟨⟨⟨h1,h2⟩,h3⟩,h4⟩ := h
 have hm : ∀ i k,((masks ops.toList []).getD i 0).testBit k = true → Waits ops i k := fun i k hb => by
  obtain ⟨m,hm,hk⟩ := getD_bit hb
  exact masks_spec ops.toList [] (by simp) (by simp) i m k hm hk
 refine ⟨hl,fun j o ho e he hb => ?_,fun j s hs hf hx k s' hk hs' hf' => ?_,fun i s hs t ht k s' hs' hd => ?_,fun i s hs t ht k s' hs' hd => ?_⟩
 ·have := backOk_spec ops.toList 0 h1 j o (by simpa using ho) e he hb; omega
 ·have := tailOk_spec sts 0 false h2 j s hs hf (.inr hx) k (by omega)
  rw [Nat.zero_add] at this
  rcases this with (((h | h) | h) | h | h) | h
  ·simp [List.getD_eq_getElem?_getD,hs',hf'] at h
  ·refine .inr (.inl ⟨?_,by simpa [List.getD_eq_getElem?_getD,hs'] using h.2⟩)
   obtain ⟨s2,e2,hl⟩ := lates_get sts 0 j (by simpa using h.1)
   rw [hs] at e2
   simp only [Option.some.injEq] at e2
   subst e2
   rw [Nat.zero_add] at hl
   simp only [lateOk,Bool.and_eq_true] at hl
   obtain ⟨⟨l1,l2⟩,l3⟩ := hl
   refine ⟨?_,fun o ho e he hb => ?_,fun q o e ho he hb heq k2 s2 hk2 hne hs2 hx2 => ?_⟩
   ·obtain ⟨d,g,op⟩ := s
    simp only [isBoxZ,Bool.and_eq_true] at l1
    obtain ⟨⟨g1,d1⟩,o1⟩ := l1
    cases d with
    | none => cases d1
    | some d =>
     cases g with
     | some _ => cases g1
     | none =>
      split at o1
      ·rename_i z; subst_vars; exact ⟨d,z,hs⟩
      ·cases o1
   ·rw [Array.getElem?_toList,ho] at l2
    have := List.all_eq_true.1 l2 e (by simpa using he)
    rw [hb] at this; cases this
   ·have h5 := List.all_eq_true.1 l3 q (by simpa using (Array.getElem?_eq_some_iff.1 ho).1)
    rw [Array.getElem?_toList,ho] at h5
    simp only [Bool.or_eq_true,Bool.not_eq_true'] at h5
    rcases h5 with h5 | h5
    ·have : (o.after.toList.any fun e => Go.Region.binds .any e && e.on == j) = true := List.any_eq_true.2 ⟨e,by simpa using he,by simp [hb,heq]⟩
     rw [this] at h5; cases h5
    ·have h6 := List.all_eq_true.1 h5 k2 (by simpa using hk2)
     simp only [Bool.or_eq_true,beq_iff_eq,Bool.not_eq_true',List.getD_eq_getElem?_getD,List.getElem?_map,hs2,Option.map_some,Option.getD_some,hx2,Bool.true_eq_false,or_false] at h6
     rcases h6 with h6 | h6
     ·exact absurd h6 hne
     ·exact hm _ _ (by simpa [List.getD_eq_getElem?_getD] using h6)
  ·exact .inl (.inl (by simpa [List.getD_eq_getElem?_getD,hs'] using h))
  ·exact .inl (.inr (.inl (by simpa [List.getD_eq_getElem?_getD,hs'] using h)))
  ·exact .inl (.inr (.inr (by simpa [List.getD_eq_getElem?_getD,hs'] using h)))
  ·exact .inr (.inr (hm _ _ h))
 ·have := List.all_eq_true.1 h4 s (List.mem_of_getElem? hs)
  have := List.all_eq_true.1 this _ ht
  simp only [Bool.not_eq_true',List.contains_eq_mem,decide_eq_false_iff_not] at this
  exact this (List.mem_map.2 ⟨s',List.mem_of_getElem? hs',hd⟩)
 ·have := allNames_spec sts 0 h3 i s hs
  rw [Nat.zero_add] at this
  have := List.all_eq_true.1 this t ht
  have := List.all_eq_true.1 this k (by simpa using (List.getElem?_eq_some_iff.1 hs').1)
  simp only [List.getElem?_map,hs',Option.map_some,hd,if_true] at this
  refine ⟨fun hki => hm _ _ ?_,fun hik => hm _ _ ?_⟩
  ·rw [if_pos hki] at this; exact this
  ·rw [if_neg (by omega),if_pos hik] at this; exact this
end Ab
namespace Ab
open Go (IntKind BinOp UnOp World Value Addr Obj undef maxLen Program TypeId Oper Op Operand Act Sem Next Result execOp Builtin Calls Ending Exit)
section
variable {ν : Nat → Nat} {w0 w w' : World} {S0 S S' : Nat → Prop} {μ0 μ μ' : Nat → Value} {H0 H H' : Heap} {b g : Nat}
def Un (w : World) (S : Nat → Prop) (μ : Nat → Value) (H : Heap) (b : Nat) : Prop := b < w.heap.size ∧ ¬ S b ∧ ¬ alive μ H b
theorem Un.run (h : Un w S μ H b) (hr : Run ν w S μ H w' S' μ' H') : Un w' S' μ' H' b ∧ w'.heap[b]? = w.heap[b]? :=
 ⟨⟨Nat.lt_of_lt_of_le h.1 hr.ext.size,fun hs => (hr.ext.new b hs h.1).elim h.2.1 h.2.2,fun ha => h.2.2 (hr.ext.own b ha h.1)⟩,hr.ext.keep b h.1 h.2.2⟩
theorem Un.fresh (hr : Rel ν w S μ H) (o : Obj) : Un (w.alloc o) S μ H w.heap.size := by
 refine ⟨by simp,fun h => Nat.lt_irrefl _ (hr.lt _ h),fun h => ?_⟩
 obtain ⟨id,b,h1,_,h3⟩ := alive_iff.1 h
 exact Nat.lt_irrefl _ (hr.blk_lt h1 h3)
theorem Un.size (h : Un w S μ H b) (hs : w.heap.size ≤ w'.heap.size) : Un w' S μ H b := ⟨Nat.lt_of_lt_of_le h.1 hs,h.2⟩
theorem CellsRel.keep {cs : List AV} {us : Array Value} (h : CellsRel ν w S μ H cs us) (hS : ∀ g,S g → S' g) (hw : ∀ g,S g → w'.heap[g]? = w.heap[g]?) (hm : Moves μ H μ' H') : CellsRel ν w' S' μ' H' cs us :=
 ⟨h.size,h.one,fun j c hc => (h.rel j c hc).keep hS hw hm⟩
theorem Step.bind (hst : Step ν w0 S0 μ0 H0 w S μ H) (hg : w0.heap.size ≤ g) (hU : Un w S μ H g) {cs : List AV} {us : Array Value} {T : TypeId} (hb : w.heap[g]? = some (.cells us T)) (hc : CellsRel ν w S μ H cs us) :
  ∃ μ',Step ν w0 S0 μ0 H0 w S μ' (H ++ [.box cs]) ∧ Moves μ H μ' (H ++ [.box cs]) ∧ (∀ b,Un w S μ H b → b ≠ g → Un w S μ' (H ++ [.box cs]) b) ∧ RelV ν w S μ' (H ++ [.box cs]) (.bx H.length 0) (.pointer (some ⟨g,0,none⟩)) := by
 have hr := hst.rel
 have old : ∀ (id : Nat) c,(H ++ [.box cs])[id]? = some c → (id < H.length ∧ H[id]? = some c) ∨ (id = H.length ∧ c = .box cs) := by
  intro id c h
  rcases Nat.lt_trichotomy id H.length with hl | hl | hl
  ·rw [getElem?_push_lt hl] at h; exact .inl ⟨hl,h⟩
  ·subst hl; rw [List.getElem?_append_right (Nat.le_refl _)] at h; simp at h; exact .inr ⟨rfl,h.symm⟩
  ·rw [List.getElem?_append_right (by omega)] at h
   have := (List.getElem?_eq_some_iff.1 h).1
   simp at this; omega
 have al : ∀ x,alive (upd μ H.length (.pointer (some ⟨g,0,none⟩))) (H ++ [.box cs]) x → alive μ H x ∨ x = g := by
  intro x ha
  obtain ⟨id,c,h1,h2,h3⟩ := alive_iff.1 ha
  rcases old id c h1 with ⟨hl,h⟩ | ⟨rfl,rfl⟩
  ·rw [upd_ne (by omega)] at h3; exact .inl (alive_iff.2 ⟨id,c,h,h2,h3⟩)
  ·rw [upd_same] at h3
   simp only [blkOf,Option.some.injEq] at h3
   exact .inr h3.symm
 refine ⟨upd μ H.length (.pointer (some ⟨g,0,none⟩)),⟨⟨hr.lt,fun id c h => ?_,fun x ha hs => ?_,fun i j x hi hj ai aj => ?_⟩,⟨hst.ext.os,hst.ext.tape,hst.ext.output,hst.ext.size,hst.ext.keep,hst.ext.more,hst.ext.new,fun x ha hl => ?_⟩,hst.moves.trans moves_push⟩,moves_push,fun x hx hne => ⟨hx.1,hx.2.1,fun ha => ?_⟩,?_⟩
 ·rcases old id c h with ⟨hl,h⟩ | ⟨rfl,rfl⟩
  ·exact (hr.blk id c h).keep (fun _ h => h) (fun _ _ => rfl) moves_push (upd_ne (by omega)) (fun _ _ => rfl)
  ·exact ⟨g,upd_same,.inl ⟨us,T,hb,hc.size,hc.one,fun j c hj => (hc.rel j c hj).keep (fun _ h => h) (fun _ _ => rfl) moves_push⟩⟩
 ·rcases al x ha with h | rfl
  ·exact hr.apart x h hs
  ·exact hU.2.1 hs
 ·have get : ∀ k : Nat,((∃ ds,(H ++ [Blk.box cs])[k]? = some (Blk.box ds)) ∨ ∃ sz xs,(H ++ [Blk.box cs])[k]? = some (Blk.row false sz xs)) → ∃ c,(H ++ [Blk.box cs])[k]? = some c ∧ isAlive c := by
   rintro k (⟨cs,h⟩ | ⟨sz,xs,h⟩)
   ·exact ⟨_,h,.inl ⟨cs,rfl⟩⟩
   ·exact ⟨_,h,.inr ⟨sz,xs,rfl⟩⟩
  obtain ⟨c,hc',ac⟩ := get i ai
  obtain ⟨d,hd,ad⟩ := get j aj
  rcases old i c hc' with ⟨hl,h⟩ | ⟨rfl,rfl⟩ <;> rcases old j d hd with ⟨hl2,h2⟩ | ⟨rfl,rfl⟩
  ·rw [upd_ne (by omega)] at hi hj; exact hr.inj' h h2 ac ad hi hj
  ·rw [upd_ne (by omega)] at hi; rw [upd_same] at hj
   simp only [blkOf,Option.some.injEq] at hj
   subst hj
   exact absurd (alive_iff.2 ⟨i,c,h,ac,hi⟩) hU.2.2
  ·rw [upd_ne (by omega)] at hj; rw [upd_same] at hi
   simp only [blkOf,Option.some.injEq] at hi
   subst hi
   exact absurd (alive_iff.2 ⟨j,d,h2,ad,hj⟩) hU.2.2
  ·rfl
 ·rcases al x ha with h | rfl
  ·exact hst.ext.own x h hl
  ·omega
 ·rcases al x ha with h | h
  ·exact hx.2.2 h
  ·exact hne h
 ·exact .bx _ _ g _ (by simp) (fun _ _ => upd_same) rfl
end
theorem alloc_raw {Γ : Ctx} {N : Names} {P : Program} {w : World} {S : Nat → Prop} {μ : Nat → Value} {H : Heap} {σ : Nat → AV} {a : Act} {ops : Array Oper} {nt i d : Nat} {o : Oper} {z : List PV} (hi : ops[i]? = some o)
  (hc : chkSt P N ops nt o ⟨some d,none,.inr (.alloc z)⟩ = true) (he : Env.Rel Γ N w S μ H σ a) {K : Act → World → Prop} {Q : Exit → Act → World → Prop}
  (hK : ∀ (us : Array Value) (T : TypeId),CellsRel N.fn w S μ H (z.map .p) us → K (a.put (some d) (.pointer (some ⟨w.heap.size,0,none⟩))) (w.alloc (.cells us T))) : Go.wpOp P ops Q i K a w := by
 simp only [chkSt,Bool.and_eq_true,beq_iff_eq] at hc
 obtain ⟨⟨⟨hd,_⟩,hg⟩,hop⟩ := hc
 unfold Go.wpOp
 simp only [hi]
 rw [← hd] at hK
 simp only [wanted_spec he hg (b := true) rfl,if_true]
 refine .inl ?_
 simp only [chkOp,chkX] at hop
 split at hop
 ·rename_i T hy
  obtain ⟨zv,z1,z2⟩ := zeroT_spec (N := N) (w := w) (S := S) (μ := μ) (H := H) hop
  have h1 : (execOp a.eval o).run P w = .ok (.value (.pointer (some ⟨w.heap.size,0,none⟩))) (w.alloc (.cells zv.cells T)) := by
   simp [execOp,hy,Go.Instr.alloc,z1,Go.newVar,Go.newRow]
  simp only [Go.Oper.wp,h1,Go.Oper.upon]
  exact hK _ _ z2
 ·cases hop
end Ab
