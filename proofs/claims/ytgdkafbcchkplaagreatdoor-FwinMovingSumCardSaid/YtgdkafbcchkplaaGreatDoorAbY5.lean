/- Regions that draw their order. -/
import Derived.Test.YtgdkafbcchkplaaGreatDoorAbY4
namespace Ab
open Go (IntKind BinOp UnOp World Value Addr Obj undef maxLen Program TypeId Oper Op Operand Act Sem Next Result execOp Builtin Calls Ending Exit)

/-- An operation waits for another, in one step or in several. -/
inductive Waits (ops : Array Oper) : Nat → Nat → Prop
  | one (j : Nat) (o : Oper) (e : Go.Edge) : ops[j]? = some o → e ∈ o.after → Go.Region.binds .any e = true → Waits ops j e.on
  | more (j : Nat) (o : Oper) (e : Go.Edge) (i : Nat) : ops[j]? = some o → e ∈ o.after → Go.Region.binds .any e = true → Waits ops e.on i → Waits ops j i

def orMask (acc : List Nat) : List Go.Edge → Nat → Nat
  | [], m => m
  | e :: es, m => orMask acc es (match Go.Region.binds .any e with | true => m ||| 2 ^ e.on ||| acc.getD e.on 0 | false => m)
def masks : List Oper → List Nat → List Nat
  | [], acc => acc
  | o :: os, acc => masks os (acc ++ [orMask acc o.after.toList 0])

theorem orMask_spec {ops : Array Oper} {j : Nat} {o : Oper} {acc : List Nat} (ho : ops[j]? = some o) (hacc : ∀ (k m i : Nat), acc[k]? = some m → m.testBit i = true → Waits ops k i) :
    ∀ (es : List Go.Edge) (m : Nat), (∀ e ∈ es, e ∈ o.after) → (∀ i, m.testBit i = true → Waits ops j i) → ∀ i, (orMask acc es m).testBit i = true → Waits ops j i
  | [], m, _, hm, i, h => hm i h
  | e :: es, m, he, hm, i, h => by
    refine orMask_spec ho hacc es _ (fun e' h' => he e' (by simp [h'])) (fun i hi => ?_) i h
    cases hb : Go.Region.binds .any e with
    | false => rw [hb] at hi; exact hm i hi
    | true =>
      rw [hb] at hi
      simp only [Nat.testBit_or, Bool.or_eq_true] at hi
      rcases hi with (hi | hi) | hi
      · exact hm i hi
      · rw [Nat.testBit_two_pow] at hi
        have : e.on = i := by simpa using hi
        subst this
        exact .one j o e ho (he e (by simp)) hb
      · cases hg : acc[e.on]? with
        | none => simp [List.getD_eq_getElem?_getD, hg] at hi
        | some x =>
          simp only [List.getD_eq_getElem?_getD, hg, Option.getD_some] at hi
          exact .more j o e i ho (he e (by simp)) hb (hacc _ _ _ hg hi)

theorem masks_spec {ops : Array Oper} : ∀ (os : List Oper) (acc : List Nat), (∀ j, os[j]? = ops[acc.length + j]?) → (∀ (k m i : Nat), acc[k]? = some m → m.testBit i = true → Waits ops k i) →
    ∀ (k m i : Nat), (masks os acc)[k]? = some m → m.testBit i = true → Waits ops k i
  | [], acc, _, hacc => hacc
  | o :: os, acc, hos, hacc => by
    have ho : ops[acc.length]? = some o := by simpa using (hos 0).symm
    refine masks_spec os _ (fun j => ?_) (fun k m i hk hi => ?_)
    · have := hos (j + 1)
      simp only [List.getElem?_cons_succ] at this
      rw [this]; congr 1; simp; omega
    · by_cases hlt : k < acc.length
      · rw [List.getElem?_append_left hlt] at hk; exact hacc k m i hk hi
      · rw [List.getElem?_append_right (by omega)] at hk
        have hk0 : k - acc.length = 0 := by
          cases h : k - acc.length with
          | zero => rfl
          | succ n => rw [h] at hk; simp at hk
        rw [hk0] at hk
        simp only [List.getElem?_cons_zero, Option.some.injEq] at hk
        have : k = acc.length := by omega
        subst this
        subst hk
        exact orMask_spec ho hacc o.after.toList 0 (fun e he => by simpa using he) (by simp) i hi

def isX : QOp ⊕ XOp → Bool
  | .inl _ => false
  | .inr _ => true
/-- Operations that look at no memory of the call's own. -/
def isFree : QOp ⊕ XOp → Bool
  | .inl (.mov _) | .inl (.pick _ _ _) | .inl (.bin _ _ _) | .inl (.eqs _ _ _ _) | .inl (.eqk _ _ _ _) | .inl (.un _ _) | .inl (.conv _ _) | .inl (.same _) | .inl (.idx _ _) | .inl (.aidx _ _ _ _ _)
  | .inl (.fld _ _ _ _) | .inl (.sliceS _ _ _) | .inl (.slice _ _ _ _) | .inl (.build _ _) | .inl (.bslice _ _ _ _ _) | .inl (.ext _ _) | .inl (.minmax _ _) | .inl (.clos _ _) => true
  | _ => false

/-- Operations that make a block and do no more. -/
def isAlloc : QOp ⊕ XOp → Bool
  | .inr (.alloc _) | .inr (.newrow _) => true
  | _ => false

/-- Names that a statement reads or writes. -/
def St.names (s : St) : List Nat := s.dst.toList ++ s.reads

/-- Whoever writes a name that statement i knows comes up always ahead of it, or always behind it. -/
def namesOk (M : List Nat) (dsts : List (Option Nat)) (i : Nat) (s : St) : Bool :=
  s.names.all fun t => (List.range dsts.length).all fun k => match dsts[k]? with
    | some (some d) => if d = t then (if k < i then (M.getD i 0).testBit k else if i < k then (M.getD k 0).testBit i else true) else true
    | _ => true
/-- From the first change of memory on, every statement that looks at memory waits for all such ahead of it; one that makes a block waits for changes alone. -/
def tailOk (M : List Nat) (F X : List Bool) : Nat → Bool → List St → Bool
  | _, _, [] => true
  | i, x, s :: r => match x || isX s.op with
    | true => (isFree s.op || (List.range i).all (fun k => F.getD k false || (isAlloc s.op && !X.getD k true) || (M.getD i 0).testBit k)) && tailOk M F X (i + 1) true r
    | false => tailOk M F X (i + 1) false r
def backOk : Nat → List Oper → Bool
  | _, [] => true
  | i, o :: r => o.after.toList.all (fun e => match Go.Region.binds .any e with | true => decide (e.on < i) | false => true) && backOk (i + 1) r
def allNames (M : List Nat) (dsts : List (Option Nat)) : Nat → List St → Bool
  | _, [] => true
  | i, s :: r => namesOk M dsts i s && allNames M dsts (i + 1) r
def drawOk (ops : List Oper) (sts : List St) : Bool :=
  let M := masks ops []
  backOk 0 ops && tailOk M (sts.map fun s => isFree s.op) (sts.map fun s => isX s.op) 0 false sts && allNames M (sts.map (·.dst)) 0 sts

theorem getD_bit {M : List Nat} {i k : Nat} (h : (M.getD i 0).testBit k = true) : ∃ m, M[i]? = some m ∧ m.testBit k = true := by
  cases hm : M[i]? with
  | none => simp [List.getD_eq_getElem?_getD, hm] at h
  | some m => simp only [List.getD_eq_getElem?_getD, hm, Option.getD_some] at h; exact ⟨m, rfl, h⟩

theorem backOk_spec : ∀ (l : List Oper) (i : Nat), backOk i l = true → ∀ (j : Nat) o, l[j]? = some o → ∀ e ∈ o.after, Go.Region.binds .any e = true → e.on < i + j
  | o :: l, i, h, j, o', hj, e, he, hb => by
    simp only [backOk, Bool.and_eq_true] at h
    cases j with
    | zero =>
      simp only [List.getElem?_cons_zero, Option.some.injEq] at hj; subst hj
      have := List.all_eq_true.1 h.1 e (by simpa using he)
      rw [hb] at this
      simpa using this
    | succ j => have := backOk_spec l (i + 1) h.2 j o' (by simpa using hj) e he hb; omega
  | [], _, _, _, _, hj, _, _, _ => by simp at hj

theorem tailOk_spec {M : List Nat} {F X : List Bool} : ∀ (l : List St) (i : Nat) (x : Bool), tailOk M F X i x l = true → ∀ (j : Nat) (s : St), l[j]? = some s → isFree s.op = false → (x = true ∨ ∃ k s, k ≤ j ∧ l[k]? = some s ∧ isX s.op = true) →
    ∀ k < i + j, (F.getD k false = true ∨ (isAlloc s.op = true ∧ X.getD k true = false)) ∨ (M.getD (i + j) 0).testBit k = true
  | s :: l, i, x, h, j, s0, hj, hf, hx, k, hk => by
    simp only [tailOk] at h
    split at h
    · rename_i hb
      simp only [Bool.and_eq_true, Bool.or_eq_true] at h
      cases j with
      | zero =>
        simp only [List.getElem?_cons_zero, Option.some.injEq] at hj; subst hj
        rcases h.1 with h1 | h1
        · rw [hf] at h1; cases h1
        · have := List.all_eq_true.1 h1 k (by simpa using hk)
          simpa [Bool.or_eq_true, Bool.and_eq_true] using this
      | succ j =>
        have := tailOk_spec l (i + 1) true h.2 j s0 (by simpa using hj) hf (.inl rfl) k (by omega)
        rwa [show i + 1 + j = i + (j + 1) by omega] at this
    · rename_i hb
      simp only [Bool.or_eq_false_iff] at hb
      cases j with
      | zero =>
        rcases hx with hx | ⟨k', s', hk', hs', hx⟩
        · rw [hb.1] at hx; cases hx
        · have : k' = 0 := by omega
          subst this
          simp only [List.getElem?_cons_zero, Option.some.injEq] at hs'; subst hs'
          rw [hb.2] at hx; cases hx
      | succ j =>
        have := tailOk_spec l (i + 1) false h j s0 (by simpa using hj) hf (by
          rcases hx with hx | ⟨k', s', hk', hs', hx⟩
          · rw [hb.1] at hx; cases hx
          · cases k' with
            | zero => simp only [List.getElem?_cons_zero, Option.some.injEq] at hs'; subst hs'; rw [hb.2] at hx; cases hx
            | succ k' => exact .inr ⟨k', s', by omega, by simpa using hs', hx⟩) k (by omega)
        rwa [show i + 1 + j = i + (j + 1) by omega] at this
  | [], _, _, _, j, _, hj, _, _, _, _ => by simp at hj

theorem allNames_spec {M : List Nat} {dsts : List (Option Nat)} : ∀ (l : List St) (i : Nat), allNames M dsts i l = true → ∀ (j : Nat) s, l[j]? = some s → namesOk M dsts (i + j) s = true
  | s :: l, i, h, j, s', hj => by
    simp only [allNames, Bool.and_eq_true] at h
    cases j with
    | zero => simp only [List.getElem?_cons_zero, Option.some.injEq] at hj; subst hj; exact h.1
    | succ j =>
      have := allNames_spec l (i + 1) h.2 j s' (by simpa using hj)
      rwa [show i + 1 + j = i + (j + 1) by omega] at this
  | [], _, _, _, _, hj => by simp at hj

/-- What the checks say. -/
structure Draw (ops : Array Oper) (sts : List St) : Prop where
  len : sts.length = ops.size
  back : ∀ (j : Nat) o, ops[j]? = some o → ∀ e ∈ o.after, Go.Region.binds .any e = true → e.on < j
  tail : ∀ (j : Nat) (s : St), sts[j]? = some s → isFree s.op = false → (∃ (k : Nat) (s : St), k ≤ j ∧ sts[k]? = some s ∧ isX s.op = true) → ∀ (k : Nat) (s' : St), k < j → sts[k]? = some s' → isFree s'.op = false → (isAlloc s.op = true ∧ isX s'.op = false) ∨ Waits ops j k
  names : ∀ (i : Nat) s, sts[i]? = some s → ∀ t ∈ s.names, ∀ (k : Nat) s', sts[k]? = some s' → s'.dst = some t → (k < i → Waits ops i k) ∧ (i < k → Waits ops k i)

theorem drawOk_spec {ops : Array Oper} {sts : List St} (hl : sts.length = ops.size) (h : drawOk ops.toList sts = true) : Draw ops sts := by
  simp only [drawOk, Bool.and_eq_true] at h
  obtain ⟨⟨h1, h2⟩, h3⟩ := h
  have hm : ∀ i k, ((masks ops.toList []).getD i 0).testBit k = true → Waits ops i k := fun i k hb => by
    obtain ⟨m, hm, hk⟩ := getD_bit hb
    exact masks_spec ops.toList [] (by simp) (by simp) i m k hm hk
  refine ⟨hl, fun j o ho e he hb => ?_, fun j s hs hf hx k s' hk hs' hf' => ?_, fun i s hs t ht k s' hs' hd => ?_⟩
  · have := backOk_spec ops.toList 0 h1 j o (by simpa using ho) e he hb; omega
  · have := tailOk_spec sts 0 false h2 j s hs hf (.inr hx) k (by omega)
    rw [Nat.zero_add] at this
    rcases this with (h | ⟨h, h'⟩) | h
    · simp [List.getD_eq_getElem?_getD, hs', hf'] at h
    · exact .inl ⟨h, by simpa [List.getD_eq_getElem?_getD, hs'] using h'⟩
    · exact .inr (hm _ _ h)
  · have := allNames_spec sts 0 h3 i s hs
    rw [Nat.zero_add] at this
    have := List.all_eq_true.1 this t ht
    have := List.all_eq_true.1 this k (by simpa using (List.getElem?_eq_some_iff.1 hs').1)
    simp only [List.getElem?_map, hs', Option.map_some, hd, if_true] at this
    refine ⟨fun hki => hm _ _ ?_, fun hik => hm _ _ ?_⟩
    · rw [if_pos hki] at this; exact this
    · rw [if_neg (by omega), if_pos hik] at this; exact this
end Ab
