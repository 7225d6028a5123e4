import Derived.Test.YtieagbclljmnlaaGreatDoorAbZ6
import Derived.Test.YtieagbclljmnlaaGreatDoorAbDrawn
import Derived.RangeFuncNested
import Derived.RangeFuncLeaves
import Derived.Maps.Keyed
import Derived.Shelf.SlSortCmp.NoneTotal
import Derived.Test.YtieagbclljmnlaaGreatDoorLTrie9
namespace Ab
open Go (IntKind BinOp UnOp World Value Addr Obj undef maxLen Program TypeId Oper Op Operand Act Sem Next Result execOp Builtin Calls Ending Exit MapEntry DataW MemPlace Lit keyOf)
open Go.RowKit Go.Maps Go.Sort Go.Proofs
open Go (WideAt.sameKey_self)
structure HitT where
 s : List UInt8
 l : Bool
 deriving DecidableEq, Inhabited
def HitT.p (h : HitT) : List UInt8 × Bool := (h.s, h.l)
def encH (h : HitT) : Value := .agg #[.string ⟨h.s.toArray⟩, .bool h.l]
abbrev cellsH (h : HitT) : List Value := [.string ⟨h.s.toArray⟩, .bool h.l]
theorem encH_inj {a b : HitT} (h : encH a = encH b) : a = b := by
 obtain ⟨a1, a2⟩ := a; obtain ⟨b1, b2⟩ := b
 simp [encH] at h
 simp [h.1, h.2]
structure HitKey (P : Program) (k : TypeId) : Prop where
 keyed : Keyed P k
 inv : ∀ key kl, keyOf P k key = some kl → ∃ x, key = encH x
 reads : ∀ h : HitT, h.s.length ≤ maxLen → ∃ l, keyOf P k (encH h) = some l
theorem hitKey_of {P : Program} {k s b : TypeId} {f0 f1 : Go.Field} (K : Keyed P k) (hu : P.underlying k = some (.struct #[f0, f1])) (hn1 : (f0.name != "_") = true) (hn2 : (f1.name != "_") = true) (a2 : f0.type = s) (a3 : f0.offset = 0) (b2 : f1.type = b) (b3 : f1.offset = 1)
  (hs : P.underlying s = some .string) (hb : P.underlying b = some .bool) (hc : P.cellsOf k = 2) (hcs : P.cellsOf s = 1) (hcb : P.cellsOf b = 1) (hkt : P.keyType k = true) (hsz : 0 < P.types.size) : HitKey P k := by
 obtain ⟨d, hd⟩ : ∃ d, P.types.size = d + 1 := ⟨P.types.size - 1, by omega⟩
 have hall : (#[f0, f1] : Array Go.Field).all (fun f => f.name != "_") = true := by
  rw [← Array.all_toList]
  simp only [List.all_cons, List.all_nil, hn1, hn2, Bool.and_self]
 have key : ∀ c0 c1, P.keyLits (P.types.size + 1) k [c0, c1] = (P.keyLits (d + 1) s [c0]).bind fun x => (P.keyLits (d + 1) b [c1]).map fun y => x ++ y := by
  intro c0 c1
  rw [hd]
  conv => lhs; unfold Program.keyLits
  rw [hu]
  simp only [List.length_cons, List.length_nil, hc, hall, and_self, if_true, List.mapM_cons, List.mapM_nil, a2, a3, b2, b3, hcs, hcb]
  simp only [List.take, List.drop]
  cases P.keyLits (d + 1) s [c0] with
  | none => rfl
  | some x => cases P.keyLits (d + 1) b [c1] <;> simp
 have ks : ∀ c0, P.keyLits (d + 1) s [c0] = match c0 with | .string z => if z.size ≤ maxLen then some [.string z.data.toList] else none | _ => none := by
  intro c0
  unfold Program.keyLits
  rw [hs]
  cases c0 <;> rfl
 have kb : ∀ c0, P.keyLits (d + 1) b [c0] = match c0 with | .bool z => some [.bool z] | _ => none := by
  intro c0
  unfold Program.keyLits
  rw [hb]
  cases c0 <;> rfl
 refine ⟨K, fun v kl h => ?_, fun h hl => ?_⟩
 ·unfold keyOf at h
  rw [hu] at h
  simp only [hkt, Bool.true_and] at h
  split at h
  ·rename_i hfm
   obtain ⟨ls, h3, rfl⟩ := Option.map_eq_some_iff.1 h
   cases v <;> simp only [Value.formed, hu, Bool.false_eq_true] at hfm
   rename_i cs
   simp only [hc, beq_iff_eq] at hfm
   obtain ⟨c0, c1, rfl⟩ : ∃ c0 c1, cs = #[c0, c1] := by
    obtain ⟨l⟩ := cs
    match l, hfm with
    | [c0, c1], _ => exact ⟨c0, c1, rfl⟩
   replace h3 : P.keyLits (P.types.size + 1) k [c0, c1] = some ls := h3
   rw [key, ks, kb] at h3
   cases c0 <;> simp only [Option.bind_none, reduceCtorEq] at h3
   rename_i z
   by_cases hz : z.size ≤ maxLen
   ·simp only [hz, if_true, Option.bind_some] at h3
    cases c1 <;> simp only [Option.map_none, reduceCtorEq] at h3
    rename_i bb
    exact ⟨⟨z.data.toList, bb⟩, by simp [encH]⟩
   ·simp [hz] at h3
  ·cases h
 ·unfold keyOf
  rw [hu]
  have h3 : P.keyLits (P.types.size + 1) k [.string ⟨h.s.toArray⟩, .bool h.l] = some ([.string h.s] ++ [.bool h.l]) := by
   rw [key, ks, kb]
   have : (⟨h.s.toArray⟩ : ByteArray).size ≤ maxLen := by show h.s.toArray.size ≤ maxLen; simpa using hl
   simp only [this, if_true, Option.bind_some, Option.map_some]
  have hfm : (encH h).formed P k = true := by simp [encH, Value.formed, hu, hc]
  have h4 : P.keyLits (P.types.size + 1) k (encH h).cells.toList = some ([.string h.s] ++ [.bool h.l]) := h3
  simp only [hkt, hfm, h4, Bool.and_self, if_true, Option.map_some]
  exact ⟨_, rfl⟩
structure CollH (P : Program) (k : TypeId) (D0 : DataW Unit) (left : Lit → Bool) (hs : List HitT) : Prop where
 nodup : hs.Nodup
 mem : ∀ x l, keyOf P k (encH x) = some l → (x ∈ hs ↔ has D0 l = true ∧ left l = false)
 reads : ∀ x ∈ hs, ∃ l, keyOf P k (encH x) = some l
theorem CollH.start {P : Program} {k : TypeId} (D0 : DataW Unit) : CollH P k D0 (has D0) [] :=
 ⟨List.nodup_nil, fun x l _ => by cases has D0 l <;> simp, by simp⟩
theorem CollH.step {P : Program} {k : TypeId} {D0 : DataW Unit} {left : Lit → Bool} {hs : List HitT} (K : HitKey P k) (h : CollH P k D0 left hs) {x : HitT} {kl : Lit} {y : DataW Unit} (hk : keyOf P k (encH x) = some kl) (hlk : left kl = true) (hat : ∀ zd, D0.atKey kl zd = y) :
  CollH P k D0 (fun z => left z && !z.sameKey kl) (hs ++ [x]) := by
 have hhas : has D0 kl = true := has_true_of_atKey hat
 have hnew : x ∉ hs := fun hx => by have := ((h.mem x kl hk).1 hx).2; rw [hlk] at this; cases this
 refine ⟨List.nodup_append.2 ⟨h.nodup, by simp, fun a ha b hb => by simp at hb; subst hb; exact fun e => hnew (e ▸ ha)⟩, fun z l hz => ?_, fun z hz => ?_⟩
 ·by_cases e : z = x
  ·subst e
   rw [hk] at hz; cases hz
   simp [hhas, Go.WideAt.sameKey_self (K.keyed.key hk)]
  ·have hne : l.sameKey kl = false := by
    cases hs : l.sameKey kl
    ·rfl
    ·have := Go.WideAt.sameKey_eq hs
     subst this
     exact absurd (encH_inj (K.keyed.inj hz hk)) e
   simp [h.mem z l hz, e, hne]
 ·rcases List.mem_append.1 hz with hz | hz
  ·exact h.reads z hz
  ·simp at hz; subst hz; exact ⟨kl, hk⟩
def HitsAll (P : Program) (k : TypeId) (D0 : DataW Unit) (hs : List HitT) : Prop := hs.Nodup ∧ (∀ x l, keyOf P k (encH x) = some l → (x ∈ hs ↔ has D0 l = true)) ∧ ∀ x ∈ hs, ∃ l, keyOf P k (encH x) = some l
theorem CollH.all {P : Program} {k : TypeId} {D0 : DataW Unit} {left : Lit → Bool} {hs : List HitT} (h : CollH P k D0 left hs) (hl : ∀ l, left l = false) : HitsAll P k D0 hs :=
 ⟨h.nodup, fun x l hx => by rw [h.mem x l hx, hl]; simp, h.reads⟩
theorem cells_two_new (W : World) (x y : Value) (t : TypeId) : ∀ (j : Nat) (u : Value), [x, y][j]? = some u → (W.alloc (.cells #[x, y] t)).cell? ((⟨W.heap.size, 0, none⟩ : Addr).add j) = some u := by
 intro j u h
 have h0 := World.alloc_heap_new W (.cells #[x, y] t)
 match j, h with
 | 0, h =>
  simp at h; subst h
  show (W.alloc _).cell? ⟨W.heap.size, 0, none⟩ = _
  simp only [World.cell?, h0]; rfl
 | 1, h =>
  simp at h; subst h
  show (W.alloc _).cell? ⟨W.heap.size, 1, none⟩ = _
  simp only [World.cell?, h0]; rfl
 | j + 2, h => simp at h
theorem partsLess_iff : ∀ {a b : List (List UInt8)}, partsLess a b = true ↔ a < b
 | _, [] => by simp [partsLess, List.not_lt_nil]
 | [], b :: y => by simp [partsLess, List.nil_lt_cons]
 | a :: x, b :: y => by
  rw [List.cons_lt_cons_iff, ← partsLess_iff, ← less_iff]
  simp [partsLess]
def undot : List (List UInt8) → List UInt8
 | [] => []
 | [p] => p
 | p :: q :: r => p ++ 46 :: undot (q :: r)
theorem dotParts_ne (cur s : List UInt8) : ∃ p q, dotParts cur s = p :: q := by
 induction s generalizing cur with
 | nil => exact ⟨_, _, rfl⟩
 | cons c r ih =>
  unfold dotParts
  split
  ·exact ⟨_, _, rfl⟩
  ·exact ih _
theorem undot_parts (cur s : List UInt8) : undot (dotParts cur s) = cur.reverse ++ s := by
 induction s generalizing cur with
 | nil => simp [dotParts, undot]
 | cons c r ih =>
  unfold dotParts
  split
  ·rename_i e
   obtain ⟨p, q, hpq⟩ := dotParts_ne [] r
   have := ih []
   rw [hpq] at this
   rw [hpq]
   simp only [undot, this, e]
   simp
  ·rw [ih]; simp
theorem dotParts_inj {x y : List UInt8} (h : dotParts [] x = dotParts [] y) : x = y := by
 have := congrArg undot h
 simpa [undot_parts] using this
abbrev cfT (a b : HitT) : Int := cmpH a.p b.p
theorem ltT {a b : HitT} : ltOf cfT a b = true ↔ dotParts [] a.s < dotParts [] b.s ∨ (dotParts [] a.s = dotParts [] b.s ∧ a.l = false ∧ b.l = true) := by
 obtain ⟨a, la⟩ := a
 obtain ⟨b, lb⟩ := b
 unfold ltOf cfT cmpH HitT.p
 rw [decide_eq_true_iff]
 simp only
 split
 ·rename_i h
  have := partsLess_iff.1 h
  simp [this]
 ·rename_i h1
  split
  ·rename_i h
   have h2 := partsLess_iff.1 h
   constructor
   ·intro h; omega
   ·rintro (h3 | ⟨h3, _⟩)
    ·exact absurd h3 (List.lt_asymm h2)
    ·rw [h3] at h2; exact absurd h2 (List.lt_irrefl _)
  ·rename_i h2
   have h1' : ¬ dotParts [] a < dotParts [] b := fun h => h1 (partsLess_iff.2 h)
   have h2' : ¬ dotParts [] b < dotParts [] a := fun h => h2 (partsLess_iff.2 h)
   have e : dotParts [] a = dotParts [] b := List.le_antisymm h2' h1'
   rw [e]
   simp only [List.lt_irrefl, false_or, true_and]
   cases la <;> cases lb <;> simp
theorem ltT_irrefl (a : HitT) : ltOf cfT a a = false := by
 cases h : ltOf cfT a a
 ·rfl
 ·rcases ltT.1 h with h | ⟨_, h1, h2⟩
  ·exact absurd h (List.lt_irrefl _)
  ·rw [h1] at h2; cases h2
theorem ltT_trans {a b c : HitT} (h1 : ltOf cfT a b = true) (h2 : ltOf cfT b c = true) : ltOf cfT a c = true := by
 rw [ltT] at *
 rcases h1 with h1 | ⟨e1, a1, b1⟩
 ·rcases h2 with h2 | ⟨e2, a2, b2⟩
  ·exact .inl (List.lt_trans h1 h2)
  ·exact .inl (e2 ▸ h1)
 ·rcases h2 with h2 | ⟨e2, a2, b2⟩
  ·exact .inl (e1 ▸ h2)
  ·rw [b1] at a2; cases a2
theorem ltT_total {a b : HitT} (h1 : ltOf cfT a b = false) (h2 : ltOf cfT b a = false) : a = b := by
 have h1 : ¬ _ := fun h => by rw [ltT.2 h] at h1; cases h1
 have h2 : ¬ _ := fun h => by rw [ltT.2 h] at h2; cases h2
 have e : dotParts [] a.s = dotParts [] b.s := List.le_antisymm (fun h => h2 (.inl h)) (fun h => h1 (.inl h))
 obtain ⟨a, la⟩ := a
 obtain ⟨b, lb⟩ := b
 simp only at e h1 h2
 have := dotParts_inj e
 subst this
 cases la <;> cases lb <;> simp_all
theorem swoT : SWO (ltOf cfT) where
 irrefl := ltT_irrefl
 trans _ _ _ := ltT_trans
 ntrans x y z h1 h2 := by
  cases h : ltOf cfT x z
  ·rfl
  ·by_cases e : ltOf cfT y x = true
   ·exact absurd (ltT_trans e h) (by rw [h2]; simp)
   ·have := ltT_total h1 (by simpa using e)
    subst this
    rw [h2] at h; cases h
theorem hitLess_eq (a b : HitT) : hitLess a.p b.p = ltOf cfT a b := by
 rw [Bool.eq_iff_iff, ltT]
 obtain ⟨a, la⟩ := a
 obtain ⟨b, lb⟩ := b
 simp only [hitLess, HitT.p, Bool.or_eq_true, partsLess_iff, Bool.and_eq_true, beq_iff_eq, Bool.not_eq_true']
theorem insH_perm (s : List UInt8 × Bool) : ∀ l, (insH s l).Perm (s :: l)
 | [] => .refl _
 | t :: r => by
  unfold insH
  split
  ·exact ((insH_perm s r).cons t).trans (.swap s t r)
  ·exact .refl _
theorem sortH_perm : ∀ l, (sortH l).Perm l
 | [] => .refl _
 | s :: r => (insH_perm s _).trans ((sortH_perm r).cons s)
def unp (h : List UInt8 × Bool) : HitT := ⟨h.1, h.2⟩
theorem p_unp (h : List UInt8 × Bool) : (unp h).p = h := rfl
def leH (a b : List UInt8 × Bool) : Prop := hitLess b a = false
theorem leH_of_lt {a b : List UInt8 × Bool} (h : hitLess a b = true) : leH a b := by
 unfold leH
 cases e : hitLess b a
 ·rfl
 ·have h1 : ltOf cfT (unp a) (unp b) = true := by rw [← hitLess_eq]; exact h
  have h2 : ltOf cfT (unp b) (unp a) = true := by rw [← hitLess_eq]; exact e
  exact absurd (ltT_trans h1 h2) (by rw [ltT_irrefl]; simp)
theorem leH_trans {a b c : List UInt8 × Bool} (h1 : leH a b) (h2 : leH b c) : leH a c := by
 have h1 : ltOf cfT (unp b) (unp a) = false := by rw [← hitLess_eq]; exact h1
 have h2 : ltOf cfT (unp c) (unp b) = false := by rw [← hitLess_eq]; exact h2
 have := swoT.ntrans _ _ _ h2 h1
 rw [← hitLess_eq] at this
 exact this
theorem leH_antisymm {a b : List UInt8 × Bool} (h1 : leH a b) (h2 : leH b a) : a = b := by
 have h1 : ltOf cfT (unp b) (unp a) = false := by rw [← hitLess_eq]; exact h1
 have h2 : ltOf cfT (unp a) (unp b) = false := by rw [← hitLess_eq]; exact h2
 exact congrArg HitT.p (ltT_total h2 h1)
theorem insH_sorted (s : List UInt8 × Bool) : ∀ {l : List (List UInt8 × Bool)}, l.Pairwise leH → (insH s l).Pairwise leH
 | [], _ => by simp [insH]
 | t :: r, h => by
  obtain ⟨h1, h2⟩ := List.pairwise_cons.1 h
  unfold insH
  split
  ·rename_i hb
   refine List.pairwise_cons.2 ⟨fun x hx => ?_, insH_sorted s h2⟩
   rcases List.mem_cons.1 ((insH_perm s r).mem_iff.1 hx) with rfl | hx
   ·exact leH_of_lt hb
   ·exact h1 x hx
  ·rename_i hb
   have hst : leH s t := by simpa [leH] using hb
   refine List.pairwise_cons.2 ⟨fun x hx => ?_, h⟩
   rcases List.mem_cons.1 hx with rfl | hx
   ·exact hst
   ·exact leH_trans hst (h1 x hx)
theorem sortH_sorted : ∀ l : List (List UInt8 × Bool), (sortH l).Pairwise leH
 | [] => .nil
 | s :: r => insH_sorted s (sortH_sorted r)
def sortT (hs : List HitT) : List HitT := hs.mergeSort fun x y => !(ltOf cfT) y x
theorem sortT_eq {hs : List HitT} {ks : List (List UInt8 × Bool)} (hp : (hs.map HitT.p).Perm ks) : (sortT hs).map HitT.p = sortH ks := by
 have h1 : (sortT hs).Pairwise fun a b => (!(ltOf cfT) b a) = true :=
  List.pairwise_mergeSort (fun a b c h1 h2 => by
   simp only [Bool.not_eq_true'] at *
   exact swoT.ntrans _ _ _ h2 h1) (fun a b => by
   cases h : ltOf cfT b a
   ·simp
   ·have : ltOf cfT a b = false := by
     cases e : ltOf cfT a b
     ·rfl
     ·exact absurd (ltT_trans h e) (by rw [ltT_irrefl]; simp)
    simp [this]) hs
 have h2 : ((sortT hs).map HitT.p).Pairwise leH := by
  rw [List.pairwise_map]
  refine h1.imp fun {a b} h => ?_
  unfold leH
  rw [hitLess_eq]
  simpa using h
 refine List.Perm.eq_of_pairwise (le := leH) (fun a b _ _ => leH_antisymm) h2 (sortH_sorted ks) ?_
 exact ((List.mergeSort_perm hs _).map _).trans (hp.trans (sortH_perm ks).symm)
theorem flatMap_get {α : Type} {enc : α → List Value} (hk : ∀ x, (enc x).length = 2) : ∀ {l : List α} {t : Nat}, (l.flatMap enc)[t]? = (l[t / 2]?).bind fun x => (enc x)[t % 2]?
 | [], t => by simp
 | x :: r, t => by
  rw [List.flatMap_cons]
  by_cases h : t < 2
  ·rw [List.getElem?_append_left (by rw [hk]; exact h), show t / 2 = 0 by omega, show t % 2 = t by omega]
   rfl
  ·rw [List.getElem?_append_right (by rw [hk]; omega), hk, flatMap_get hk, show t / 2 = (t - 2) / 2 + 1 by omega, show t % 2 = (t - 2) % 2 by omega]
   rfl
theorem flatMap_len {α : Type} {enc : α → List Value} (hk : ∀ x, (enc x).length = 2) : ∀ (l : List α), (l.flatMap enc).length = l.length * 2
 | [] => rfl
 | x :: r => by rw [List.flatMap_cons, List.length_append, hk, flatMap_len hk r, List.length_cons]; omega
theorem flatK_toList {α : Type} [Inhabited α] {enc : α → List Value} (hk : ∀ x, (enc x).length = 2) (l : List α) : (flatK enc 2 l.toArray).toList = l.flatMap enc := by
 apply List.ext_getElem?
 intro t
 by_cases ht : t < l.length * 2
 ·have h1 : t / 2 < l.length := by omega
  have h2 := get_flatK enc 2 l.toArray t (by simpa using ht)
  rw [getElem!_pos _ _ (by simpa using ht)] at h2
  rw [Array.getElem?_toList, Array.getElem?_eq_getElem (by simpa using ht), h2, flatMap_get hk, List.getElem?_eq_getElem h1]
  have e : l.toArray[t / 2]! = l[t / 2] := by
   rw [getElem!_pos _ _ (by simpa using h1)]; simp
  rw [e, Option.bind_some, List.getElem?_eq_getElem (by rw [hk]; omega), getElem!_pos _ _ (by rw [hk]; omega)]
 ·rw [List.getElem?_eq_none (by simp; omega), List.getElem?_eq_none (by rw [flatMap_len hk]; omega)]
theorem holdsK_of {α : Type} [Inhabited α] {enc : α → List Value} (hk : ∀ x, (enc x).length = 2) {w : World} {g : Nat} {cur : Array Value} {e : TypeId} {l : List α} (hb : w.heap[g]? = some (.cells cur e (0, 0))) (ht : cur.toList.take (l.length * 2) = l.flatMap enc) : HoldsK enc 2 w g 0 l.toArray := by
 intro j hj
 have hj' : j < l.length * 2 := by simpa using hj
 refine ⟨?_, by simp [World.frozen?, hb]⟩
 have h1 : (cur.toList.take (l.length * 2))[j]? = (l.flatMap enc)[j]? := by rw [ht]
 rw [List.getElem?_take_of_lt hj', ← flatK_toList hk] at h1
 simp only [World.cell?, hb, Nat.zero_add, Option.isSome_none, Bool.false_eq_true, if_false]
 rw [← Array.getElem?_toList, h1, Array.getElem?_toList, Array.getElem?_eq_getElem hj, getElem!_pos (flatK enc 2 l.toArray) j hj]
 rfl
theorem heap_sortedK {α : Type} [Inhabited α] {enc : α → List Value} {w : World} {g n : Nat} {os : Array Obj} {cur : Array Value} {e : TypeId} {fr : Nat × Nat} (d : Array α) (hb : w.heap[g]? = some (.cells cur e fr)) :
  (sortWorldK enc 2 w g 0 n d os).heap[g]? = some (.cells (putCells id 0 (flatK enc 2 d) cur) e fr) := by
 have hg : g < w.heap.size := (Array.getElem?_eq_some_iff.1 hb).1
 simp only [sortWorldK, grow, putRowK, putRow, mapBlock, Go.Sort.ahead]
 rw [Array.getElem?_append_left (by simpa using hg)]
 simp [Array.getElem?_modify, hb, onCells]
theorem below_sortedK {α : Type} [Inhabited α] {enc : α → List Value} {w : World} {g n b : Nat} {os : Array Obj} (d : Array α) (hb : b ≤ g) (hw : b ≤ w.heap.size) : Below b w (sortWorldK enc 2 w g 0 n d os) := by
 refine ⟨rfl, rfl, rfl, by simp [sortWorldK, grow, putRowK, putRow, mapBlock, Go.Sort.ahead], fun k hk => ?_⟩
 simp only [sortWorldK, grow, putRowK, putRow, mapBlock, Go.Sort.ahead]
 rw [Array.getElem?_append_left (by simp; omega), Array.getElem?_modify, if_neg (by omega)]
theorem take_putK {α : Type} [Inhabited α] {enc : α → List Value} (hk : ∀ x, (enc x).length = 2) (cur : Array Value) (l : List α) (h : l.length * 2 ≤ cur.size) : (putCells id 0 (flatK enc 2 l.toArray) cur).toList.take (l.length * 2) = l.flatMap enc := by
 rw [← flatK_toList hk]
 apply List.ext_getElem?
 intro j
 by_cases hj : j < l.length * 2
 ·rw [List.getElem?_take_of_lt hj, Array.getElem?_toList, Array.getElem?_toList]
  have h2 : j < (flatK enc 2 l.toArray).size := by simpa using hj
  simp only [putCells, Array.getElem?_mapIdx, Array.getElem?_eq_getElem (show j < cur.size by omega), Option.map_some]
  rw [if_pos ⟨Nat.zero_le _, by simpa using hj⟩, Nat.sub_zero, Array.getElem?_eq_getElem h2, getElem!_pos (flatK enc 2 l.toArray) j h2]
  rfl
 ·rw [List.getElem?_take_eq_none (by omega), List.getElem?_eq_none (by simp; omega)]
structure SortsH (P : Program) (fs c : Nat) : Prop where
 none : ∀ p cap fv w, Calls P fs #[.slice p 0 cap, fv] w fun e w' => e = .returned (.tuple #[]) ∧ w' = w
 some : ∀ (α : Type) [Inhabited α] (enc : α → List Value), (∀ x, (enc x).length = 2) → (∀ x, ∀ v ∈ enc x, v.oneCell' = true) → ∀ (cf : α → α → Int), SWO (ltOf cf) → ∀ (blk cap : Nat) (d : Array α) (w : World), CmpLays P c #[] enc 2 cf blk 0 d.size w →
  HoldsK enc 2 w blk 0 d → blk < w.heap.size → d.size < 4611686018427387904 → (∀ x y, (ltOf cf) x y = false → (ltOf cf) y x = false → x = y) →
  Calls P fs #[.slice (Option.some ⟨blk, 0, Option.none⟩) d.size cap, .func (.func c) #[] #[]] w fun e w' => e = .returned (.tuple #[]) ∧ ∃ n os, w' = sortWorldK enc 2 w blk 0 n (d.toList.mergeSort fun x y => !(ltOf cf) y x).toArray os
abbrev CmpsH (P : Program) (c : Nat) (hs : List HitT) (n : Nat) (w : World) : Prop := ∀ x ∈ hs, ∀ y ∈ hs, ∀ W, Below n w W → Calls P c #[encH x, encH y] W fun e w' => e = .returned (.int .i64 (cfT x y)) ∧ ∃ q os', w' = grow (W.drewN q) os'
theorem sorted_at {P : Program} {fs c : Nat} (h : SortsH P fs c) {k : TypeId} {hs : List HitT} {W : World} {gb cap n : Nat} {cur : Array Value} (hgb : W.heap[gb]? = some (.cells cur k (0, 0))) (hn : n ≤ gb) (hc1 : hs.length ≤ cap) (hc2 : cap ≤ maxLen) (hc3 : cur.size = cap * 2)
  (ht : cur.toList.take (hs.length * 2) = hs.flatMap cellsH) (hcmp : CmpsH P c hs n W) (hne : hs ≠ []) (hl : hs.length ≤ lim) :
  Calls P fs #[.slice (some ⟨gb, 0, none⟩) hs.length cap, .func (.func c) #[] #[]] W fun e w' => e = .returned (.tuple #[]) ∧ w'.ownsRow n k 2 (.slice (some ⟨gb, 0, none⟩) hs.length cap) hs.length ((sortT hs).flatMap cellsH) ∧ Below n W w' := by
 have hg : gb < W.heap.size := (Array.getElem?_eq_some_iff.1 hgb).1
 let α := {x : HitT // x ∈ hs}
 have i0 : Inhabited α := ⟨⟨hs.head hne, List.head_mem hne⟩⟩
 let enc : α → List Value := fun x => cellsH x.1
 let cf : α → α → Int := fun x y => cfT x.1 y.1
 have hk : ∀ x : α, (enc x).length = 2 := fun _ => rfl
 have hfm : ∀ l : List α, l.flatMap enc = (l.map (·.1)).flatMap cellsH := fun l => by rw [List.flatMap_map]
 have hat : hs.attach.map (·.1) = hs := List.attach_map_subtype_val hs
 have hd : hs.attach.toArray.size = hs.length := by simp
 have hcon := h.some α enc hk (fun x v hv => by
   simp only [enc, cellsH, List.mem_cons, List.not_mem_nil, or_false] at hv
   rcases hv with rfl | rfl <;> rfl) cf
  ⟨fun x => ltT_irrefl x.1, fun x y z h1 h2 => ltT_trans h1 h2, fun x y z h1 h2 => swoT.ntrans x.1 y.1 z.1 h1 h2⟩ gb cap hs.attach.toArray W
  (fun m os dk hdk x y => hcmp x.1 x.2 y.1 y.2 _ (below_sortedK dk hn (by omega)))
  (holdsK_of hk hgb (by rw [hfm, hat, List.length_attach]; exact ht)) hg (by rw [hd]; unfold lim at hl; omega)
  (fun x y h1 h2 => Subtype.ext (ltT_total h1 h2))
 rw [hd] at hcon
 refine hcon.mono ?_
 rintro e w' ⟨rfl, q, os, rfl⟩
 have hsort : ((hs.attach.mergeSort fun x y => !(ltOf cf) y x).map (·.1)) = sortT hs := by
  unfold sortT
  have := List.map_mergeSort (r := fun x y : α => !(ltOf cf) y x) (s := fun x y => !(ltOf cfT) y x) (f := fun x : α => x.1) (l := hs.attach) (fun a _ b _ => rfl)
  rw [this, hat]
 have hlen : (hs.attach.mergeSort fun x y => !(ltOf cf) y x).length = hs.length := by simp
 refine ⟨rfl, ⟨?_, .inr ⟨gb, cap, _, rfl, hn, heap_sortedK _ hgb, hc1, hc2, by simp [putCells, hc3], ?_⟩⟩, below_sortedK _ hn (by omega)⟩
 ·rw [flatMap_len (fun _ => rfl)]
  simp [sortT]
 ·have := take_putK hk cur (hs.attach.mergeSort fun x y => !(ltOf cf) y x) (by rw [hlen]; omega)
  rw [hlen, hfm, hsort] at this
  simpa using this
structure HitsOk (P : Program) (f K c : Nat) (k : TypeId) : Prop where
 key : HitKey P k
 enters : Enters P f
 cmp : Enters P c
 some : ∀ (bm b nn : Nat) (D0 : DataW Unit) (w : World), bm < w.heap.size → w.cell? ⟨bm, 0, Option.none⟩ = Option.some (.map (Option.some b)) → w.ownsMap P k anyR b nn D0 → Go.Maps.size D0 ≤ lim →
  (∀ hs, HitsAll P k D0 hs → CmpsH P c hs w.heap.size w) →
  Calls P f #[.func (.func K) #[] #[.pointer (Option.some ⟨bm, 0, Option.none⟩)], .func (.func c) #[] #[]] w fun e w' => ∃ (v : Value) (hs : List HitT), e = .returned v ∧ HitsAll P k D0 hs ∧ w'.ownsRow w.heap.size k 2 v hs.length ((sortT hs).flatMap cellsH) ∧ (v = .slice Option.none 0 0 ↔ hs = []) ∧ Below w.heap.size w w'
theorem hitKeysIn_spec : ∀ {es : List (PV × AV)} {ss : List (List UInt8 × Bool)}, hitKeysIn es = some ss → es.map (·.1) = ss.map hitP ∧ ∀ s ∈ ss, s.1.length ≤ lim := by
 intro es
 induction es with
 | nil => intro ss h; simp only [hitKeysIn, Option.some.injEq] at h; subst h; simp
 | cons x r ih =>
  intro ss h
  obtain ⟨k, v⟩ := x
  unfold hitKeysIn at h
  split at h
  ·rename_i e; cases e
  ·rename_i s b v' r' e
   cases e
   split at h
   ·rename_i hl
    obtain ⟨q, h1, rfl⟩ := Option.map_eq_some_iff.1 h
    obtain ⟨h2, h3⟩ := ih h1
    refine ⟨by simp [h2, hitP], fun s hs => ?_⟩
    rcases List.mem_cons.1 hs with rfl | hs
    ·exact hl
    ·exact h3 s hs
   ·cases h
  ·cases h
section
variable {Γ : Ctx} {N : Names} {P : Program} {w : World} {S : Nat → Prop} {μ : Nat → Value} {H : Heap}
theorem relHit {ν : Nat → Nat} {w : World} {S : Nat → Prop} {h : List UInt8 × Bool} {u : Value} (hu : RelP ν w S (hitP h) u) : u = encH (unp h) := by
 unfold hitP at hu
 cases hu with
 | agg _ us h1 h2 h3 =>
  have a0 := h3 0 _ rfl
  have a1 := h3 1 _ rfl
  have hs : us.size = 2 := h1
  have e0 : us.getD 0 undef = .string ⟨h.1.toArray⟩ := by generalize us.getD 0 undef = z at a0; cases a0; rfl
  have e1 : us.getD 1 undef = .bool h.2 := by generalize us.getD 1 undef = z at a1; cases a1; rfl
  unfold encH unp
  congr 1
  refine Array.ext (by simp [hs]) fun i h4 h5 => ?_
  simp only [Array.getD_eq_getD_getElem?, Array.getElem?_eq_getElem (show 0 < us.size by omega), Array.getElem?_eq_getElem (show 1 < us.size by omega), Option.getD_some] at e0 e1
  have : i = 0 ∨ i = 1 := by omega
  rcases this with rfl | rfl
  ·exact e0
  ·exact e1
theorem hit_rel {ν : Nat → Nat} {w : World} {S : Nat → Prop} (h : HitT) : RelP ν w S (hitP h.p) (encH h) := by
 refine .agg _ _ rfl (by simp [HitT.p, PV.one]) fun j c hc => ?_
 match j, hc with
 | 0, hc => simp at hc; subst hc; exact .str _
 | 1, hc => simp at hc; subst hc; exact .bool _
 | j + 2, hc => simp at hc
theorem mapRel_hits {ν : Nat → Nat} {k : TypeId} (hk : HitKey P k) : ∀ {es : List (PV × AV)} {l : List MapEntry} {ss : List (List UInt8 × Bool)}, MapRel ν w S μ H es l → hitKeysIn es = some ss →
  l.map (fun e => e.key) = ss.map (fun h => encH (unp h)) ∧ (∀ x ∈ l, ∃ y, Go.WideElems.rd P k anyR x = some y) := by
 intro es
 induction es with
 | nil =>
  intro l ss hm h
  simp only [hitKeysIn, Option.some.injEq] at h; subst h
  cases l with
  | nil => simp
  | cons _ _ => exact hm.elim
 | cons x r ih =>
  intro l ss hm h
  obtain ⟨kk, v⟩ := x
  obtain ⟨h2, h3⟩ := hitKeysIn_spec h
  cases l with
  | nil => exact hm.elim
  | cons e l =>
   cases ss with
   | nil => simp at h2
   | cons s ss =>
    have hr : hitKeysIn r = some ss := by
     unfold hitKeysIn at h
     split at h
     ·rename_i e; cases e
     ·rename_i e
      cases e
      split at h
      ·obtain ⟨q, h1, e2⟩ := Option.map_eq_some_iff.1 h
       simp only [List.cons.injEq] at e2
       rw [h1, e2.2]
      ·cases h
     ·cases h
    obtain ⟨g1, g2⟩ := ih hm.2.2.2 hr
    have hkk : kk = hitP s := by simpa using (List.cons.inj h2).1
    have h0 := hm.1
    rw [hkk] at h0
    have hkey := relHit h0
    obtain ⟨lit, hlit⟩ := hk.reads (unp s) (Nat.le_trans (h3 s (by simp)) (by decide))
    have hrd : Go.WideElems.rd P k anyR e = some (lit, .nil) := by simp [Go.WideElems.rd, hkey, hlit]
    refine ⟨by simp [g1, hkey], fun x hx => ?_⟩
    rcases List.mem_cons.1 hx with rfl | hx
    ·exact ⟨_, hrd⟩
    ·exact g2 x hx
theorem owns_hits {id g : Nat} {k : TypeId} (hk : HitKey P k) (hr : Rel N.fn w S μ H) {es : List (PV × AV)} {ss : List (List UInt8 × Bool)} (hes : mapOf H id = some es) (hss : hitKeysIn es = some ss) (hl : es.length ≤ lim) (hg : μ id = .pointer (some ⟨g, 0, none⟩)) :
  ∃ D0 : DataW Unit, w.ownsMap P k anyR g es.length D0 ∧ Go.Maps.size D0 = es.length ∧ ∀ hs, HitsAll P k D0 hs → (hs.map HitT.p).Perm ss := by
 obtain ⟨g', arr, clock, e1, e2, est, e3⟩ := hr.map_of hes
 rw [hg] at e1
 cases e1
 obtain ⟨g1, g2⟩ := mapRel_hits hk e3 hss
 have hsz : arr.size = es.length := by simpa using e3.len
 have hlen : ss.length = es.length := by simpa using (congrArg List.length (hitKeysIn_spec hss).1).symm
 have F : Go.WideElems.Fit P k anyR arr clock := ⟨by rw [hsz]; exact Nat.le_trans hl (by decide), est, g2⟩
 have hnd : (arr.toList.map fun e => e.key).Nodup := by
  rw [List.Nodup, List.pairwise_map]
  exact ((Go.MapKept.stamped_iff arr clock).1 est).2.2
 rw [g1] at hnd
 have hnd2 : (ss.map unp).Nodup := by
  rw [List.Nodup, List.pairwise_map] at hnd ⊢
  exact hnd.imp fun h e => h (by rw [e])
 refine ⟨_, ⟨arr, clock, e2, F, by omega, rfl⟩, ?_, ?_⟩
 ·show (List.foldr DataW.insert [] _).length = _
  rw [(Go.WideShapes.sorted_perm _).length_eq, List.length_map, Array.length_toList, hsz]
 ·rintro hs ⟨h1, h2, h3⟩
  have hmem : ∀ x : HitT, x ∈ hs ↔ x ∈ ss.map unp := by
   have key : ∀ x : HitT, ∀ l, keyOf P k (encH x) = some l → (Go.Maps.has (DataW.map ((arr.toList.map (Go.WideElems.rg P k anyR)).foldr DataW.insert [])) l = true ↔ x ∈ ss.map unp) := by
    intro x l hx
    show List.any _ _ = true ↔ _
    rw [List.any_eq_true]
    constructor
    ·rintro ⟨p, hp, hs⟩
     have hp := (Go.WideShapes.sorted_perm _).mem_iff.1 hp
     obtain ⟨e, he, rfl⟩ := List.mem_map.1 hp
     obtain ⟨y, hy⟩ := g2 e he
     have hke := Go.WideElems.rd_key hy
     rw [Go.WideElems.rg_of hy] at hs
     have heq : y.1 = l := Go.WideAt.sameKey_eq hs
     rw [heq] at hke
     have hkk := hk.keyed.inj hke hx
     have : e.key ∈ arr.toList.map fun e => e.key := List.mem_map.2 ⟨e, he, rfl⟩
     rw [g1] at this
     obtain ⟨s, hs1, hs2⟩ := List.mem_map.1 this
     rw [hkk] at hs2
     exact List.mem_map.2 ⟨s, hs1, encH_inj hs2⟩
    ·intro hx2
     obtain ⟨s, hs1, hs2⟩ := List.mem_map.1 hx2
     have : encH x ∈ arr.toList.map fun e => e.key := by rw [g1]; exact List.mem_map.2 ⟨s, hs1, by rw [hs2]⟩
     obtain ⟨e, he, hek⟩ := List.mem_map.1 this
     obtain ⟨y, hy⟩ := g2 e he
     have hke := Go.WideElems.rd_key hy
     rw [hek, hx] at hke
     cases hke
     refine ⟨Go.WideElems.rg P k anyR e, (Go.WideShapes.sorted_perm _).mem_iff.2 (List.mem_map.2 ⟨e, he, rfl⟩), ?_⟩
     rw [Go.WideElems.rg_of hy]
     exact Go.WideAt.sameKey_self (hk.keyed.key hx)
   intro x
   constructor
   ·intro hx
    obtain ⟨l, hl⟩ := h3 x hx
    exact (key x l hl).1 ((h2 x l hl).1 hx)
   ·intro hx
    obtain ⟨s, hs1, rfl⟩ := List.mem_map.1 hx
    obtain ⟨l, hl⟩ := hk.reads (unp s) (Nat.le_trans ((hitKeysIn_spec hss).2 s hs1) (by decide))
    exact (h2 _ l hl).2 ((key _ l hl).2 hx)
  have hp : hs.Perm (ss.map unp) := (List.perm_ext_iff_of_nodup h1 hnd2).2 hmem
  have := hp.map HitT.p
  rw [List.map_map] at this
  simpa [Function.comp_def, p_unp] using this
theorem row_hits {ν : Nat → Nat} {base : Nat} {k : TypeId} {v : Value} {l : List HitT} {w' : World} (hrow : w'.ownsRow base k 2 v l.length (l.flatMap cellsH)) (hn : v = .slice none 0 0 ↔ l = []) {S : Nat → Prop} (hS : ∀ g, S g → g < base) (hb : base ≤ w'.heap.size) :
  ∃ S' : Nat → Prop, (∀ g, S g → S' g) ∧ (∀ g, S' g → g < w'.heap.size) ∧ (∀ g, S' g → S g ∨ base ≤ g) ∧ RelP ν w' S' (rowH (l.map HitT.p)) v := by
 cases l with
 | nil =>
  obtain rfl := hn.2 rfl
  exact ⟨S, fun _ h => h, fun g h => Nat.lt_of_lt_of_le (hS g h) hb, fun _ h => .inl h, .sl .nil 2 [] none 0 (fun _ _ => undef) (Nat.le_refl _) (Nat.zero_le _) (by simp) (by simp) (by simp) (by simp) (by simp) (by simp)⟩
 | cons s r =>
  obtain ⟨h1, h2 | ⟨g, cap, cur, rfl, hg, hc, h3, h4, h5, h6⟩⟩ := hrow
  ·exact absurd h2.2 (by simp)
  have hlt : g < w'.heap.size := (Array.getElem?_eq_some_iff.1 hc).1
  refine ⟨fun x => S x ∨ x = g, fun _ h => .inl h, fun x h => ?_, fun x h => ?_, ?_⟩
  ·rcases h with h | rfl
   ·exact Nat.lt_of_lt_of_le (hS x h) hb
   ·exact hlt
  ·rcases h with h | rfl
   ·exact .inl h
   ·exact .inr hg
  have e0 : rowH ((s :: r).map HitT.p) = .sl .any 2 ((s :: r).map fun h => hitP h.p) := by
   simp only [rowH, List.map_cons, List.map_map]
   rfl
  rw [e0]
  have hlen : ((s :: r).map fun h : HitT => hitP h.p).length = (s :: r).length := by simp
  have cell : ∀ (i : Nat) t, (s :: r)[i]? = some t → ∀ j c, (cellsH t)[j]? = some c → w'.cell? ⟨g, i * 2 + j, none⟩ = some c := by
   intro i t hi j c hj
   have hil := (List.getElem?_eq_some_iff.1 hi).1
   have hjl : j < 2 := (List.getElem?_eq_some_iff.1 hj).1
   have h7 : (cur.toList.take ((s :: r).length * 2))[i * 2 + j]? = ((s :: r).flatMap cellsH)[i * 2 + j]? := by rw [h6]
   rw [List.getElem?_take_of_lt (by omega), flatMap_get (fun _ => rfl), show (i * 2 + j) / 2 = i by omega, show (i * 2 + j) % 2 = j by omega, hi] at h7
   rw [Option.bind_some, hj, Array.getElem?_toList] at h7
   simp only [World.cell?, hc, Option.isSome_none, Bool.false_eq_true, if_false]
   exact h7
  have hgoal : RelP ν w' (fun x => S x ∨ x = g) (.sl .any 2 ((s :: r).map fun h => hitP h.p)) (.slice (some ⟨g, 0, none⟩) ((s :: r).map fun h : HitT => hitP h.p).length cap) := by
   refine .sl .any 2 _ (some ⟨g, 0, none⟩) cap (fun i j => (((s :: r)[i]?).bind fun t => (cellsH t)[j]?).getD undef) (by rw [hlen]; exact h3) h4 (fun x hx => ?_) (by simp) (by simp) (fun _ => ⟨_, rfl, .inr rfl⟩) (fun ad he i x j c hx hj => ?_) (fun i x j c hx hj => ?_)
   ·obtain ⟨t, _, rfl⟩ := List.mem_map.1 hx
    exact ⟨rfl, by simp [hitP, PV.cells, PV.one]⟩
   ·cases he
    rw [List.getElem?_map, Option.map_eq_some_iff] at hx
    obtain ⟨t, ht, rfl⟩ := hx
    have hj2 : j < 2 := (List.getElem?_eq_some_iff.1 hj).1
    have hcj : (cellsH t)[j]? = some ((cellsH t)[j]'hj2) := List.getElem?_eq_getElem hj2
    rw [ht, Option.bind_some, hcj, Option.getD_some, ← cell i t ht j _ hcj]
    congr 1
    unfold Addr.add
    split
    ·rename_i e; simp []
    ·simp
   ·rw [List.getElem?_map, Option.map_eq_some_iff] at hx
    obtain ⟨t, ht, rfl⟩ := hx
    rw [ht, Option.bind_some]
    match j, hj with
    | 0, hj =>
     simp only [hitP, PV.cells, List.getElem?_cons_zero, Option.some.injEq] at hj
     subst hj
     exact .str _
    | 1, hj =>
     simp only [hitP, PV.cells, List.getElem?_cons_succ, List.getElem?_cons_zero, Option.some.injEq] at hj
     subst hj
     exact .bool _
    | j + 2, hj => simp [hitP, PV.cells] at hj
  rw [hlen] at hgoal
  exact hgoal
theorem grow_of {w w' : World} (hg : Grows w w') (hd : w.drawn ≤ w'.drawn) : ∃ q os', w' = grow (w.drewN q) os' := by
 refine ⟨w'.drawn - w.drawn, w'.heap.extract w.heap.size w'.heap.size, ?_⟩
 obtain ⟨hp, tp, dr, os, ot⟩ := w
 obtain ⟨hp', tp', dr', os', ot'⟩ := w'
 obtain ⟨h1, h2, h3, h4, h5⟩ := hg
 simp only at h1 h2 h3 h4 h5 hd
 subst h1 h2 h3
 simp only [grow, World.drewN]
 congr 1
 ·refine Array.ext (by simp; omega) fun i hi1 hi2 => ?_
  rw [Array.getElem_append]
  split
  ·rename_i hlt
   have := h5 i hlt
   rw [Array.getElem?_eq_getElem hi1, Array.getElem?_eq_getElem hlt] at this
   simpa using this
  ·rename_i hge
   simp only [Array.getElem_extract]
   congr 1
   omega
 ·omega
theorem GlRel.below {w w' : World} {S : Nat → Prop} (h : GlRel Γ N w S) (hS : ∀ g, S g → g < w.heap.size) (hb : Below w.heap.size w w') : GlRel Γ N w' S := by
 refine ⟨fun n cs hn => (h.rel n cs hn).keep (fun _ h => h) (fun g hg => hb.block g (hS g hg)), fun n cs hn => ?_⟩
 obtain ⟨us, e, fr, h1, h2⟩ := h.whole n cs hn
 exact ⟨us, e, fr, (hb.block _ (Array.getElem?_eq_some_iff.1 h1).1).trans h1, h2⟩
theorem look_hits {f c : Nat} {Ks : List Nat} {k : TypeId} (h : ∀ K ∈ Ks, HitsOk P (N.fn f) (N.fn K) (N.fn c) k) : LookcOk Γ N P f c hitsQ (hitsG Ks c) := by
 intro args H ps rs hq hg hcmp w S μ us hr hgl ha
 unfold hitsG at hg
 split at hg
 rotate_left
 ·cases hg
 rename_i kf b k'
 split at hg
 rotate_left
 ·cases hg
 rename_i hk
 obtain ⟨hk, rfl⟩ := hk
 have h := h kf (List.contains_iff_mem.1 hk)
 obtain ⟨cs, hb, hg⟩ := Option.bind_eq_some_iff.1 hg
 match us, ha with
 | [u, u2], ⟨hu, hu2, _⟩ =>
 have eu2 : u2 = .func (.func (N.fn k')) #[] #[] := by
  have := hu2.p_inv
  cases this with
  | clo _ _ us h1 h2 h3 =>
   have : us = #[] := Array.eq_empty_of_size_eq_zero (by simpa using h1)
   rw [this]
 subst eu2
 cases hu with
 | clo _ _ us q1 q2 q3 =>
 have hu0 := q3 0 (.bx b 0) rfl
 obtain ⟨gb, hgb, hbl, hμ⟩ := hu0.bx_inv
 have hH := boxOf_spec hb
 have hμ := hμ _ hH
 have hus : us = #[.pointer (some ⟨gb, 0, none⟩)] := by
  have : us.size = 1 := q1
  obtain ⟨u0, rfl⟩ : ∃ u0, us = #[u0] := by
   refine ⟨us[0], Array.ext (by simp [this]) fun i h1 h2 => ?_⟩
   have : i = 0 := by simp at h2; omega
   subst this; rfl
  simp at hgb
  rw [hgb]
 subst hus
 obtain ⟨g', e1, hrest⟩ := hr.blk b _ hH
 rw [hμ] at e1
 cases e1
 have hbm : gb < w.heap.size := by
  rcases hrest with ⟨arr, t, h2, _⟩ | ⟨_, _, _, h2⟩ | ⟨_, arr, _, _, h2, _⟩ <;> exact (Array.getElem?_eq_some_iff.1 h2).1
 have one : ∀ c, cs = [c] → ∃ x, w.cell? ⟨gb, 0, none⟩ = some x ∧ RelV N.fn w S μ H c x := by
  rintro c rfl
  rcases hrest with ⟨arr, t, h2, h3, h4, h5⟩ | ⟨s, pos, h2, _⟩ | ⟨es, arr, clock, h2, _⟩
  ·have h6 : 0 < arr.size := by rw [h3]; simp
   refine ⟨arr[0], by simp [World.cell?, h2, h6], ?_⟩
   simpa [h6] using h5 0 c rfl
  ·simp [iterCells] at h2
  ·simp [mapCells] at h2
 unfold hitsV at hg
 split at hg
 ·rename_i id
  obtain ⟨es, hes, hg⟩ := Option.bind_eq_some_iff.1 hg
  obtain ⟨ss, hss, hg⟩ := Option.bind_eq_some_iff.1 hg
  simp only [Option.ite_none_right_eq_some, Option.some.injEq] at hg
  obtain ⟨hl, rfl⟩ := hg
  have hps : ps = ss.flatMap fun a => ss.map fun b => ([hitP a, hitP b], cmpH a b) := by
   change (boxOf H b).bind (hitsQV H) = some ps at hq
   rw [hb] at hq
   change (mapOf H id).bind (fun es => (hitKeysIn es).map fun hs => hs.flatMap fun a => hs.map fun b => ([hitP a, hitP b], cmpH a b)) = some ps at hq
   rw [hes] at hq
   change (hitKeysIn es).map (fun hs => hs.flatMap fun a => hs.map fun b => ([hitP a, hitP b], cmpH a b)) = some ps at hq
   rw [hss] at hq
   exact (Option.some.inj hq).symm
  obtain ⟨x, hx1, hx2⟩ := one _ rfl
  obtain ⟨g, rfl, _, hg⟩ := hx2.mp_inv
  have hg := hg _ (mapOf_spec hes)
  obtain ⟨D0, d1, d2, d3⟩ := owns_hits h.key hr hes hss hl hg
  have hcmps : ∀ hs, HitsAll P k D0 hs → CmpsH P (N.fn k') hs w.heap.size w := by
   intro hs hall x hx y hy W hW
   have hperm := d3 hs hall
   have hxs : x.p ∈ ss := hperm.mem_iff.1 (List.mem_map.2 ⟨x, hx, rfl⟩)
   have hys : y.p ∈ ss := hperm.mem_iff.1 (List.mem_map.2 ⟨y, hy, rfl⟩)
   have hmem : ([hitP x.p, hitP y.p], cmpH x.p y.p) ∈ ps := by
    rw [hps]
    exact List.mem_flatMap.2 ⟨x.p, hxs, List.mem_map.2 ⟨y.p, hys, rfl⟩⟩
   have hdo := hcmp _ hmem W S [encH x, encH y] (fun g hg => Nat.lt_of_lt_of_le (hr.lt g hg) hW.size) (GlRel.below hgl hr.lt hW) ⟨hit_rel x, hit_rel y, trivial⟩
   rcases hdo with ⟨_, hc⟩ | ⟨v, w', h1, _⟩
   ·have hcd := calls_drawn hc (fun e w' hh => by obtain ⟨v, rfl, _⟩ := hh; exact ⟨v, rfl⟩)
    refine hcd.mono ?_
    rintro e w' ⟨⟨v, rfl, rfl, hg⟩, hd⟩
    exact ⟨rfl, grow_of hg hd⟩
   ·rw [h.cmp] at h1
    cases h1
  refine .inl ⟨h.enters _ _, (h.some gb g es.length D0 w hbm hx1 d1 (by rw [d2]; exact hl) hcmps).mono ?_⟩
  rintro e w' ⟨v, hs, rfl, z1, z2, z3, z4⟩
  have hsl : hs.length = (sortT hs).length := by simp [sortT]
  have hse : hs = [] ↔ sortT hs = [] := by
   rw [← List.length_eq_zero_iff, ← List.length_eq_zero_iff, hsl]
  rw [hsl] at z2
  obtain ⟨S', s1, s2, s3, s4⟩ := row_hits (ν := N.fn) z2 (z3.trans hse) hr.lt z4.size
  rw [sortT_eq (d3 hs z1)] at s4
  exact ⟨_, rfl, [v], S', rfl, ⟨z4.os, z4.tape, z4.output, z4.size, fun g hg => z4.block g hg⟩, s1, s2, s3, s4, trivial⟩
 ·cases hg
end
end Ab
namespace Ab
open Go (IntKind BinOp UnOp)
def StrictP (l : List Path) : Prop := l.Pairwise (· < ·)
theorem pathLt_irrefl (a : Path) : ¬ a < a := List.lt_irrefl a
theorem lt_snoc (q : Path) (k : List UInt8) (t : Path) : q < q ++ k :: t := by
 have := List.append_left_lt (l₁ := q) (List.nil_lt_cons k t)
 simpa using this
theorem lt_branch (q : Path) {k k' : List UInt8} (h : k < k') (t t' : Path) : q ++ k :: t < q ++ k' :: t' := List.append_left_lt (List.cons_lt_cons_iff.2 (.inl h))
theorem sortB_sortedT (l : List (List UInt8)) (hn : l.Nodup) : (sortB l).Pairwise (· < ·) := by
 have h1 := sortB_sorted l
 have h2 : (sortB l).Nodup := (sortB_permT l).nodup_iff.2 hn
 exact (h1.and h2).imp fun {a b} h => by
  rcases Classical.em (a < b) with h3 | h3
  ·exact h3
  ·exact absurd (List.le_antisymm h.1 h3) h.2
theorem pairwise_flatMap {α β : Type} {R : β → β → Prop} {f : α → List β} : ∀ {l : List α},(∀ a ∈ l,(f a).Pairwise R) → l.Pairwise (fun a b => ∀ x ∈ f a,∀ y ∈ f b,R x y) → (l.flatMap f).Pairwise R
 | [],_,_ => by simp
 | a :: l,h1,h2 => by
  rw [List.flatMap_cons,List.pairwise_append]
  obtain ⟨h3,h4⟩ := List.pairwise_cons.1 h2
  refine ⟨h1 a (by simp),pairwise_flatMap (fun b hb => h1 b (by simp [hb])) h4,fun x hx y hy => ?_⟩
  obtain ⟨b,hb,hyb⟩ := List.mem_flatMap.1 hy
  exact h3 b hb x hx y hyb
section
variable {H : Heap} {N : Tri} {r n : Nat} {wn : Nat → List UInt8 → Bool}
theorem mem_labs (h : Lies H N r n) {q : Path} {nd : Nd} (hq : N q = some nd) (k : List UInt8) : k ∈ labsOf nd ↔ ∃ x,N (q ++ [k]) = some x := by
 rw [labsOf,(sortB_permT _).mem_iff,List.mem_map]
 constructor
 ·rintro ⟨x,hx,rfl⟩
  obtain ⟨nd',h1,_⟩ := h.kid q nd hq x.1 x.2 hx
  exact ⟨nd',h1⟩
 ·rintro ⟨x,hx⟩
  obtain ⟨nd2,h1,h2⟩ := h.up q k x hx
  rw [hq] at h1; cases h1
  exact ⟨_,h2,rfl⟩
theorem mem_vis (h : Lies H N r n) : ∀ (f : Nat) (q : Path),(∀ t x,N (q ++ t) = some x → t.length ≤ f) → ∀ p,p ∈ vis N wn f q ↔ ∃ k t,p = q ++ k :: t ∧ (∃ x,N p = some x) ∧ ∀ j,j < (k :: t).length → wn (q.length + j) ((k :: t).getD j []) = true := by
 intro f
 induction f with
 | zero =>
  intro q hd p
  simp only [vis,List.not_mem_nil,false_iff]
  rintro ⟨k,t,rfl,⟨x,hx⟩,_⟩
  have := hd _ x hx
  simp at this
 | succ f ih =>
  intro q hd p
  cases hq : N q with
  | none =>
   simp only [vis,hq,List.not_mem_nil,false_iff]
   rintro ⟨k,t,rfl,⟨x,hx⟩,_⟩
   obtain ⟨y,hy⟩ := h.pre _ _ x hx
   rw [hq] at hy; cases hy
  | some nd =>
   simp only [vis,hq,List.mem_flatMap]
   have hd' : ∀ k,∀ t x,N (q ++ [k] ++ t) = some x → t.length ≤ f := fun k t x hx => by
    have := hd (k :: t) x (by simpa using hx)
    simp only [List.length_cons] at this
    omega
   constructor
   ·rintro ⟨k,hk,hp⟩
    obtain ⟨y,hy⟩ := (mem_labs h hq k).1 hk
    split at hp
    ·rename_i hw
     rcases List.mem_cons.1 hp with rfl | hp
     ·refine ⟨k,[],rfl,⟨y,hy⟩,fun j hj => ?_⟩
      have : j = 0 := by simp at hj; omega
      subst this
      exact hw
     ·obtain ⟨k2,t2,rfl,hx,hall⟩ := (ih (q ++ [k]) (hd' k) p).1 hp
      refine ⟨k,k2 :: t2,by simp,hx,fun j hj => ?_⟩
      cases j with
      | zero => exact hw
      | succ j =>
       have := hall j (by simp only [List.length_cons] at hj ⊢; omega)
       rw [List.length_append,List.length_cons,List.length_nil] at this
       have e : q.length + (j + 1) = q.length + (0 + 1) + j := by omega
       rw [e]
       exact this
    ·simp at hp
   ·rintro ⟨k,t,rfl,⟨x,hx⟩,hall⟩
    have hk : ∃ y,N (q ++ [k]) = some y := h.pre t (q ++ [k]) x (by simpa using hx)
    refine ⟨k,(mem_labs h hq k).2 hk,?_⟩
    have hw := hall 0 (by simp)
    rw [Nat.add_zero,List.getD_cons_zero] at hw
    rw [if_pos hw]
    cases t with
    | nil => simp
    | cons k2 t2 =>
     refine List.mem_cons_of_mem _ ((ih (q ++ [k]) (hd' k) _).2 ⟨k2,t2,by simp,⟨x,hx⟩,fun j hj => ?_⟩)
     have := hall (j + 1) (by simp only [List.length_cons] at hj ⊢; omega)
     rw [List.length_append,List.length_cons,List.length_nil]
     have e : q.length + (j + 1) = q.length + (0 + 1) + j := by omega
     rw [e,List.getD_cons_succ] at this
     exact this
theorem vis_sorted (h : Lies H N r n) : ∀ (f : Nat) (q : Path),(∀ t x,N (q ++ t) = some x → t.length ≤ f) → StrictP (vis N wn f q) := by
 intro f
 induction f with
 | zero => intro q _; exact .nil
 | succ f ih =>
  intro q hd
  unfold StrictP
  cases hq : N q with
  | none => simp [vis,hq]
  | some nd =>
   simp only [vis,hq]
   have hd' : ∀ k,∀ t x,N (q ++ [k] ++ t) = some x → t.length ≤ f := fun k t x hx => by
    have := hd (k :: t) x (by simpa using hx)
    simp only [List.length_cons] at this
    omega
   have hin : ∀ k,∀ p ∈ (if wn q.length k = true then (q ++ [k]) :: vis N wn f (q ++ [k]) else []),∃ t,p = q ++ k :: t := fun k p hp => by
    split at hp
    ·rcases List.mem_cons.1 hp with rfl | hp
     ·exact ⟨[],rfl⟩
     ·obtain ⟨k2,t2,rfl,_⟩ := (mem_vis h f (q ++ [k]) (hd' k) p).1 hp
      exact ⟨k2 :: t2,by simp⟩
    ·simp at hp
   refine pairwise_flatMap (fun k _ => ?_) ?_
   ·split
    ·refine List.pairwise_cons.2 ⟨fun p hp => ?_,ih _ (hd' k)⟩
     obtain ⟨k2,t2,rfl,_⟩ := (mem_vis h f (q ++ [k]) (hd' k) p).1 hp
     exact lt_snoc _ _ _
    ·exact .nil
   ·refine (sortB_sortedT _ (h.nodup q nd hq)).imp fun {k k'} hlt x hx y hy => ?_
    obtain ⟨t,rfl⟩ := hin k x hx
    obtain ⟨t',rfl⟩ := hin k' y hy
    exact lt_branch q hlt t t'
theorem strict_nodup {l : List Path} (h : StrictP l) : l.Nodup := by
 unfold List.Nodup
 exact h.imp fun {a b} hab e => by subst e; exact pathLt_irrefl _ hab
end
theorem foldl_names {N : Tri} : ∀ (l : List Path) (s : Path),l.foldl (nameSt N) s = s ++ (l.filter (leafAt N)).map (joinB [46])
 | [],s => by simp
 | q :: l,s => by
  rw [List.foldl_cons,foldl_names l]
  unfold nameSt
  cases e : leafAt N q <;> simp [e]
theorem namesOf_eq (N : Tri) : namesOf N = ((vis N (fun _ _ => true) 21 []).filter (leafAt N)).map (joinB [46]) := by
 unfold namesOf
 rw [foldl_names,List.nil_append]
end Ab
namespace Ab
open Go (IntKind BinOp UnOp)
abbrev prt (s : List UInt8) : Path := splitB 46 s
theorem dot_split (s : List UInt8) : ∀ cur,dotParts cur s = match prt s with | [] => [cur.reverse] | h :: t => (cur.reverse ++ h) :: t := by
 induction s with
 | nil => intro cur; simp [dotParts,prt,splitB]
 | cons c r ih =>
  intro cur
  simp only [dotParts,prt,splitB]
  by_cases hc : c = 46
  ·subst hc
   have e := ih []
   simp only [if_true,List.append_nil]
   rw [e]
   have := split_ne r
   cases h : splitB 46 r with
   | nil => exact absurd h this
   | cons a t => simp [prt,h]
  ·have e := ih (c :: cur)
   rw [if_neg hc,e]
   have hb : (c == 46) = false := by simpa using hc
   simp only [prt]
   cases h : splitB 46 r with
   | nil => exact absurd h (split_ne r)
   | cons a t => simp [hc]
theorem dot_eq (s : List UInt8) : dotParts [] s = prt s := by
 rw [dot_split]
 cases h : prt s with
 | nil => exact absurd h (split_ne s)
 | cons a t => simp
theorem undot_eq : ∀ q : Path,undot q = joinB [46] q
 | [] => rfl
 | [p] => rfl
 | p :: q :: r => by
  have ih := undot_eq (q :: r)
  simp only [undot,joinB,ih]
  simp
theorem join_split (s : List UInt8) : joinB [46] (prt s) = s := by
 have := undot_parts [] s
 rw [dot_eq,undot_eq] at this
 simpa using this
theorem prt_inj {a b : List UInt8} (h : prt a = prt b) : a = b := by
 rw [← join_split a,← join_split b,h]
structure Nms (L : Path) : Prop where
 sorted : L.Pairwise fun a b => prt a < prt b
 ok : ∀ s ∈ L,nameB s = true
 len : L.length ≤ 1000
structure TrieN (N : Tri) (H : Heap) (r : Nat) (L : Path) : Prop where
 lies : Lies H N r L.length
 pruned : Pruned N
 leaf : ∀ q,leafAt N q = true ↔ ∃ s ∈ L,prt s = q
theorem nameB_facts {s : List UInt8} (h : nameB s = true) : 1 ≤ s.length ∧ s.length ≤ 200 ∧ (prt s).length ≤ 20 ∧ ∀ p ∈ prt s,p ≠ [] ∧ ∀ c ∈ p,byteOk c = true := by
 unfold nameB at h
 simp only [Bool.and_eq_true,decide_eq_true_eq,List.all_eq_true] at h
 exact ⟨h.1.1.1,h.1.1.2,h.1.2,fun p hp => partB_iff.1 (h.2 p hp)⟩
theorem TrieN.keep {N : Tri} {H H' : Heap} {r : Nat} {L : Path} (h : TrieN N H r L) (hk : ∀ i,Foot N i → H'[i]? = H[i]?) : TrieN N H' r L := ⟨h.lies.keep hk,h.pruned,h.leaf⟩
theorem TrieN.ext {N : Tri} {H H' : Heap} {r : Nat} {L : Path} (h : TrieN N H r L) (hx : Ext0 H H') : TrieN N H' r L := h.keep fun i hi => hx.2 i (h.lies.foot_lt hi)
theorem flat_len {α β : Type} {f : α → List β} {n : Nat} (hf : ∀ a,(f a).length = n) : ∀ l : List α,(l.flatMap f).length = l.length * n
 | [] => by simp
 | a :: l => by rw [List.flatMap_cons,List.length_append,hf,flat_len hf l,List.length_cons,Nat.succ_mul,Nat.add_comm]
section
variable {N : Tri} {H : Heap} {r : Nat} {L : Path}
theorem TrieN.under (h : TrieN N H r L) {q : Path} {nd : Nd} (hq : N q = some nd) (hne : q ≠ []) : ∃ u,∃ s ∈ L,prt s = q ++ u := by
 obtain ⟨u,hu⟩ := h.pruned q hne ⟨nd,hq⟩
 obtain ⟨s,h1,h2⟩ := (h.leaf _).1 hu
 exact ⟨u,s,h1,h2⟩
theorem leaf_some {N : Tri} {q : Path} (h : leafAt N q = true) : ∃ nd,N q = some nd := by
 unfold leafAt at h
 split at h
 ·rename_i nd e; exact ⟨nd,e⟩
 ·cases h
theorem TrieN.has (h : TrieN N H r L) (q : Path) : (∃ x,N q = some x) ↔ q = [] ∨ ∃ u,∃ s ∈ L,prt s = q ++ u := by
 constructor
 ·rintro ⟨nd,hq⟩
  by_cases e : q = []
  ·exact .inl e
  ·exact .inr (h.under hq e)
 ·rintro (rfl | ⟨u,s,hs,e⟩)
  ·obtain ⟨nd,h1,_⟩ := h.lies.root
   exact ⟨nd,h1⟩
  ·obtain ⟨nd,h1⟩ := leaf_some ((h.leaf _).2 ⟨s,hs,rfl⟩)
   rw [e] at h1
   exact h.lies.pre u q nd h1
theorem TrieN.tiny (h : TrieN N H r L) (hL : Nms L) : Tiny N where
 kids q nd hq := by
  have hin : ∀ k ∈ nd.kids.map (·.1),∃ u,∃ s ∈ L,prt s = q ++ k :: u := fun k hk => by
   obtain ⟨x,hx,rfl⟩ := List.mem_map.1 hk
   obtain ⟨nd',h1,_⟩ := h.lies.kid q nd hq x.1 x.2 hx
   obtain ⟨u,s,h2,h3⟩ := h.under h1 (by simp)
   exact ⟨u,s,h2,by rw [h3]; simp⟩
  constructor
  ·have h1 := List.Nodup.length_le_of_subset (h.lies.nodup q nd hq) (l₂ := L.map fun s => (prt s).getD q.length []) fun k hk => by
    obtain ⟨u,s,h2,h3⟩ := hin k hk
    exact List.mem_map.2 ⟨s,h2,by rw [h3]; simp⟩
   rw [List.length_map,List.length_map] at h1
   have := hL.len
   omega
  ·intro k hk
   obtain ⟨u,s,h2,h3⟩ := hin k.1 (List.mem_map.2 ⟨k,hk,rfl⟩)
   have h4 : k.1 ∈ splitB 46 s := by
    show k.1 ∈ prt s
    rw [h3]; simp
   have h5 := splitB_mem_len h4
   have h6 := (nameB_facts (hL.ok s h2)).2.1
   omega
 deep q nd hq := by
  by_cases e : q = []
  ·subst e; exact ⟨by simp,by simp [joinB]⟩
  ·obtain ⟨u,s,h2,h3⟩ := h.under hq e
   obtain ⟨_,f2,f3,_⟩ := nameB_facts (hL.ok s h2)
   have h4 := joinB_take [46] (prt s) q.length
   rw [join_split,h3] at h4
   rw [h3,List.length_append] at f3
   have h5 : (q ++ u).take q.length = q := by simp
   rw [h5] at h4
   exact ⟨by omega,by omega⟩
theorem TrieN.vis_len (h : TrieN N H r L) (hL : Nms L) (wn : Nat → List UInt8 → Bool) : (vis N wn 21 []).length ≤ 100000 := by
 have ht := h.tiny hL
 have hd : ∀ t x,N ([] ++ t) = some x → t.length ≤ 21 := fun t x hx => by have := (ht.deep t x (by simpa using hx)).1; omega
 have hn := strict_nodup (vis_sorted (wn := wn) h.lies 21 [] hd)
 have h1 := List.Nodup.length_le_of_subset hn (l₂ := L.flatMap fun s => (List.range 21).map fun i => (prt s).take i) fun p hp => by
  obtain ⟨k,t,rfl,⟨x,hx⟩,_⟩ := (mem_vis h.lies 21 [] hd p).1 hp
  obtain ⟨u,s,h2,h3⟩ := h.under hx (by simp)
  have h4 := (ht.deep _ x hx).1
  refine List.mem_flatMap.2 ⟨s,h2,List.mem_map.2 ⟨([] ++ k :: t).length,List.mem_range.2 (by omega),?_⟩⟩
  rw [h3]; simp
 rw [flat_len (n := 21) (fun s => by simp)] at h1
 have := hL.len
 omega
end
end Ab
namespace Ab
open Go (IntKind BinOp UnOp)
def ltS (a b : List UInt8) : Prop := prt a < prt b
theorem sorted_eq {A B : List Path} (hA : StrictP A) (hB : StrictP B) (h : ∀ x,x ∈ A ↔ x ∈ B) : A = B :=
 List.Perm.eq_of_pairwise (le := (· < ·)) (fun a _b _ _ h1 h2 => absurd (List.lt_trans h1 h2) (List.lt_irrefl a)) hA hB ((List.perm_ext_iff_of_nodup (strict_nodup hA) (strict_nodup hB)).2 h)
section
variable {N : Tri} {H : Heap} {r : Nat} {L : Path}
theorem TrieN.names (h : TrieN N H r L) (hL : Nms L) : namesOf N = L := by
 have ht := h.tiny hL
 have hd : ∀ t x,N ([] ++ t) = some x → t.length ≤ 21 := fun t x hx => by have := (ht.deep t x (by simpa using hx)).1; omega
 rw [namesOf_eq]
 have e : (vis N (fun _ _ => true) 21 []).filter (leafAt N) = L.map prt := by
  refine sorted_eq ((vis_sorted h.lies 21 [] hd).filter _) (by unfold StrictP; rw [List.pairwise_map]; exact hL.sorted) fun p => ?_
  rw [List.mem_filter,h.leaf,List.mem_map,mem_vis h.lies 21 [] hd]
  constructor
  ·rintro ⟨_,s,h1,h2⟩; exact ⟨s,h1,h2⟩
  ·rintro ⟨s,h1,rfl⟩
   obtain ⟨nd,h2⟩ := leaf_some ((h.leaf _).2 ⟨s,h1,rfl⟩)
   refine ⟨?_,s,h1,rfl⟩
   cases hp : prt s with
   | nil => exact absurd hp (split_ne s)
   | cons k t => exact ⟨k,t,rfl,⟨nd,by rw [← hp]; exact h2⟩,fun _ _ => rfl⟩
 rw [e,List.map_map]
 have : (joinB [46] ∘ prt) = id := by funext s; exact join_split s
 rw [this,List.map_id]
theorem op_names (h : TrieN N H r L) (hL : Nms L) : ∃ v H',resW Γ 397 [.bx r 0] H = some ([v],H') ∧ RowV H' v L ∧ Ext0 H H' := by
 have := resW_names h.lies (h.tiny hL) (by have := h.vis_len hL (fun _ _ => true); omega)
 rw [h.names hL] at this
 exact this
theorem leaf_mem (h : TrieN N H r L) (s : List UInt8) : leafAt N (prt s) = decide (s ∈ L) := by
 rw [Bool.eq_iff_iff,h.leaf,decide_eq_true_iff]
 constructor
 ·rintro ⟨t,ht,e⟩; rw [← prt_inj e]; exact ht
 ·intro hs; exact ⟨s,hs,rfl⟩
theorem op_has (h : TrieN N H r L) (s : List UInt8) (hs : s.length ≤ 1000) : resW Γ 392 [.bx r 0,.p (.str s)] H = some ([.p (.bool (decide (s ∈ L)))],H) := by
 rw [← leaf_mem h]
 exact resW_has h.lies s hs
def insS (s : List UInt8) : Path → Path
 | [] => [s]
 | t :: l => if partsLess (prt t) (prt s) = true then t :: insS s l else s :: t :: l
theorem mem_insS {s x : List UInt8} : ∀ {L : Path},x ∈ insS s L ↔ x = s ∨ x ∈ L
 | [] => by simp [insS]
 | t :: l => by
  unfold insS
  split
  ·rw [List.mem_cons,mem_insS,List.mem_cons]
   constructor
   ·rintro (h | h | h) <;> simp [h]
   ·rintro (h | h | h) <;> simp [h]
  ·simp
theorem insS_len {s : List UInt8} : ∀ {L : Path},(insS s L).length = L.length + 1
 | [] => rfl
 | t :: l => by
  unfold insS
  split
  ·rw [List.length_cons,insS_len,List.length_cons]
  ·rfl
theorem insS_sorted {s : List UInt8} : ∀ {L : Path},s ∉ L → L.Pairwise ltS → (insS s L).Pairwise ltS
 | [],_,_ => by simp [insS]
 | t :: l,hs,h => by
  obtain ⟨h1,h2⟩ := List.pairwise_cons.1 h
  unfold insS
  split
  ·rename_i hlt
   refine List.pairwise_cons.2 ⟨fun x hx => ?_,insS_sorted (fun h => hs (List.mem_cons_of_mem _ h)) h2⟩
   rcases mem_insS.1 hx with rfl | hx
   ·exact partsLess_iff.1 hlt
   ·exact h1 x hx
  ·rename_i hlt
   have hst : ltS s t := by
    have h3 : ¬ prt t < prt s := fun h => hlt (partsLess_iff.2 h)
    rcases Classical.em (prt s < prt t) with h4 | h4
    ·exact h4
    ·have := prt_inj (List.le_antisymm h3 h4)
     exact absurd (by rw [this]; simp) hs
   refine List.pairwise_cons.2 ⟨fun x hx => ?_,h⟩
   rcases List.mem_cons.1 hx with rfl | hx
   ·exact hst
   ·exact List.lt_trans hst (h1 x hx)
def addS (s : List UInt8) (L : Path) : Path := if s ∈ L then L else insS s L
theorem mem_addS {s x : List UInt8} {L : Path} : x ∈ addS s L ↔ x = s ∨ x ∈ L := by
 unfold addS
 split
 ·rename_i h
  constructor
  ·intro hx; exact .inr hx
  ·rintro (rfl | hx)
   ·exact h
   ·exact hx
 ·exact mem_insS
theorem addS_nms {s : List UInt8} {L : Path} (hL : Nms L) (hs : nameB s = true) (hl : L.length < 1000) : Nms (addS s L) := by
 unfold addS
 split
 ·exact hL
 ·rename_i h
  refine ⟨insS_sorted h hL.sorted,fun x hx => ?_,by rw [insS_len]; omega⟩
  rcases mem_insS.1 hx with rfl | hx
  ·exact hs
  ·exact hL.ok x hx
theorem addS_len {s : List UInt8} {L : Path} : (addS s L).length = if s ∈ L then L.length else L.length + 1 := by
 unfold addS
 split
 ·rfl
 ·exact insS_len
theorem op_insert (h : TrieN N H r L) (hL : Nms L) (s : List UInt8) (hs : s.length ≤ 1000) (hn : nameB s = true) : ∃ N' H',resW Γ 401 [.bx r 0,.p (.str s)] H = some ([.p (.int .i64 0)],H') ∧ TrieN N' H' r (addS s L) ∧ Chg N N' H H' := by
 obtain ⟨N',H',h1,h2,h3,h4,h5⟩ := resW_insert h.lies s hs hn (by have := hL.len; omega)
 refine ⟨N',H',h1,⟨?_,fun q hq hx => ?_,fun q => ?_⟩,h5⟩
 ·rw [leaf_mem h] at h2
  rw [addS_len]
  simpa using h2
 ·have mono : ∀ u,leafAt N u = true → leafAt N' u = true := fun u hu => by rw [h4]; split; rfl; exact hu
  rcases (h3 q).1 hx with hx | ⟨j,rfl⟩
  ·obtain ⟨u,hu⟩ := h.pruned q hq hx
   exact ⟨u,mono _ hu⟩
  ·refine ⟨(prt s).drop j,?_⟩
   rw [List.take_append_drop,h4,if_pos rfl]
 ·rw [h4]
  constructor
  ·intro hq
   split at hq
   ·rename_i e; exact ⟨s,mem_addS.2 (.inl rfl),e.symm⟩
   ·obtain ⟨t,h6,h7⟩ := (h.leaf q).1 hq
    exact ⟨t,mem_addS.2 (.inr h6),h7⟩
  ·rintro ⟨t,ht,rfl⟩
   rcases mem_addS.1 ht with rfl | ht
   ·rw [if_pos rfl]
   ·split
    ·rfl
    ·exact (h.leaf _).2 ⟨t,ht,rfl⟩
theorem nms_nodup (hL : Nms L) : L.Nodup := by
 unfold List.Nodup
 exact hL.sorted.imp fun {a b} hab e => by subst e; exact List.lt_irrefl _ hab
theorem op_removeNo (h : TrieN N H r L) (s : List UInt8) (hs : s.length ≤ 1000) (hm : s ∉ L) : resW Γ 403 [.bx r 0,.p (.str s)] H = some ([.p (.bool false)],H) :=
 resW_removeNo h.lies h.pruned s hs (by rw [leaf_mem h]; simpa using hm)
theorem op_remove (h : TrieN N H r L) (hL : Nms L) (s : List UInt8) (hs : s.length ≤ 1000) (hm : s ∈ L) : ∃ N' H',resW Γ 403 [.bx r 0,.p (.str s)] H = some ([.p (.bool true)],H') ∧ TrieN N' H' r (L.erase s) ∧ Chg N N' H H' := by
 obtain ⟨N',H',h1,h2,h3,h4,h5⟩ := resW_remove h.lies h.pruned s hs (by have := List.length_pos_of_mem hm; omega) (by have := hL.len; omega) (by rw [leaf_mem h]; simpa using hm)
 refine ⟨N',H',h1,⟨by rw [List.length_erase_of_mem hm]; exact h2,h3,fun q => ?_⟩,h5⟩
 rw [h4]
 constructor
 ·intro hq
  split at hq
  ·cases hq
  ·rename_i hne
   obtain ⟨t,h6,h7⟩ := (h.leaf q).1 hq
   refine ⟨t,(List.mem_erase_of_ne (fun e => hne ?_)).2 h6,h7⟩
   rw [← h7,e]
 ·rintro ⟨t,ht,rfl⟩
  have h6 := (List.Nodup.mem_erase_iff (nms_nodup hL)).1 ht
  rw [if_neg (fun e => h6.1 (prt_inj e))]
  exact (h.leaf _).2 ⟨t,h6.2,rfl⟩
end
end Ab
