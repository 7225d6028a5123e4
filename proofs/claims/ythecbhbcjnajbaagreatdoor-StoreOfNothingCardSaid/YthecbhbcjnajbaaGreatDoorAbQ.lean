import Derived.Test.YthecbhbcjnajbaaGreatDoorAbCore
import Derived.Below
import Derived.Laws.OwnMore
import Derived.MapKept
import Derived.Control
import Derived.Calls
import Derived.WalkKit
import Derived.Laws.StructEq
namespace Ab
open Go (IntKind BinOp UnOp World Value Addr Obj undef maxLen)
theorem block_add (a : Addr) (n : Nat) : (a.add n).block = a.block := by unfold Addr.add; split <;> rfl
theorem add_add (a : Addr) (i j : Nat) : (a.add i).add j = a.add (i + j) := by
 unfold Addr.add
 by_cases hi : i = 0 <;> by_cases hj : j = 0 <;> simp [hi,hj,Nat.add_assoc]
inductive RelP (ν : Nat → Nat) (w : World) (S : Nat → Prop) : PV → Value → Prop
 | int (k n) : RelP ν w S (.int k n) (.int k n)
 | bool (b) : RelP ν w S (.bool b) (.bool b)
 | str (s) : RelP ν w S (.str s) (.string ⟨s.toArray⟩)
 | nilp : RelP ν w S .nilp (.pointer none)
 | nilfn : RelP ν w S .nilfn .nilFunc
 | nilmap : RelP ν w S .nilmap (.map none)
 | clo (f cs us) : us.size = cs.length → (∀ c ∈ cs,c.one = true) → (∀ j c,cs[j]? = some c → RelP ν w S c (us.getD j undef)) → RelP ν w S (.clo f cs) (.func (.func (ν f)) #[] us)
 | sl (k sz xs a cap) (us : Nat → Nat → Value) : xs.length ≤ cap → cap ≤ maxLen → (∀ x ∈ xs,x.cells.length = sz ∧ ∀ c ∈ x.cells,c.one = true) →
   (k = .nil ∨ a = none → xs = [] ∧ a = none ∧ cap = 0) → (k = .tight ∨ k = .mem → a.isSome = true ∧ (k = .tight → cap = xs.length)) →
   (xs ≠ [] → ∃ ad,a = some ad ∧ S ad.block) →
   (∀ ad,a = some ad → ∀ i x j c,xs[i]? = some x → x.cells[j]? = some c → w.cell? (ad.add (i * sz + j)) = some (us i j)) →
   (∀ i x j c,xs[i]? = some x → x.cells[j]? = some c → RelP ν w S c (us i j)) → RelP ν w S (.sl k sz xs) (.slice a xs.length cap)
 | ptr (cells ad) (us : Nat → Value) : cells ≠ [] → S ad.block → (∀ c ∈ cells,c.one = true) → (∀ j c,cells[j]? = some c → w.cell? (ad.add j) = some (us j)) →
   (∀ j c,cells[j]? = some c → RelP ν w S c (us j)) → RelP ν w S (.ptr cells) (.pointer (some ad))
 | agg (cs us) : us.size = cs.length → (∀ c ∈ cs,c.one = true) → (∀ j c,cs[j]? = some c → RelP ν w S c (us.getD j undef)) → RelP ν w S (.agg cs) (.agg us)
def blkOf : Value → Option Nat
 | .slice (some a) _ cap => if cap = 0 then none else some a.block
 | .pointer (some a) => some a.block
 | _ => none
def RowAt (w : World) (v : Value) (sz n : Nat) (us : List Value) : Prop :=
 us.length = n * sz ∧ ((n = 0 ∧ ∃ a,v = .slice a 0 0) ∨
  ∃ g cap cur e,v = .slice (some ⟨g,0,none⟩) n cap ∧ 0 < cap ∧ w.heap[g]? = some (.cells cur e (0,0)) ∧ n ≤ cap ∧ cap ≤ maxLen ∧ cur.size = cap * sz ∧ cur.toList.take (n * sz) = us)
def ElAt (m : Value) (sz n i off : Nat) (u : Value) : Prop :=
 (i < n → ∃ g cap,m = .slice (some ⟨g,0,none⟩) n cap ∧ u = .pointer (some ⟨g,i * sz + off,none⟩)) ∧
 (n ≤ i → i - n < n → i - n ≤ off → off ≤ n → ∃ g cap,m = .slice (some ⟨g,0,none⟩) n cap ∧ u = .slice (some ⟨g,(i - n) * sz,none⟩) (off - (i - n)) (cap - (i - n)))
inductive RelV (ν : Nat → Nat) (w : World) (S : Nat → Prop) (μ : Nat → Value) (H : Heap) : AV → Value → Prop
 | p (v u) : RelP ν w S v u → RelV ν w S μ H (.p v) u
 | own (id n u) : id < H.length → (∀ f sz xs,H[id]? = some (.row f sz xs) → n ≤ xs.length ∧ (n = xs.length → u = μ id)) → u.oneCell' = true → RelV ν w S μ H (.own id n) u
 | bx (id off g u) : id < H.length → (∀ cs,H[id]? = some (.box cs) → μ id = .pointer (some ⟨g,0,none⟩)) → u = .pointer (some ⟨g,off,none⟩) → RelV ν w S μ H (.bx id off) u
 | el (id n i off u) : id < H.length → (∀ f sz xs,H[id]? = some (.row f sz xs) → n ≤ xs.length ∧ (n = xs.length → ElAt (μ id) sz n i off u)) →
   u.oneCell' = true → RelV ν w S μ H (.el id n i off) u
 | mp (id g u) : id < H.length → (∀ cs,H[id]? = some (.box cs) → μ id = .pointer (some ⟨g,0,none⟩)) → u = .map (some g) → RelV ν w S μ H (.mp id) u
 | agg (cs us) : us.size = cs.length → (∀ c ∈ cs,c.one = true) → (∀ j c,cs[j]? = some c → RelV ν w S μ H c (us.getD j undef)) → RelV ν w S μ H (.agg cs) (.agg us)
 | tup (cs us) : us.size = cs.length → (∀ j c,cs[j]? = some c → RelV ν w S μ H c (us.getD j undef)) → RelV ν w S μ H (.tup cs) (.tuple us)
 | clo (f cs us) : us.size = cs.length → (∀ c ∈ cs,c.one = true) → (∀ j c,cs[j]? = some c → RelV ν w S μ H c (us.getD j undef)) → RelV ν w S μ H (.clo f cs) (.func (.func (ν f)) #[] us)
 | nov : RelV ν w S μ H .nov undef
 | any (u) : RelV ν w S μ H .any u
def BlkRel (ν : Nat → Nat) (w : World) (S : Nat → Prop) (μ : Nat → Value) (H : Heap) (id : Nat) : Blk → Prop
 | .box cells => ∃ g,μ id = .pointer (some ⟨g,0,none⟩) ∧ ((∃ cs t,w.heap[g]? = some (.cells cs t (0,0)) ∧ cs.size = cells.length ∧ (∀ c ∈ cells,c.one = true) ∧
   ∀ j c,cells[j]? = some c → RelV ν w S μ H c (cs.getD j undef)) ∨ (∃ s pos,cells = iterCells s pos ∧ w.heap[g]? = some (.stringIter ⟨s.toArray⟩ pos)) ∨
   ∃ es arr clock,cells = mapCells es ∧ w.heap[g]? = some (.map arr clock) ∧ Go.MapKept.Stamped arr clock ∧ arr.size = es.length ∧ ∀ (j : Nat) k v,es[j]? = some (k,v) → ∃ e,arr[j]? = some e ∧ RelP ν w S k e.key ∧ v.ok = true ∧ RelV ν w S μ H v e.val)
 | .row f sz xs => 0 < sz ∧ xs.length ≤ lim ∧ ∃ us,RowAt w (μ id) sz xs.length us ∧ (∀ x ∈ xs,x.cells.length = sz ∧ ∀ c ∈ x.cells,c.one = true) ∧
   (∀ i x j c,xs[i]? = some x → x.cells[j]? = some c → RelP ν w S c (us.getD (i * sz + j) undef)) ∧ (f = true → ∀ g,blkOf (μ id) = some g → S g)
 | .dead => ∀ g,blkOf (μ id) = some g → S g
def alive (μ : Nat → Value) (H : Heap) (g : Nat) : Prop :=
 ∃ id,blkOf (μ id) = some g ∧ ((∃ cs,H[id]? = some (.box cs)) ∨ ∃ sz xs,H[id]? = some (.row false sz xs))
structure Rel (ν : Nat → Nat) (w : World) (S : Nat → Prop) (μ : Nat → Value) (H : Heap) : Prop where
 lt : ∀ g,S g → g < w.heap.size
 blk : ∀ id b,H[id]? = some b → BlkRel ν w S μ H id b
 apart : ∀ g,alive μ H g → ¬ S g
 inj : ∀ i j g,blkOf (μ i) = some g → blkOf (μ j) = some g → ((∃ cs,H[i]? = some (.box cs)) ∨ ∃ sz xs,H[i]? = some (.row false sz xs)) →
  ((∃ cs,H[j]? = some (.box cs)) ∨ ∃ sz xs,H[j]? = some (.row false sz xs)) → i = j
structure Ext (w : World) (S : Nat → Prop) (μ : Nat → Value) (H : Heap) (w' : World) (S' : Nat → Prop) (μ' : Nat → Value) (H' : Heap) : Prop where
 os : w'.os = w.os
 tape : w'.tape = w.tape
 output : w'.output = w.output
 size : w.heap.size ≤ w'.heap.size
 keep : ∀ g,g < w.heap.size → ¬ alive μ H g → w'.heap[g]? = w.heap[g]?
 more : ∀ g,S g → S' g
 new : ∀ g,S' g → g < w.heap.size → S g ∨ alive μ H g
 own : ∀ g,alive μ' H' g → g < w.heap.size → alive μ H g
theorem Ext.refl {w S μ H} : Ext w S μ H w S μ H := ⟨rfl,rfl,rfl,Nat.le_refl _,fun _ _ _ => rfl,fun _ h => h,fun _ h _ => .inl h,fun _ h _ => h⟩
theorem Ext.trans {w S μ H w1 S1 μ1 H1 w2 S2 μ2 H2} (a : Ext w S μ H w1 S1 μ1 H1) (b : Ext w1 S1 μ1 H1 w2 S2 μ2 H2) : Ext w S μ H w2 S2 μ2 H2 where
 os := b.os.trans a.os
 tape := b.tape.trans a.tape
 output := b.output.trans a.output
 size := Nat.le_trans a.size b.size
 keep g h1 h2 := (b.keep g (Nat.lt_of_lt_of_le h1 a.size) (fun h => h2 (a.own g h h1))).trans (a.keep g h1 h2)
 more g h := b.more g (a.more g h)
 new g h1 h2 := by
  rcases b.new g h1 (Nat.lt_of_lt_of_le h2 a.size) with h | h
  ·exact a.new g h h2
  ·exact .inr (a.own g h h2)
 own g h1 h2 := a.own g (b.own g h1 (Nat.lt_of_lt_of_le h2 a.size)) h2
theorem cell?_of_heap {w w' : World} {p : Addr} (h : w'.heap[p.block]? = w.heap[p.block]?) : w'.cell? p = w.cell? p := by
 unfold World.cell?
 rw [h]
theorem RelP.keep {ν : Nat → Nat} {w w' : World} {S S' : Nat → Prop} (hS : ∀ g,S g → S' g) (hw : ∀ g,S g → w'.heap[g]? = w.heap[g]?) {v u} (h : RelP ν w S v u) : RelP ν w' S' v u := by
 induction h with
 | int => exact .int _ _
 | bool => exact .bool _
 | str => exact .str _
 | nilp => exact .nilp
 | nilfn => exact .nilfn
 | nilmap => exact .nilmap
 | clo f cs us h1 h2 _ ih => exact .clo f cs us h1 h2 ih
 | sl k sz xs a cap us h1 h2 h3 h4 h5 h6 h7 _ ih =>
  refine .sl k sz xs a cap us h1 h2 h3 h4 h5 (fun hx => ?_) (fun ad hd i x j c hx hc => ?_) ih
  ·obtain ⟨ad,e,hs⟩ := h6 hx
   exact ⟨ad,e,hS _ hs⟩
  ·obtain ⟨ad',e,hs⟩ := h6 (by rintro rfl; simp at hx)
   rw [hd] at e
   cases e
   rw [← h7 ad hd i x j c hx hc]
   exact cell?_of_heap (hw _ (by rw [block_add]; exact hs))
 | ptr cells ad us h0 h1 h2 h3 _ ih =>
  refine .ptr cells ad us h0 (hS _ h1) h2 (fun j c hc => ?_) ih
  rw [← h3 j c hc]
  exact cell?_of_heap (hw _ (by rw [block_add]; exact h1))
 | agg cs us h1 h2 _ ih => exact .agg cs us h1 h2 ih
structure Moves (μ : Nat → Value) (H : Heap) (μ' : Nat → Value) (H' : Heap) : Prop where
 len : H.length ≤ H'.length
 row : ∀ id f sz xs,id < H.length → H'[id]? = some (.row f sz xs) → ∃ f0 xs0,H[id]? = some (.row f0 sz xs0) ∧ xs0.length ≤ xs.length ∧ (xs0.length = xs.length → μ' id = μ id)
 box : ∀ id cs,id < H.length → H'[id]? = some (.box cs) → ∃ cs0,H[id]? = some (.box cs0) ∧ μ' id = μ id
theorem RelV.keep {ν : Nat → Nat} {w w' : World} {S S' : Nat → Prop} {μ μ' : Nat → Value} {H H' : Heap} (hS : ∀ g,S g → S' g) (hw : ∀ g,S g → w'.heap[g]? = w.heap[g]?) (hm : Moves μ H μ' H')
  {v u} (h : RelV ν w S μ H v u) : RelV ν w' S' μ' H' v u := by
 induction h with
 | p v u h => exact .p v u (h.keep hS hw)
 | own id n u hl h h1 =>
  refine .own id n u (Nat.lt_of_lt_of_le hl hm.len) (fun f sz xs e => ?_) h1
  obtain ⟨f0,xs0,e0,hle,he⟩ := hm.row id f sz xs hl e
  obtain ⟨h2,h3⟩ := h f0 sz xs0 e0
  exact ⟨Nat.le_trans h2 hle,fun hn => by rw [he (by omega)]; exact h3 (by omega)⟩
 | bx id off g u hl h h1 =>
  refine .bx id off g u (Nat.lt_of_lt_of_le hl hm.len) (fun cs e => ?_) h1
  obtain ⟨cs0,e0,he⟩ := hm.box id cs hl e
  rw [he]
  exact h cs0 e0
 | el id n i off u hl h h1 =>
  refine .el id n i off u (Nat.lt_of_lt_of_le hl hm.len) (fun f sz xs e => ?_) h1
  obtain ⟨f0,xs0,e0,hle,he⟩ := hm.row id f sz xs hl e
  obtain ⟨h2,h3⟩ := h f0 sz xs0 e0
  exact ⟨Nat.le_trans h2 hle,fun hn => by rw [he (by omega)]; exact h3 (by omega)⟩
 | mp id g u hl h h1 =>
  refine .mp id g u (Nat.lt_of_lt_of_le hl hm.len) (fun cs e => ?_) h1
  obtain ⟨cs0,e0,he⟩ := hm.box id cs hl e
  rw [he]
  exact h cs0 e0
 | agg cs us h1 h2 _ ih => exact .agg cs us h1 h2 ih
 | tup cs us h1 _ ih => exact .tup cs us h1 ih
 | clo f cs us h1 h2 _ ih => exact .clo f cs us h1 h2 ih
 | nov => exact .nov
 | any u => exact .any u
theorem Moves.refl {μ H} : Moves μ H μ H := ⟨Nat.le_refl _,fun _ _ _ xs _ h => ⟨_,xs,h,Nat.le_refl _,fun _ => rfl⟩,fun _ cs _ h => ⟨cs,h,rfl⟩⟩
theorem PV.cells_one {v : PV} (h : v.one = true) : v.cells = [v] := by cases v <;> first | rfl | cases h
theorem RelP.one {ν w S v u} (h : RelP ν w S v u) : u.oneCell' = v.one := by cases h <;> rfl
theorem RelV.one {ν w S μ H v u} (h : RelV ν w S μ H v u) (h1 : v.one = true) : u.oneCell' = true := by
 cases h with
 | p v u h => rw [h.one]; exact h1
 | own _ _ _ _ _ h => exact h
 | bx _ _ _ _ _ _ h => subst h; rfl
 | el _ _ _ _ _ _ _ h => exact h
 | mp _ _ _ _ _ h => subst h; rfl
 | agg => cases h1
 | tup => cases h1
 | clo => rfl
 | nov => cases h1
 | any => cases h1
theorem RelP.cells {ν w S v u} (h : RelP ν w S v u) : u.cells.size = v.cells.length ∧ (∀ c ∈ v.cells,c.one = true) ∧ ∀ j c,v.cells[j]? = some c → RelP ν w S c (u.cells.getD j undef) := by
 cases h
 case agg cs us h1 h2 h3 => exact ⟨h1,h2,h3⟩
 all_goals
  refine ⟨rfl,fun c hc => ?_,fun j c hc => ?_⟩
  ·simp only [PV.cells,List.mem_singleton] at hc
   subst hc; rfl
  ·cases j with
   | zero =>
    simp only [PV.cells,List.getElem?_cons_zero,Option.some.injEq] at hc
    subst hc
    simp only [Value.cells]
    constructor <;> assumption
   | succ j => simp [PV.cells] at hc
theorem RelV.cells {ν w S μ H v u} (h : RelV ν w S μ H v u) (hok : v.ok = true) : u.cells.size = v.cells.length ∧ (∀ c ∈ v.cells,c.one = true) ∧ ∀ j c,v.cells[j]? = some c → RelV ν w S μ H c (u.cells.getD j undef) := by
 cases h with
 | p v u h =>
  obtain ⟨h1,h2,h3⟩ := h.cells
  refine ⟨by rw [h1]; simp [AV.cells],fun c hc => ?_,fun j c hc => ?_⟩
  ·simp only [AV.cells,List.mem_map] at hc
   obtain ⟨x,hx,rfl⟩ := hc
   exact h2 x hx
  ·simp only [AV.cells,List.getElem?_map,Option.map_eq_some_iff] at hc
   obtain ⟨x,hx,rfl⟩ := hc
   exact .p _ _ (h3 j x hx)
 | agg cs us h1 h2 h3 => exact ⟨h1,h2,h3⟩
 | tup => cases hok
 | nov => cases hok
 | any => cases hok
 | own id n u h1 h2 h3 =>
  have e : u.cells = #[u] := by cases u <;> first | rfl | cases h3
  rw [e]
  refine ⟨rfl,fun c hc => ?_,fun j c hc => ?_⟩
  ·simp only [AV.cells,List.mem_singleton] at hc; subst hc; rfl
  ·cases j with
   | zero => simp only [AV.cells,List.getElem?_cons_zero,Option.some.injEq] at hc; subst hc; exact .own _ _ _ h1 h2 h3
   | succ j => simp [AV.cells] at hc
 | bx id off g u h1 h2 h3 =>
  subst h3
  refine ⟨rfl,fun c hc => ?_,fun j c hc => ?_⟩
  ·simp only [AV.cells,List.mem_singleton] at hc; subst hc; rfl
  ·cases j with
   | zero => simp only [AV.cells,List.getElem?_cons_zero,Option.some.injEq] at hc; subst hc; exact .bx _ _ _ _ h1 h2 rfl
   | succ j => simp [AV.cells] at hc
 | el id n i off u h1 h2 h3 =>
  have e : u.cells = #[u] := by cases u <;> first | rfl | cases h3
  rw [e]
  refine ⟨rfl,fun c hc => ?_,fun j c hc => ?_⟩
  ·simp only [AV.cells,List.mem_singleton] at hc; subst hc; rfl
  ·cases j with
   | zero => simp only [AV.cells,List.getElem?_cons_zero,Option.some.injEq] at hc; subst hc; exact .el _ _ _ _ _ h1 h2 h3
   | succ j => simp [AV.cells] at hc
 | mp id g u h1 h2 h3 =>
  subst h3
  refine ⟨rfl,fun c hc => ?_,fun j c hc => ?_⟩
  ·simp only [AV.cells,List.mem_singleton] at hc; subst hc; rfl
  ·cases j with
   | zero => simp only [AV.cells,List.getElem?_cons_zero,Option.some.injEq] at hc; subst hc; exact .mp _ _ _ h1 h2 rfl
   | succ j => simp [AV.cells] at hc
 | clo f cs us h1 h2 h3 =>
  refine ⟨rfl,fun c hc => ?_,fun j c hc => ?_⟩
  ·simp only [AV.cells,List.mem_singleton] at hc; subst hc; rfl
  ·cases j with
   | zero => simp only [AV.cells,List.getElem?_cons_zero,Option.some.injEq] at hc; subst hc; exact .clo _ _ _ h1 h2 h3
   | succ j => simp [AV.cells] at hc
end Ab
namespace Ab
open Go (IntKind BinOp UnOp World Value Addr Obj undef maxLen Program TypeId Oper Op Operand Act Sem Next Result execOp Builtin)
structure Names where
 fn : Nat → Nat
 gl : Nat → Nat
def const1 : Value → PV → Bool
 | .int k n, .int k' n' => k == k' && n == n'
 | .bool a, .bool b => a == b
 | .string s, .str l => s.data.toList == l
 | .pointer none, .nilp => true
 | .nilFunc, .nilfn => true
 | .map none, .nilmap => true
 | .slice none 0 0, .sl .nil _ [] => true
 | _, _ => false
def consts : List Value → List PV → Bool
 | [], [] => true
 | v :: vs, p :: ps => const1 v p && consts vs ps
 | _, _ => false
def constOk : Value → PV → Bool
 | .agg us, .agg ps => consts us.toList ps
 | v, p => const1 v p
theorem const1_rel {ν w S v p} (h : const1 v p = true) : RelP ν w S p v ∧ p.one = true := by
 unfold const1 at h
 split at h
 ·simp only [Bool.and_eq_true, beq_iff_eq] at h; obtain ⟨rfl, rfl⟩ := h; exact ⟨.int _ _, rfl⟩
 ·simp only [beq_iff_eq] at h; subst h; exact ⟨.bool _, rfl⟩
 ·rename_i s l
  simp only [beq_iff_eq] at h; subst h
  exact ⟨.str s.data.toList, rfl⟩
 ·exact ⟨.nilp, rfl⟩
 ·exact ⟨.nilfn, rfl⟩
 ·exact ⟨.nilmap, rfl⟩
 ·exact ⟨.sl .nil _ [] none 0 (fun _ _ => undef) (Nat.le_refl _) (Nat.zero_le _) (by simp) (by simp) (by simp) (by simp) (by simp) (by simp), rfl⟩
 ·cases h
theorem consts_rel {ν w S} : ∀ {vs ps}, consts vs ps = true → vs.length = ps.length ∧ (∀ c ∈ ps, c.one = true) ∧ ∀ (j : Nat) c, ps[j]? = some c → RelP ν w S c (vs.getD j undef)
 | [], [], _ => ⟨rfl, by simp, by simp⟩
 | v :: vs, p :: ps, h => by
  simp only [consts, Bool.and_eq_true] at h
  obtain ⟨h1, h2, h3⟩ := consts_rel (ν := ν) (w := w) (S := S) h.2
  obtain ⟨h4, h5⟩ := const1_rel (ν := ν) (w := w) (S := S) h.1
  refine ⟨by simp [h1], fun c hc => ?_, fun j c hc => ?_⟩
  ·rcases List.mem_cons.1 hc with rfl | hc
   ·exact h5
   ·exact h2 c hc
  ·cases j with
   | zero => simp only [List.getElem?_cons_zero, Option.some.injEq] at hc; subst hc; simpa using h4
   | succ j => simp only [List.getElem?_cons_succ] at hc; simpa using h3 j c hc
 | [], _ :: _, h => by cases h
 | _ :: _, [], h => by cases h
theorem constOk_rel {ν w S v p} (h : constOk v p = true) : RelP ν w S p v := by
 unfold constOk at h
 split at h
 ·rename_i us ps
  obtain ⟨h1, h2, h3⟩ := consts_rel (ν := ν) (w := w) (S := S) h
  exact .agg ps us (by simpa using h1) h2 (fun j c hc => by simpa using h3 j c hc)
 ·exact (const1_rel h).1
def chkArg (N : Names) : Operand → Arg → Bool
 | .tmp t, .v t' => t == t'
 | .const v, .c p => constOk v p
 | .global g, .g n => N.gl n == g
 | .func f, .f n => N.fn n == f
 | _, _ => false
structure GlRel (Γ : Ctx) (N : Names) (w : World) (S : Nat → Prop) : Prop where
 rel : ∀ n cs, Γ.gl n = some cs → RelP N.fn w S (.ptr cs) (.pointer (some ⟨N.gl n, 0, none⟩))
 whole : ∀ n cs, Γ.gl n = some cs → ∃ us e fr, w.heap[N.gl n]? = some (.cells us e fr) ∧ us.size = cs.length
 ints : ∀ n ∈ Γ.gi, S (N.gl n) ∧ ∃ m, w.cell? ⟨N.gl n, 0, none⟩ = some (.int .i64 m)
structure Env.Rel (Γ : Ctx) (N : Names) (w : World) (S : Nat → Prop) (μ : Nat → Value) (H : Heap) (σ : Nat → AV) (a : Act) : Prop where
 env : ∀ t, RelV N.fn w S μ H (σ t) (a.tmps.getD t undef)
 gl : GlRel Γ N w S
theorem Env.Rel.arg {Γ N w S μ H σ a} (h : Env.Rel Γ N w S μ H σ a) {o x} (hc : chkArg N o x = true) : RelV N.fn w S μ H (x.ev Γ σ) (a.eval o) := by
 unfold chkArg at hc
 split at hc
 ·simp only [beq_iff_eq] at hc; subst hc; exact h.env _
 ·exact .p _ _ (constOk_rel hc)
 ·simp only [beq_iff_eq] at hc; subst hc
  simp only [Arg.ev]
  cases hg : Γ.gl _ with
  | none => exact .any _
  | some cs => exact .p _ _ (h.gl.rel _ cs hg)
 ·simp only [beq_iff_eq] at hc; subst hc
  exact .p _ _ (.clo _ [] #[] rfl (by simp) (by simp))
 ·cases hc
structure Grows (w w' : World) : Prop where
 os : w'.os = w.os
 tape : w'.tape = w.tape
 output : w'.output = w.output
 size : w.heap.size ≤ w'.heap.size
 keep : ∀ g, g < w.heap.size → w'.heap[g]? = w.heap[g]?
theorem Grows.refl (w : World) : Grows w w := ⟨rfl, rfl, rfl, Nat.le_refl _, fun _ _ => rfl⟩
theorem Grows.trans {a b c : World} (h : Grows a b) (k : Grows b c) : Grows a c :=
 ⟨k.os.trans h.os, k.tape.trans h.tape, k.output.trans h.output, Nat.le_trans h.size k.size, fun g hg => (k.keep g (Nat.lt_of_lt_of_le hg h.size)).trans (h.keep g hg)⟩
theorem Grows.alloc (w : World) (o : Obj) : Grows w (w.alloc o) := ⟨rfl, rfl, rfl, by simp, fun g hg => Go.RowKit.Below.heap_alloc w o g hg⟩
theorem Grows.drew (w : World) : Grows w w.drew := ⟨rfl, rfl, rfl, Nat.le_refl _, fun _ _ => rfl⟩
def QRes (ν : Nat → Nat) (_P : Program) (w : World) (S : Nat → Prop) (μ : Nat → Value) (H : Heap) (r : Result Next) (v : AV) : Prop :=
 ∃ u w' S', r = .ok (.value u) w' ∧ Grows w w' ∧ (∀ g, S g → S' g) ∧ (∀ g, S' g → g < w'.heap.size) ∧ (∀ g, S' g → S g ∨ w.heap.size ≤ g) ∧ RelV ν w' S' μ H v u
theorem QRes.same {ν P w S μ H r v u} (hS : ∀ g, S g → g < w.heap.size) (hr : r = .ok (.value u) w) (h : RelV ν w S μ H v u) : QRes ν P w S μ H r v :=
 ⟨u, w, S, hr, Grows.refl w, fun _ h => h, hS, fun _ h => .inl h, h⟩
section
variable {Γ : Ctx} {N : Names} {P : Program} {w : World} {S : Nat → Prop} {μ : Nat → Value} {H : Heap} {σ : Nat → AV} {a : Act}
theorem RelV.bool_inv {ν t u} (h : RelV ν w S μ H (.p (.bool t)) u) : u = .bool t := by cases h with | p _ _ h => cases h; rfl
theorem RelV.int_inv {ν k n u} (h : RelV ν w S μ H (.p (.int k n)) u) : u = .int k n := by cases h with | p _ _ h => cases h; rfl
theorem RelV.str_inv {ν s u} (h : RelV ν w S μ H (.p (.str s)) u) : u = .string ⟨s.toArray⟩ := by cases h with | p _ _ h => cases h; rfl
theorem RelV.p_inv {ν v u} (h : RelV ν w S μ H (.p v) u) : RelP ν w S v u := by cases h with | p _ _ h => exact h
theorem q_pick {c x y : Operand} {c' x' y' : Arg} {v : AV} (hr : Env.Rel Γ N w S μ H σ a) (h1 : chkArg N c c' = true) (h2 : chkArg N x x' = true) (h3 : chkArg N y y' = true)
  (hv : pickA (c'.ev Γ σ) (x'.ev Γ σ) (y'.ev Γ σ) = some v) : ∃ u, (do pure (.value (if ← Go.asBool (a.eval c) then a.eval x else a.eval y)) : Sem Next).run P w = .ok (.value u) w ∧ RelV N.fn w S μ H v u := by
 unfold pickA at hv
 split at hv
 ·rename_i t ht
  have e := hr.arg h1
  rw [ht] at e
  rw [e.bool_inv]
  simp only [Option.some.injEq] at hv
  subst hv
  cases t
  ·exact ⟨a.eval y, by simp [Go.asBool], hr.arg h3⟩
  ·exact ⟨a.eval x, by simp [Go.asBool], hr.arg h2⟩
 ·cases hv
theorem elOk_spec {id n i : Nat} (h : elOk H id n i = true) : ∃ f sz xs, H[id]? = some (.row f sz xs) ∧ xs.length = n ∧ i < n := by
 unfold elOk rowOf at h
 cases hH : H[id]? with
 | none => simp [hH] at h
 | some b =>
  cases b with
  | box => simp [hH] at h
  | dead => simp [hH] at h
  | row f sz xs =>
   simp only [hH] at h
   split at h
   ·rename_i hx
    split at hx
    ·rename_i hn
     exact ⟨f, sz, xs, rfl, hn, by simpa using h⟩
    ·cases hx
   ·cases h
theorem RelV.el_inv {ν id n i off u} (h : RelV ν w S μ H (.el id n i off) u) (hok : elOk H id n i = true) :
  ∃ f sz xs g cap, H[id]? = some (.row f sz xs) ∧ xs.length = n ∧ i < n ∧ μ id = .slice (some ⟨g, 0, none⟩) n cap ∧ u = .pointer (some ⟨g, i * sz + off, none⟩) := by
 obtain ⟨f, sz, xs, h1, h2, h3⟩ := elOk_spec hok
 cases h with
 | el _ _ _ _ _ hl h hone =>
  obtain ⟨_, h4⟩ := h f sz xs h1
  obtain ⟨g, cap, h5, h6⟩ := (h4 h2.symm).1 h3
  exact ⟨f, sz, xs, g, cap, h1, h2, h3, h5, h6⟩
theorem RelV.bx_inv {ν id off u} (h : RelV ν w S μ H (.bx id off) u) : ∃ g, u = .pointer (some ⟨g, off, none⟩) ∧ id < H.length ∧ ∀ cs, H[id]? = some (.box cs) → μ id = .pointer (some ⟨g, 0, none⟩) := by
 cases h with | bx _ _ g _ hl h1 h2 => exact ⟨g, h2, hl, h1⟩
theorem q_nilchk {x : Value} {x' v : AV} (hx : RelV N.fn w S μ H x' x) (hv : nilchkA H x' = some v) :
  v = x' ∧ ((∃ a, x = .pointer (some a)) ∨ (∃ f cs, x = .func (.func f) #[] cs)) := by
 unfold nilchkA at hv
 split at hv
 ·simp only [Option.some.injEq] at hv; subst hv
  cases hx with | p _ _ h => cases h; exact ⟨rfl, .inl ⟨_, rfl⟩⟩
 ·simp only [Option.some.injEq] at hv; subst hv
  obtain ⟨g, h, _⟩ := hx.bx_inv
  exact ⟨rfl, .inl ⟨_, h⟩⟩
 ·unfold ifB at hv
  split at hv
  ·rename_i hok
   simp only [Option.some.injEq] at hv; subst hv
   obtain ⟨_, _, _, _, _, _, _, _, _, h⟩ := hx.el_inv hok
   exact ⟨rfl, .inl ⟨_, h⟩⟩
  ·cases hv
 ·simp only [Option.some.injEq] at hv; subst hv
  cases hx with | p _ _ h => cases h; exact ⟨rfl, .inr ⟨_, _, rfl⟩⟩
 ·simp only [Option.some.injEq] at hv; subst hv
  cases hx; exact ⟨rfl, .inr ⟨_, _, rfl⟩⟩
 ·cases hv
theorem run_binInt {op : BinOp} {k k' : IntKind} {x y : Int} {T : TypeId} {v : PV} (hk : k = k' ∨ op = .shl ∨ op = .shr) (h : binInt op k x y = some v) :
  ∃ u, (Go.binOp op T (.int k x) (.int k' y)).run P w = .ok u w ∧ RelP N.fn w S v u := by
 cases op
 case shl =>
  simp only [binInt] at h
  split at h
  ·cases h
  ·rename_i hy
   simp only [Option.some.injEq] at h; subst h
   exact ⟨_, by simp [Go.binOp, Go.Op.shift, hy], .int _ _⟩
 case shr =>
  simp only [binInt] at h
  split at h
  ·cases h
  ·rename_i hy
   simp only [Option.some.injEq] at h; subst h
   exact ⟨_, by simp [Go.binOp, Go.Op.shift, hy], .int _ _⟩
 all_goals
  simp only [reduceCtorEq, or_false] at hk
  subst hk
  simp only [binInt] at h
 case quo =>
  split at h
  ·cases h
  ·rename_i hy
   simp only [Option.some.injEq] at h; subst h
   exact ⟨_, by simp [Go.binOp, Go.Op.intDiv, hy], .int _ _⟩
 case rem =>
  split at h
  ·cases h
  ·rename_i hy
   simp only [Option.some.injEq] at h; subst h
   exact ⟨_, by simp [Go.binOp, Go.Op.intDiv, hy], .int _ _⟩
 all_goals
  simp only [Option.some.injEq] at h
  subst h
 case add => exact ⟨_, by simp [Go.binOp, Go.Op.intArith], .int _ _⟩
 case sub => exact ⟨_, by simp [Go.binOp, Go.Op.intArith], .int _ _⟩
 case mul => exact ⟨_, by simp [Go.binOp, Go.Op.intArith], .int _ _⟩
 case and => exact ⟨_, by simp [Go.binOp, Go.Op.intBits], .int _ _⟩
 case or => exact ⟨_, by simp [Go.binOp, Go.Op.intBits], .int _ _⟩
 case xor => exact ⟨_, by simp [Go.binOp, Go.Op.intBits], .int _ _⟩
 case andNot => exact ⟨_, by simp [Go.binOp, Go.Op.intBits], .int _ _⟩
 case eql => exact ⟨.bool (x == y), by simp [Go.binOp, Go.Op.intCmp], .bool _⟩
 case neq => exact ⟨.bool (x != y), by simp [Go.binOp, Go.Op.intCmp], .bool _⟩
 case lss => exact ⟨.bool (decide (x < y)), by simp [Go.binOp, Go.Op.intCmp], .bool _⟩
 case leq => exact ⟨.bool (decide (x ≤ y)), by simp [Go.binOp, Go.Op.intCmp], .bool _⟩
 case gtr => exact ⟨.bool (decide (y < x)), by simp [Go.binOp, Go.Op.intCmp], .bool _⟩
 case geq => exact ⟨.bool (decide (y ≤ x)), by simp [Go.binOp, Go.Op.intCmp], .bool _⟩
theorem bytesLess_eq : ∀ a b, Ab.bytesLess a b = Go.Op.bytesLess a b
 | _, [] => by simp [Ab.bytesLess, Go.Op.bytesLess]
 | [], _ :: _ => by simp [Ab.bytesLess, Go.Op.bytesLess]
 | a :: x, b :: y => by simp [Ab.bytesLess, Go.Op.bytesLess, bytesLess_eq x y]
theorem mk_append (x y : List UInt8) : (ByteArray.mk x.toArray) ++ (ByteArray.mk y.toArray) = ByteArray.mk (x ++ y).toArray := by
 apply ByteArray.ext
 simp [ByteArray.data_append]
theorem size_mk (x : List UInt8) : (ByteArray.mk x.toArray).size = x.length := by simp [ByteArray.size]
theorem run_binStr {op : BinOp} {x y : List UInt8} {T : TypeId} {v : PV} (h : binStr op x y = some v) :
  ∃ u, (Go.binOp op T (.string ⟨x.toArray⟩) (.string ⟨y.toArray⟩)).run P w = .ok u w ∧ RelP N.fn w S v u := by
 cases op
 case add =>
  simp only [binStr] at h
  split at h
  ·rename_i hl
   simp only [Option.some.injEq] at h; subst h
   refine ⟨.string ⟨(x ++ y).toArray⟩, ?_, .str _⟩
   have e : ¬ ((((ByteArray.mk x.toArray).size + (ByteArray.mk y.toArray).size : Nat) : Int) > IntKind.i64.max) := by
    rw [size_mk, size_mk, show IntKind.i64.max = maxI from rfl]; omega
   simp only [Go.binOp, Go.Op.stringOp, if_neg e, mk_append]
   simp
  ·cases h
 all_goals
  simp only [binStr, Option.some.injEq, reduceCtorEq] at h
 all_goals
  subst h
  exact ⟨_, by simp [Go.binOp, Go.Op.stringOp, bytesLess_eq], .bool _⟩
theorem RelP.int_inv {ν k n u} (h : RelP ν w S (.int k n) u) : u = .int k n := by cases h; rfl
theorem RelP.bool_inv {ν t u} (h : RelP ν w S (.bool t) u) : u = .bool t := by cases h; rfl
theorem RelP.str_inv {ν s u} (h : RelP ν w S (.str s) u) : u = .string ⟨s.toArray⟩ := by cases h; rfl
def fieldKind (P : Program) (t : TypeId) : Nat → Bool
 | 0 => match P.underlying t with | some (.int _) => true | _ => false
 | 1 => match P.underlying t with | some .bool => true | _ => false
 | 2 => match P.underlying t with | some .string => true | _ => false
 | _ => false
def eqFs (P : Program) : List Go.Field → List Nat → Nat → Bool
 | [], [], _ => true
 | f :: fs, kd :: ks, k => f.name != "_" && f.offset == k && fieldKind P f.type kd && eqFs P fs ks (k + 1)
 | _, _, _ => false
def eqsT (P : Program) (T : TypeId) (ks : List Nat) : Bool :=
 match P.underlying T with
 | some (.struct fs) => !P.stoodInHeld T && !P.eqGuardType P.depth T && eqFs P fs.toList ks 0
 | _ => false
def aggB (P : Program) (t : TypeId) : Option Bool :=
 match P.underlying t with
 | some (.struct _) | some (.array _ _) => some true
 | some _ => some false
 | none => none
theorem run_isAgg {t : TypeId} {b : Bool} (h : aggB P t = some b) : (Go.isAgg t).run P w = .ok b w := by
 unfold aggB at h
 cases hu : P.underlying t with
 | none => simp [hu] at h
 | some d =>
  rw [hu] at h
  cases d <;> simp only [Option.some.injEq] at h <;> subst h <;> simp [Go.isAgg, Go.run_underlying hu]
theorem fieldKind_agg {t : TypeId} {kd : Nat} (ht : fieldKind P t kd = true) : aggB P t = some false := by
 unfold fieldKind at ht
 split at ht
 all_goals first | cases ht | skip
 all_goals
  split at ht
  ·rename_i hu; simp [aggB, hu]
  ·cases ht
theorem run_part_one {t : TypeId} {xs : Array Value} {k : Nat} (ht : aggB P t = some false) (hk : k < xs.size) : (Go.part t xs k).run P w = .ok (xs.getD k undef) w := by
 simp [Go.part, run_isAgg ht, hk]
theorem run_part_agg {t : TypeId} {xs : Array Value} {k sz : Nat} (ht : aggB P t = some true) (hs : (P.info? t).map (·.size) = some sz) : (Go.part t xs k).run P w = .ok (.agg (xs.extract k (k + sz))) w := by
 obtain ⟨i, hi, hsz⟩ := Option.map_eq_some_iff.1 hs
 simp [Go.part, run_isAgg ht, Go.sizeOf, Go.typeInfo, hi, hsz]
theorem run_part_scalar {t : TypeId} {kd : Nat} {xs : Array Value} {k : Nat} (ht : fieldKind P t kd = true) (hk : k < xs.size) : (Go.part t xs k).run P w = .ok (xs.getD k undef) w :=
 run_part_one (fieldKind_agg ht) hk
theorem run_eqFields {d : Nat} {xs ys : Array Value} : ∀ (fs : List Go.Field) (ks : List Nat) (k : Nat) (asX bs : List PV) (b : Bool), eqFs P fs ks k = true → k + asX.length ≤ xs.size → k + bs.length ≤ ys.size →
  (∀ (j : Nat) c, asX[j]? = some c → RelP N.fn w S c (xs.getD (k + j) undef)) → (∀ (j : Nat) c, bs[j]? = some c → RelP N.fn w S c (ys.getD (k + j) undef)) → eqCells ks asX bs = some b →
  (Go.Op.eqFields (d + 1) xs ys fs).run P w = .ok b w := by
 intro fs
 induction fs with
 | nil =>
  intro ks k asX bs b hf _ _ _ _ he
  cases ks with
  | nil =>
   cases asX <;> cases bs <;> simp only [eqCells, Option.some.injEq, reduceCtorEq] at he
   subst he
   simp [Go.Op.eqFields]
  | cons => simp [eqFs] at hf
 | cons f fs ih =>
  intro ks k asX bs b hf h3 h4 ha hb he
  cases ks with
  | nil => simp [eqFs] at hf
  | cons kd ks =>
   simp only [eqFs, Bool.and_eq_true, bne_iff_ne, ne_eq, beq_iff_eq] at hf
   obtain ⟨⟨⟨hn, ho⟩, ht⟩, hfs⟩ := hf
   have key : ∀ (x y : PV) (asX' bs' : List PV) (t : Bool), asX = x :: asX' → bs = y :: bs' → (eqCells ks asX' bs').map (t && ·) = some b →
     (Go.Op.equalIn (d + 1) f.type (xs.getD k undef) (ys.getD k undef)).run P w = .ok t w → (Go.Op.eqFields (d + 1) xs ys (f :: fs)).run P w = .ok b w := by
    intro x y asX' bs' t e1 e2 hr hq
    subst e1 e2
    simp only [List.length_cons] at h3 h4
    have r1 := run_part_scalar (P := P) (w := w) (xs := xs) (k := k) ht (by omega)
    have r2 := run_part_scalar (P := P) (w := w) (xs := ys) (k := k) ht (by omega)
    simp only [Go.Op.eqFields, ho, ne_eq, hn, not_false_eq_true, if_true, Go.Sem.run_bind, r1, r2, Go.Result.andThen_ok, hq]
    cases t
    ·simp only [Bool.not_false, if_true]
     cases hrest : eqCells ks asX' bs' <;> simp [hrest] at hr
     subst hr
     simp
    ·simp only [Bool.not_true, Bool.false_eq_true, if_false]
     exact ih ks (k + 1) asX' bs' b hfs (by omega) (by omega) (fun j c hj => by have := ha (j + 1) c (by simpa using hj); rwa [show k + (j + 1) = k + 1 + j by omega] at this)
      (fun j c hj => by have := hb (j + 1) c (by simpa using hj); rwa [show k + (j + 1) = k + 1 + j by omega] at this) (by simpa using hr)
   unfold eqCells at he
   split at he
   ·rename_i e; cases e
   ·rename_i e
    cases e
    split at he
    ·rename_i hk
     have ax := (ha 0 _ rfl).int_inv
     have ay := (hb 0 _ rfl).int_inv
     rw [Nat.add_zero] at ax ay
     refine key _ _ _ _ _ rfl rfl he ?_
     rw [ax, ay, hk]
     simp only [fieldKind] at ht
     split at ht
     ·rename_i hu; simp [Go.Op.equalIn, Go.run_underlying hu]
     ·cases ht
    ·cases he
   ·rename_i e
    cases e
    have ax := (ha 0 _ rfl).bool_inv
    have ay := (hb 0 _ rfl).bool_inv
    rw [Nat.add_zero] at ax ay
    refine key _ _ _ _ _ rfl rfl he ?_
    rw [ax, ay]
    simp only [fieldKind] at ht
    split at ht
    ·rename_i hu; simp [Go.Op.equalIn, Go.run_underlying hu]
    ·cases ht
   ·rename_i e
    cases e
    have ax := (ha 0 _ rfl).str_inv
    have ay := (hb 0 _ rfl).str_inv
    rw [Nat.add_zero] at ax ay
    refine key _ _ _ _ _ rfl rfl he ?_
    rw [ax, ay]
    simp only [fieldKind] at ht
    split at ht
    ·rename_i hu; rw [Go.run_equalIn_string _ _ _ _ _ hu]; simp
    ·cases ht
   ·cases he
theorem q_eqs {op : BinOp} {T : TypeId} {ks : List Nat} {neg : Bool} {x y : Operand} {x' y' v : AV} (hop : op = if neg then .neq else .eql) (ht : eqsT P T ks = true)
  (hx : RelV N.fn w S μ H x' (a.eval x)) (hy : RelV N.fn w S μ H y' (a.eval y)) (hv : eqsA ks neg x' y' = some v) :
  ∃ u, (do Go.eqGuard op T x y (a.eval x) (a.eval y); Go.binOp op T (a.eval x) (a.eval y)).run P w = .ok u w ∧ RelV N.fn w S μ H v u := by
 unfold eqsA at hv
 split at hv
 ·rename_i asX bs
  obtain ⟨t, he, rfl⟩ := Option.map_eq_some_iff.1 hv
  cases hx with
  | p _ _ hx =>
  cases hy with
  | p _ _ hy =>
  generalize a.eval x = vx at *
  generalize a.eval y = vy at *
  cases hx with
  | agg _ xs h1 h2 h3 =>
  cases hy with
  | agg _ ys k1 k2 k3 =>
  unfold eqsT at ht
  split at ht
  ·rename_i fs hfs
   simp only [Bool.and_eq_true, Bool.not_eq_true'] at ht
   obtain ⟨⟨hp, hg⟩, hf⟩ := ht
   have hfo : P.fieldsOf T = fs := by simp [Program.fieldsOf, hfs]
   have hr := run_eqFields (P := P) (w := w) (N := N) (S := S) (d := 9998) (xs := xs) (ys := ys) fs.toList ks 0 asX bs t hf (by omega) (by omega)
    (fun j c hj => by rw [Nat.zero_add]; exact h3 j c hj) (fun j c hj => by rw [Nat.zero_add]; exact k3 j c hj) he
   have hq : (Go.Op.equalIn 10000 T (.agg xs) (.agg ys)).run P w = .ok t w := by
    rw [show (10000 : Nat) = 9999 + 1 from rfl, Go.run_equalIn_struct w 9999 T xs ys (by rw [hfo]; exact hfs) hp, hfo]
    exact hr
   subst hop
   cases neg
   ·refine ⟨.bool t, ?_, .p _ _ (by cases t <;> exact .bool _)⟩
    simp only [Bool.false_eq_true, if_false, Go.Sem.run_bind, Go.run_eqGuard_agg w _ T x y xs ys hg, Go.Result.andThen_ok, Go.run_eql_struct, hq]
   ·refine ⟨.bool (!t), ?_, .p _ _ (by cases t <;> exact .bool _)⟩
    simp only [if_true, Go.Sem.run_bind, Go.run_eqGuard_agg w _ T x y xs ys hg, Go.Result.andThen_ok, Go.run_neq_struct, hq]
  ·cases ht
 ·cases hv
def eqkT (P : Program) (T : TypeId) : Nat → Bool
 | 1 => match P.underlying T with | some .bool => true | _ => false
 | 3 => match P.underlying T with | some (.pointer _) => true | _ => false
 | 4 => match P.underlying T with | some (.slice _) => true | _ => false
 | 5 => match P.underlying T with | some (.func _ _ _) => true | _ => false
 | _ => false
def plainEq : Value → Bool
 | .bool _ | .pointer _ | .slice _ _ _ | .func _ _ _ | .nilFunc => true
 | _ => false
theorem run_eqGuard_plain {op : BinOp} {T : TypeId} {x y : Operand} {u v : Value} (h : plainEq u = true) : (Go.eqGuard op T x y u v).run P w = .ok () w := by
 cases u <;> simp only [plainEq, Bool.false_eq_true] at h <;> cases op <;> simp [Go.eqGuard]
theorem run_eq_plain {T : TypeId} {u v : Value} {t : Bool} (neg : Bool) (h : plainEq u = true) (h' : plainEq v = true) (hq : (Go.Op.equalIn 10000 T u v).run P w = .ok t w) :
  (Go.binOp (if neg then .neq else .eql) T u v).run P w = .ok (.bool (t != neg)) w := by
 have e : (Go.Op.equal T u v).run P w = .ok t w := hq
 have key : ∀ op : BinOp, op = .eql ∨ op = .neq → Go.binOp op T u v = (match op with | .eql => (do pure (.bool (← Go.Op.equal T u v))) | _ => do pure (.bool (!(← Go.Op.equal T u v)))) := by
  intro op ho
  cases u <;> simp only [plainEq, Bool.false_eq_true] at h <;> cases v <;> simp only [plainEq, Bool.false_eq_true] at h' <;> rcases ho with rfl | rfl <;> rfl
 cases neg
 ·rw [if_neg (by decide), key _ (.inl rfl)]
  simp only [Go.Sem.run_bind, e, Go.Result.andThen_ok, Go.Sem.run_pure]
  cases t <;> rfl
 ·rw [if_pos rfl, key _ (.inr rfl)]
  simp only [Go.Sem.run_bind, e, Go.Result.andThen_ok, Go.Sem.run_pure]
  cases t <;> rfl
section
variable {d : Nat} {T : TypeId}
theorem eqIn_bool (hu : P.underlying T = some .bool) (m n : Bool) : (Go.Op.equalIn (d + 1) T (.bool m) (.bool n)).run P w = .ok (m == n) w := by simp [Go.Op.equalIn, Go.run_underlying hu]
theorem eqIn_ptr {e} (hu : P.underlying T = some (.pointer e)) (m : Option Addr) : (Go.Op.equalIn (d + 1) T (.pointer m) (.pointer none)).run P w = .ok m.isNone w := by
 cases m <;> simp [Go.Op.equalIn, Go.run_underlying hu]
theorem eqIn_ptr' {e} (hu : P.underlying T = some (.pointer e)) (m : Option Addr) : (Go.Op.equalIn (d + 1) T (.pointer none) (.pointer m)).run P w = .ok m.isNone w := by
 simp [Go.Op.equalIn, Go.run_underlying hu]
theorem eqIn_sl {e} (hu : P.underlying T = some (.slice e)) (m : Option Addr) (n c n' c' : Nat) : (Go.Op.equalIn (d + 1) T (.slice m n c) (.slice none n' c')).run P w = .ok m.isNone w := by
 cases m <;> simp [Go.Op.equalIn, Go.run_underlying hu]
theorem eqIn_fn {a b c} (hu : P.underlying T = some (.func a b c)) (f x y) : (Go.Op.equalIn (d + 1) T (.func f x y) .nilFunc).run P w = .ok false w := by
 simp [Go.Op.equalIn, Go.run_underlying hu]
theorem eqIn_nilfn {a b c} (hu : P.underlying T = some (.func a b c)) : (Go.Op.equalIn (d + 1) T .nilFunc .nilFunc).run P w = .ok true w := by
 simp [Go.Op.equalIn, Go.run_underlying hu]
end
theorem q_eqk {op : BinOp} {T : TypeId} {kd : Nat} {neg : Bool} {x y : Operand} {x' y' v : AV} (hop : op = if neg then .neq else .eql) (ht : eqkT P T kd = true)
  (hx : RelV N.fn w S μ H x' (a.eval x)) (hy : RelV N.fn w S μ H y' (a.eval y)) (hv : eqkA kd neg x' y' = some v) :
  ∃ u, (do Go.eqGuard op T x y (a.eval x) (a.eval y); Go.binOp op T (a.eval x) (a.eval y)).run P w = .ok u w ∧ RelV N.fn w S μ H v u := by
 unfold eqkA at hv
 obtain ⟨t, he, rfl⟩ := Option.map_eq_some_iff.1 hv
 subst hop
 generalize a.eval x = vx at *
 generalize a.eval y = vy at *
 have key : plainEq vx = true → plainEq vy = true → (Go.Op.equalIn 10000 T vx vy).run P w = .ok t w →
   ∃ u, (do Go.eqGuard (if neg = true then .neq else .eql) T x y vx vy; Go.binOp (if neg = true then .neq else .eql) T vx vy).run P w = .ok u w ∧ RelV N.fn w S μ H (.p (.bool (t != neg))) u := by
  intro h1 h2 h3
  refine ⟨.bool (t != neg), ?_, .p _ _ (.bool _)⟩
  simp only [Go.Sem.run_bind, run_eqGuard_plain h1, Go.Result.andThen_ok]
  exact run_eq_plain neg h1 h2 h3
 unfold eqK at he
 split at he
 case h_14 => cases he
 all_goals
  simp only [Option.some.injEq] at he
  subst he
  simp only [eqkT] at ht
  split at ht
  rotate_left
  ·cases ht
  rename_i hu
 ·rw [hx.bool_inv, hy.bool_inv] at key ⊢
  exact key rfl rfl (eqIn_bool hu _ _)
 ·have e1 := hx.p_inv; have e2 := hy.p_inv; cases e1; cases e2; exact key rfl rfl (eqIn_ptr hu _)
 ·have e1 := hx.p_inv; have e2 := hy.p_inv; cases e1; cases e2; exact key rfl rfl (eqIn_ptr hu _)
 ·have e1 := hx.p_inv; have e2 := hy.p_inv; cases e1; cases e2; exact key rfl rfl (eqIn_ptr' hu _)
 ·obtain ⟨g, e1, _⟩ := hx.bx_inv; have e2 := hy.p_inv; subst e1; cases e2; exact key rfl rfl (eqIn_ptr hu _)
 ·obtain ⟨g, e1, _⟩ := hy.bx_inv; have e2 := hx.p_inv; subst e1; cases e2; exact key rfl rfl (eqIn_ptr' hu _)
 ·have e1 := hx.p_inv; have e2 := hy.p_inv
  cases e1 with | sl _ _ _ a1 c1 us1 _ _ _ h5 _ _ _ _ =>
  cases e2 with | sl _ _ _ a2 c2 us2 _ _ _ k5 _ _ _ _ =>
  obtain ⟨_, rfl, _⟩ := h5 (.inl rfl)
  obtain ⟨_, rfl, _⟩ := k5 (.inl rfl)
  exact key rfl rfl (eqIn_sl hu _ _ _ _ _)
 ·have e1 := hx.p_inv; have e2 := hy.p_inv
  cases e1 with | sl _ _ _ a1 c1 us1 _ _ _ _ h5 _ _ _ =>
  cases e2 with | sl _ _ _ a2 c2 us2 _ _ _ k5 _ _ _ _ =>
  obtain ⟨h6, _⟩ := h5 (.inl rfl)
  obtain ⟨_, rfl, _⟩ := k5 (.inl rfl)
  obtain ⟨a1', rfl⟩ := Option.isSome_iff_exists.1 h6
  exact key rfl rfl (eqIn_sl hu _ _ _ _ _)
 ·have e1 := hx.p_inv; have e2 := hy.p_inv
  cases e1 with | sl _ _ _ a1 c1 us1 _ _ _ _ h5 _ _ _ =>
  cases e2 with | sl _ _ _ a2 c2 us2 _ _ _ k5 _ _ _ _ =>
  obtain ⟨h6, _⟩ := h5 (.inr rfl)
  obtain ⟨_, rfl, _⟩ := k5 (.inl rfl)
  obtain ⟨a1', rfl⟩ := Option.isSome_iff_exists.1 h6
  exact key rfl rfl (eqIn_sl hu _ _ _ _ _)
 ·have e1 := hx.p_inv; have e2 := hy.p_inv
  cases e1 with | sl _ _ _ a1 c1 us1 _ _ _ _ _ h6 _ _ =>
  cases e2 with | sl _ _ _ a2 c2 us2 _ _ _ k5 _ _ _ _ =>
  obtain ⟨_, rfl, _⟩ := h6 (by simp)
  obtain ⟨_, rfl, _⟩ := k5 (.inl rfl)
  exact key rfl rfl (eqIn_sl hu _ _ _ _ _)
 ·have e1 := hx.p_inv; have e2 := hy.p_inv; cases e1; cases e2; exact key rfl rfl (eqIn_nilfn hu)
 ·have e1 := hx.p_inv; have e2 := hy.p_inv; cases e1; cases e2; exact key rfl rfl (eqIn_fn hu _ _ _)
 ·have e2 := hy.p_inv; cases hx; cases e2; exact key rfl rfl (eqIn_fn hu _ _ _)
theorem run_load_one {T : TypeId} {ad : Addr} {u : Value} (ht : aggB P T = some false) (h : w.cell? ad = some u) : (Go.Instr.loadAt T (.pointer (some ad))).run P w = .ok u w := by
 simp [Go.Instr.loadAt, Go.Instr.sureAddr, Go.loadVar, run_isAgg ht, h]
theorem run_load_agg {T : TypeId} {ad : Addr} {sz : Nat} {us : Nat → Value} (ht : aggB P T = some true) (hs : (P.info? T).map (·.size) = some sz) (h : ∀ j, j < sz → w.cell? (ad.add j) = some (us j)) :
  (Go.Instr.loadAt T (.pointer (some ad))).run P w = .ok (.agg ((List.range sz).map us).toArray) w := by
 obtain ⟨i, hi, hsz⟩ := Option.map_eq_some_iff.1 hs
 simp [Go.Instr.loadAt, Go.Instr.sureAddr, Go.loadVar, run_isAgg ht, Go.sizeOf, Go.typeInfo, hi, hsz, Go.run_loadCells w ad sz us h]
theorem take_get {α : Type} {cs : List α} {n j : Nat} {c : α} (h : (cs.take n)[j]? = some c) : j < n ∧ cs[j]? = some c := by
 rw [List.getElem?_take] at h
 split at h
 ·exact ⟨‹_›, h⟩
 ·cases h
theorem pures_spec : ∀ {cs : List AV} {ps}, pures cs = some ps → cs = ps.map .p
 | [], ps, h => by simp only [pures, Option.some.injEq] at h; subst h; rfl
 | c :: cs, ps, h => by
  cases c <;> simp only [pures, reduceCtorEq] at h
  obtain ⟨qs, h1, rfl⟩ := Option.map_eq_some_iff.1 h
  rw [pures_spec h1]; rfl
theorem RelV.mkAgg {cs : List AV} {us : Array Value} (h1 : us.size = cs.length) (h2 : ∀ c ∈ cs, c.one = true) (h3 : ∀ j c, cs[j]? = some c → RelV N.fn w S μ H c (us.getD j undef)) :
  RelV N.fn w S μ H (Ab.mkAgg cs) (.agg us) := by
 unfold Ab.mkAgg
 split
 ·rename_i ps hp
  have e := pures_spec hp
  subst e
  refine .p _ _ (.agg ps us (by simpa using h1) (fun c hc => h2 (.p c) (List.mem_map_of_mem hc)) (fun j c hc => ?_))
  exact (h3 j (.p c) (by rw [List.getElem?_map, hc]; rfl)).p_inv
 ·exact .agg cs us h1 h2 h3
theorem load_takeP {T : TypeId} {sz : Nat} {ag : Bool} {ad : Addr} {cs : List PV} {us : Nat → Value} {v : AV} (ht : aggB P T = some ag) (hs : (P.info? T).map (·.size) = some sz)
  (h1 : ∀ c ∈ cs, c.one = true) (h2 : ∀ j c, cs[j]? = some c → w.cell? (ad.add j) = some (us j)) (h3 : ∀ j c, cs[j]? = some c → RelP N.fn w S c (us j)) (hv : takeP sz ag cs = some v) :
  ∃ u, (Go.Instr.loadAt T (.pointer (some ad))).run P w = .ok u w ∧ RelV N.fn w S μ H v u := by
 unfold takeP at hv
 cases ag
 ·simp only [Bool.false_eq_true, if_false, Option.map_eq_some_iff] at hv
  obtain ⟨c, hc, rfl⟩ := hv
  cases cs with
  | nil => cases hc
  | cons x xs =>
   simp only [List.head?_cons, Option.some.injEq] at hc
   subst hc
   refine ⟨us 0, run_load_one ht ?_, .p _ _ (h3 0 x rfl)⟩
   simpa [Addr.add] using h2 0 x rfl
 ·simp only [if_true] at hv
  split at hv
  ·rename_i hl
   simp only [Option.some.injEq] at hv
   subst hv
   refine ⟨_, run_load_agg (us := us) ht hs (fun j hj => h2 j _ (List.getElem?_eq_getElem (by omega))), .p _ _ (.agg _ _ ?_ (fun c hc => h1 c (List.mem_of_mem_take hc)) (fun j c hc => ?_))⟩
   ·simp [hl]
   ·obtain ⟨hj, hc'⟩ := take_get hc
    have := h3 j c hc'
    simpa [hj] using this
  ·cases hv
theorem load_takeA {T : TypeId} {sz : Nat} {ag : Bool} {ad : Addr} {cs : List AV} {us : Nat → Value} {v : AV} (ht : aggB P T = some ag) (hs : (P.info? T).map (·.size) = some sz)
  (h1 : ∀ c ∈ cs, c.one = true) (h2 : ∀ j c, cs[j]? = some c → w.cell? (ad.add j) = some (us j)) (h3 : ∀ j c, cs[j]? = some c → RelV N.fn w S μ H c (us j)) (hv : takeA sz ag cs = some v) :
  ∃ u, (Go.Instr.loadAt T (.pointer (some ad))).run P w = .ok u w ∧ RelV N.fn w S μ H v u := by
 unfold takeA at hv
 cases ag
 ·simp only [Bool.false_eq_true, if_false] at hv
  cases cs with
  | nil => cases hv
  | cons x xs =>
   simp only [List.head?_cons, Option.some.injEq] at hv
   subst hv
   refine ⟨us 0, run_load_one ht ?_, h3 0 x rfl⟩
   simpa [Addr.add] using h2 0 x rfl
 ·simp only [if_true] at hv
  split at hv
  ·rename_i hl
   simp only [Option.some.injEq] at hv
   subst hv
   refine ⟨_, run_load_agg (us := us) ht hs (fun j hj => h2 j _ (List.getElem?_eq_getElem (by omega))), RelV.mkAgg ?_ (fun c hc => h1 c (List.mem_of_mem_take hc)) (fun j c hc => ?_)⟩
   ·simp [hl]
   ·obtain ⟨hj, hc'⟩ := take_get hc
    have := h3 j c hc'
    simpa [hj] using this
  ·cases hv
theorem Rel.box_of (hr : Rel N.fn w S μ H) {id : Nat} {cs : List AV} (h : boxOf H id = some cs) : ∃ g arr t, μ id = .pointer (some ⟨g, 0, none⟩) ∧ w.heap[g]? = some (.cells arr t (0, 0)) ∧ arr.size = cs.length ∧ (∀ c ∈ cs, c.one = true) ∧
      ∀ j c, cs[j]? = some c → RelV N.fn w S μ H c (arr.getD j undef) := by
  unfold boxOf at h
  split at h
  · cases h
  · rename_i cs' hno hb
    simp only [Option.some.injEq] at h; subst h
    obtain ⟨g, h1, ⟨arr, t, h2⟩ | ⟨s, pos, rfl, _⟩ | ⟨es, arr, clock, rfl, _⟩⟩ := hr.blk id _ hb
    · exact ⟨g, arr, t, h1, h2⟩
    · exact (hno _ rfl).elim
    · exact (hno _ rfl).elim
  · cases h
theorem boxOf_spec {id : Nat} {cs : List AV} (h : boxOf H id = some cs) : H[id]? = some (.box cs) := by
 unfold boxOf at h
 split at h
 ·cases h
 ·rename_i cs' _ hb
  simp only [Option.some.injEq] at h; subst h
  exact hb
 ·cases h
theorem rowOf_spec {id n : Nat} {r : Nat × List PV} (h : rowOf H id n = some r) : ∃ f, H[id]? = some (.row f r.1 r.2) ∧ r.2.length = n := by
 unfold rowOf at h
 split at h
 ·rename_i f sz xs e
  split at h
  ·simp only [Option.some.injEq] at h; subst h; exact ⟨f, e, ‹_›⟩
  ·cases h
 ·cases h
theorem row_cell {v : Value} {sz n g cap : Nat} {us : List Value} (h : RowAt w v sz n us) (hv : v = .slice (some ⟨g, 0, none⟩) n cap) {j : Nat} (hj : j < n * sz) : w.cell? ⟨g, j, none⟩ = some (us.getD j undef) := by
 obtain ⟨hl, h⟩ := h
 rcases h with ⟨rfl, _⟩ | ⟨g', cap', cur, e, hv', _, hg, hn, _, hs, ht⟩
 ·simp at hj
 ·rw [hv] at hv'
  cases hv'
  rw [Go.cell_of_row w g j cur e _ hg]
  have hc : j < cur.size := by rw [hs]; exact Nat.lt_of_lt_of_le hj (Nat.mul_le_mul_right _ hn)
  have : us[j]? = some cur[j] := by rw [← ht, List.getElem?_take, if_pos hj]; simp [hc]
  rw [Array.getElem?_eq_getElem hc]
  simp [List.getD, this]
theorem q_load (hr : Rel N.fn w S μ H) {T : TypeId} {sz : Nat} {ag : Bool} {x : Value} {x' v : AV} (ht : aggB P T = some ag) (hs : (P.info? T).map (·.size) = some sz) (hx : RelV N.fn w S μ H x' x)
  (hv : loadA H sz ag x' = some v) : ∃ u, (Go.Instr.loadAt T x).run P w = .ok u w ∧ RelV N.fn w S μ H v u := by
 unfold loadA at hv
 split at hv
 ·cases hx with
  | p _ _ hx => cases hx with
   | ptr cells ad us h0 h1 h2 h3 h4 => exact load_takeP ht hs h2 h3 h4 hv
 ·rename_i id off
  obtain ⟨cs, hb, hv⟩ := Option.bind_eq_some_iff.1 hv
  have hb0 := hb
  have hb := boxOf_spec hb
  obtain ⟨g, rfl, hl, hg⟩ := hx.bx_inv
  obtain ⟨g', arr, t, e1, e2, e3, e4, e5⟩ := hr.box_of hb0
  rw [hg cs hb] at e1
  cases e1
  refine load_takeA (us := fun j => arr.getD (off + j) undef) ht hs (fun c hc => e4 c (List.mem_of_mem_drop hc)) (fun j c hc => ?_) (fun j c hc => ?_) hv
  ·rw [List.getElem?_drop] at hc
   have hlt : off + j < arr.size := by rw [e3]; exact (List.getElem?_eq_some_iff.1 hc).1
   rw [Addr.add_lit, Go.cell_of_row w g _ arr t _ e2]
   simp [hlt]
  ·rw [List.getElem?_drop] at hc
   exact e5 _ c hc
 ·rename_i id n i off
  obtain ⟨r, hb, hv⟩ := Option.bind_eq_some_iff.1 hv
  obtain ⟨y, hy, hv⟩ := Option.bind_eq_some_iff.1 hv
  obtain ⟨f, hb, hn⟩ := rowOf_spec hb
  have hi : i < n := by rw [← hn]; exact (List.getElem?_eq_some_iff.1 hy).1
  obtain ⟨hsz, _, us, e1, e2, e3, _⟩ := hr.blk id _ hb
  cases hx with
  | el _ _ _ _ _ hl h hone =>
  obtain ⟨_, h4⟩ := h f _ _ hb
  obtain ⟨g, cap, h5, rfl⟩ := (h4 hn.symm).1 hi
  rw [hn] at e1
  have hmem := List.mem_of_getElem? hy
  refine load_takeP (us := fun j => us.getD (i * r.1 + (off + j)) undef) ht hs (fun c hc => (e2 y hmem).2 c (List.mem_of_mem_drop hc)) (fun j c hc => ?_) (fun j c hc => ?_) hv
  ·rw [List.getElem?_drop] at hc
   have hlt : off + j < r.1 := by rw [← (e2 y hmem).1]; exact (List.getElem?_eq_some_iff.1 hc).1
   rw [Addr.add_lit, Nat.add_assoc]
   refine row_cell e1 h5 ?_
   calc i * r.1 + (off + j) < i * r.1 + r.1 := by omega
    _ = (i + 1) * r.1 := by rw [Nat.add_mul, Nat.one_mul]
    _ ≤ n * r.1 := Nat.mul_le_mul_right _ hi
  ·rw [List.getElem?_drop] at hc
   exact e3 i y _ c hy hc
 ·cases hv
end
end Ab
