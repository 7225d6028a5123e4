import Derived.Test.YtgdkafbcchkplaaGreatDoorMFwin
import Derived.Test.YtgdkafbcchkplaaGreatDoorCode
import Derived.Test.YtgdkafbcchkplaaGreatDoorAbPrim
import Derived.KernelRfl
import Derived.Test.YtgdkafbcchkplaaGreatDoorLDev
import Derived.Test.YtgdkafbcchkplaaGreatDoorAbCore
import Derived.Below
import Derived.Laws.OwnMore
/- The one at so many of a hundred. -/
namespace Ab
open Go (IntKind BinOp UnOp)
def rankV (p : Val) (l : List Val) : Val :=
  let o := sortI (nums l)
  if p.1 = true ∧ 0 ≤ p.2 ∧ p.2 ≤ 100000000 ∧ o.length ≠ 0 then (true, o.getD (max 1 ((p.2 * o.length + 100000000 - 1) / 100000000) - 1).toNat 0) else noV
theorem rank_lt {p : Int} {n : Nat} (h0 : 0 ≤ p) (h1 : p ≤ 100000000) (hn : n ≠ 0) : 0 ≤ p * n ∧ p * n ≤ 100000000 * n ∧ (max 1 ((p * n + 100000000 - 1) / 100000000) - 1).toNat < n := by
  have a : 0 ≤ p * n := Int.mul_nonneg h0 (by omega)
  have b : p * n ≤ 100000000 * n := Int.mul_le_mul_of_nonneg_right h1 (by omega)
  generalize p * n = q at *
  omega
theorem res_fwinRank {kk : SK} (p : Val) (l : List Val) (hl : l.length < 1000000000) : res Γ 204 [.agg [.bool p.1, .int .i64 p.2], .sl kk 2 (vpv l)] = some [.agg [.bool (rankV p l).1, .int .i64 (rankV p l).2]] := by
  have hk := knL_len l
  have hs := @sortO_len l
  have e := res_fwinSorted (kk := kk) l hl
  have hw : (sortV l).length = (sortI (nums l)).length := toV_len
  have eg : ∀ j, j < (sortI (nums l)).length → (sortV l).getD j (false, 0) = (true, (sortI (nums l)).getD j 0) := fun j h => toV_getD h
  have q : rankV p l = if p.1 = true ∧ 0 ≤ p.2 ∧ p.2 ≤ 100000000 ∧ (sortI (nums l)).length ≠ 0 then (true, (sortI (nums l)).getD (max 1 ((p.2 * (sortI (nums l)).length + 100000000 - 1) / 100000000) - 1).toNat 0) else noV := rfl
  have ei : res Γ 137 [.int .i64 100] = some [.agg [.bool true, .int .i64 100000000]] := res_fixedInt (n := 100) (by omega)
  rw [q]
  obtain ⟨b, n⟩ := p
  generalize sortI (nums l) = o at *
  refine res_code (fn := fwin_Rank) rfl rfl ?_
  by_cases h : b = true ∧ 0 ≤ n ∧ n ≤ 100000000 ∧ o.length ≠ 0
  · rw [if_pos h]
    obtain ⟨rfl, h0, h1, h2⟩ := h
    obtain ⟨r1, r2, r3⟩ := rank_lt h0 h1 h2
    have e0 := eg _ r3
    have r4 : 0 ≤ max 1 ((n * (o.length : Int) + 100000000 - 1) / 100000000) - 1 := by omega
    have w0 := wrap_i64 (x := (n * (o.length : Int) + 100000000 - 1) / 100000000) (by omega) (by omega)
    have m0 := map_quo (k := .i64) (a := n * (o.length : Int) + 100000000 - 1) (b := 100000000) (by omega) (by omega) w0
    have r5 : max 1 ((n * (o.length : Int) + 100000000 - 1) / 100000000) - 1 < (o.length : Int) := by omega
    have r6 : 1 ≤ max 1 ((n * (o.length : Int) + 100000000 - 1) / 100000000) := by omega
    generalize hm : max 1 ((n * (o.length : Int) + 100000000 - 1) / 100000000) = m at *
    simp (disch := first | assumption | omega | decide | (simp only [List.length_cons, List.length_nil, List.length_append, List.length_replicate, List.length_map, List.length_set, List.length_take, List.length_drop, strs_len, ints_len, bools_len, aggs_len, vpv_len]; done) | (simp only [List.length_cons, List.length_nil, List.length_append, List.length_replicate, List.length_map, List.length_set, List.length_take, List.length_drop, strs_len, ints_len, bools_len, aggs_len, vpv_len]; omega)) only [go_sem, fwin_Rank, ei, e, hw, m0, hm, e0, valP]
  · rw [if_neg h]
    cases b
    · simp (disch := first | assumption | omega | decide | (simp only [List.length_cons, List.length_nil, List.length_append, List.length_replicate, List.length_map, List.length_set, List.length_take, List.length_drop, strs_len, ints_len, bools_len, aggs_len, vpv_len]; done) | (simp only [List.length_cons, List.length_nil, List.length_append, List.length_replicate, List.length_map, List.length_set, List.length_take, List.length_drop, strs_len, ints_len, bools_len, aggs_len, vpv_len]; omega)) only [go_sem, fwin_Rank, ei, noV]
    · simp only [true_and] at h
      repeat' (first | (simp (disch := first | assumption | omega | decide | (simp only [List.length_cons, List.length_nil, List.length_append, List.length_replicate, List.length_map, List.length_set, List.length_take, List.length_drop, strs_len, ints_len, bools_len, aggs_len, vpv_len]; done) | (simp only [List.length_cons, List.length_nil, List.length_append, List.length_replicate, List.length_map, List.length_set, List.length_take, List.length_drop, strs_len, ints_len, bools_len, aggs_len, vpv_len]; omega)) only [go_sem, fwin_Rank, ei, e, hw, noV]) | refine cond_split (fun hc => ?_) (fun hc => ?_) | refine gd_split_f (fun hc => ?_) (fun hc => ?_) | refine gd_split_t (fun hc => ?_) (fun hc => ?_))
      all_goals first | (exfalso; omega) | skip
theorem knV_small {n : Int} (h0 : 0 ≤ n) (h1 : n ≤ 100000000) : knV (true, n) = true := by
  rw [knV_iff]
  refine ⟨rfl, ?_⟩
  show -maxN ≤ n ∧ n ≤ maxN
  unfold maxN
  omega
theorem res_r21Rank {kk : SK} (p : Val) (l : List Val) (hl : l.length < 1000000000) : res Γ 205 [.agg [.bool p.1, .int .i64 p.2], .sl kk 2 (vpv l)] = some [.agg [.bool (rankV p l).1, .int .i64 (rankV p l).2]] := by
  have hk := knL_len l
  have hs := @sortO_len l
  have e := res_r21Sorted (kk := kk) l hl
  have hw : (sortV l).length = (sortI (nums l)).length := toV_len
  have eg : ∀ j, j < (sortI (nums l)).length → (sortV l).getD j (false, 0) = (true, (sortI (nums l)).getD j 0) := fun j h => toV_getD h
  have q : rankV p l = if p.1 = true ∧ 0 ≤ p.2 ∧ p.2 ≤ 100000000 ∧ (sortI (nums l)).length ≠ 0 then (true, (sortI (nums l)).getD (max 1 ((p.2 * (sortI (nums l)).length + 100000000 - 1) / 100000000) - 1).toNat 0) else noV := rfl
  rw [q]
  obtain ⟨b, n⟩ := p
  generalize sortI (nums l) = o at *
  refine res_code (fn := r21_Rank) rfl rfl ?_
  by_cases h : b = true ∧ 0 ≤ n ∧ n ≤ 100000000 ∧ o.length ≠ 0
  · rw [if_pos h]
    obtain ⟨rfl, h0, h1, h2⟩ := h
    have hkn := knV_small h0 h1
    obtain ⟨r1, r2, r3⟩ := rank_lt h0 h1 h2
    have e0 := eg _ r3
    have r4 : 0 ≤ max 1 ((n * (o.length : Int) + 100000000 - 1) / 100000000) - 1 := by omega
    have w0 := wrap_i64 (x := (n * (o.length : Int) + 100000000 - 1) / 100000000) (by omega) (by omega)
    have m0 := map_quo (k := .i64) (a := n * (o.length : Int) + 100000000 - 1) (b := 100000000) (by omega) (by omega) w0
    have r5 : max 1 ((n * (o.length : Int) + 100000000 - 1) / 100000000) - 1 < (o.length : Int) := by omega
    have r6 : 1 ≤ max 1 ((n * (o.length : Int) + 100000000 - 1) / 100000000) := by omega
    generalize hm : max 1 ((n * (o.length : Int) + 100000000 - 1) / 100000000) = m at *
    simp (disch := first | assumption | omega | decide | (simp only [List.length_cons, List.length_nil, List.length_append, List.length_replicate, List.length_map, List.length_set, List.length_take, List.length_drop, strs_len, ints_len, bools_len, aggs_len, vpv_len]; done) | (simp only [List.length_cons, List.length_nil, List.length_append, List.length_replicate, List.length_map, List.length_set, List.length_take, List.length_drop, strs_len, ints_len, bools_len, aggs_len, vpv_len]; omega)) only [go_sem, r21_Rank, e, hw, m0, hm, e0, valP, hkn]
  · rw [if_neg h]
    cases hkn : knV (b, n)
    · simp (disch := first | assumption | omega | decide | (simp only [List.length_cons, List.length_nil, List.length_append, List.length_replicate, List.length_map, List.length_set, List.length_take, List.length_drop, strs_len, ints_len, bools_len, aggs_len, vpv_len]; done) | (simp only [List.length_cons, List.length_nil, List.length_append, List.length_replicate, List.length_map, List.length_set, List.length_take, List.length_drop, strs_len, ints_len, bools_len, aggs_len, vpv_len]; omega)) only [go_sem, r21_Rank, e, noV, hkn]
    · obtain ⟨hb, g1, g2⟩ := knV_pair hkn
      subst hb
      simp only [true_and] at h
      repeat' (first | (simp (disch := first | assumption | omega | decide | (simp only [List.length_cons, List.length_nil, List.length_append, List.length_replicate, List.length_map, List.length_set, List.length_take, List.length_drop, strs_len, ints_len, bools_len, aggs_len, vpv_len]; done) | (simp only [List.length_cons, List.length_nil, List.length_append, List.length_replicate, List.length_map, List.length_set, List.length_take, List.length_drop, strs_len, ints_len, bools_len, aggs_len, vpv_len]; omega)) only [go_sem, r21_Rank, e, hw, noV, hkn]) | refine cond_split (fun hc => ?_) (fun hc => ?_) | refine gd_split_f (fun hc => ?_) (fun hc => ?_) | refine gd_split_t (fun hc => ?_) (fun hc => ?_))
      all_goals first | (exfalso; omega) | skip
end Ab
/- A mean of two: the kernel runs it. -/
namespace Ab
theorem known_ev : ∃ n r, callOf Γ (ev Γ n) 100 ((List.map .p ([] : List PV))) [] = some r ∧ mapO (reify r.2 4) r.1 = some [.bool true] := ⟨150, ([.p (.bool true)], (callOf Γ (ev Γ 150) 100 [] []).elim [] (·.2)), by kernel_rfl, by kernel_rfl⟩
theorem res_known21 : res Γ 100 [] = some [.bool true] := res_of known_ev
end Ab
/- FwinMedian. -/
namespace Ab
open Go (IntKind BinOp UnOp)
theorem res_FwinMedian {kk : SK} (l : List Val) (p : Val) (hl : l.length ≤ 9223372036854775807) : res Γ 209 [.sl kk 2 (vpv l), .agg [.bool p.1, .int .i64 p.2]] = some [.bool true] := by
  have hk := res_known21
  by_cases h : 100 < l.length
  · refine res_code (fn := l21_FwinMedian) rfl rfl ?_
    simp (disch := first | assumption | omega | decide | (simp only [List.length_cons, List.length_nil, List.length_append, List.length_replicate, List.length_map, List.length_set, List.length_take, List.length_drop, strs_len, ints_len, bools_len, aggs_len, vpv_len]; done) | (simp only [List.length_cons, List.length_nil, List.length_append, List.length_replicate, List.length_map, List.length_set, List.length_take, List.length_drop, strs_len, ints_len, bools_len, aggs_len, vpv_len]; omega)) only [go_sem, l21_FwinMedian]
  · have a1 := res_fwinMedian (kk := kk) l (by omega)
    have a2 := res_r21Median (kk := kk) l (by omega)
    have b1 := res_fwinDeviation (kk := kk) l (by omega)
    have b2 := res_r21Deviation (kk := kk) l (by omega)
    have c1 := res_fwinRank (kk := kk) p l (by omega)
    have c2 := res_r21Rank (kk := kk) p l (by omega)
    refine res_code (fn := l21_FwinMedian) rfl rfl ?_
    simp (disch := first | assumption | omega | decide | (simp only [List.length_cons, List.length_nil, List.length_append, List.length_replicate, List.length_map, List.length_set, List.length_take, List.length_drop, strs_len, ints_len, bools_len, aggs_len, vpv_len]; done) | (simp only [List.length_cons, List.length_nil, List.length_append, List.length_replicate, List.length_map, List.length_set, List.length_take, List.length_drop, strs_len, ints_len, bools_len, aggs_len, vpv_len]; omega)) only [go_sem, l21_FwinMedian, a1, a2, b1, b2, c1, c2, hk]
end Ab
/- How the abstract machine's values and blocks lie in the memory of the model. -/
namespace Ab
open Go (IntKind BinOp UnOp World Value Addr Obj undef maxLen)

theorem block_add (a : Addr) (n : Nat) : (a.add n).block = a.block := by unfold Addr.add; split <;> rfl
theorem add_add (a : Addr) (i j : Nat) : (a.add i).add j = a.add (i + j) := by
  unfold Addr.add
  by_cases hi : i = 0 <;> by_cases hj : j = 0 <;> simp [hi, hj, Nat.add_assoc]

/-- A tree in memory; 'S': the blocks that nobody changes any more. -/
inductive RelP (ν : Nat → Nat) (w : World) (S : Nat → Prop) : PV → Value → Prop
  | int (k n) : RelP ν w S (.int k n) (.int k n)
  | bool (b) : RelP ν w S (.bool b) (.bool b)
  | str (s) : RelP ν w S (.str s) (.string ⟨s.toArray⟩)
  | nilp : RelP ν w S .nilp (.pointer none)
  | nilfn : RelP ν w S .nilfn .nilFunc
  | nilmap : RelP ν w S .nilmap (.map none)
  | clo (f cs us) : us.size = cs.length → (∀ c ∈ cs, c.one = true) → (∀ j c, cs[j]? = some c → RelP ν w S c (us.getD j undef)) → RelP ν w S (.clo f cs) (.func (.func (ν f)) #[] us)
  | sl (k sz xs a cap) (us : Nat → Nat → Value) : xs.length ≤ cap → cap ≤ maxLen → (∀ x ∈ xs, x.cells.length = sz ∧ ∀ c ∈ x.cells, c.one = true) →
      (k = .nil ∨ a = none → xs = [] ∧ a = none ∧ cap = 0) → (k = .tight ∨ k = .mem → a.isSome = true ∧ (k = .tight → cap = xs.length)) →
      (xs ≠ [] → ∃ ad, a = some ad ∧ S ad.block) →
      (∀ ad, a = some ad → ∀ i x j c, xs[i]? = some x → x.cells[j]? = some c → w.cell? (ad.add (i * sz + j)) = some (us i j)) →
      (∀ i x j c, xs[i]? = some x → x.cells[j]? = some c → RelP ν w S c (us i j)) → RelP ν w S (.sl k sz xs) (.slice a xs.length cap)
  | ptr (cells ad) (us : Nat → Value) : cells ≠ [] → S ad.block → (∀ c ∈ cells, c.one = true) → (∀ j c, cells[j]? = some c → w.cell? (ad.add j) = some (us j)) →
      (∀ j c, cells[j]? = some c → RelP ν w S c (us j)) → RelP ν w S (.ptr cells) (.pointer (some ad))
  | agg (cs us) : us.size = cs.length → (∀ c ∈ cs, c.one = true) → (∀ j c, cs[j]? = some c → RelP ν w S c (us.getD j undef)) → RelP ν w S (.agg cs) (.agg us)

/-- The block of a row or of a box. -/
def blkOf : Value → Option Nat
  | .slice (some a) _ cap => if cap = 0 then none else some a.block
  | .pointer (some a) => some a.block
  | _ => none

/-- A slice value v whose n elements lie as 'us', from the head of a block that is all its own. -/
def RowAt (w : World) (v : Value) (sz n : Nat) (us : List Value) : Prop :=
  us.length = n * sz ∧ ((n = 0 ∧ ∃ a, v = .slice a 0 0) ∨
    ∃ g cap cur e, v = .slice (some ⟨g, 0, none⟩) n cap ∧ 0 < cap ∧ w.heap[g]? = some (.cells cur e (0, 0)) ∧ n ≤ cap ∧ cap ≤ maxLen ∧ cur.size = cap * sz ∧ cur.toList.take (n * sz) = us)

/-- A value of a running call; 'μ': where its blocks lie. -/
inductive RelV (ν : Nat → Nat) (w : World) (S : Nat → Prop) (μ : Nat → Value) (H : Heap) : AV → Value → Prop
  | p (v u) : RelP ν w S v u → RelV ν w S μ H (.p v) u
  | own (id n u) : id < H.length → (∀ f sz xs, H[id]? = some (.row f sz xs) → n ≤ xs.length ∧ (n = xs.length → u = μ id)) → u.oneCell' = true → RelV ν w S μ H (.own id n) u
  | bx (id off g u) : id < H.length → (∀ cs, H[id]? = some (.box cs) → μ id = .pointer (some ⟨g, 0, none⟩)) → u = .pointer (some ⟨g, off, none⟩) → RelV ν w S μ H (.bx id off) u
  | el (id n i off u) : id < H.length → (∀ f sz xs, H[id]? = some (.row f sz xs) → n ≤ xs.length ∧ (n = xs.length → i < n → ∃ g cap, μ id = .slice (some ⟨g, 0, none⟩) n cap ∧ u = .pointer (some ⟨g, i * sz + off, none⟩))) →
      u.oneCell' = true → RelV ν w S μ H (.el id n i off) u
  | agg (cs us) : us.size = cs.length → (∀ c ∈ cs, c.one = true) → (∀ j c, cs[j]? = some c → RelV ν w S μ H c (us.getD j undef)) → RelV ν w S μ H (.agg cs) (.agg us)
  | tup (cs us) : us.size = cs.length → (∀ j c, cs[j]? = some c → RelV ν w S μ H c (us.getD j undef)) → RelV ν w S μ H (.tup cs) (.tuple us)
  | clo (f cs us) : us.size = cs.length → (∀ c ∈ cs, c.one = true) → (∀ j c, cs[j]? = some c → RelV ν w S μ H c (us.getD j undef)) → RelV ν w S μ H (.clo f cs) (.func (.func (ν f)) #[] us)
  | nov : RelV ν w S μ H .nov undef
  | any (u) : RelV ν w S μ H .any u

def BlkRel (ν : Nat → Nat) (w : World) (S : Nat → Prop) (μ : Nat → Value) (H : Heap) (id : Nat) : Blk → Prop
  | .box cells => ∃ g, μ id = .pointer (some ⟨g, 0, none⟩) ∧ ((∃ cs t, w.heap[g]? = some (.cells cs t (0, 0)) ∧ cs.size = cells.length ∧ (∀ c ∈ cells, c.one = true) ∧
      ∀ j c, cells[j]? = some c → RelV ν w S μ H c (cs.getD j undef)) ∨ ∃ s pos, cells = iterCells s pos ∧ w.heap[g]? = some (.stringIter ⟨s.toArray⟩ pos))
  | .row f sz xs => 0 < sz ∧ xs.length ≤ lim ∧ ∃ us, RowAt w (μ id) sz xs.length us ∧ (∀ x ∈ xs, x.cells.length = sz ∧ ∀ c ∈ x.cells, c.one = true) ∧
      (∀ i x j c, xs[i]? = some x → x.cells[j]? = some c → RelP ν w S c (us.getD (i * sz + j) undef)) ∧ (f = true → ∀ g, blkOf (μ id) = some g → S g)
  | .dead => ∀ g, blkOf (μ id) = some g → S g

/-- Blocks that may still change. -/
def alive (μ : Nat → Value) (H : Heap) (g : Nat) : Prop :=
  ∃ id, blkOf (μ id) = some g ∧ ((∃ cs, H[id]? = some (.box cs)) ∨ ∃ sz xs, H[id]? = some (.row false sz xs))

structure Rel (ν : Nat → Nat) (w : World) (S : Nat → Prop) (μ : Nat → Value) (H : Heap) : Prop where
  lt : ∀ g, S g → g < w.heap.size
  blk : ∀ id b, H[id]? = some b → BlkRel ν w S μ H id b
  apart : ∀ g, alive μ H g → ¬ S g
  inj : ∀ i j g, blkOf (μ i) = some g → blkOf (μ j) = some g → ((∃ cs, H[i]? = some (.box cs)) ∨ ∃ sz xs, H[i]? = some (.row false sz xs)) →
    ((∃ cs, H[j]? = some (.box cs)) ∨ ∃ sz xs, H[j]? = some (.row false sz xs)) → i = j

/-- What a piece of a run has changed. -/
structure Ext (w : World) (S : Nat → Prop) (μ : Nat → Value) (H : Heap) (w' : World) (S' : Nat → Prop) (μ' : Nat → Value) (H' : Heap) : Prop where
  os : w'.os = w.os
  tape : w'.tape = w.tape
  output : w'.output = w.output
  size : w.heap.size ≤ w'.heap.size
  keep : ∀ g, g < w.heap.size → ¬ alive μ H g → w'.heap[g]? = w.heap[g]?
  more : ∀ g, S g → S' g
  new : ∀ g, S' g → g < w.heap.size → S g ∨ alive μ H g
  own : ∀ g, alive μ' H' g → g < w.heap.size → alive μ H g

theorem Ext.refl {w S μ H} : Ext w S μ H w S μ H := ⟨rfl, rfl, rfl, Nat.le_refl _, fun _ _ _ => rfl, fun _ h => h, fun _ h _ => .inl h, fun _ h _ => h⟩
theorem Ext.trans {w S μ H w1 S1 μ1 H1 w2 S2 μ2 H2} (a : Ext w S μ H w1 S1 μ1 H1) (b : Ext w1 S1 μ1 H1 w2 S2 μ2 H2) : Ext w S μ H w2 S2 μ2 H2 where
  os := b.os.trans a.os
  tape := b.tape.trans a.tape
  output := b.output.trans a.output
  size := Nat.le_trans a.size b.size
  keep g h1 h2 := (b.keep g (Nat.lt_of_lt_of_le h1 a.size) (fun h => h2 (a.own g h h1))).trans (a.keep g h1 h2)
  more g h := b.more g (a.more g h)
  new g h1 h2 := by
    rcases b.new g h1 (Nat.lt_of_lt_of_le h2 a.size) with h | h
    · exact a.new g h h2
    · exact .inr (a.own g h h2)
  own g h1 h2 := a.own g (b.own g h1 (Nat.lt_of_lt_of_le h2 a.size)) h2

theorem cell?_of_heap {w w' : World} {p : Addr} (h : w'.heap[p.block]? = w.heap[p.block]?) : w'.cell? p = w.cell? p := by
  unfold World.cell?
  rw [h]

/-- A tree stays as it is. -/
theorem RelP.keep {ν : Nat → Nat} {w w' : World} {S S' : Nat → Prop} (hS : ∀ g, S g → S' g) (hw : ∀ g, S g → w'.heap[g]? = w.heap[g]?) {v u} (h : RelP ν w S v u) : RelP ν w' S' v u := by
  induction h with
  | int => exact .int _ _
  | bool => exact .bool _
  | str => exact .str _
  | nilp => exact .nilp
  | nilfn => exact .nilfn
  | nilmap => exact .nilmap
  | clo f cs us h1 h2 _ ih => exact .clo f cs us h1 h2 ih
  | sl k sz xs a cap us h1 h2 h3 h4 h5 h6 h7 _ ih =>
    refine .sl k sz xs a cap us h1 h2 h3 h4 h5 (fun hx => ?_) (fun ad hd i x j c hx hc => ?_) ih
    · obtain ⟨ad, e, hs⟩ := h6 hx
      exact ⟨ad, e, hS _ hs⟩
    · obtain ⟨ad', e, hs⟩ := h6 (by rintro rfl; simp at hx)
      rw [hd] at e
      cases e
      rw [← h7 ad hd i x j c hx hc]
      exact cell?_of_heap (hw _ (by rw [block_add]; exact hs))
  | ptr cells ad us h0 h1 h2 h3 _ ih =>
    refine .ptr cells ad us h0 (hS _ h1) h2 (fun j c hc => ?_) ih
    rw [← h3 j c hc]
    exact cell?_of_heap (hw _ (by rw [block_add]; exact h1))
  | agg cs us h1 h2 _ ih => exact .agg cs us h1 h2 ih

/-- How blocks' numbers and places may turn: rows only grow, a row that does not grow stays where it is. -/
structure Moves (μ : Nat → Value) (H : Heap) (μ' : Nat → Value) (H' : Heap) : Prop where
  len : H.length ≤ H'.length
  row : ∀ id f sz xs, id < H.length → H'[id]? = some (.row f sz xs) → ∃ f0 xs0, H[id]? = some (.row f0 sz xs0) ∧ xs0.length ≤ xs.length ∧ (xs0.length = xs.length → μ' id = μ id)
  box : ∀ id cs, id < H.length → H'[id]? = some (.box cs) → ∃ cs0, H[id]? = some (.box cs0) ∧ μ' id = μ id

theorem RelV.keep {ν : Nat → Nat} {w w' : World} {S S' : Nat → Prop} {μ μ' : Nat → Value} {H H' : Heap} (hS : ∀ g, S g → S' g) (hw : ∀ g, S g → w'.heap[g]? = w.heap[g]?) (hm : Moves μ H μ' H')
    {v u} (h : RelV ν w S μ H v u) : RelV ν w' S' μ' H' v u := by
  induction h with
  | p v u h => exact .p v u (h.keep hS hw)
  | own id n u hl h h1 =>
    refine .own id n u (Nat.lt_of_lt_of_le hl hm.len) (fun f sz xs e => ?_) h1
    obtain ⟨f0, xs0, e0, hle, he⟩ := hm.row id f sz xs hl e
    obtain ⟨h2, h3⟩ := h f0 sz xs0 e0
    exact ⟨Nat.le_trans h2 hle, fun hn => by rw [he (by omega)]; exact h3 (by omega)⟩
  | bx id off g u hl h h1 =>
    refine .bx id off g u (Nat.lt_of_lt_of_le hl hm.len) (fun cs e => ?_) h1
    obtain ⟨cs0, e0, he⟩ := hm.box id cs hl e
    rw [he]
    exact h cs0 e0
  | el id n i off u hl h h1 =>
    refine .el id n i off u (Nat.lt_of_lt_of_le hl hm.len) (fun f sz xs e => ?_) h1
    obtain ⟨f0, xs0, e0, hle, he⟩ := hm.row id f sz xs hl e
    obtain ⟨h2, h3⟩ := h f0 sz xs0 e0
    exact ⟨Nat.le_trans h2 hle, fun hn hi => by rw [he (by omega)]; exact h3 (by omega) hi⟩
  | agg cs us h1 h2 _ ih => exact .agg cs us h1 h2 ih
  | tup cs us h1 _ ih => exact .tup cs us h1 ih
  | clo f cs us h1 h2 _ ih => exact .clo f cs us h1 h2 ih
  | nov => exact .nov
  | any u => exact .any u

theorem Moves.refl {μ H} : Moves μ H μ H := ⟨Nat.le_refl _, fun _ _ _ xs _ h => ⟨_, xs, h, Nat.le_refl _, fun _ => rfl⟩, fun _ cs _ h => ⟨cs, h, rfl⟩⟩

theorem PV.cells_one {v : PV} (h : v.one = true) : v.cells = [v] := by cases v <;> first | rfl | cases h

/-- One cell's value is no aggregate. -/
theorem RelP.one {ν w S v u} (h : RelP ν w S v u) : u.oneCell' = v.one := by cases h <;> rfl
theorem RelV.one {ν w S μ H v u} (h : RelV ν w S μ H v u) (h1 : v.one = true) : u.oneCell' = true := by
  cases h with
  | p v u h => rw [h.one]; exact h1
  | own _ _ _ _ _ h => exact h
  | bx _ _ _ _ _ _ h => subst h; rfl
  | el _ _ _ _ _ _ _ h => exact h
  | agg => cases h1
  | tup => cases h1
  | clo => rfl
  | nov => cases h1
  | any => cases h1

/-- The cells of a tree. -/
theorem RelP.cells {ν w S v u} (h : RelP ν w S v u) : u.cells.size = v.cells.length ∧ (∀ c ∈ v.cells, c.one = true) ∧ ∀ j c, v.cells[j]? = some c → RelP ν w S c (u.cells.getD j undef) := by
  cases h
  case agg cs us h1 h2 h3 => exact ⟨h1, h2, h3⟩
  all_goals
    refine ⟨rfl, fun c hc => ?_, fun j c hc => ?_⟩
    · simp only [PV.cells, List.mem_singleton] at hc
      subst hc; rfl
    · cases j with
      | zero =>
        simp only [PV.cells, List.getElem?_cons_zero, Option.some.injEq] at hc
        subst hc
        simp only [Value.cells]
        constructor <;> assumption
      | succ j => simp [PV.cells] at hc

theorem RelV.cells {ν w S μ H v u} (h : RelV ν w S μ H v u) (hok : v.ok = true) : u.cells.size = v.cells.length ∧ (∀ c ∈ v.cells, c.one = true) ∧ ∀ j c, v.cells[j]? = some c → RelV ν w S μ H c (u.cells.getD j undef) := by
  cases h with
  | p v u h =>
    obtain ⟨h1, h2, h3⟩ := h.cells
    refine ⟨by rw [h1]; simp [AV.cells], fun c hc => ?_, fun j c hc => ?_⟩
    · simp only [AV.cells, List.mem_map] at hc
      obtain ⟨x, hx, rfl⟩ := hc
      exact h2 x hx
    · simp only [AV.cells, List.getElem?_map, Option.map_eq_some_iff] at hc
      obtain ⟨x, hx, rfl⟩ := hc
      exact .p _ _ (h3 j x hx)
  | agg cs us h1 h2 h3 => exact ⟨h1, h2, h3⟩
  | tup => cases hok
  | nov => cases hok
  | any => cases hok
  | own id n u h1 h2 h3 =>
    have e : u.cells = #[u] := by cases u <;> first | rfl | cases h3
    rw [e]
    refine ⟨rfl, fun c hc => ?_, fun j c hc => ?_⟩
    · simp only [AV.cells, List.mem_singleton] at hc; subst hc; rfl
    · cases j with
      | zero => simp only [AV.cells, List.getElem?_cons_zero, Option.some.injEq] at hc; subst hc; exact .own _ _ _ h1 h2 h3
      | succ j => simp [AV.cells] at hc
  | bx id off g u h1 h2 h3 =>
    subst h3
    refine ⟨rfl, fun c hc => ?_, fun j c hc => ?_⟩
    · simp only [AV.cells, List.mem_singleton] at hc; subst hc; rfl
    · cases j with
      | zero => simp only [AV.cells, List.getElem?_cons_zero, Option.some.injEq] at hc; subst hc; exact .bx _ _ _ _ h1 h2 rfl
      | succ j => simp [AV.cells] at hc
  | el id n i off u h1 h2 h3 =>
    have e : u.cells = #[u] := by cases u <;> first | rfl | cases h3
    rw [e]
    refine ⟨rfl, fun c hc => ?_, fun j c hc => ?_⟩
    · simp only [AV.cells, List.mem_singleton] at hc; subst hc; rfl
    · cases j with
      | zero => simp only [AV.cells, List.getElem?_cons_zero, Option.some.injEq] at hc; subst hc; exact .el _ _ _ _ _ h1 h2 h3
      | succ j => simp [AV.cells] at hc
  | clo f cs us h1 h2 h3 =>
    refine ⟨rfl, fun c hc => ?_, fun j c hc => ?_⟩
    · simp only [AV.cells, List.mem_singleton] at hc; subst hc; rfl
    · cases j with
      | zero => simp only [AV.cells, List.getElem?_cons_zero, Option.some.injEq] at hc; subst hc; exact .clo _ _ _ h1 h2 h3
      | succ j => simp [AV.cells] at hc
end Ab
