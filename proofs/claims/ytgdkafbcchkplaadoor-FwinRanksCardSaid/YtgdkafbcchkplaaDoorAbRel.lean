import Derived.Test.YtgdkafbcchkplaaDoorLKnown21
import Derived.Test.YtgdkafbcchkplaaDoorAbCore
import Derived.Below
import Derived.Laws.OwnMore
/- Many values as one, of whatever kind. -/
namespace Ab
open Go (IntKind BinOp UnOp)
theorem agg3_cons {l : List Val} {b : Val} {k : List Val} (h : knL l = b :: k) : aggV 3 l = (b :: k).getD k.length (false, 0) := by
  unfold aggV; rw [h]
  show (b :: k).getLastD noV = _
  rw [List.getLastD_eq_getLast?, List.getLast?_eq_getElem?, List.getD_eq_getElem?_getD]
  rfl
theorem aggNo {kind : Int} {l : List Val} (h : ¬ (1 ≤ kind ∧ kind ≤ 5)) : aggV kind l = (false, 0) := by
  unfold aggV
  cases knL l with
  | nil => rfl
  | cons b k =>
    show (if kind = 1 then _ else if kind = 2 then _ else if kind = 3 then _ else if kind = 4 then _ else if kind = 5 then _ else noV) = _
    rw [if_neg (by omega), if_neg (by omega), if_neg (by omega), if_neg (by omega), if_neg (by omega)]; rfl
theorem res_aggOf3 {kk : SK} (l : List Val) (hl : l.length < 1000000000) : res Γ 132 [.int .i64 3, .sl kk 2 (vpv l)] = some [.agg [.bool (aggV 3 l).1, .int .i64 (aggV 3 l).2]] := by
  have hk := knL_len l
  refine res_code (fn := agg_Of) rfl rfl ?_
  simp (disch := first | assumption | omega | decide | (simp only [List.length_cons, List.length_nil, List.length_append, List.length_replicate, List.length_map, List.length_set, List.length_take, List.length_drop, strs_len, ints_len, bools_len, aggs_len, vpv_len]; done) | (simp only [List.length_cons, List.length_nil, List.length_append, List.length_replicate, List.length_map, List.length_set, List.length_take, List.length_drop, strs_len, ints_len, bools_len, aggs_len, vpv_len]; omega)) only [go_sem, agg_Of]
  cases h : knL l with
  | nil =>
    simp (disch := first | assumption | omega | decide | (simp only [List.length_cons, List.length_nil, List.length_append, List.length_replicate, List.length_map, List.length_set, List.length_take, List.length_drop, strs_len, ints_len, bools_len, aggs_len, vpv_len]; done) | (simp only [List.length_cons, List.length_nil, List.length_append, List.length_replicate, List.length_map, List.length_set, List.length_take, List.length_drop, strs_len, ints_len, bools_len, aggs_len, vpv_len]; omega)) only [go_sem, agg2_nil h]
  | cons b k =>
    have e := agg3_cons h
    have e2 : ((k.length + 1 : Nat) : Int) - 1 = (k.length : Int) := by omega
    rw [h] at hk
    simp only [List.length_cons] at hk
    simp (disch := first | assumption | omega | decide | (simp only [List.length_cons, List.length_nil, List.length_append, List.length_replicate, List.length_map, List.length_set, List.length_take, List.length_drop, strs_len, ints_len, bools_len, aggs_len, vpv_len]; done) | (simp only [List.length_cons, List.length_nil, List.length_append, List.length_replicate, List.length_map, List.length_set, List.length_take, List.length_drop, strs_len, ints_len, bools_len, aggs_len, vpv_len]; omega)) only [go_sem, e, e2, valP]
theorem res_aggOfNo {kk : SK} (kind : Int) (hn : ¬ (1 ≤ kind ∧ kind ≤ 5)) (l : List Val) (hl : l.length < 1000000000) : res Γ 132 [.int .i64 kind, .sl kk 2 (vpv l)] = some [.agg [.bool (aggV kind l).1, .int .i64 (aggV kind l).2]] := by
  have hk := knL_len l
  have e := aggNo (l := l) hn
  have h1 : ¬ kind = 1 := by omega
  have h2 : ¬ kind = 2 := by omega
  have h3 : ¬ kind = 3 := by omega
  have h4 : ¬ kind = 4 := by omega
  have h5 : ¬ kind = 5 := by omega
  refine res_code (fn := agg_Of) rfl rfl ?_
  simp (disch := first | assumption | omega | decide | (simp only [List.length_cons, List.length_nil, List.length_append, List.length_replicate, List.length_map, List.length_set, List.length_take, List.length_drop, strs_len, ints_len, bools_len, aggs_len, vpv_len]; done) | (simp only [List.length_cons, List.length_nil, List.length_append, List.length_replicate, List.length_map, List.length_set, List.length_take, List.length_drop, strs_len, ints_len, bools_len, aggs_len, vpv_len]; omega)) only [go_sem, agg_Of]
  cases h : knL l with
  | nil =>
    simp (disch := first | assumption | omega | decide | (simp only [List.length_cons, List.length_nil, List.length_append, List.length_replicate, List.length_map, List.length_set, List.length_take, List.length_drop, strs_len, ints_len, bools_len, aggs_len, vpv_len]; done) | (simp only [List.length_cons, List.length_nil, List.length_append, List.length_replicate, List.length_map, List.length_set, List.length_take, List.length_drop, strs_len, ints_len, bools_len, aggs_len, vpv_len]; omega)) only [go_sem, e]
  | cons b k =>
    rw [h] at hk
    simp only [List.length_cons] at hk
    simp (disch := first | assumption | omega | decide | (simp only [List.length_cons, List.length_nil, List.length_append, List.length_replicate, List.length_map, List.length_set, List.length_take, List.length_drop, strs_len, ints_len, bools_len, aggs_len, vpv_len]; done) | (simp only [List.length_cons, List.length_nil, List.length_append, List.length_replicate, List.length_map, List.length_set, List.length_take, List.length_drop, strs_len, ints_len, bools_len, aggs_len, vpv_len]; omega)) only [go_sem, e, valP]
theorem res_aggOfK {kk : SK} (kind : Int) (l : List Val) (hl : l.length < 1000000000) : res Γ 132 [.int .i64 kind, .sl kk 2 (vpv l)] = some [.agg [.bool (aggV kind l).1, .int .i64 (aggV kind l).2]] := by
  by_cases h : 1 ≤ kind ∧ kind ≤ 5
  · have : kind = 1 ∨ kind = 2 ∨ kind = 3 ∨ kind = 4 ∨ kind = 5 := by omega
    rcases this with rfl | rfl | rfl | rfl | rfl
    · exact res_aggOf1 l hl
    · exact res_aggOf2 l hl
    · exact res_aggOf3 l hl
    · exact res_aggOf4 l hl
    · exact res_aggOf5 l hl
  · exact res_aggOfNo kind h l hl
theorem res_r6Of3 {kk : SK} (l : List Val) (hl : l.length < 1000000000) : res Γ 122 [.int .i64 3, .sl kk 2 (vpv l)] = some [.agg [.bool (aggV 3 l).1, .int .i64 (aggV 3 l).2]] := by
  have hk := knL_len l
  refine res_code (fn := r6_Of) rfl rfl ?_
  simp (disch := first | assumption | omega | decide | (simp only [List.length_cons, List.length_nil, List.length_append, List.length_replicate, List.length_map, List.length_set, List.length_take, List.length_drop, strs_len, ints_len, bools_len, aggs_len, vpv_len]; done) | (simp only [List.length_cons, List.length_nil, List.length_append, List.length_replicate, List.length_map, List.length_set, List.length_take, List.length_drop, strs_len, ints_len, bools_len, aggs_len, vpv_len]; omega)) only [go_sem, r6_Of]
  cases h : knL l with
  | nil =>
    simp (disch := first | assumption | omega | decide | (simp only [List.length_cons, List.length_nil, List.length_append, List.length_replicate, List.length_map, List.length_set, List.length_take, List.length_drop, strs_len, ints_len, bools_len, aggs_len, vpv_len]; done) | (simp only [List.length_cons, List.length_nil, List.length_append, List.length_replicate, List.length_map, List.length_set, List.length_take, List.length_drop, strs_len, ints_len, bools_len, aggs_len, vpv_len]; omega)) only [go_sem, agg2_nil h]
  | cons b k =>
    have e := agg3_cons h
    have e2 : ((k.length + 1 : Nat) : Int) - 1 = (k.length : Int) := by omega
    rw [h] at hk
    simp only [List.length_cons] at hk
    simp (disch := first | assumption | omega | decide | (simp only [List.length_cons, List.length_nil, List.length_append, List.length_replicate, List.length_map, List.length_set, List.length_take, List.length_drop, strs_len, ints_len, bools_len, aggs_len, vpv_len]; done) | (simp only [List.length_cons, List.length_nil, List.length_append, List.length_replicate, List.length_map, List.length_set, List.length_take, List.length_drop, strs_len, ints_len, bools_len, aggs_len, vpv_len]; omega)) only [go_sem, valP]
    refine r6_Of_l1_ok 3 b k (by omega) _ _ k.length 0 (by omega) ?_
    simp (disch := first | assumption | omega | decide | (simp only [List.length_cons, List.length_nil, List.length_append, List.length_replicate, List.length_map, List.length_set, List.length_take, List.length_drop, strs_len, ints_len, bools_len, aggs_len, vpv_len]; done) | (simp only [List.length_cons, List.length_nil, List.length_append, List.length_replicate, List.length_map, List.length_set, List.length_take, List.length_drop, strs_len, ints_len, bools_len, aggs_len, vpv_len]; omega)) only [go_sem, e, e2, valP]
theorem res_r6OfNo {kk : SK} (kind : Int) (hn : ¬ (1 ≤ kind ∧ kind ≤ 5)) (l : List Val) (hl : l.length < 1000000000) : res Γ 122 [.int .i64 kind, .sl kk 2 (vpv l)] = some [.agg [.bool (aggV kind l).1, .int .i64 (aggV kind l).2]] := by
  have hk := knL_len l
  have e := aggNo (l := l) hn
  refine res_code (fn := r6_Of) rfl rfl ?_
  simp (disch := first | assumption | omega | decide | (simp only [List.length_cons, List.length_nil, List.length_append, List.length_replicate, List.length_map, List.length_set, List.length_take, List.length_drop, strs_len, ints_len, bools_len, aggs_len, vpv_len]; done) | (simp only [List.length_cons, List.length_nil, List.length_append, List.length_replicate, List.length_map, List.length_set, List.length_take, List.length_drop, strs_len, ints_len, bools_len, aggs_len, vpv_len]; omega)) only [go_sem, r6_Of]
  by_cases h0 : (knL l).length = 0
  · simp (disch := first | assumption | omega | decide | (simp only [List.length_cons, List.length_nil, List.length_append, List.length_replicate, List.length_map, List.length_set, List.length_take, List.length_drop, strs_len, ints_len, bools_len, aggs_len, vpv_len]; done) | (simp only [List.length_cons, List.length_nil, List.length_append, List.length_replicate, List.length_map, List.length_set, List.length_take, List.length_drop, strs_len, ints_len, bools_len, aggs_len, vpv_len]; omega)) only [go_sem, e]
  · by_cases h1 : kind < 1
    · simp (disch := first | assumption | omega | decide | (simp only [List.length_cons, List.length_nil, List.length_append, List.length_replicate, List.length_map, List.length_set, List.length_take, List.length_drop, strs_len, ints_len, bools_len, aggs_len, vpv_len]; done) | (simp only [List.length_cons, List.length_nil, List.length_append, List.length_replicate, List.length_map, List.length_set, List.length_take, List.length_drop, strs_len, ints_len, bools_len, aggs_len, vpv_len]; omega)) only [go_sem, e]
    · simp (disch := first | assumption | omega | decide | (simp only [List.length_cons, List.length_nil, List.length_append, List.length_replicate, List.length_map, List.length_set, List.length_take, List.length_drop, strs_len, ints_len, bools_len, aggs_len, vpv_len]; done) | (simp only [List.length_cons, List.length_nil, List.length_append, List.length_replicate, List.length_map, List.length_set, List.length_take, List.length_drop, strs_len, ints_len, bools_len, aggs_len, vpv_len]; omega)) only [go_sem, e]
theorem res_r6OfK {kk : SK} (kind : Int) (l : List Val) (hl : l.length < 1000000000) : res Γ 122 [.int .i64 kind, .sl kk 2 (vpv l)] = some [.agg [.bool (aggV kind l).1, .int .i64 (aggV kind l).2]] := by
  by_cases h : 1 ≤ kind ∧ kind ≤ 5
  · have : kind = 1 ∨ kind = 2 ∨ kind = 3 ∨ kind = 4 ∨ kind = 5 := by omega
    rcases this with rfl | rfl | rfl | rfl | rfl
    · exact res_r6Of1 l hl
    · exact res_r6Of 2 (by omega) l hl
    · exact res_r6Of3 l hl
    · exact res_r6Of 4 (by omega) l hl
    · exact res_r6Of 5 (by omega) l hl
  · exact res_r6OfNo kind h l hl
end Ab
/- Laws on windows: what they have in common. -/
namespace Ab
open Go (IntKind BinOp UnOp)
def heavyS (s : Ser) : Bool := decide (120 < s.vals.length) || decide (300 < s.name.length)
theorem res_heavy21 {k : SK} (s : Ser) (hv : s.vals.length ≤ 9223372036854775807) : res Γ 103 [.sl .tight 5 [s.pv k]] = some [.bool (heavyS s)] := by
  unfold Ser.pv
  refine res_code (fn := l21_heavy) rfl rfl ?_
  simp (disch := first | assumption | omega | decide | (simp only [List.length_cons, List.length_nil, List.length_append, List.length_replicate, List.length_map, List.length_set, List.length_take, List.length_drop, strs_len, ints_len, bools_len, aggs_len, vpv_len]; done) | (simp only [List.length_cons, List.length_nil, List.length_append, List.length_replicate, List.length_map, List.length_set, List.length_take, List.length_drop, strs_len, ints_len, bools_len, aggs_len, vpv_len]; omega)) only [go_sem, l21_heavy]
  rw [W_loop (L := l21_heavy_l1) rfl]
  repeat' (first | (simp (disch := first | assumption | omega | decide | (simp only [List.length_cons, List.length_nil, List.length_append, List.length_replicate, List.length_map, List.length_set, List.length_take, List.length_drop, strs_len, ints_len, bools_len, aggs_len, vpv_len]; done) | (simp only [List.length_cons, List.length_nil, List.length_append, List.length_replicate, List.length_map, List.length_set, List.length_take, List.length_drop, strs_len, ints_len, bools_len, aggs_len, vpv_len]; omega)) only [go_sem]) | refine cond_split (fun hc => ?_) (fun hc => ?_) | refine gd_split_f (fun hc => ?_) (fun hc => ?_) | refine gd_split_t (fun hc => ?_) (fun hc => ?_))
  · have e : heavyS s = true := by simp [heavyS]; omega
    rw [e]
  · have e : heavyS s = false := by simp [heavyS]; omega
    rw [W_loop (L := l21_heavy_l1) rfl]
    simp (disch := first | assumption | omega | decide | (simp only [List.length_cons, List.length_nil, List.length_append, List.length_replicate, List.length_map, List.length_set, List.length_take, List.length_drop, strs_len, ints_len, bools_len, aggs_len, vpv_len]; done) | (simp only [List.length_cons, List.length_nil, List.length_append, List.length_replicate, List.length_map, List.length_set, List.length_take, List.length_drop, strs_len, ints_len, bools_len, aggs_len, vpv_len]; omega)) only [go_sem, e]
    rw [decide_eq_false (by omega)]
  · have e : heavyS s = true := by simp [heavyS]; omega
    rw [e]
end Ab
/- How the abstract machine's values and blocks lie in the memory of the model. -/
namespace Ab
open Go (IntKind BinOp UnOp World Value Addr Obj undef maxLen)

theorem block_add (a : Addr) (n : Nat) : (a.add n).block = a.block := by unfold Addr.add; split <;> rfl
theorem add_add (a : Addr) (i j : Nat) : (a.add i).add j = a.add (i + j) := by
  unfold Addr.add
  by_cases hi : i = 0 <;> by_cases hj : j = 0 <;> simp [hi, hj, Nat.add_assoc]

/-- A tree in memory; 'S': the blocks that nobody changes any more. -/
inductive RelP (ν : Nat → Nat) (w : World) (S : Nat → Prop) : PV → Value → Prop
  | int (k n) : RelP ν w S (.int k n) (.int k n)
  | bool (b) : RelP ν w S (.bool b) (.bool b)
  | str (s) : RelP ν w S (.str s) (.string ⟨s.toArray⟩)
  | nilp : RelP ν w S .nilp (.pointer none)
  | nilfn : RelP ν w S .nilfn .nilFunc
  | nilmap : RelP ν w S .nilmap (.map none)
  | clo (f cs us) : us.size = cs.length → (∀ c ∈ cs, c.one = true) → (∀ j c, cs[j]? = some c → RelP ν w S c (us.getD j undef)) → RelP ν w S (.clo f cs) (.func (.func (ν f)) #[] us)
  | sl (k sz xs a cap) (us : Nat → Nat → Value) : xs.length ≤ cap → cap ≤ maxLen → (∀ x ∈ xs, x.cells.length = sz ∧ ∀ c ∈ x.cells, c.one = true) →
      (k = .nil ∨ a = none → xs = [] ∧ a = none ∧ cap = 0) → (k = .tight ∨ k = .mem → a.isSome = true ∧ (k = .tight → cap = xs.length)) →
      (xs ≠ [] → ∃ ad, a = some ad ∧ S ad.block) →
      (∀ ad, a = some ad → ∀ i x j c, xs[i]? = some x → x.cells[j]? = some c → w.cell? (ad.add (i * sz + j)) = some (us i j)) →
      (∀ i x j c, xs[i]? = some x → x.cells[j]? = some c → RelP ν w S c (us i j)) → RelP ν w S (.sl k sz xs) (.slice a xs.length cap)
  | ptr (cells ad) (us : Nat → Value) : cells ≠ [] → S ad.block → (∀ c ∈ cells, c.one = true) → (∀ j c, cells[j]? = some c → w.cell? (ad.add j) = some (us j)) →
      (∀ j c, cells[j]? = some c → RelP ν w S c (us j)) → RelP ν w S (.ptr cells) (.pointer (some ad))
  | agg (cs us) : us.size = cs.length → (∀ c ∈ cs, c.one = true) → (∀ j c, cs[j]? = some c → RelP ν w S c (us.getD j undef)) → RelP ν w S (.agg cs) (.agg us)

/-- The block of a row or of a box. -/
def blkOf : Value → Option Nat
  | .slice (some a) _ cap => if cap = 0 then none else some a.block
  | .pointer (some a) => some a.block
  | _ => none

/-- A slice value v whose n elements lie as 'us', from the head of a block that is all its own. -/
def RowAt (w : World) (v : Value) (sz n : Nat) (us : List Value) : Prop :=
  us.length = n * sz ∧ ((n = 0 ∧ ∃ a, v = .slice a 0 0) ∨
    ∃ g cap cur e, v = .slice (some ⟨g, 0, none⟩) n cap ∧ 0 < cap ∧ w.heap[g]? = some (.cells cur e (0, 0)) ∧ n ≤ cap ∧ cap ≤ maxLen ∧ cur.size = cap * sz ∧ cur.toList.take (n * sz) = us)

/-- A value of a running call; 'μ': where its blocks lie. -/
inductive RelV (ν : Nat → Nat) (w : World) (S : Nat → Prop) (μ : Nat → Value) (H : Heap) : AV → Value → Prop
  | p (v u) : RelP ν w S v u → RelV ν w S μ H (.p v) u
  | own (id n u) : id < H.length → (∀ f sz xs, H[id]? = some (.row f sz xs) → n ≤ xs.length ∧ (n = xs.length → u = μ id)) → u.oneCell' = true → RelV ν w S μ H (.own id n) u
  | bx (id off g u) : id < H.length → (∀ cs, H[id]? = some (.box cs) → μ id = .pointer (some ⟨g, 0, none⟩)) → u = .pointer (some ⟨g, off, none⟩) → RelV ν w S μ H (.bx id off) u
  | el (id n i off u) : id < H.length → (∀ f sz xs, H[id]? = some (.row f sz xs) → n ≤ xs.length ∧ (n = xs.length → i < n → ∃ g cap, μ id = .slice (some ⟨g, 0, none⟩) n cap ∧ u = .pointer (some ⟨g, i * sz + off, none⟩))) →
      u.oneCell' = true → RelV ν w S μ H (.el id n i off) u
  | agg (cs us) : us.size = cs.length → (∀ c ∈ cs, c.one = true) → (∀ j c, cs[j]? = some c → RelV ν w S μ H c (us.getD j undef)) → RelV ν w S μ H (.agg cs) (.agg us)
  | tup (cs us) : us.size = cs.length → (∀ j c, cs[j]? = some c → RelV ν w S μ H c (us.getD j undef)) → RelV ν w S μ H (.tup cs) (.tuple us)
  | clo (f cs us) : us.size = cs.length → (∀ c ∈ cs, c.one = true) → (∀ j c, cs[j]? = some c → RelV ν w S μ H c (us.getD j undef)) → RelV ν w S μ H (.clo f cs) (.func (.func (ν f)) #[] us)
  | nov : RelV ν w S μ H .nov undef
  | any (u) : RelV ν w S μ H .any u

def BlkRel (ν : Nat → Nat) (w : World) (S : Nat → Prop) (μ : Nat → Value) (H : Heap) (id : Nat) : Blk → Prop
  | .box cells => ∃ g, μ id = .pointer (some ⟨g, 0, none⟩) ∧ ((∃ cs t, w.heap[g]? = some (.cells cs t (0, 0)) ∧ cs.size = cells.length ∧ (∀ c ∈ cells, c.one = true) ∧
      ∀ j c, cells[j]? = some c → RelV ν w S μ H c (cs.getD j undef)) ∨ ∃ s pos, cells = iterCells s pos ∧ w.heap[g]? = some (.stringIter ⟨s.toArray⟩ pos))
  | .row f sz xs => 0 < sz ∧ xs.length ≤ lim ∧ ∃ us, RowAt w (μ id) sz xs.length us ∧ (∀ x ∈ xs, x.cells.length = sz ∧ ∀ c ∈ x.cells, c.one = true) ∧
      (∀ i x j c, xs[i]? = some x → x.cells[j]? = some c → RelP ν w S c (us.getD (i * sz + j) undef)) ∧ (f = true → ∀ g, blkOf (μ id) = some g → S g)
  | .dead => ∀ g, blkOf (μ id) = some g → S g

/-- Blocks that may still change. -/
def alive (μ : Nat → Value) (H : Heap) (g : Nat) : Prop :=
  ∃ id, blkOf (μ id) = some g ∧ ((∃ cs, H[id]? = some (.box cs)) ∨ ∃ sz xs, H[id]? = some (.row false sz xs))

structure Rel (ν : Nat → Nat) (w : World) (S : Nat → Prop) (μ : Nat → Value) (H : Heap) : Prop where
  lt : ∀ g, S g → g < w.heap.size
  blk : ∀ id b, H[id]? = some b → BlkRel ν w S μ H id b
  apart : ∀ g, alive μ H g → ¬ S g
  inj : ∀ i j g, blkOf (μ i) = some g → blkOf (μ j) = some g → ((∃ cs, H[i]? = some (.box cs)) ∨ ∃ sz xs, H[i]? = some (.row false sz xs)) →
    ((∃ cs, H[j]? = some (.box cs)) ∨ ∃ sz xs, H[j]? = some (.row false sz xs)) → i = j

/-- What a piece of a run has changed. -/
structure Ext (w : World) (S : Nat → Prop) (μ : Nat → Value) (H : Heap) (w' : World) (S' : Nat → Prop) (μ' : Nat → Value) (H' : Heap) : Prop where
  os : w'.os = w.os
  tape : w'.tape = w.tape
  output : w'.output = w.output
  size : w.heap.size ≤ w'.heap.size
  keep : ∀ g, g < w.heap.size → ¬ alive μ H g → w'.heap[g]? = w.heap[g]?
  more : ∀ g, S g → S' g
  new : ∀ g, S' g → g < w.heap.size → S g ∨ alive μ H g
  own : ∀ g, alive μ' H' g → g < w.heap.size → alive μ H g

theorem Ext.refl {w S μ H} : Ext w S μ H w S μ H := ⟨rfl, rfl, rfl, Nat.le_refl _, fun _ _ _ => rfl, fun _ h => h, fun _ h _ => .inl h, fun _ h _ => h⟩
theorem Ext.trans {w S μ H w1 S1 μ1 H1 w2 S2 μ2 H2} (a : Ext w S μ H w1 S1 μ1 H1) (b : Ext w1 S1 μ1 H1 w2 S2 μ2 H2) : Ext w S μ H w2 S2 μ2 H2 where
  os := b.os.trans a.os
  tape := b.tape.trans a.tape
  output := b.output.trans a.output
  size := Nat.le_trans a.size b.size
  keep g h1 h2 := (b.keep g (Nat.lt_of_lt_of_le h1 a.size) (fun h => h2 (a.own g h h1))).trans (a.keep g h1 h2)
  more g h := b.more g (a.more g h)
  new g h1 h2 := by
    rcases b.new g h1 (Nat.lt_of_lt_of_le h2 a.size) with h | h
    · exact a.new g h h2
    · exact .inr (a.own g h h2)
  own g h1 h2 := a.own g (b.own g h1 (Nat.lt_of_lt_of_le h2 a.size)) h2

theorem cell?_of_heap {w w' : World} {p : Addr} (h : w'.heap[p.block]? = w.heap[p.block]?) : w'.cell? p = w.cell? p := by
  unfold World.cell?
  rw [h]

/-- A tree stays as it is. -/
theorem RelP.keep {ν : Nat → Nat} {w w' : World} {S S' : Nat → Prop} (hS : ∀ g, S g → S' g) (hw : ∀ g, S g → w'.heap[g]? = w.heap[g]?) {v u} (h : RelP ν w S v u) : RelP ν w' S' v u := by
  induction h with
  | int => exact .int _ _
  | bool => exact .bool _
  | str => exact .str _
  | nilp => exact .nilp
  | nilfn => exact .nilfn
  | nilmap => exact .nilmap
  | clo f cs us h1 h2 _ ih => exact .clo f cs us h1 h2 ih
  | sl k sz xs a cap us h1 h2 h3 h4 h5 h6 h7 _ ih =>
    refine .sl k sz xs a cap us h1 h2 h3 h4 h5 (fun hx => ?_) (fun ad hd i x j c hx hc => ?_) ih
    · obtain ⟨ad, e, hs⟩ := h6 hx
      exact ⟨ad, e, hS _ hs⟩
    · obtain ⟨ad', e, hs⟩ := h6 (by rintro rfl; simp at hx)
      rw [hd] at e
      cases e
      rw [← h7 ad hd i x j c hx hc]
      exact cell?_of_heap (hw _ (by rw [block_add]; exact hs))
  | ptr cells ad us h0 h1 h2 h3 _ ih =>
    refine .ptr cells ad us h0 (hS _ h1) h2 (fun j c hc => ?_) ih
    rw [← h3 j c hc]
    exact cell?_of_heap (hw _ (by rw [block_add]; exact h1))
  | agg cs us h1 h2 _ ih => exact .agg cs us h1 h2 ih

/-- How blocks' numbers and places may turn: rows only grow, a row that does not grow stays where it is. -/
structure Moves (μ : Nat → Value) (H : Heap) (μ' : Nat → Value) (H' : Heap) : Prop where
  len : H.length ≤ H'.length
  row : ∀ id f sz xs, id < H.length → H'[id]? = some (.row f sz xs) → ∃ f0 xs0, H[id]? = some (.row f0 sz xs0) ∧ xs0.length ≤ xs.length ∧ (xs0.length = xs.length → μ' id = μ id)
  box : ∀ id cs, id < H.length → H'[id]? = some (.box cs) → ∃ cs0, H[id]? = some (.box cs0) ∧ μ' id = μ id

theorem RelV.keep {ν : Nat → Nat} {w w' : World} {S S' : Nat → Prop} {μ μ' : Nat → Value} {H H' : Heap} (hS : ∀ g, S g → S' g) (hw : ∀ g, S g → w'.heap[g]? = w.heap[g]?) (hm : Moves μ H μ' H')
    {v u} (h : RelV ν w S μ H v u) : RelV ν w' S' μ' H' v u := by
  induction h with
  | p v u h => exact .p v u (h.keep hS hw)
  | own id n u hl h h1 =>
    refine .own id n u (Nat.lt_of_lt_of_le hl hm.len) (fun f sz xs e => ?_) h1
    obtain ⟨f0, xs0, e0, hle, he⟩ := hm.row id f sz xs hl e
    obtain ⟨h2, h3⟩ := h f0 sz xs0 e0
    exact ⟨Nat.le_trans h2 hle, fun hn => by rw [he (by omega)]; exact h3 (by omega)⟩
  | bx id off g u hl h h1 =>
    refine .bx id off g u (Nat.lt_of_lt_of_le hl hm.len) (fun cs e => ?_) h1
    obtain ⟨cs0, e0, he⟩ := hm.box id cs hl e
    rw [he]
    exact h cs0 e0
  | el id n i off u hl h h1 =>
    refine .el id n i off u (Nat.lt_of_lt_of_le hl hm.len) (fun f sz xs e => ?_) h1
    obtain ⟨f0, xs0, e0, hle, he⟩ := hm.row id f sz xs hl e
    obtain ⟨h2, h3⟩ := h f0 sz xs0 e0
    exact ⟨Nat.le_trans h2 hle, fun hn hi => by rw [he (by omega)]; exact h3 (by omega) hi⟩
  | agg cs us h1 h2 _ ih => exact .agg cs us h1 h2 ih
  | tup cs us h1 _ ih => exact .tup cs us h1 ih
  | clo f cs us h1 h2 _ ih => exact .clo f cs us h1 h2 ih
  | nov => exact .nov
  | any u => exact .any u

theorem Moves.refl {μ H} : Moves μ H μ H := ⟨Nat.le_refl _, fun _ _ _ xs _ h => ⟨_, xs, h, Nat.le_refl _, fun _ => rfl⟩, fun _ cs _ h => ⟨cs, h, rfl⟩⟩

theorem PV.cells_one {v : PV} (h : v.one = true) : v.cells = [v] := by cases v <;> first | rfl | cases h

/-- One cell's value is no aggregate. -/
theorem RelP.one {ν w S v u} (h : RelP ν w S v u) : u.oneCell' = v.one := by cases h <;> rfl
theorem RelV.one {ν w S μ H v u} (h : RelV ν w S μ H v u) (h1 : v.one = true) : u.oneCell' = true := by
  cases h with
  | p v u h => rw [h.one]; exact h1
  | own _ _ _ _ _ h => exact h
  | bx _ _ _ _ _ _ h => subst h; rfl
  | el _ _ _ _ _ _ _ h => exact h
  | agg => cases h1
  | tup => cases h1
  | clo => rfl
  | nov => cases h1
  | any => cases h1

/-- The cells of a tree. -/
theorem RelP.cells {ν w S v u} (h : RelP ν w S v u) : u.cells.size = v.cells.length ∧ (∀ c ∈ v.cells, c.one = true) ∧ ∀ j c, v.cells[j]? = some c → RelP ν w S c (u.cells.getD j undef) := by
  cases h
  case agg cs us h1 h2 h3 => exact ⟨h1, h2, h3⟩
  all_goals
    refine ⟨rfl, fun c hc => ?_, fun j c hc => ?_⟩
    · simp only [PV.cells, List.mem_singleton] at hc
      subst hc; rfl
    · cases j with
      | zero =>
        simp only [PV.cells, List.getElem?_cons_zero, Option.some.injEq] at hc
        subst hc
        simp only [Value.cells]
        constructor <;> assumption
      | succ j => simp [PV.cells] at hc

theorem RelV.cells {ν w S μ H v u} (h : RelV ν w S μ H v u) (hok : v.ok = true) : u.cells.size = v.cells.length ∧ (∀ c ∈ v.cells, c.one = true) ∧ ∀ j c, v.cells[j]? = some c → RelV ν w S μ H c (u.cells.getD j undef) := by
  cases h with
  | p v u h =>
    obtain ⟨h1, h2, h3⟩ := h.cells
    refine ⟨by rw [h1]; simp [AV.cells], fun c hc => ?_, fun j c hc => ?_⟩
    · simp only [AV.cells, List.mem_map] at hc
      obtain ⟨x, hx, rfl⟩ := hc
      exact h2 x hx
    · simp only [AV.cells, List.getElem?_map, Option.map_eq_some_iff] at hc
      obtain ⟨x, hx, rfl⟩ := hc
      exact .p _ _ (h3 j x hx)
  | agg cs us h1 h2 h3 => exact ⟨h1, h2, h3⟩
  | tup => cases hok
  | nov => cases hok
  | any => cases hok
  | own id n u h1 h2 h3 =>
    have e : u.cells = #[u] := by cases u <;> first | rfl | cases h3
    rw [e]
    refine ⟨rfl, fun c hc => ?_, fun j c hc => ?_⟩
    · simp only [AV.cells, List.mem_singleton] at hc; subst hc; rfl
    · cases j with
      | zero => simp only [AV.cells, List.getElem?_cons_zero, Option.some.injEq] at hc; subst hc; exact .own _ _ _ h1 h2 h3
      | succ j => simp [AV.cells] at hc
  | bx id off g u h1 h2 h3 =>
    subst h3
    refine ⟨rfl, fun c hc => ?_, fun j c hc => ?_⟩
    · simp only [AV.cells, List.mem_singleton] at hc; subst hc; rfl
    · cases j with
      | zero => simp only [AV.cells, List.getElem?_cons_zero, Option.some.injEq] at hc; subst hc; exact .bx _ _ _ _ h1 h2 rfl
      | succ j => simp [AV.cells] at hc
  | el id n i off u h1 h2 h3 =>
    have e : u.cells = #[u] := by cases u <;> first | rfl | cases h3
    rw [e]
    refine ⟨rfl, fun c hc => ?_, fun j c hc => ?_⟩
    · simp only [AV.cells, List.mem_singleton] at hc; subst hc; rfl
    · cases j with
      | zero => simp only [AV.cells, List.getElem?_cons_zero, Option.some.injEq] at hc; subst hc; exact .el _ _ _ _ _ h1 h2 h3
      | succ j => simp [AV.cells] at hc
  | clo f cs us h1 h2 h3 =>
    refine ⟨rfl, fun c hc => ?_, fun j c hc => ?_⟩
    · simp only [AV.cells, List.mem_singleton] at hc; subst hc; rfl
    · cases j with
      | zero => simp only [AV.cells, List.getElem?_cons_zero, Option.some.injEq] at hc; subst hc; exact .clo _ _ _ h1 h2 h3
      | succ j => simp [AV.cells] at hc
end Ab
