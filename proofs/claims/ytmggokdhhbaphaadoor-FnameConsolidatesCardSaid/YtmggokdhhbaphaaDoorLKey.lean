/- Parts of a series' path: Key. -/
import Derived.Test.YtmggokdhhbaphaaDoorLBase
namespace Ab
open Go (IntKind BinOp UnOp)
def keyB (s : List UInt8) (ns : List Int) : List (List UInt8) := ns.map (nodeB (splitB 46 (baseB s)))
theorem keyB_take {s : List UInt8} {ns : List Int} {i : Nat} (h : i < ns.length) : keyB s (ns.take (i + 1)) = keyB s (ns.take i) ++ [nodeB (splitB 46 (baseB s)) (ns.getD i 0)] := by
  rw [take_snoc 0 h]; simp [keyB]
theorem keyB_len {s : List UInt8} {ns : List Int} : (keyB s ns).length = ns.length := by simp [keyB]
theorem i64_at {ns : List Int} (h : ∀ n ∈ ns, -9223372036854775808 ≤ n ∧ n ≤ 9223372036854775807) (i : Nat) : -9223372036854775808 ≤ ns.getD i 0 ∧ ns.getD i 0 ≤ 9223372036854775807 := by
  by_cases hi : i < ns.length
  · rw [List.getD_eq_getElem?_getD, List.getElem?_eq_getElem hi]; exact h _ (List.getElem_mem hi)
  · rw [List.getD_eq_getElem?_getD, List.getElem?_eq_none (by omega)]; simp
theorem fname_Key_l1_ok {kk : SK} (s : List UInt8) (x1 x2 x3 x4 : PV) (ns : List Int) (hs : s.length < 900000000) (hn : ns.length < 100000000) (hr : ∀ n ∈ ns, -9223372036854775808 ≤ n ∧ n ≤ 9223372036854775807) (Q : Out → Prop) : ∀ (k i : Nat), i + k = ns.length →
    (∀ H, Q (.nrm, [(5, .own 1 ns.length)], [H, .row false 1 (strs (keyB s ns))])) →
    Wp Γ fname_Key_l1 [(2, .bx 0 0), (5, .own 1 i), (8, .p (.sl kk 1 (ints .i64 ns))), (9, .p (.int .i64 (ns.length : Int))), (10, .p (.int .i64 (i : Int)))] [.box [.p (.str s), .p x1, .p x2, .p x3, .p x4], .row false 1 (strs (keyB s (ns.take i)))] (InBlk [5] 0 Q) := by
  have hb := baseB_len s
  intro k
  induction k with
  | zero =>
    intro i hi hQ
    obtain rfl : i = ns.length := by omega
    rw [W_loop (L := fname_Key_l1) rfl]
    simp (disch := first | assumption | omega | (simp only [List.length_cons, List.length_nil, List.length_append, List.length_replicate, List.length_map, List.length_set, List.length_take, List.length_drop, strs_len, ints_len, bools_len, aggs_len]; done) | (simp only [List.length_cons, List.length_nil, List.length_append, List.length_replicate, List.length_map, List.length_set, List.length_take, List.length_drop, strs_len, ints_len, bools_len, aggs_len]; omega)) only [go_sem]
    rw [List.take_length]
    exact hQ _
  | succ k ih =>
    intro i hi hQ
    obtain ⟨g1, g2⟩ := i64_at hr i
    have g3 : (keyB s (ns.take i)).length = i := by rw [keyB_len, List.length_take]; omega
    rw [W_loop (L := fname_Key_l1) rfl]
    simp (disch := first | assumption | omega | (simp only [List.length_cons, List.length_nil, List.length_append, List.length_replicate, List.length_map, List.length_set, List.length_take, List.length_drop, strs_len, ints_len, bools_len, aggs_len]; done) | (simp only [List.length_cons, List.length_nil, List.length_append, List.length_replicate, List.length_map, List.length_set, List.length_take, List.length_drop, strs_len, ints_len, bools_len, aggs_len]; omega)) only [go_sem]
    rw [← keyB_take (by omega)]
    exact ih (i + 1) (by omega) hQ
theorem r24_Key_l1_ok {kk : SK} (s : List UInt8) (x1 x2 x3 x4 : PV) (ns : List Int) (hs : s.length < 900000000) (hn : ns.length < 100000000) (hr : ∀ n ∈ ns, -9223372036854775808 ≤ n ∧ n ≤ 9223372036854775807) (Q : Out → Prop) : ∀ (k i : Nat), i + k = ns.length →
    (∀ H, Q (.nrm, [(5, .own 1 ns.length)], [H, .row false 1 (strs (keyB s ns))])) →
    Wp Γ r24_Key_l1 [(1, .p (.sl kk 1 (ints .i64 ns))), (2, .bx 0 0), (5, .own 1 i), (6, .p (.int .i64 (i : Int)))] [.box [.p (.str s), .p x1, .p x2, .p x3, .p x4], .row false 1 (strs (keyB s (ns.take i)))] (InBlk [5] 0 Q) := by
  have hb := baseB_len s
  intro k
  induction k with
  | zero =>
    intro i hi hQ
    obtain rfl : i = ns.length := by omega
    rw [W_loop (L := r24_Key_l1) rfl]
    simp (disch := first | assumption | omega | (simp only [List.length_cons, List.length_nil, List.length_append, List.length_replicate, List.length_map, List.length_set, List.length_take, List.length_drop, strs_len, ints_len, bools_len, aggs_len]; done) | (simp only [List.length_cons, List.length_nil, List.length_append, List.length_replicate, List.length_map, List.length_set, List.length_take, List.length_drop, strs_len, ints_len, bools_len, aggs_len]; omega)) only [go_sem]
    rw [List.take_length]
    exact hQ _
  | succ k ih =>
    intro i hi hQ
    obtain ⟨g1, g2⟩ := i64_at hr i
    have g3 : (keyB s (ns.take i)).length = i := by rw [keyB_len, List.length_take]; omega
    rw [W_loop (L := r24_Key_l1) rfl]
    simp (disch := first | assumption | omega | (simp only [List.length_cons, List.length_nil, List.length_append, List.length_replicate, List.length_map, List.length_set, List.length_take, List.length_drop, strs_len, ints_len, bools_len, aggs_len]; done) | (simp only [List.length_cons, List.length_nil, List.length_append, List.length_replicate, List.length_map, List.length_set, List.length_take, List.length_drop, strs_len, ints_len, bools_len, aggs_len]; omega)) only [go_sem]
    rw [← keyB_take (by omega)]
    exact ih (i + 1) (by omega) hQ
theorem splitB_mem (c : UInt8) : ∀ (s x : List UInt8), x ∈ splitB c s → x.length ≤ s.length
  | [], x, h => by simp [splitB] at h; subst h; simp
  | b :: l, x, h => by
    have ih := splitB_mem c l
    simp only [splitB] at h
    split at h
    · simp only [List.mem_cons] at h
      rcases h with rfl | h
      · simp
      · have := ih x h; simp; omega
    · cases hh : splitB c l with
      | nil => rw [hh] at h; simp at h; subst h; simp
      | cons a t =>
        rw [hh] at h ih
        simp only [List.mem_cons] at h
        rcases h with rfl | h
        · have := ih a (by simp); simp; omega
        · have := ih x (by simp [h]); simp; omega
theorem nodeB_len (s : List UInt8) (i : Int) : (nodeB (splitB 46 s) i).length ≤ s.length := by
  unfold nodeB
  simp only
  generalize (if i < 0 then i + ((splitB 46 s).length : Int) else i) = j
  split
  · simp
  · rename_i h
    have hj : j.toNat < (splitB 46 s).length := by omega
    rw [List.getD_eq_getElem?_getD, List.getElem?_eq_getElem hj]
    exact splitB_mem 46 s _ (List.getElem_mem hj)
theorem keyB_join {s : List UInt8} {ns : List Int} (hs : s.length ≤ 100000) (hn : ns.length ≤ 1000) : (joinB [46] (keyB s ns)).length ≤ 1000000000 := by
  have h := joinB_len [46] s.length (keyB s ns) (fun x hx => by
    simp only [keyB, List.mem_map] at hx
    obtain ⟨n, _, rfl⟩ := hx
    exact Nat.le_trans (nodeB_len _ _) (baseB_len s))
  rw [keyB_len] at h
  have : ns.length * (s.length + [46].length) ≤ 1000 * 100001 := Nat.mul_le_mul hn (by simp; omega)
  omega
@[go_sem] theorem res_fnameKey {kk : SK} (s : List UInt8) (x1 x2 x3 x4 : PV) (ns : List Int) (hs : s.length ≤ 100000) (hn : ns.length ≤ 1000) (hr : ∀ n ∈ ns, -9223372036854775808 ≤ n ∧ n ≤ 9223372036854775807) :
    res Γ 6 [.agg [.str s, x1, x2, x3, x4], .sl kk 1 (ints .i64 ns)] = some [.str (joinB [46] (keyB s ns))] := by
  have hj := @keyB_join s ns hs hn
  have hk := @keyB_len s ns
  refine res_code (fn := fname_Key) rfl rfl ?_
  simp (disch := first | assumption | omega | (simp only [List.length_cons, List.length_nil, List.length_append, List.length_replicate, List.length_map, List.length_set, List.length_take, List.length_drop, strs_len, ints_len, bools_len, aggs_len]; done) | (simp only [List.length_cons, List.length_nil, List.length_append, List.length_replicate, List.length_map, List.length_set, List.length_take, List.length_drop, strs_len, ints_len, bools_len, aggs_len]; omega)) only [go_sem, fname_Key]
  refine fname_Key_l1_ok s x1 x2 x3 x4 ns (by omega) (by omega) hr _ ns.length 0 (by omega) (fun H => ?_)
  simp (disch := first | assumption | omega | (simp only [List.length_cons, List.length_nil, List.length_append, List.length_replicate, List.length_map, List.length_set, List.length_take, List.length_drop, strs_len, ints_len, bools_len, aggs_len]; done) | (simp only [List.length_cons, List.length_nil, List.length_append, List.length_replicate, List.length_map, List.length_set, List.length_take, List.length_drop, strs_len, ints_len, bools_len, aggs_len]; omega)) only [go_sem]
@[go_sem] theorem res_r24Key {kk : SK} (s : List UInt8) (x1 x2 x3 x4 : PV) (ns : List Int) (hs : s.length ≤ 100000) (hn : ns.length ≤ 1000) (hr : ∀ n ∈ ns, -9223372036854775808 ≤ n ∧ n ≤ 9223372036854775807) :
    res Γ 7 [.agg [.str s, x1, x2, x3, x4], .sl kk 1 (ints .i64 ns)] = some [.str (joinB [46] (keyB s ns))] := by
  have hj := @keyB_join s ns hs hn
  have hk := @keyB_len s ns
  refine res_code (fn := r24_Key) rfl rfl ?_
  simp (disch := first | assumption | omega | (simp only [List.length_cons, List.length_nil, List.length_append, List.length_replicate, List.length_map, List.length_set, List.length_take, List.length_drop, strs_len, ints_len, bools_len, aggs_len]; done) | (simp only [List.length_cons, List.length_nil, List.length_append, List.length_replicate, List.length_map, List.length_set, List.length_take, List.length_drop, strs_len, ints_len, bools_len, aggs_len]; omega)) only [go_sem, r24_Key]
  refine r24_Key_l1_ok s x1 x2 x3 x4 ns (by omega) (by omega) hr _ ns.length 0 (by omega) (fun H => ?_)
  simp (disch := first | assumption | omega | (simp only [List.length_cons, List.length_nil, List.length_append, List.length_replicate, List.length_map, List.length_set, List.length_take, List.length_drop, strs_len, ints_len, bools_len, aggs_len]; done) | (simp only [List.length_cons, List.length_nil, List.length_append, List.length_replicate, List.length_map, List.length_set, List.length_take, List.length_drop, strs_len, ints_len, bools_len, aggs_len]; omega)) only [go_sem]
end Ab
