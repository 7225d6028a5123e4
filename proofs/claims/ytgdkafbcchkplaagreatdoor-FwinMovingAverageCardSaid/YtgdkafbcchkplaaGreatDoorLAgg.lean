import Derived.Test.YtgdkafbcchkplaaGreatDoorLVal
/- Many values as one: agg.Known, agg.Of, fixed.Add and the references'. -/
namespace Ab
open Go (IntKind BinOp UnOp)
theorem knL_take {l : List Val} {i : Nat} (h : i < l.length) : knL (l.take (i + 1)) = if knV (l.getD i (false, 0)) = true then knL (l.take i) ++ [l.getD i (false, 0)] else knL (l.take i) := by
  rw [take_snoc' (false, 0) h]
  unfold knL
  rw [List.filter_append]
  split
  · rename_i hk; rw [List.filter_cons_of_pos hk]; rfl
  · rename_i hk; rw [List.filter_cons_of_neg hk]; simp
theorem knL_len (l : List Val) : (knL l).length ≤ l.length := List.length_filter_le _ _
theorem knL_take_len (l : List Val) (i : Nat) : (knL (l.take i)).length ≤ i := by
  have := knL_len (l.take i)
  rw [List.length_take] at this
  omega
theorem agg_Known_l1_ok {kk : SK} (l : List Val) (hl : l.length < 1000000000) (Q : Out → Prop) : ∀ (k i : Nat) (T : Heap), i + k = l.length →
    (∀ T, Q (.nrm, [(3, .own 0 (knL l).length)], .row false 2 (vpv (knL l)) :: T)) →
    Wp Γ agg_Known_l1 [(3, .own 0 (knL (l.take i)).length), (6, .p (.sl kk 2 (vpv l))), (7, .p (.int .i64 (l.length : Int))), (8, .p (.int .i64 (i : Int)))] (.row false 2 (vpv (knL (l.take i))) :: T) (InBlk [3] 0 Q) := by
  intro k
  induction k with
  | zero =>
    intro i T hi hQ
    obtain rfl : i = l.length := by omega
    rw [W_loop (L := agg_Known_l1) rfl]
    simp (disch := first | assumption | omega | decide | (simp only [List.length_cons, List.length_nil, List.length_append, List.length_replicate, List.length_map, List.length_set, List.length_take, List.length_drop, strs_len, ints_len, bools_len, aggs_len, vpv_len]; done) | (simp only [List.length_cons, List.length_nil, List.length_append, List.length_replicate, List.length_map, List.length_set, List.length_take, List.length_drop, strs_len, ints_len, bools_len, aggs_len, vpv_len]; omega)) only [go_sem]
    rw [List.take_length]
    exact hQ _
  | succ k ih =>
    intro i T hi hQ
    have g := knL_take_len l i
    have e := knL_take (l := l) (i := i) (by omega)
    have hw : (vpv (knL (l.take i))).length = (knL (l.take i)).length := vpv_len
    rw [W_loop (L := agg_Known_l1) rfl]
    simp (disch := first | assumption | omega | decide | (simp only [List.length_cons, List.length_nil, List.length_append, List.length_replicate, List.length_map, List.length_set, List.length_take, List.length_drop, strs_len, ints_len, bools_len, aggs_len, vpv_len]; done) | (simp only [List.length_cons, List.length_nil, List.length_append, List.length_replicate, List.length_map, List.length_set, List.length_take, List.length_drop, strs_len, ints_len, bools_len, aggs_len, vpv_len]; omega)) only [go_sem, valP]
    generalize hx : l.getD i (false, 0) = x at e ⊢
    obtain ⟨b, n⟩ := x
    cases b
    · have hk : knV (false, n) = false := rfl
      rw [hk, if_neg (by simp)] at e
      simp (disch := first | assumption | omega | decide | (simp only [List.length_cons, List.length_nil, List.length_append, List.length_replicate, List.length_map, List.length_set, List.length_take, List.length_drop, strs_len, ints_len, bools_len, aggs_len, vpv_len]; done) | (simp only [List.length_cons, List.length_nil, List.length_append, List.length_replicate, List.length_map, List.length_set, List.length_take, List.length_drop, strs_len, ints_len, bools_len, aggs_len, vpv_len]; omega)) only [go_sem]
      rw [← e]
      exact ih (i + 1) _ (by omega) hQ
    · cases hv : isV (true, n)
      · have hk : knV (true, n) = false := by simp [knV, hv]
        rw [hk, if_neg (by simp)] at e
        simp (disch := first | assumption | omega | decide | (simp only [List.length_cons, List.length_nil, List.length_append, List.length_replicate, List.length_map, List.length_set, List.length_take, List.length_drop, strs_len, ints_len, bools_len, aggs_len, vpv_len]; done) | (simp only [List.length_cons, List.length_nil, List.length_append, List.length_replicate, List.length_map, List.length_set, List.length_take, List.length_drop, strs_len, ints_len, bools_len, aggs_len, vpv_len]; omega)) only [go_sem, hv]
        rw [← e]
        exact ih (i + 1) _ (by omega) hQ
      · have hk : knV (true, n) = true := by simp [knV, hv]
        rw [hk, if_pos rfl] at e
        simp (disch := first | assumption | omega | decide | (simp only [List.length_cons, List.length_nil, List.length_append, List.length_replicate, List.length_map, List.length_set, List.length_take, List.length_drop, strs_len, ints_len, bools_len, aggs_len, vpv_len]; done) | (simp only [List.length_cons, List.length_nil, List.length_append, List.length_replicate, List.length_map, List.length_set, List.length_take, List.length_drop, strs_len, ints_len, bools_len, aggs_len, vpv_len]; omega)) only [go_sem, hv]
        rw [← e, show (knL (l.take i)).length + 1 = (knL (l.take (i + 1))).length by rw [e]; simp]
        exact ih (i + 1) _ (by omega) hQ
@[go_sem] theorem res_aggKnown {kk : SK} (l : List Val) (hl : l.length < 1000000000) : res Γ 140 [.sl kk 2 (vpv l)] = some [.sl .any 2 (vpv (knL l))] := by
  have hw : (vpv (knL l)).length = (knL l).length := vpv_len
  refine res_code (fn := agg_Known) rfl rfl ?_
  simp (disch := first | assumption | omega | decide | (simp only [List.length_cons, List.length_nil, List.length_append, List.length_replicate, List.length_map, List.length_set, List.length_take, List.length_drop, strs_len, ints_len, bools_len, aggs_len, vpv_len]; done) | (simp only [List.length_cons, List.length_nil, List.length_append, List.length_replicate, List.length_map, List.length_set, List.length_take, List.length_drop, strs_len, ints_len, bools_len, aggs_len, vpv_len]; omega)) only [go_sem, agg_Known]
  refine agg_Known_l1_ok l hl _ l.length 0 [] (by omega) (fun T => ?_)
  simp (disch := first | assumption | omega | decide | (simp only [List.length_cons, List.length_nil, List.length_append, List.length_replicate, List.length_map, List.length_set, List.length_take, List.length_drop, strs_len, ints_len, bools_len, aggs_len, vpv_len]; done) | (simp only [List.length_cons, List.length_nil, List.length_append, List.length_replicate, List.length_map, List.length_set, List.length_take, List.length_drop, strs_len, ints_len, bools_len, aggs_len, vpv_len]; omega)) only [go_sem]
theorem r6_Known_l1_ok {kk : SK} (l : List Val) (hl : l.length < 1000000000) (Q : Out → Prop) : ∀ (k i : Nat), i + k = l.length →
    (Q (.nrm, [(3, .own 0 (knL l).length)], [.row false 2 (vpv (knL l))])) →
    Wp Γ r6_Known_l1 [(0, .p (.sl kk 2 (vpv l))), (3, .own 0 (knL (l.take i)).length), (4, .p (.int .i64 (i : Int)))] [.row false 2 (vpv (knL (l.take i)))] (InBlk [3] 0 Q) := by
  intro k
  induction k with
  | zero =>
    intro i hi hQ
    obtain rfl : i = l.length := by omega
    rw [W_loop (L := r6_Known_l1) rfl]
    simp (disch := first | assumption | omega | decide | (simp only [List.length_cons, List.length_nil, List.length_append, List.length_replicate, List.length_map, List.length_set, List.length_take, List.length_drop, strs_len, ints_len, bools_len, aggs_len, vpv_len]; done) | (simp only [List.length_cons, List.length_nil, List.length_append, List.length_replicate, List.length_map, List.length_set, List.length_take, List.length_drop, strs_len, ints_len, bools_len, aggs_len, vpv_len]; omega)) only [go_sem]
    rw [List.take_length]
    exact hQ
  | succ k ih =>
    intro i hi hQ
    have g := knL_take_len l i
    have e := knL_take (l := l) (i := i) (by omega)
    have hw : (vpv (knL (l.take i))).length = (knL (l.take i)).length := vpv_len
    rw [W_loop (L := r6_Known_l1) rfl]
    simp (disch := first | assumption | omega | decide | (simp only [List.length_cons, List.length_nil, List.length_append, List.length_replicate, List.length_map, List.length_set, List.length_take, List.length_drop, strs_len, ints_len, bools_len, aggs_len, vpv_len]; done) | (simp only [List.length_cons, List.length_nil, List.length_append, List.length_replicate, List.length_map, List.length_set, List.length_take, List.length_drop, strs_len, ints_len, bools_len, aggs_len, vpv_len]; omega)) only [go_sem, valP]
    cases hk : knV (l.getD i (false, 0))
    · rw [hk, if_neg (by simp)] at e
      simp (disch := first | assumption | omega | decide | (simp only [List.length_cons, List.length_nil, List.length_append, List.length_replicate, List.length_map, List.length_set, List.length_take, List.length_drop, strs_len, ints_len, bools_len, aggs_len, vpv_len]; done) | (simp only [List.length_cons, List.length_nil, List.length_append, List.length_replicate, List.length_map, List.length_set, List.length_take, List.length_drop, strs_len, ints_len, bools_len, aggs_len, vpv_len]; omega)) only [go_sem]
      rw [← e]
      exact ih (i + 1) (by omega) hQ
    · rw [hk, if_pos rfl] at e
      simp (disch := first | assumption | omega | decide | (simp only [List.length_cons, List.length_nil, List.length_append, List.length_replicate, List.length_map, List.length_set, List.length_take, List.length_drop, strs_len, ints_len, bools_len, aggs_len, vpv_len]; done) | (simp only [List.length_cons, List.length_nil, List.length_append, List.length_replicate, List.length_map, List.length_set, List.length_take, List.length_drop, strs_len, ints_len, bools_len, aggs_len, vpv_len]; omega)) only [go_sem, valP]
      rw [← e, show (knL (l.take i)).length + 1 = (knL (l.take (i + 1))).length by rw [e]; simp]
      exact ih (i + 1) (by omega) hQ
@[go_sem] theorem res_r6Known {kk : SK} (l : List Val) (hl : l.length < 1000000000) : res Γ 131 [.sl kk 2 (vpv l)] = some [.sl .any 2 (vpv (knL l))] := by
  have hw : (vpv (knL l)).length = (knL l).length := vpv_len
  refine res_code (fn := r6_Known) rfl rfl ?_
  simp (disch := first | assumption | omega | decide | (simp only [List.length_cons, List.length_nil, List.length_append, List.length_replicate, List.length_map, List.length_set, List.length_take, List.length_drop, strs_len, ints_len, bools_len, aggs_len, vpv_len]; done) | (simp only [List.length_cons, List.length_nil, List.length_append, List.length_replicate, List.length_map, List.length_set, List.length_take, List.length_drop, strs_len, ints_len, bools_len, aggs_len, vpv_len]; omega)) only [go_sem, r6_Known]
  refine r6_Known_l1_ok l hl _ l.length 0 (by omega) ?_
  simp (disch := first | assumption | omega | decide | (simp only [List.length_cons, List.length_nil, List.length_append, List.length_replicate, List.length_map, List.length_set, List.length_take, List.length_drop, strs_len, ints_len, bools_len, aggs_len, vpv_len]; done) | (simp only [List.length_cons, List.length_nil, List.length_append, List.length_replicate, List.length_map, List.length_set, List.length_take, List.length_drop, strs_len, ints_len, bools_len, aggs_len, vpv_len]; omega)) only [go_sem]
end Ab
