import Derived.Test.YtgdkafbcchkplaaGreatDoorCode
import Derived.Test.YtgdkafbcchkplaaGreatDoorLVrow
/- Values in millionths: packages fixed and graticuleref1 in part. -/
namespace Ab
open Go (IntKind BinOp UnOp)
theorem isV_eq (b : Bool) (n : Int) : isV (b, n) = if b = true then decide (-4611686018427387904 ≤ n ∧ n ≤ 4611686018427387904) else decide (n = 0) := rfl
@[go_sem] theorem res_fixedIs (b : Bool) (n : Int) : res Γ 126 [.agg [.bool b, .int .i64 n]] = some [.bool (isV (b, n))] := by
  refine res_code (fn := fixed_Is) rfl rfl ?_
  cases b
  · simp (disch := first | assumption | omega | decide | (simp only [List.length_cons, List.length_nil, List.length_append, List.length_replicate, List.length_map, List.length_set, List.length_take, List.length_drop, strs_len, ints_len, bools_len, aggs_len, vpv_len]; done) | (simp only [List.length_cons, List.length_nil, List.length_append, List.length_replicate, List.length_map, List.length_set, List.length_take, List.length_drop, strs_len, ints_len, bools_len, aggs_len, vpv_len]; omega)) only [go_sem, fixed_Is, isV_eq]
  · repeat' (first | (simp (disch := first | assumption | omega | decide | (simp only [List.length_cons, List.length_nil, List.length_append, List.length_replicate, List.length_map, List.length_set, List.length_take, List.length_drop, strs_len, ints_len, bools_len, aggs_len, vpv_len]; done) | (simp only [List.length_cons, List.length_nil, List.length_append, List.length_replicate, List.length_map, List.length_set, List.length_take, List.length_drop, strs_len, ints_len, bools_len, aggs_len, vpv_len]; omega)) only [go_sem, fixed_Is, isV_eq]) | refine cond_split (fun hc => ?_) (fun hc => ?_) | refine gd_split_f (fun hc => ?_) (fun hc => ?_) | refine gd_split_t (fun hc => ?_) (fun hc => ?_))
    all_goals (simp only [Option.some.injEq, List.cons.injEq, PV.bool.injEq, and_true]; first | (symm; apply decide_eq_false; omega) | (rw [Bool.eq_iff_iff]; simp only [decide_eq_true_eq]; omega))
@[go_sem] theorem res_r1Is (b : Bool) (n : Int) : res Γ 120 [.agg [.bool b, .int .i64 n]] = some [.bool (isV (b, n))] := by
  refine res_code (fn := r1_Is) rfl rfl ?_
  cases b
  · simp (disch := first | assumption | omega | decide | (simp only [List.length_cons, List.length_nil, List.length_append, List.length_replicate, List.length_map, List.length_set, List.length_take, List.length_drop, strs_len, ints_len, bools_len, aggs_len, vpv_len]; done) | (simp only [List.length_cons, List.length_nil, List.length_append, List.length_replicate, List.length_map, List.length_set, List.length_take, List.length_drop, strs_len, ints_len, bools_len, aggs_len, vpv_len]; omega)) only [go_sem, r1_Is, isV_eq]
  · repeat' (first | (simp (disch := first | assumption | omega | decide | (simp only [List.length_cons, List.length_nil, List.length_append, List.length_replicate, List.length_map, List.length_set, List.length_take, List.length_drop, strs_len, ints_len, bools_len, aggs_len, vpv_len]; done) | (simp only [List.length_cons, List.length_nil, List.length_append, List.length_replicate, List.length_map, List.length_set, List.length_take, List.length_drop, strs_len, ints_len, bools_len, aggs_len, vpv_len]; omega)) only [go_sem, r1_Is, isV_eq]) | refine cond_split (fun hc => ?_) (fun hc => ?_) | refine gd_split_f (fun hc => ?_) (fun hc => ?_) | refine gd_split_t (fun hc => ?_) (fun hc => ?_))
    all_goals (simp only [Option.some.injEq, List.cons.injEq, PV.bool.injEq, and_true]; first | (symm; apply decide_eq_false; omega) | (rw [Bool.eq_iff_iff]; simp only [decide_eq_true_eq]; omega))
@[go_sem] theorem res_fixedKnown (b : Bool) (n : Int) : res Γ 146 [.agg [.bool b, .int .i64 n]] = some [.bool (knV (b, n))] := by
  refine res_code (fn := fixed_known) rfl rfl ?_
  cases b
  · simp (disch := first | assumption | omega | decide | (simp only [List.length_cons, List.length_nil, List.length_append, List.length_replicate, List.length_map, List.length_set, List.length_take, List.length_drop, strs_len, ints_len, bools_len, aggs_len, vpv_len]; done) | (simp only [List.length_cons, List.length_nil, List.length_append, List.length_replicate, List.length_map, List.length_set, List.length_take, List.length_drop, strs_len, ints_len, bools_len, aggs_len, vpv_len]; omega)) only [go_sem, fixed_known, knV]
  · simp (disch := first | assumption | omega | decide | (simp only [List.length_cons, List.length_nil, List.length_append, List.length_replicate, List.length_map, List.length_set, List.length_take, List.length_drop, strs_len, ints_len, bools_len, aggs_len, vpv_len]; done) | (simp only [List.length_cons, List.length_nil, List.length_append, List.length_replicate, List.length_map, List.length_set, List.length_take, List.length_drop, strs_len, ints_len, bools_len, aggs_len, vpv_len]; omega)) only [go_sem, fixed_known, knV]
@[go_sem] theorem res_r1Known (b : Bool) (n : Int) : res Γ 135 [.agg [.bool b, .int .i64 n]] = some [.bool (knV (b, n))] := by
  refine res_code (fn := r1_Known) rfl rfl ?_
  cases b
  · simp (disch := first | assumption | omega | decide | (simp only [List.length_cons, List.length_nil, List.length_append, List.length_replicate, List.length_map, List.length_set, List.length_take, List.length_drop, strs_len, ints_len, bools_len, aggs_len, vpv_len]; done) | (simp only [List.length_cons, List.length_nil, List.length_append, List.length_replicate, List.length_map, List.length_set, List.length_take, List.length_drop, strs_len, ints_len, bools_len, aggs_len, vpv_len]; omega)) only [go_sem, r1_Known, knV]
  · simp (disch := first | assumption | omega | decide | (simp only [List.length_cons, List.length_nil, List.length_append, List.length_replicate, List.length_map, List.length_set, List.length_take, List.length_drop, strs_len, ints_len, bools_len, aggs_len, vpv_len]; done) | (simp only [List.length_cons, List.length_nil, List.length_append, List.length_replicate, List.length_map, List.length_set, List.length_take, List.length_drop, strs_len, ints_len, bools_len, aggs_len, vpv_len]; omega)) only [go_sem, r1_Known, knV]
@[go_sem] theorem res_r1two (b : Bool) (n : Int) (c : Bool) (m : Int) : res Γ 141 [.agg [.bool b, .int .i64 n], .agg [.bool c, .int .i64 m]] = some [.bool (knV (b, n) && knV (c, m))] := by
  refine res_code (fn := r1_two) rfl rfl ?_
  simp (disch := first | assumption | omega | decide | (simp only [List.length_cons, List.length_nil, List.length_append, List.length_replicate, List.length_map, List.length_set, List.length_take, List.length_drop, strs_len, ints_len, bools_len, aggs_len, vpv_len]; done) | (simp only [List.length_cons, List.length_nil, List.length_append, List.length_replicate, List.length_map, List.length_set, List.length_take, List.length_drop, strs_len, ints_len, bools_len, aggs_len, vpv_len]; omega)) only [go_sem, r1_two]
  cases h : knV (b, n)
  · simp (disch := first | assumption | omega | decide | (simp only [List.length_cons, List.length_nil, List.length_append, List.length_replicate, List.length_map, List.length_set, List.length_take, List.length_drop, strs_len, ints_len, bools_len, aggs_len, vpv_len]; done) | (simp only [List.length_cons, List.length_nil, List.length_append, List.length_replicate, List.length_map, List.length_set, List.length_take, List.length_drop, strs_len, ints_len, bools_len, aggs_len, vpv_len]; omega)) only [go_sem]
  · simp (disch := first | assumption | omega | decide | (simp only [List.length_cons, List.length_nil, List.length_append, List.length_replicate, List.length_map, List.length_set, List.length_take, List.length_drop, strs_len, ints_len, bools_len, aggs_len, vpv_len]; done) | (simp only [List.length_cons, List.length_nil, List.length_append, List.length_replicate, List.length_map, List.length_set, List.length_take, List.length_drop, strs_len, ints_len, bools_len, aggs_len, vpv_len]; omega)) only [go_sem]
theorem ofV_in {n : Int} (h : -4611686018427387904 ≤ n ∧ n ≤ 4611686018427387904) : ofV n = (true, n) := by unfold ofV maxN; rw [if_pos h]
theorem ofV_out {n : Int} (h : ¬ (-4611686018427387904 ≤ n ∧ n ≤ 4611686018427387904)) : ofV n = (false, 0) := by unfold ofV maxN noV; rw [if_neg h]
@[go_sem] theorem res_fixedOf (n : Int) : res Γ 143 [.int .i64 n] = some [.agg [.bool (ofV n).1, .int .i64 (ofV n).2]] := by
  refine res_code (fn := fixed_Of) rfl rfl ?_
  by_cases h : -4611686018427387904 ≤ n ∧ n ≤ 4611686018427387904
  · have e : isV (true, n) = true := by simp [isV, maxN, h]
    simp (disch := first | assumption | omega | decide | (simp only [List.length_cons, List.length_nil, List.length_append, List.length_replicate, List.length_map, List.length_set, List.length_take, List.length_drop, strs_len, ints_len, bools_len, aggs_len, vpv_len]; done) | (simp only [List.length_cons, List.length_nil, List.length_append, List.length_replicate, List.length_map, List.length_set, List.length_take, List.length_drop, strs_len, ints_len, bools_len, aggs_len, vpv_len]; omega)) only [go_sem, fixed_Of, e, ofV_in]
  · have e : isV (true, n) = false := by rw [isV_eq, if_pos rfl]; exact decide_eq_false h
    simp (disch := first | assumption | omega | decide | (simp only [List.length_cons, List.length_nil, List.length_append, List.length_replicate, List.length_map, List.length_set, List.length_take, List.length_drop, strs_len, ints_len, bools_len, aggs_len, vpv_len]; done) | (simp only [List.length_cons, List.length_nil, List.length_append, List.length_replicate, List.length_map, List.length_set, List.length_take, List.length_drop, strs_len, ints_len, bools_len, aggs_len, vpv_len]; omega)) only [go_sem, fixed_Of, e, ofV_out]
@[go_sem] theorem res_r1Of (n : Int) : res Γ 134 [.int .i64 n] = some [.agg [.bool (ofV n).1, .int .i64 (ofV n).2]] := by
  refine res_code (fn := r1_Of) rfl rfl ?_
  by_cases h : -4611686018427387904 ≤ n ∧ n ≤ 4611686018427387904
  · simp (disch := first | assumption | omega | decide | (simp only [List.length_cons, List.length_nil, List.length_append, List.length_replicate, List.length_map, List.length_set, List.length_take, List.length_drop, strs_len, ints_len, bools_len, aggs_len, vpv_len]; done) | (simp only [List.length_cons, List.length_nil, List.length_append, List.length_replicate, List.length_map, List.length_set, List.length_take, List.length_drop, strs_len, ints_len, bools_len, aggs_len, vpv_len]; omega)) only [go_sem, r1_Of, ofV_in]
  · repeat' (first | (simp (disch := first | assumption | omega | decide | (simp only [List.length_cons, List.length_nil, List.length_append, List.length_replicate, List.length_map, List.length_set, List.length_take, List.length_drop, strs_len, ints_len, bools_len, aggs_len, vpv_len]; done) | (simp only [List.length_cons, List.length_nil, List.length_append, List.length_replicate, List.length_map, List.length_set, List.length_take, List.length_drop, strs_len, ints_len, bools_len, aggs_len, vpv_len]; omega)) only [go_sem, r1_Of, ofV_out]) | refine cond_split (fun hc => ?_) (fun hc => ?_) | refine gd_split_f (fun hc => ?_) (fun hc => ?_) | refine gd_split_t (fun hc => ?_) (fun hc => ?_))
theorem knV_pair {b : Bool} {n : Int} (h : knV (b, n) = true) : b = true ∧ -4611686018427387904 ≤ n ∧ n ≤ 4611686018427387904 := knV_iff.1 h
theorem sumV_no1 {a b : Val} (h : knV a = false) : sumV a b = (false, 0) := by unfold sumV; rw [if_neg (by rw [h]; simp)]; rfl
theorem sumV_no2 {a b : Val} (h : knV b = false) : sumV a b = (false, 0) := by unfold sumV; rw [if_neg (by rw [h]; simp)]; rfl
theorem sumV_yes {a b : Val} (h : knV a = true) (h' : knV b = true) : sumV a b = ofV (a.2 + b.2) := by unfold sumV; rw [if_pos ⟨h, h'⟩]
@[go_sem] theorem res_fixedSum (b : Bool) (n : Int) (c : Bool) (m : Int) : res Γ 142 [.agg [.bool b, .int .i64 n], .agg [.bool c, .int .i64 m]] = some [.agg [.bool (sumV (b, n) (c, m)).1, .int .i64 (sumV (b, n) (c, m)).2]] := by
  refine res_code (fn := fixed_sum) rfl rfl ?_
  cases h : knV (b, n)
  · simp (disch := first | assumption | omega | decide | (simp only [List.length_cons, List.length_nil, List.length_append, List.length_replicate, List.length_map, List.length_set, List.length_take, List.length_drop, strs_len, ints_len, bools_len, aggs_len, vpv_len]; done) | (simp only [List.length_cons, List.length_nil, List.length_append, List.length_replicate, List.length_map, List.length_set, List.length_take, List.length_drop, strs_len, ints_len, bools_len, aggs_len, vpv_len]; omega)) only [go_sem, fixed_sum, h, sumV_no1 h]
  · cases h' : knV (c, m)
    · simp (disch := first | assumption | omega | decide | (simp only [List.length_cons, List.length_nil, List.length_append, List.length_replicate, List.length_map, List.length_set, List.length_take, List.length_drop, strs_len, ints_len, bools_len, aggs_len, vpv_len]; done) | (simp only [List.length_cons, List.length_nil, List.length_append, List.length_replicate, List.length_map, List.length_set, List.length_take, List.length_drop, strs_len, ints_len, bools_len, aggs_len, vpv_len]; omega)) only [go_sem, fixed_sum, h, h', sumV_no2 h']
    · obtain ⟨_, g1, g2⟩ := knV_pair h
      obtain ⟨_, g3, g4⟩ := knV_pair h'
      repeat' (first | (simp (disch := first | assumption | omega | decide | (simp only [List.length_cons, List.length_nil, List.length_append, List.length_replicate, List.length_map, List.length_set, List.length_take, List.length_drop, strs_len, ints_len, bools_len, aggs_len, vpv_len]; done) | (simp only [List.length_cons, List.length_nil, List.length_append, List.length_replicate, List.length_map, List.length_set, List.length_take, List.length_drop, strs_len, ints_len, bools_len, aggs_len, vpv_len]; omega)) only [go_sem, fixed_sum, h, h', sumV_yes h h']) | refine cond_split (fun hc => ?_) (fun hc => ?_) | refine gd_split_f (fun hc => ?_) (fun hc => ?_) | refine gd_split_t (fun hc => ?_) (fun hc => ?_))
      all_goals rw [ofV_out (by omega)]
@[go_sem] theorem res_r1plus (b : Bool) (n : Int) (c : Bool) (m : Int) : res Γ 133 [.agg [.bool b, .int .i64 n], .agg [.bool c, .int .i64 m]] = some [.agg [.bool (sumV (b, n) (c, m)).1, .int .i64 (sumV (b, n) (c, m)).2]] := by
  refine res_code (fn := r1_plus) rfl rfl ?_
  cases h : knV (b, n)
  · simp (disch := first | assumption | omega | decide | (simp only [List.length_cons, List.length_nil, List.length_append, List.length_replicate, List.length_map, List.length_set, List.length_take, List.length_drop, strs_len, ints_len, bools_len, aggs_len, vpv_len]; done) | (simp only [List.length_cons, List.length_nil, List.length_append, List.length_replicate, List.length_map, List.length_set, List.length_take, List.length_drop, strs_len, ints_len, bools_len, aggs_len, vpv_len]; omega)) only [go_sem, r1_plus, h, sumV_no1 h]
  · cases h' : knV (c, m)
    · simp (disch := first | assumption | omega | decide | (simp only [List.length_cons, List.length_nil, List.length_append, List.length_replicate, List.length_map, List.length_set, List.length_take, List.length_drop, strs_len, ints_len, bools_len, aggs_len, vpv_len]; done) | (simp only [List.length_cons, List.length_nil, List.length_append, List.length_replicate, List.length_map, List.length_set, List.length_take, List.length_drop, strs_len, ints_len, bools_len, aggs_len, vpv_len]; omega)) only [go_sem, r1_plus, h, h', sumV_no2 h']
    · obtain ⟨_, g1, g2⟩ := knV_pair h
      obtain ⟨_, g3, g4⟩ := knV_pair h'
      repeat' (first | (simp (disch := first | assumption | omega | decide | (simp only [List.length_cons, List.length_nil, List.length_append, List.length_replicate, List.length_map, List.length_set, List.length_take, List.length_drop, strs_len, ints_len, bools_len, aggs_len, vpv_len]; done) | (simp only [List.length_cons, List.length_nil, List.length_append, List.length_replicate, List.length_map, List.length_set, List.length_take, List.length_drop, strs_len, ints_len, bools_len, aggs_len, vpv_len]; omega)) only [go_sem, r1_plus, h, h', sumV_yes h h']) | refine cond_split (fun hc => ?_) (fun hc => ?_) | refine gd_split_f (fun hc => ?_) (fun hc => ?_) | refine gd_split_t (fun hc => ?_) (fun hc => ?_))
      all_goals rw [ofV_out (by omega)]
@[go_sem] theorem res_fixedLess (b : Bool) (n : Int) (c : Bool) (m : Int) : res Γ 139 [.agg [.bool b, .int .i64 n], .agg [.bool c, .int .i64 m]] = some [.bool (lessV (b, n) (c, m))] := by
  refine res_code (fn := fixed_Less) rfl rfl ?_
  cases h : knV (b, n)
  · simp (disch := first | assumption | omega | decide | (simp only [List.length_cons, List.length_nil, List.length_append, List.length_replicate, List.length_map, List.length_set, List.length_take, List.length_drop, strs_len, ints_len, bools_len, aggs_len, vpv_len]; done) | (simp only [List.length_cons, List.length_nil, List.length_append, List.length_replicate, List.length_map, List.length_set, List.length_take, List.length_drop, strs_len, ints_len, bools_len, aggs_len, vpv_len]; omega)) only [go_sem, fixed_Less, h, lessV]
  · cases h' : knV (c, m)
    · simp (disch := first | assumption | omega | decide | (simp only [List.length_cons, List.length_nil, List.length_append, List.length_replicate, List.length_map, List.length_set, List.length_take, List.length_drop, strs_len, ints_len, bools_len, aggs_len, vpv_len]; done) | (simp only [List.length_cons, List.length_nil, List.length_append, List.length_replicate, List.length_map, List.length_set, List.length_take, List.length_drop, strs_len, ints_len, bools_len, aggs_len, vpv_len]; omega)) only [go_sem, fixed_Less, h, h', lessV]
    · simp (disch := first | assumption | omega | decide | (simp only [List.length_cons, List.length_nil, List.length_append, List.length_replicate, List.length_map, List.length_set, List.length_take, List.length_drop, strs_len, ints_len, bools_len, aggs_len, vpv_len]; done) | (simp only [List.length_cons, List.length_nil, List.length_append, List.length_replicate, List.length_map, List.length_set, List.length_take, List.length_drop, strs_len, ints_len, bools_len, aggs_len, vpv_len]; omega)) only [go_sem, fixed_Less, h, h', lessV]
end Ab
/- Many values as one: agg.Known, agg.Of, fixed.Add and the references'. -/
namespace Ab
open Go (IntKind BinOp UnOp)
theorem knL_take {l : List Val} {i : Nat} (h : i < l.length) : knL (l.take (i + 1)) = if knV (l.getD i (false, 0)) = true then knL (l.take i) ++ [l.getD i (false, 0)] else knL (l.take i) := by
  rw [take_snoc' (false, 0) h]
  unfold knL
  rw [List.filter_append]
  split
  · rename_i hk; rw [List.filter_cons_of_pos hk]; rfl
  · rename_i hk; rw [List.filter_cons_of_neg hk]; simp
theorem knL_len (l : List Val) : (knL l).length ≤ l.length := List.length_filter_le _ _
theorem knL_take_len (l : List Val) (i : Nat) : (knL (l.take i)).length ≤ i := by
  have := knL_len (l.take i)
  rw [List.length_take] at this
  omega
theorem agg_Known_l1_ok {kk : SK} (l : List Val) (hl : l.length < 1000000000) (Q : Out → Prop) : ∀ (k i : Nat) (T : Heap), i + k = l.length →
    (∀ T, Q (.nrm, [(3, .own 0 (knL l).length)], .row false 2 (vpv (knL l)) :: T)) →
    Wp Γ agg_Known_l1 [(3, .own 0 (knL (l.take i)).length), (6, .p (.sl kk 2 (vpv l))), (7, .p (.int .i64 (l.length : Int))), (8, .p (.int .i64 (i : Int)))] (.row false 2 (vpv (knL (l.take i))) :: T) (InBlk [3] 0 Q) := by
  intro k
  induction k with
  | zero =>
    intro i T hi hQ
    obtain rfl : i = l.length := by omega
    rw [W_loop (L := agg_Known_l1) rfl]
    simp (disch := first | assumption | omega | decide | (simp only [List.length_cons, List.length_nil, List.length_append, List.length_replicate, List.length_map, List.length_set, List.length_take, List.length_drop, strs_len, ints_len, bools_len, aggs_len, vpv_len]; done) | (simp only [List.length_cons, List.length_nil, List.length_append, List.length_replicate, List.length_map, List.length_set, List.length_take, List.length_drop, strs_len, ints_len, bools_len, aggs_len, vpv_len]; omega)) only [go_sem]
    rw [List.take_length]
    exact hQ _
  | succ k ih =>
    intro i T hi hQ
    have g := knL_take_len l i
    have e := knL_take (l := l) (i := i) (by omega)
    have hw : (vpv (knL (l.take i))).length = (knL (l.take i)).length := vpv_len
    rw [W_loop (L := agg_Known_l1) rfl]
    simp (disch := first | assumption | omega | decide | (simp only [List.length_cons, List.length_nil, List.length_append, List.length_replicate, List.length_map, List.length_set, List.length_take, List.length_drop, strs_len, ints_len, bools_len, aggs_len, vpv_len]; done) | (simp only [List.length_cons, List.length_nil, List.length_append, List.length_replicate, List.length_map, List.length_set, List.length_take, List.length_drop, strs_len, ints_len, bools_len, aggs_len, vpv_len]; omega)) only [go_sem, valP]
    generalize hx : l.getD i (false, 0) = x at e ⊢
    obtain ⟨b, n⟩ := x
    cases b
    · have hk : knV (false, n) = false := rfl
      rw [hk, if_neg (by simp)] at e
      simp (disch := first | assumption | omega | decide | (simp only [List.length_cons, List.length_nil, List.length_append, List.length_replicate, List.length_map, List.length_set, List.length_take, List.length_drop, strs_len, ints_len, bools_len, aggs_len, vpv_len]; done) | (simp only [List.length_cons, List.length_nil, List.length_append, List.length_replicate, List.length_map, List.length_set, List.length_take, List.length_drop, strs_len, ints_len, bools_len, aggs_len, vpv_len]; omega)) only [go_sem]
      rw [← e]
      exact ih (i + 1) _ (by omega) hQ
    · cases hv : isV (true, n)
      · have hk : knV (true, n) = false := by simp [knV, hv]
        rw [hk, if_neg (by simp)] at e
        simp (disch := first | assumption | omega | decide | (simp only [List.length_cons, List.length_nil, List.length_append, List.length_replicate, List.length_map, List.length_set, List.length_take, List.length_drop, strs_len, ints_len, bools_len, aggs_len, vpv_len]; done) | (simp only [List.length_cons, List.length_nil, List.length_append, List.length_replicate, List.length_map, List.length_set, List.length_take, List.length_drop, strs_len, ints_len, bools_len, aggs_len, vpv_len]; omega)) only [go_sem, hv]
        rw [← e]
        exact ih (i + 1) _ (by omega) hQ
      · have hk : knV (true, n) = true := by simp [knV, hv]
        rw [hk, if_pos rfl] at e
        simp (disch := first | assumption | omega | decide | (simp only [List.length_cons, List.length_nil, List.length_append, List.length_replicate, List.length_map, List.length_set, List.length_take, List.length_drop, strs_len, ints_len, bools_len, aggs_len, vpv_len]; done) | (simp only [List.length_cons, List.length_nil, List.length_append, List.length_replicate, List.length_map, List.length_set, List.length_take, List.length_drop, strs_len, ints_len, bools_len, aggs_len, vpv_len]; omega)) only [go_sem, hv]
        rw [← e, show (knL (l.take i)).length + 1 = (knL (l.take (i + 1))).length by rw [e]; simp]
        exact ih (i + 1) _ (by omega) hQ
@[go_sem] theorem res_aggKnown {kk : SK} (l : List Val) (hl : l.length < 1000000000) : res Γ 140 [.sl kk 2 (vpv l)] = some [.sl .any 2 (vpv (knL l))] := by
  have hw : (vpv (knL l)).length = (knL l).length := vpv_len
  refine res_code (fn := agg_Known) rfl rfl ?_
  simp (disch := first | assumption | omega | decide | (simp only [List.length_cons, List.length_nil, List.length_append, List.length_replicate, List.length_map, List.length_set, List.length_take, List.length_drop, strs_len, ints_len, bools_len, aggs_len, vpv_len]; done) | (simp only [List.length_cons, List.length_nil, List.length_append, List.length_replicate, List.length_map, List.length_set, List.length_take, List.length_drop, strs_len, ints_len, bools_len, aggs_len, vpv_len]; omega)) only [go_sem, agg_Known]
  refine agg_Known_l1_ok l hl _ l.length 0 [] (by omega) (fun T => ?_)
  simp (disch := first | assumption | omega | decide | (simp only [List.length_cons, List.length_nil, List.length_append, List.length_replicate, List.length_map, List.length_set, List.length_take, List.length_drop, strs_len, ints_len, bools_len, aggs_len, vpv_len]; done) | (simp only [List.length_cons, List.length_nil, List.length_append, List.length_replicate, List.length_map, List.length_set, List.length_take, List.length_drop, strs_len, ints_len, bools_len, aggs_len, vpv_len]; omega)) only [go_sem]
theorem r6_Known_l1_ok {kk : SK} (l : List Val) (hl : l.length < 1000000000) (Q : Out → Prop) : ∀ (k i : Nat), i + k = l.length →
    (Q (.nrm, [(3, .own 0 (knL l).length)], [.row false 2 (vpv (knL l))])) →
    Wp Γ r6_Known_l1 [(0, .p (.sl kk 2 (vpv l))), (3, .own 0 (knL (l.take i)).length), (4, .p (.int .i64 (i : Int)))] [.row false 2 (vpv (knL (l.take i)))] (InBlk [3] 0 Q) := by
  intro k
  induction k with
  | zero =>
    intro i hi hQ
    obtain rfl : i = l.length := by omega
    rw [W_loop (L := r6_Known_l1) rfl]
    simp (disch := first | assumption | omega | decide | (simp only [List.length_cons, List.length_nil, List.length_append, List.length_replicate, List.length_map, List.length_set, List.length_take, List.length_drop, strs_len, ints_len, bools_len, aggs_len, vpv_len]; done) | (simp only [List.length_cons, List.length_nil, List.length_append, List.length_replicate, List.length_map, List.length_set, List.length_take, List.length_drop, strs_len, ints_len, bools_len, aggs_len, vpv_len]; omega)) only [go_sem]
    rw [List.take_length]
    exact hQ
  | succ k ih =>
    intro i hi hQ
    have g := knL_take_len l i
    have e := knL_take (l := l) (i := i) (by omega)
    have hw : (vpv (knL (l.take i))).length = (knL (l.take i)).length := vpv_len
    rw [W_loop (L := r6_Known_l1) rfl]
    simp (disch := first | assumption | omega | decide | (simp only [List.length_cons, List.length_nil, List.length_append, List.length_replicate, List.length_map, List.length_set, List.length_take, List.length_drop, strs_len, ints_len, bools_len, aggs_len, vpv_len]; done) | (simp only [List.length_cons, List.length_nil, List.length_append, List.length_replicate, List.length_map, List.length_set, List.length_take, List.length_drop, strs_len, ints_len, bools_len, aggs_len, vpv_len]; omega)) only [go_sem, valP]
    cases hk : knV (l.getD i (false, 0))
    · rw [hk, if_neg (by simp)] at e
      simp (disch := first | assumption | omega | decide | (simp only [List.length_cons, List.length_nil, List.length_append, List.length_replicate, List.length_map, List.length_set, List.length_take, List.length_drop, strs_len, ints_len, bools_len, aggs_len, vpv_len]; done) | (simp only [List.length_cons, List.length_nil, List.length_append, List.length_replicate, List.length_map, List.length_set, List.length_take, List.length_drop, strs_len, ints_len, bools_len, aggs_len, vpv_len]; omega)) only [go_sem]
      rw [← e]
      exact ih (i + 1) (by omega) hQ
    · rw [hk, if_pos rfl] at e
      simp (disch := first | assumption | omega | decide | (simp only [List.length_cons, List.length_nil, List.length_append, List.length_replicate, List.length_map, List.length_set, List.length_take, List.length_drop, strs_len, ints_len, bools_len, aggs_len, vpv_len]; done) | (simp only [List.length_cons, List.length_nil, List.length_append, List.length_replicate, List.length_map, List.length_set, List.length_take, List.length_drop, strs_len, ints_len, bools_len, aggs_len, vpv_len]; omega)) only [go_sem, valP]
      rw [← e, show (knL (l.take i)).length + 1 = (knL (l.take (i + 1))).length by rw [e]; simp]
      exact ih (i + 1) (by omega) hQ
@[go_sem] theorem res_r6Known {kk : SK} (l : List Val) (hl : l.length < 1000000000) : res Γ 131 [.sl kk 2 (vpv l)] = some [.sl .any 2 (vpv (knL l))] := by
  have hw : (vpv (knL l)).length = (knL l).length := vpv_len
  refine res_code (fn := r6_Known) rfl rfl ?_
  simp (disch := first | assumption | omega | decide | (simp only [List.length_cons, List.length_nil, List.length_append, List.length_replicate, List.length_map, List.length_set, List.length_take, List.length_drop, strs_len, ints_len, bools_len, aggs_len, vpv_len]; done) | (simp only [List.length_cons, List.length_nil, List.length_append, List.length_replicate, List.length_map, List.length_set, List.length_take, List.length_drop, strs_len, ints_len, bools_len, aggs_len, vpv_len]; omega)) only [go_sem, r6_Known]
  refine r6_Known_l1_ok l hl _ l.length 0 (by omega) ?_
  simp (disch := first | assumption | omega | decide | (simp only [List.length_cons, List.length_nil, List.length_append, List.length_replicate, List.length_map, List.length_set, List.length_take, List.length_drop, strs_len, ints_len, bools_len, aggs_len, vpv_len]; done) | (simp only [List.length_cons, List.length_nil, List.length_append, List.length_replicate, List.length_map, List.length_set, List.length_take, List.length_drop, strs_len, ints_len, bools_len, aggs_len, vpv_len]; omega)) only [go_sem]
end Ab
