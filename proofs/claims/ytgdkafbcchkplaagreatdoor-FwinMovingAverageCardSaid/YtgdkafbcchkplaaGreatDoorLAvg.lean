import Derived.Test.YtgdkafbcchkplaaGreatDoorLMulDiv2
import Derived.Test.YtgdkafbcchkplaaGreatDoorLFwin1
/- Quotients of values; the mean. -/
namespace Ab
open Go (IntKind BinOp UnOp)
theorem divV_no1 {a b : Val} (h : knV a = false) : divV a b = (false, 0) := by unfold divV; rw [if_neg (by rw [h]; simp)]; rfl
theorem divV_no2 {a b : Val} (h : knV b = false) : divV a b = (false, 0) := by unfold divV; rw [if_neg (by rw [h]; simp)]; rfl
theorem divV_yes {a b : Val} (h : knV a = true) (h' : knV b = true) : divV a b = valV (mdV a.2 1000000 b.2) := by unfold divV; rw [if_pos ⟨h, h'⟩]
theorem res_valNo {n : Int} : res Γ 145 [.int .i64 n, .bool false] = some [.agg [.bool false, .int .i64 0]] := by
  refine res_code (fn := fixed_val) rfl rfl ?_
  simp (disch := first | assumption | omega | decide | (simp only [List.length_cons, List.length_nil, List.length_append, List.length_replicate, List.length_map, List.length_set, List.length_take, List.length_drop, strs_len, ints_len, bools_len, aggs_len, vpv_len]; done) | (simp only [List.length_cons, List.length_nil, List.length_append, List.length_replicate, List.length_map, List.length_set, List.length_take, List.length_drop, strs_len, ints_len, bools_len, aggs_len, vpv_len]; omega)) only [go_sem, fixed_val]
theorem res_valYes {n : Int} : res Γ 145 [.int .i64 n, .bool true] = some [.agg [.bool (ofV n).1, .int .i64 (ofV n).2]] := by
  refine res_code (fn := fixed_val) rfl rfl ?_
  simp (disch := first | assumption | omega | decide | (simp only [List.length_cons, List.length_nil, List.length_append, List.length_replicate, List.length_map, List.length_set, List.length_take, List.length_drop, strs_len, ints_len, bools_len, aggs_len, vpv_len]; done) | (simp only [List.length_cons, List.length_nil, List.length_append, List.length_replicate, List.length_map, List.length_set, List.length_take, List.length_drop, strs_len, ints_len, bools_len, aggs_len, vpv_len]; omega)) only [go_sem, fixed_val]
theorem res_fixedDiv (b : Bool) (n : Int) (c : Bool) (m : Int) : res Γ 138 [.agg [.bool b, .int .i64 n], .agg [.bool c, .int .i64 m]] = some [.agg [.bool (divV (b, n) (c, m)).1, .int .i64 (divV (b, n) (c, m)).2]] := by
  refine res_code (fn := fixed_Div) rfl rfl ?_
  cases h : knV (b, n)
  · simp (disch := first | assumption | omega | decide | (simp only [List.length_cons, List.length_nil, List.length_append, List.length_replicate, List.length_map, List.length_set, List.length_take, List.length_drop, strs_len, ints_len, bools_len, aggs_len, vpv_len]; done) | (simp only [List.length_cons, List.length_nil, List.length_append, List.length_replicate, List.length_map, List.length_set, List.length_take, List.length_drop, strs_len, ints_len, bools_len, aggs_len, vpv_len]; omega)) only [go_sem, fixed_Div, h, divV_no1 h]
  · cases h' : knV (c, m)
    · simp (disch := first | assumption | omega | decide | (simp only [List.length_cons, List.length_nil, List.length_append, List.length_replicate, List.length_map, List.length_set, List.length_take, List.length_drop, strs_len, ints_len, bools_len, aggs_len, vpv_len]; done) | (simp only [List.length_cons, List.length_nil, List.length_append, List.length_replicate, List.length_map, List.length_set, List.length_take, List.length_drop, strs_len, ints_len, bools_len, aggs_len, vpv_len]; omega)) only [go_sem, fixed_Div, h, h', divV_no2 h']
    · obtain ⟨_, g1, g2⟩ := knV_pair h
      obtain ⟨_, g3, g4⟩ := knV_pair h'
      have e := res_fixedMulDiv (a := n) (b := 1000000) (c := m) (by omega) (by decide) (by omega)
      rw [divV_yes h h']
      cases hm : mdV n 1000000 m with
      | none =>
        rw [hm] at e
        simp only [mdR] at e
        simp (disch := first | assumption | omega | decide | (simp only [List.length_cons, List.length_nil, List.length_append, List.length_replicate, List.length_map, List.length_set, List.length_take, List.length_drop, strs_len, ints_len, bools_len, aggs_len, vpv_len]; done) | (simp only [List.length_cons, List.length_nil, List.length_append, List.length_replicate, List.length_map, List.length_set, List.length_take, List.length_drop, strs_len, ints_len, bools_len, aggs_len, vpv_len]; omega)) only [go_sem, fixed_Div, h, h', e, res_valNo, valV, noV]
      | some q =>
        rw [hm] at e
        simp only [mdR] at e
        simp (disch := first | assumption | omega | decide | (simp only [List.length_cons, List.length_nil, List.length_append, List.length_replicate, List.length_map, List.length_set, List.length_take, List.length_drop, strs_len, ints_len, bools_len, aggs_len, vpv_len]; done) | (simp only [List.length_cons, List.length_nil, List.length_append, List.length_replicate, List.length_map, List.length_set, List.length_take, List.length_drop, strs_len, ints_len, bools_len, aggs_len, vpv_len]; omega)) only [go_sem, fixed_Div, h, h', e, res_valYes, valV]
theorem res_r1Div (b : Bool) (n : Int) (c : Bool) (m : Int) : res Γ 130 [.agg [.bool b, .int .i64 n], .agg [.bool c, .int .i64 m]] = some [.agg [.bool (divV (b, n) (c, m)).1, .int .i64 (divV (b, n) (c, m)).2]] := by
  refine res_code (fn := r1_Div) rfl rfl ?_
  cases h : knV (b, n)
  · simp (disch := first | assumption | omega | decide | (simp only [List.length_cons, List.length_nil, List.length_append, List.length_replicate, List.length_map, List.length_set, List.length_take, List.length_drop, strs_len, ints_len, bools_len, aggs_len, vpv_len]; done) | (simp only [List.length_cons, List.length_nil, List.length_append, List.length_replicate, List.length_map, List.length_set, List.length_take, List.length_drop, strs_len, ints_len, bools_len, aggs_len, vpv_len]; omega)) only [go_sem, r1_Div, h, divV_no1 h, Bool.false_and]
  · cases h' : knV (c, m)
    · simp (disch := first | assumption | omega | decide | (simp only [List.length_cons, List.length_nil, List.length_append, List.length_replicate, List.length_map, List.length_set, List.length_take, List.length_drop, strs_len, ints_len, bools_len, aggs_len, vpv_len]; done) | (simp only [List.length_cons, List.length_nil, List.length_append, List.length_replicate, List.length_map, List.length_set, List.length_take, List.length_drop, strs_len, ints_len, bools_len, aggs_len, vpv_len]; omega)) only [go_sem, r1_Div, h, h', divV_no2 h', Bool.and_false]
    · obtain ⟨_, g1, g2⟩ := knV_pair h
      obtain ⟨_, g3, g4⟩ := knV_pair h'
      have e := res_r1MulDiv (a := n) (b := 1000000) (c := m) (by omega) (by decide) (by omega)
      rw [divV_yes h h']
      cases hm : mdV n 1000000 m with
      | none =>
        rw [hm] at e
        simp only [mdR] at e
        simp (disch := first | assumption | omega | decide | (simp only [List.length_cons, List.length_nil, List.length_append, List.length_replicate, List.length_map, List.length_set, List.length_take, List.length_drop, strs_len, ints_len, bools_len, aggs_len, vpv_len]; done) | (simp only [List.length_cons, List.length_nil, List.length_append, List.length_replicate, List.length_map, List.length_set, List.length_take, List.length_drop, strs_len, ints_len, bools_len, aggs_len, vpv_len]; omega)) only [go_sem, r1_Div, h, h', e, valV, noV, Bool.and_true]
      | some q =>
        rw [hm] at e
        simp only [mdR] at e
        simp (disch := first | assumption | omega | decide | (simp only [List.length_cons, List.length_nil, List.length_append, List.length_replicate, List.length_map, List.length_set, List.length_take, List.length_drop, strs_len, ints_len, bools_len, aggs_len, vpv_len]; done) | (simp only [List.length_cons, List.length_nil, List.length_append, List.length_replicate, List.length_map, List.length_set, List.length_take, List.length_drop, strs_len, ints_len, bools_len, aggs_len, vpv_len]; omega)) only [go_sem, r1_Div, h, h', e, valV, Bool.and_true]
theorem res_fixedDivV (x y : Val) : res Γ 138 [.agg [.bool x.1, .int .i64 x.2], .agg [.bool y.1, .int .i64 y.2]] = some [.agg [.bool (divV x y).1, .int .i64 (divV x y).2]] := by
  obtain ⟨b, n⟩ := x; obtain ⟨c, m⟩ := y; exact res_fixedDiv b n c m
theorem res_r1DivV (x y : Val) : res Γ 130 [.agg [.bool x.1, .int .i64 x.2], .agg [.bool y.1, .int .i64 y.2]] = some [.agg [.bool (divV x y).1, .int .i64 (divV x y).2]] := by
  obtain ⟨b, n⟩ := x; obtain ⟨c, m⟩ := y; exact res_r1Div b n c m
theorem intV_small {n : Int} (h : 0 ≤ n ∧ n ≤ 1000000000) : intV n = (true, n * 1000000) := by unfold intV maxN; rw [if_pos (by omega)]
theorem res_fixedInt {n : Int} (h : 0 ≤ n ∧ n ≤ 1000000000) : res Γ 137 [.int .i64 n] = some [.agg [.bool (intV n).1, .int .i64 (intV n).2]] := by
  rw [intV_small h]
  refine res_code (fn := fixed_Int) rfl rfl ?_
  simp (disch := first | assumption | omega | decide | (simp only [List.length_cons, List.length_nil, List.length_append, List.length_replicate, List.length_map, List.length_set, List.length_take, List.length_drop, strs_len, ints_len, bools_len, aggs_len, vpv_len]; done) | (simp only [List.length_cons, List.length_nil, List.length_append, List.length_replicate, List.length_map, List.length_set, List.length_take, List.length_drop, strs_len, ints_len, bools_len, aggs_len, vpv_len]; omega)) only [go_sem, fixed_Int, ofV_in]
theorem res_r1Int {n : Int} (h : 0 ≤ n ∧ n ≤ 1000000000) : res Γ 129 [.int .i64 n] = some [.agg [.bool (intV n).1, .int .i64 (intV n).2]] := by
  rw [intV_small h]
  refine res_code (fn := r1_Int) rfl rfl ?_
  simp (disch := first | assumption | omega | decide | (simp only [List.length_cons, List.length_nil, List.length_append, List.length_replicate, List.length_map, List.length_set, List.length_take, List.length_drop, strs_len, ints_len, bools_len, aggs_len, vpv_len]; done) | (simp only [List.length_cons, List.length_nil, List.length_append, List.length_replicate, List.length_map, List.length_set, List.length_take, List.length_drop, strs_len, ints_len, bools_len, aggs_len, vpv_len]; omega)) only [go_sem, r1_Int, ofV_in]
theorem agg1_cons {l : List Val} {b : Val} {k : List Val} (h : knL l = b :: k) : aggV 1 l = divV (addV (b :: k)) (intV ((b :: k).length : Nat)) := by unfold aggV; rw [h]; exact if_pos rfl
theorem res_aggOf1 {kk : SK} (l : List Val) (hl : l.length < 1000000000) : res Γ 132 [.int .i64 1, .sl kk 2 (vpv l)] = some [.agg [.bool (aggV 1 l).1, .int .i64 (aggV 1 l).2]] := by
  have hk := knL_len l
  refine res_code (fn := agg_Of) rfl rfl ?_
  simp (disch := first | assumption | omega | decide | (simp only [List.length_cons, List.length_nil, List.length_append, List.length_replicate, List.length_map, List.length_set, List.length_take, List.length_drop, strs_len, ints_len, bools_len, aggs_len, vpv_len]; done) | (simp only [List.length_cons, List.length_nil, List.length_append, List.length_replicate, List.length_map, List.length_set, List.length_take, List.length_drop, strs_len, ints_len, bools_len, aggs_len, vpv_len]; omega)) only [go_sem, agg_Of]
  cases h : knL l with
  | nil =>
    simp (disch := first | assumption | omega | decide | (simp only [List.length_cons, List.length_nil, List.length_append, List.length_replicate, List.length_map, List.length_set, List.length_take, List.length_drop, strs_len, ints_len, bools_len, aggs_len, vpv_len]; done) | (simp only [List.length_cons, List.length_nil, List.length_append, List.length_replicate, List.length_map, List.length_set, List.length_take, List.length_drop, strs_len, ints_len, bools_len, aggs_len, vpv_len]; omega)) only [go_sem, agg2_nil h]
  | cons b k =>
    have e := agg1_cons h
    rw [h] at hk
    have ei := res_fixedInt (n := ((b :: k).length : Nat)) (by simp only [List.length_cons] at hk ⊢; omega)
    have ed := res_fixedDivV (addV (b :: k)) (intV ((b :: k).length : Nat))
    simp only [List.length_cons] at hk e ei ed
    simp (disch := first | assumption | omega | decide | (simp only [List.length_cons, List.length_nil, List.length_append, List.length_replicate, List.length_map, List.length_set, List.length_take, List.length_drop, strs_len, ints_len, bools_len, aggs_len, vpv_len]; done) | (simp only [List.length_cons, List.length_nil, List.length_append, List.length_replicate, List.length_map, List.length_set, List.length_take, List.length_drop, strs_len, ints_len, bools_len, aggs_len, vpv_len]; omega)) only [go_sem, e, valP, ei, ed]
theorem res_r6Of1 {kk : SK} (l : List Val) (hl : l.length < 1000000000) : res Γ 122 [.int .i64 1, .sl kk 2 (vpv l)] = some [.agg [.bool (aggV 1 l).1, .int .i64 (aggV 1 l).2]] := by
  have hk := knL_len l
  refine res_code (fn := r6_Of) rfl rfl ?_
  simp (disch := first | assumption | omega | decide | (simp only [List.length_cons, List.length_nil, List.length_append, List.length_replicate, List.length_map, List.length_set, List.length_take, List.length_drop, strs_len, ints_len, bools_len, aggs_len, vpv_len]; done) | (simp only [List.length_cons, List.length_nil, List.length_append, List.length_replicate, List.length_map, List.length_set, List.length_take, List.length_drop, strs_len, ints_len, bools_len, aggs_len, vpv_len]; omega)) only [go_sem, r6_Of]
  cases h : knL l with
  | nil =>
    simp (disch := first | assumption | omega | decide | (simp only [List.length_cons, List.length_nil, List.length_append, List.length_replicate, List.length_map, List.length_set, List.length_take, List.length_drop, strs_len, ints_len, bools_len, aggs_len, vpv_len]; done) | (simp only [List.length_cons, List.length_nil, List.length_append, List.length_replicate, List.length_map, List.length_set, List.length_take, List.length_drop, strs_len, ints_len, bools_len, aggs_len, vpv_len]; omega)) only [go_sem, agg2_nil h]
  | cons b k =>
    have e := agg1_cons h
    rw [h] at hk
    have ei := res_r1Int (n := ((b :: k).length : Nat)) (by simp only [List.length_cons] at hk ⊢; omega)
    have ed := res_r1DivV (addV (b :: k)) (intV ((b :: k).length : Nat))
    simp only [List.length_cons] at hk e ei ed
    simp (disch := first | assumption | omega | decide | (simp only [List.length_cons, List.length_nil, List.length_append, List.length_replicate, List.length_map, List.length_set, List.length_take, List.length_drop, strs_len, ints_len, bools_len, aggs_len, vpv_len]; done) | (simp only [List.length_cons, List.length_nil, List.length_append, List.length_replicate, List.length_map, List.length_set, List.length_take, List.length_drop, strs_len, ints_len, bools_len, aggs_len, vpv_len]; omega)) only [go_sem, valP]
    refine r6_Of_l1_ok 1 b k (by omega) _ _ k.length 0 (by omega) ?_
    simp (disch := first | assumption | omega | decide | (simp only [List.length_cons, List.length_nil, List.length_append, List.length_replicate, List.length_map, List.length_set, List.length_take, List.length_drop, strs_len, ints_len, bools_len, aggs_len, vpv_len]; done) | (simp only [List.length_cons, List.length_nil, List.length_append, List.length_replicate, List.length_map, List.length_set, List.length_take, List.length_drop, strs_len, ints_len, bools_len, aggs_len, vpv_len]; omega)) only [go_sem, e, ei, ed]
theorem res_windowAvg {kk : SK} (l : List Val) (hl : l.length < 1000000000) : res Γ 106 [.str [109, 111, 118, 105, 110, 103, 65, 118, 101, 114, 97, 103, 101], .sl kk 2 (vpv l)] = some [.agg [.bool (aggV 1 l).1, .int .i64 (aggV 1 l).2], .bool true] := by
  have e := res_r6Of1 (kk := kk) l hl
  refine res_code (fn := r21_window) rfl rfl ?_
  simp (disch := first | assumption | omega | decide | (simp only [List.length_cons, List.length_nil, List.length_append, List.length_replicate, List.length_map, List.length_set, List.length_take, List.length_drop, strs_len, ints_len, bools_len, aggs_len, vpv_len]; done) | (simp only [List.length_cons, List.length_nil, List.length_append, List.length_replicate, List.length_map, List.length_set, List.length_take, List.length_drop, strs_len, ints_len, bools_len, aggs_len, vpv_len]; omega)) only [go_sem, r21_window, e]
theorem res_doesAvg : res Γ 112 [.str [109, 111, 118, 105, 110, 103, 65, 118, 101, 114, 97, 103, 101]] = some [.clo 125 [.ptr [.int .i64 1]]] := by
  refine res_code (fn := fwin_does) rfl rfl ?_
  simp (disch := first | assumption | omega | decide | (simp only [List.length_cons, List.length_nil, List.length_append, List.length_replicate, List.length_map, List.length_set, List.length_take, List.length_drop, strs_len, ints_len, bools_len, aggs_len, vpv_len]; done) | (simp only [List.length_cons, List.length_nil, List.length_append, List.length_replicate, List.length_map, List.length_set, List.length_take, List.length_drop, strs_len, ints_len, bools_len, aggs_len, vpv_len]; omega)) only [go_sem, fwin_does]
theorem res_FwinMovingAverage {k : SK} (s : Ser) (n : Int) (hv : s.vals.length ≤ 9223372036854775807) (hk : res Γ 100 [] = some [.bool true]) : res Γ 171 [s.pv k, .int .i64 n] = some [.bool true] := by
  have e := res_movedKind (k := k) s n hv (by decide) hk res_doesAvg (fun k x hx => res_aggOf1 x hx) (fun k x hx => res_windowAvg x hx)
  unfold Ser.pv at e ⊢
  refine res_code (fn := l21_FwinMovingAverage) rfl rfl ?_
  simp (disch := first | assumption | omega | decide | (simp only [List.length_cons, List.length_nil, List.length_append, List.length_replicate, List.length_map, List.length_set, List.length_take, List.length_drop, strs_len, ints_len, bools_len, aggs_len, vpv_len]; done) | (simp only [List.length_cons, List.length_nil, List.length_append, List.length_replicate, List.length_map, List.length_set, List.length_take, List.length_drop, strs_len, ints_len, bools_len, aggs_len, vpv_len]; omega)) only [go_sem, l21_FwinMovingAverage, e]
end Ab
