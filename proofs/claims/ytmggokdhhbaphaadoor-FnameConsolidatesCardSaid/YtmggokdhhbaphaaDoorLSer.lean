/- Series: packages series, agg, graticuleref18, graticuleref6 in part; FnameConsolidates. -/
import Derived.Test.YtmggokdhhbaphaaDoorLLaw24
namespace Ab
open Go (IntKind BinOp UnOp)
structure Ser where
  name : List UInt8
  start : Int
  step : Int
  vals : List (Bool × Int)
  cons : Int
def valP (x : Bool × Int) : List PV := [.bool x.1, .int .i64 x.2]
def vpv (l : List (Bool × Int)) : List PV := aggs (l.map valP)
def Ser.pv (k : SK) (s : Ser) : PV := .agg [.str s.name, .int .i64 s.start, .int .i64 s.step, .sl k 2 (vpv s.vals), .int .i64 s.cons]
theorem vpv_len {l} : (vpv l).length = l.length := by simp [vpv, aggs]
theorem vpv_nil : vpv [] = [] := rfl
theorem vpv_get {l : List (Bool × Int)} {i : Nat} (h : i < l.length) : (vpv l)[i]? = some (.agg (valP (l.getD i (false, 0)))) := by
  simp [vpv, aggs, List.getElem?_eq_getElem h]
theorem iaddr_vals {H xs k' k i} (h0 : 0 ≤ i) (h : i < (xs.length : Int)) : iaddrA H 2 (.p (.sl k' 2 (vpv xs))) (.p (.int k i)) = some (.p (.ptr (valP (xs.getD i.toNat (false, 0))))) := iaddr_sl h0 (vpv_get (by omega))
attribute [go_sem] vpv_len iaddr_vals
/-- A copy's kind. -/
def ownK : SK → SK
  | .nil => .nil
  | _ => .any
theorem res_Clone_nil : res Γ 49 [.sl .nil 2 []] = some [.sl .nil 2 []] := by
  refine res_code (fn := slices_Clone_api_Val_api_Val) rfl rfl ?_
  simp (disch := first | assumption | omega | (simp only [List.length_cons, List.length_nil, List.length_append, List.length_replicate, List.length_map, List.length_set, List.length_take, List.length_drop, strs_len, ints_len, bools_len, aggs_len]; done) | (simp only [List.length_cons, List.length_nil, List.length_append, List.length_replicate, List.length_map, List.length_set, List.length_take, List.length_drop, strs_len, ints_len, bools_len, aggs_len]; omega)) only [go_sem, slices_Clone_api_Val_api_Val]
theorem res_Clone_mem (xs : List PV) (hx : xs.length ≤ 1073741824) : res Γ 49 [.sl .mem 2 xs] = some [.sl .any 2 xs] := by
  refine res_code (fn := slices_Clone_api_Val_api_Val) rfl rfl ?_
  simp (disch := first | assumption | omega | (simp only [List.length_cons, List.length_nil, List.length_append, List.length_replicate, List.length_map, List.length_set, List.length_take, List.length_drop, strs_len, ints_len, bools_len, aggs_len]; done) | (simp only [List.length_cons, List.length_nil, List.length_append, List.length_replicate, List.length_map, List.length_set, List.length_take, List.length_drop, strs_len, ints_len, bools_len, aggs_len]; omega)) only [go_sem, slices_Clone_api_Val_api_Val]
def aggName (k : Int) : List UInt8 :=
  if k = 1 then [97, 118, 101, 114, 97, 103, 101] else if k = 2 then [115, 117, 109] else if k = 3 then [108, 97, 115, 116] else if k = 4 then [109, 97, 120] else if k = 5 then [109, 105, 110] else []
@[go_sem] theorem res_aggName (k : Int) : res Γ 29 [.int .i64 k] = some [.str (aggName k)] := by
  refine res_code (fn := agg_Name) rfl rfl ?_
  repeat' (first | (simp (disch := first | assumption | omega | (simp only [List.length_cons, List.length_nil, List.length_append, List.length_replicate, List.length_map, List.length_set, List.length_take, List.length_drop, strs_len, ints_len, bools_len, aggs_len]; done) | (simp only [List.length_cons, List.length_nil, List.length_append, List.length_replicate, List.length_map, List.length_set, List.length_take, List.length_drop, strs_len, ints_len, bools_len, aggs_len]; omega)) only [go_sem, agg_Name]) | refine cond_split (fun hc => ?_) (fun hc => ?_) | refine gd_split_f (fun hc => ?_) (fun hc => ?_) | refine gd_split_t (fun hc => ?_) (fun hc => ?_))
  all_goals (simp only [Option.some.injEq, List.cons.injEq, and_true, PV.str.injEq, aggName]; simp [*])
@[go_sem] theorem res_r6Name (k : Int) : res Γ 32 [.int .i64 k] = some [.str (aggName k)] := by
  refine res_code (fn := r6_Name) rfl rfl ?_
  repeat' (first | (simp (disch := first | assumption | omega | (simp only [List.length_cons, List.length_nil, List.length_append, List.length_replicate, List.length_map, List.length_set, List.length_take, List.length_drop, strs_len, ints_len, bools_len, aggs_len]; done) | (simp only [List.length_cons, List.length_nil, List.length_append, List.length_replicate, List.length_map, List.length_set, List.length_take, List.length_drop, strs_len, ints_len, bools_len, aggs_len]; omega)) only [go_sem, r6_Name]) | refine cond_split (fun hc => ?_) (fun hc => ?_) | refine gd_split_f (fun hc => ?_) (fun hc => ?_) | refine gd_split_t (fun hc => ?_) (fun hc => ?_))
  all_goals (simp only [Option.some.injEq, List.cons.injEq, and_true, PV.str.injEq, aggName]; simp [*])
theorem res_seriesOwn_nil (s : Ser) (h : s.vals = []) : res Γ 31 [s.pv .nil] = some [s.pv .nil] := by
  have e : res Γ 49 [.sl .nil 2 (vpv s.vals)] = some [.sl .nil 2 (vpv s.vals)] := by rw [h]; exact res_Clone_nil
  unfold Ser.pv
  refine res_code (fn := series_Own) rfl rfl ?_
  simp (disch := first | assumption | omega | (simp only [List.length_cons, List.length_nil, List.length_append, List.length_replicate, List.length_map, List.length_set, List.length_take, List.length_drop, strs_len, ints_len, bools_len, aggs_len]; done) | (simp only [List.length_cons, List.length_nil, List.length_append, List.length_replicate, List.length_map, List.length_set, List.length_take, List.length_drop, strs_len, ints_len, bools_len, aggs_len]; omega)) only [go_sem, series_Own, e]
theorem res_seriesOwn_mem (s : Ser) (h : s.vals.length ≤ 1073741824) : res Γ 31 [s.pv .mem] = some [s.pv .any] := by
  have e := res_Clone_mem (vpv s.vals) (by rw [vpv_len]; exact h)
  unfold Ser.pv
  refine res_code (fn := series_Own) rfl rfl ?_
  simp (disch := first | assumption | omega | (simp only [List.length_cons, List.length_nil, List.length_append, List.length_replicate, List.length_map, List.length_set, List.length_take, List.length_drop, strs_len, ints_len, bools_len, aggs_len]; done) | (simp only [List.length_cons, List.length_nil, List.length_append, List.length_replicate, List.length_map, List.length_set, List.length_take, List.length_drop, strs_len, ints_len, bools_len, aggs_len]; omega)) only [go_sem, series_Own, e]
theorem res_r18Own {kk : SK} (s : Ser) (h : s.vals.length ≤ 1073741824) : res Γ 34 [s.pv kk] = some [s.pv .any] := by
  have hv : (vpv s.vals).length ≤ 1073741824 := by rw [vpv_len]; exact h
  have hw : (vpv s.vals).length = s.vals.length := vpv_len
  unfold Ser.pv
  refine res_code (fn := r18_Own) rfl rfl ?_
  simp (disch := first | assumption | omega | (simp only [List.length_cons, List.length_nil, List.length_append, List.length_replicate, List.length_map, List.length_set, List.length_take, List.length_drop, strs_len, ints_len, bools_len, aggs_len]; done) | (simp only [List.length_cons, List.length_nil, List.length_append, List.length_replicate, List.length_map, List.length_set, List.length_take, List.length_drop, strs_len, ints_len, bools_len, aggs_len]; omega)) only [go_sem, r18_Own]

theorem joinB_two (sep a b : List UInt8) : joinB sep [a, b] = a ++ sep ++ b := rfl
def labelB (nm a b : List UInt8) : List UInt8 := nm ++ 40 :: (a ++ 44 :: (b ++ [41]))
theorem res_seriesLabel {kk : SK} (nm a b : List UInt8) (h : nm.length ≤ 1000000) (ha : a.length ≤ 1000000) (hb : b.length ≤ 1000000) : res Γ 30 [.str nm, .sl kk 1 [.str a, .str b]] = some [.str (labelB nm a b)] := by
  have e : res Γ 48 [.sl kk 1 [.str a, .str b], .str [44]] = some [.str (a ++ 44 :: b)] := by
    have := res_Join (kk := kk) [a, b] [44] (by simp) (by rw [joinB_two]; simp; omega)
    rw [joinB_two, List.append_assoc] at this
    exact this
  refine res_code (fn := series_Label) rfl rfl ?_
  simp (disch := first | assumption | omega | (simp only [List.length_cons, List.length_nil, List.length_append, List.length_replicate, List.length_map, List.length_set, List.length_take, List.length_drop, strs_len, ints_len, bools_len, aggs_len]; done) | (simp only [List.length_cons, List.length_nil, List.length_append, List.length_replicate, List.length_map, List.length_set, List.length_take, List.length_drop, strs_len, ints_len, bools_len, aggs_len]; omega)) only [go_sem, series_Label, e, labelB]
theorem res_r18Label {kk : SK} (nm a b : List UInt8) (h : nm.length ≤ 1000000) (ha : a.length ≤ 1000000) (hb : b.length ≤ 1000000) : res Γ 33 [.str nm, .sl kk 1 [.str a, .str b]] = some [.str (labelB nm a b)] := by
  have e1 : ([PV.str a, PV.str b] : List PV) = strs [a, b] := rfl
  rw [e1]
  refine res_code (fn := r18_Label) rfl rfl ?_
  simp (disch := first | assumption | omega | (simp only [List.length_cons, List.length_nil, List.length_append, List.length_replicate, List.length_map, List.length_set, List.length_take, List.length_drop, strs_len, ints_len, bools_len, aggs_len]; done) | (simp only [List.length_cons, List.length_nil, List.length_append, List.length_replicate, List.length_map, List.length_set, List.length_take, List.length_drop, strs_len, ints_len, bools_len, aggs_len]; omega)) only [go_sem, r18_Label]
  rw [W_loop (L := r18_Label_l1) rfl]
  simp (disch := first | assumption | omega | (simp only [List.length_cons, List.length_nil, List.length_append, List.length_replicate, List.length_map, List.length_set, List.length_take, List.length_drop, strs_len, ints_len, bools_len, aggs_len]; done) | (simp only [List.length_cons, List.length_nil, List.length_append, List.length_replicate, List.length_map, List.length_set, List.length_take, List.length_drop, strs_len, ints_len, bools_len, aggs_len]; omega)) only [go_sem]
  rw [W_loop (L := r18_Label_l1) rfl]
  simp (disch := first | assumption | omega | (simp only [List.length_cons, List.length_nil, List.length_append, List.length_replicate, List.length_map, List.length_set, List.length_take, List.length_drop, strs_len, ints_len, bools_len, aggs_len]; done) | (simp only [List.length_cons, List.length_nil, List.length_append, List.length_replicate, List.length_map, List.length_set, List.length_take, List.length_drop, strs_len, ints_len, bools_len, aggs_len]; omega)) only [go_sem]
  rw [W_loop (L := r18_Label_l1) rfl]
  simp (disch := first | assumption | omega | (simp only [List.length_cons, List.length_nil, List.length_append, List.length_replicate, List.length_map, List.length_set, List.length_take, List.length_drop, strs_len, ints_len, bools_len, aggs_len]; done) | (simp only [List.length_cons, List.length_nil, List.length_append, List.length_replicate, List.length_map, List.length_set, List.length_take, List.length_drop, strs_len, ints_len, bools_len, aggs_len]; omega)) only [go_sem, labelB]
end Ab
