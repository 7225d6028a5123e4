import Derived.Test.YtgdkafbcchkplaaGreatDoorCode
import Derived.Test.YtgdkafbcchkplaaGreatDoorLVrow
/- strings.Join, and names with texts in brackets. -/
namespace Ab
open Go (IntKind BinOp UnOp)
theorem strsIn_strs (l : List (List UInt8)) : strsIn (strs l) = some l := by
  induction l with
  | nil => rfl
  | cons a l ih => simp only [strs, List.map_cons, strsIn] at ih ⊢; rw [ih]; rfl
@[go_sem] theorem res_Join {kk : SK} (l : List (List UInt8)) (sep : List UInt8) (hl : l.length < 1000000000) (hj : (joinB sep l).length ≤ 1000000000) : res Γ 48 [.sl kk 1 (strs l), .str sep] = some [.str (joinB sep l)] := by
  refine res_of (RunP_prim (g := joinG) rfl ?_)
  simp only [joinG, strsIn_strs]
  rw [if_pos ⟨hj, by omega⟩]
theorem joinB_two (sep a b : List UInt8) : joinB sep [a, b] = a ++ sep ++ b := rfl
def labelB (nm a b : List UInt8) : List UInt8 := nm ++ 40 :: (a ++ 44 :: (b ++ [41]))
theorem res_seriesLabel {kk : SK} (nm a b : List UInt8) (h : nm.length ≤ 1000000) (ha : a.length ≤ 1000000) (hb : b.length ≤ 1000000) : res Γ 30 [.str nm, .sl kk 1 [.str a, .str b]] = some [.str (labelB nm a b)] := by
  have e : res Γ 48 [.sl kk 1 [.str a, .str b], .str [44]] = some [.str (a ++ 44 :: b)] := by
    have := res_Join (kk := kk) [a, b] [44] (by simp) (by rw [joinB_two]; simp; omega)
    rw [joinB_two, List.append_assoc] at this
    exact this
  refine res_code (fn := series_Label) rfl rfl ?_
  simp (disch := first | assumption | omega | decide | (simp only [List.length_cons, List.length_nil, List.length_append, List.length_replicate, List.length_map, List.length_set, List.length_take, List.length_drop, strs_len, ints_len, bools_len, aggs_len, vpv_len]; done) | (simp only [List.length_cons, List.length_nil, List.length_append, List.length_replicate, List.length_map, List.length_set, List.length_take, List.length_drop, strs_len, ints_len, bools_len, aggs_len, vpv_len]; omega)) only [go_sem, series_Label, e, labelB]
theorem res_r18Label {kk : SK} (nm a b : List UInt8) (h : nm.length ≤ 1000000) (ha : a.length ≤ 1000000) (hb : b.length ≤ 1000000) : res Γ 33 [.str nm, .sl kk 1 [.str a, .str b]] = some [.str (labelB nm a b)] := by
  have e1 : ([PV.str a, PV.str b] : List PV) = strs [a, b] := rfl
  rw [e1]
  refine res_code (fn := r18_Label) rfl rfl ?_
  simp (disch := first | assumption | omega | decide | (simp only [List.length_cons, List.length_nil, List.length_append, List.length_replicate, List.length_map, List.length_set, List.length_take, List.length_drop, strs_len, ints_len, bools_len, aggs_len, vpv_len]; done) | (simp only [List.length_cons, List.length_nil, List.length_append, List.length_replicate, List.length_map, List.length_set, List.length_take, List.length_drop, strs_len, ints_len, bools_len, aggs_len, vpv_len]; omega)) only [go_sem, r18_Label]
  rw [W_loop (L := r18_Label_l1) rfl]
  simp (disch := first | assumption | omega | decide | (simp only [List.length_cons, List.length_nil, List.length_append, List.length_replicate, List.length_map, List.length_set, List.length_take, List.length_drop, strs_len, ints_len, bools_len, aggs_len, vpv_len]; done) | (simp only [List.length_cons, List.length_nil, List.length_append, List.length_replicate, List.length_map, List.length_set, List.length_take, List.length_drop, strs_len, ints_len, bools_len, aggs_len, vpv_len]; omega)) only [go_sem]
  rw [W_loop (L := r18_Label_l1) rfl]
  simp (disch := first | assumption | omega | decide | (simp only [List.length_cons, List.length_nil, List.length_append, List.length_replicate, List.length_map, List.length_set, List.length_take, List.length_drop, strs_len, ints_len, bools_len, aggs_len, vpv_len]; done) | (simp only [List.length_cons, List.length_nil, List.length_append, List.length_replicate, List.length_map, List.length_set, List.length_take, List.length_drop, strs_len, ints_len, bools_len, aggs_len, vpv_len]; omega)) only [go_sem]
  rw [W_loop (L := r18_Label_l1) rfl]
  simp (disch := first | assumption | omega | decide | (simp only [List.length_cons, List.length_nil, List.length_append, List.length_replicate, List.length_map, List.length_set, List.length_take, List.length_drop, strs_len, ints_len, bools_len, aggs_len, vpv_len]; done) | (simp only [List.length_cons, List.length_nil, List.length_append, List.length_replicate, List.length_map, List.length_set, List.length_take, List.length_drop, strs_len, ints_len, bools_len, aggs_len, vpv_len]; omega)) only [go_sem, labelB]
end Ab
