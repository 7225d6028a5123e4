/- FnameBase: of any name the path in it, and any parts of that. -/
import Derived.Test.YtmggokdhhbaphaaDoorLKey
namespace Ab
open Go (IntKind BinOp UnOp)
theorem ints_lit {k : IntKind} {a : Int} : [PV.int k a] = ints k [a] := rfl
@[go_sem] theorem res_known24 : res Γ 8 [] = some [.bool true] := by
  have e1 : baseB [115, 99, 97, 108, 101, 40, 97, 46, 98, 44, 50, 41] = [97, 46, 98] := by decide +kernel
  have e2 : joinB [46] (keyB [115, 99, 97, 108, 101, 40, 97, 46, 98, 44, 50, 41] [1]) = [98] := by decide +kernel
  have e3 := res_fnameKey (kk := .tight) [115, 99, 97, 108, 101, 40, 97, 46, 98, 44, 50, 41] (.int .i64 0) (.int .i64 0) (.sl .nil 2 []) (.int .i64 0) [1] (by decide) (by decide) (by decide)
  rw [e2, ← ints_lit] at e3
  refine res_code (fn := l24_known) rfl rfl ?_
  simp (disch := first | assumption | omega | (simp only [List.length_cons, List.length_nil, List.length_append, List.length_replicate, List.length_map, List.length_set, List.length_take, List.length_drop, strs_len, ints_len, bools_len, aggs_len]; done) | (simp only [List.length_cons, List.length_nil, List.length_append, List.length_replicate, List.length_map, List.length_set, List.length_take, List.length_drop, strs_len, ints_len, bools_len, aggs_len]; omega)) only [go_sem, l24_known, e1, e3]
theorem res_FnameBase {kk : SK} (s : List UInt8) (ns : List Int) (hr : ∀ n ∈ ns, -9223372036854775808 ≤ n ∧ n ≤ 9223372036854775807) : res Γ 90 [.str s, .sl kk 1 (ints .i64 ns)] = some [.bool true] := by
  refine res_code (fn := l24_FnameBase) rfl rfl ?_
  repeat' (first | (simp (disch := first | assumption | omega | (simp only [List.length_cons, List.length_nil, List.length_append, List.length_replicate, List.length_map, List.length_set, List.length_take, List.length_drop, strs_len, ints_len, bools_len, aggs_len]; done) | (simp only [List.length_cons, List.length_nil, List.length_append, List.length_replicate, List.length_map, List.length_set, List.length_take, List.length_drop, strs_len, ints_len, bools_len, aggs_len]; omega)) only [go_sem, l24_FnameBase]) | refine cond_split (fun hc => ?_) (fun hc => ?_) | refine gd_split_f (fun hc => ?_) (fun hc => ?_) | refine gd_split_t (fun hc => ?_) (fun hc => ?_))
end Ab
