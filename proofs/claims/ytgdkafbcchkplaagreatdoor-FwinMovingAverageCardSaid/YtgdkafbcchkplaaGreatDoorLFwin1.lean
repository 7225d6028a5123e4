import Derived.Test.YtgdkafbcchkplaaGreatDoorLMoved
/- FwinMovingMax, FwinMovingMin, FwinMovingSum. -/
namespace Ab
open Go (IntKind BinOp UnOp)
theorem res_movedKind {k : SK} {nm : List UInt8} {kind : Int} (s : Ser) (n : Int) (hv : s.vals.length ≤ 9223372036854775807) (hn : nm.length ≤ 100) (hk : res Γ 100 [] = some [.bool true]) (hd : res Γ 112 [.str nm] = some [.clo 125 [.ptr [.int .i64 kind]]])
    (hP : ∀ (k : SK) (x : List Val), x.length < 1000000000 → res Γ 132 [.int .i64 kind, .sl k 2 (vpv x)] = some [.agg [.bool (aggV kind x).1, .int .i64 (aggV kind x).2]])
    (hR : ∀ (k : SK) (x : List Val), x.length < 1000000000 → res Γ 106 [.str nm, .sl k 2 (vpv x)] = some [.agg [.bool (aggV kind x).1, .int .i64 (aggV kind x).2], .bool true]) :
    res Γ 98 [.str nm, s.pv k, .int .i64 n] = some [.bool true] := by
  by_cases h : isS s = true ∧ 1 ≤ n ∧ n ≤ 131072
  · exact res_moved (x := moveS nm kind s n) (kx := moveK s) (ky := moveK s) (ok := true) s n hv hk (fun _ => res_fwinMove s n hv hn hd (fun x hx => hP _ x hx) h) (fun _ => res_r21Move s n hv hn hR h) (by simp [moveS, movV_len])
  · exact res_moved (x := noneS) (kx := .nil) (ky := .nil) (ok := false) s n hv hk (fun _ => res_fwinMove_no s n hv hd h) (fun _ => res_r21Move_no s n hv hR h) (by simp [noneS])
theorem res_FwinMovingMax {k : SK} (s : Ser) (n : Int) (hv : s.vals.length ≤ 9223372036854775807) (hk : res Γ 100 [] = some [.bool true]) : res Γ 108 [s.pv k, .int .i64 n] = some [.bool true] := by
  have e := res_movedKind (k := k) s n hv (by decide) hk res_doesMax (fun k x hx => res_aggOf4 x hx) (fun k x hx => res_windowMax x hx)
  unfold Ser.pv at e ⊢
  refine res_code (fn := l21_FwinMovingMax) rfl rfl ?_
  simp (disch := first | assumption | omega | decide | (simp only [List.length_cons, List.length_nil, List.length_append, List.length_replicate, List.length_map, List.length_set, List.length_take, List.length_drop, strs_len, ints_len, bools_len, aggs_len, vpv_len]; done) | (simp only [List.length_cons, List.length_nil, List.length_append, List.length_replicate, List.length_map, List.length_set, List.length_take, List.length_drop, strs_len, ints_len, bools_len, aggs_len, vpv_len]; omega)) only [go_sem, l21_FwinMovingMax, e]
theorem res_FwinMovingMin {k : SK} (s : Ser) (n : Int) (hv : s.vals.length ≤ 9223372036854775807) (hk : res Γ 100 [] = some [.bool true]) : res Γ 109 [s.pv k, .int .i64 n] = some [.bool true] := by
  have e := res_movedKind (k := k) s n hv (by decide) hk res_doesMin (fun k x hx => res_aggOf5 x hx) (fun k x hx => res_windowMin x hx)
  unfold Ser.pv at e ⊢
  refine res_code (fn := l21_FwinMovingMin) rfl rfl ?_
  simp (disch := first | assumption | omega | decide | (simp only [List.length_cons, List.length_nil, List.length_append, List.length_replicate, List.length_map, List.length_set, List.length_take, List.length_drop, strs_len, ints_len, bools_len, aggs_len, vpv_len]; done) | (simp only [List.length_cons, List.length_nil, List.length_append, List.length_replicate, List.length_map, List.length_set, List.length_take, List.length_drop, strs_len, ints_len, bools_len, aggs_len, vpv_len]; omega)) only [go_sem, l21_FwinMovingMin, e]
theorem res_FwinMovingSum {k : SK} (s : Ser) (n : Int) (hv : s.vals.length ≤ 9223372036854775807) (hk : res Γ 100 [] = some [.bool true]) : res Γ 110 [s.pv k, .int .i64 n] = some [.bool true] := by
  have e := res_movedKind (k := k) s n hv (by decide) hk res_doesSum (fun k x hx => res_aggOf2 x hx) (fun k x hx => res_windowSum x hx)
  unfold Ser.pv at e ⊢
  refine res_code (fn := l21_FwinMovingSum) rfl rfl ?_
  simp (disch := first | assumption | omega | decide | (simp only [List.length_cons, List.length_nil, List.length_append, List.length_replicate, List.length_map, List.length_set, List.length_take, List.length_drop, strs_len, ints_len, bools_len, aggs_len, vpv_len]; done) | (simp only [List.length_cons, List.length_nil, List.length_append, List.length_replicate, List.length_map, List.length_set, List.length_take, List.length_drop, strs_len, ints_len, bools_len, aggs_len, vpv_len]; omega)) only [go_sem, l21_FwinMovingSum, e]
end Ab
