import Derived.Test.YtgdkafbcchkplaaGreatDoorLAgg2
import Derived.Test.YtgdkafbcchkplaaGreatDoorLIs
import Derived.Test.YtgdkafbcchkplaaGreatDoorLDig
import Derived.Test.YtgdkafbcchkplaaGreatDoorLLabel
/- Windows that go along: fwin.Move and the reference's. -/
namespace Ab
open Go (IntKind BinOp UnOp)
def winV (l : List Val) (n : Int) (i : Nat) : List Val := (l.take (i + 1)).drop (max 0 ((i : Int) + 1 - n)).toNat
def movV (kind : Int) (l : List Val) (n : Int) (i : Nat) : List Val := (List.range i).map fun j => aggV kind (winV l n j)
theorem movV_succ {kind l n i} : movV kind l n (i + 1) = movV kind l n i ++ [aggV kind (winV l n i)] := by simp [movV, List.range_succ]
theorem movV_len {kind l n i} : (movV kind l n i).length = i := by simp [movV]
theorem res_does11 {kk : SK} (kind : Int) (l : List Val) (v : Val) (h : res Γ 132 [.int .i64 kind, .sl kk 2 (vpv l)] = some [.agg [.bool v.1, .int .i64 v.2]]) : res Γ 125 [.sl kk 2 (vpv l), .ptr [.int .i64 kind]] = some [.agg [.bool v.1, .int .i64 v.2]] := by
  refine res_code (fn := fwin_does_1_1) rfl rfl ?_
  simp (disch := first | assumption | omega | decide | (simp only [List.length_cons, List.length_nil, List.length_append, List.length_replicate, List.length_map, List.length_set, List.length_take, List.length_drop, strs_len, ints_len, bools_len, aggs_len, vpv_len]; done) | (simp only [List.length_cons, List.length_nil, List.length_append, List.length_replicate, List.length_map, List.length_set, List.length_take, List.length_drop, strs_len, ints_len, bools_len, aggs_len, vpv_len]; omega)) only [go_sem, fwin_does_1_1, h]
@[go_sem] theorem res_does1 (kind : Int) : res Γ 117 [.int .i64 kind] = some [.clo 125 [.ptr [.int .i64 kind]]] := by
  refine res_code (fn := fwin_does_1) rfl rfl ?_
  simp (disch := first | assumption | omega | decide | (simp only [List.length_cons, List.length_nil, List.length_append, List.length_replicate, List.length_map, List.length_set, List.length_take, List.length_drop, strs_len, ints_len, bools_len, aggs_len, vpv_len]; done) | (simp only [List.length_cons, List.length_nil, List.length_append, List.length_replicate, List.length_map, List.length_set, List.length_take, List.length_drop, strs_len, ints_len, bools_len, aggs_len, vpv_len]; omega)) only [go_sem, fwin_does_1]
theorem res_doesMin : res Γ 112 [.str [109, 111, 118, 105, 110, 103, 77, 105, 110]] = some [.clo 125 [.ptr [.int .i64 5]]] := by
  refine res_code (fn := fwin_does) rfl rfl ?_
  simp (disch := first | assumption | omega | decide | (simp only [List.length_cons, List.length_nil, List.length_append, List.length_replicate, List.length_map, List.length_set, List.length_take, List.length_drop, strs_len, ints_len, bools_len, aggs_len, vpv_len]; done) | (simp only [List.length_cons, List.length_nil, List.length_append, List.length_replicate, List.length_map, List.length_set, List.length_take, List.length_drop, strs_len, ints_len, bools_len, aggs_len, vpv_len]; omega)) only [go_sem, fwin_does]
theorem res_doesMax : res Γ 112 [.str [109, 111, 118, 105, 110, 103, 77, 97, 120]] = some [.clo 125 [.ptr [.int .i64 4]]] := by
  refine res_code (fn := fwin_does) rfl rfl ?_
  simp (disch := first | assumption | omega | decide | (simp only [List.length_cons, List.length_nil, List.length_append, List.length_replicate, List.length_map, List.length_set, List.length_take, List.length_drop, strs_len, ints_len, bools_len, aggs_len, vpv_len]; done) | (simp only [List.length_cons, List.length_nil, List.length_append, List.length_replicate, List.length_map, List.length_set, List.length_take, List.length_drop, strs_len, ints_len, bools_len, aggs_len, vpv_len]; omega)) only [go_sem, fwin_does]
theorem res_doesSum : res Γ 112 [.str [109, 111, 118, 105, 110, 103, 83, 117, 109]] = some [.clo 125 [.ptr [.int .i64 2]]] := by
  refine res_code (fn := fwin_does) rfl rfl ?_
  simp (disch := first | assumption | omega | decide | (simp only [List.length_cons, List.length_nil, List.length_append, List.length_replicate, List.length_map, List.length_set, List.length_take, List.length_drop, strs_len, ints_len, bools_len, aggs_len, vpv_len]; done) | (simp only [List.length_cons, List.length_nil, List.length_append, List.length_replicate, List.length_map, List.length_set, List.length_take, List.length_drop, strs_len, ints_len, bools_len, aggs_len, vpv_len]; omega)) only [go_sem, fwin_does]
theorem res_at {kk : SK} (nm : List UInt8) (st sp cs : Int) (l : List Val) (n : Int) (i : Nat) (h0 : 1 ≤ n) (h1 : n ≤ 131072) (hi : i < l.length) (hl : l.length < 1000000000) :
    res Γ 104 [.agg [.str nm, .int .i64 st, .int .i64 sp, .sl kk 2 (vpv l), .int .i64 cs, .int .i64 n], .int .i64 (i : Int)] = some [.sl kk.cut 2 (vpv (winV l n i))] := by
  have g1 : (0 : Int) ≤ max 0 ((i : Int) + 1 - n) := by omega
  have g2 : max 0 ((i : Int) + 1 - n) ≤ (i : Int) + 1 := by omega
  have e : ((i : Int) + 1).toNat = i + 1 := by omega
  refine res_code (fn := fwin_window_at) rfl rfl ?_
  simp (disch := first | assumption | omega | decide | (simp only [List.length_cons, List.length_nil, List.length_append, List.length_replicate, List.length_map, List.length_set, List.length_take, List.length_drop, strs_len, ints_len, bools_len, aggs_len, vpv_len]; done) | (simp only [List.length_cons, List.length_nil, List.length_append, List.length_replicate, List.length_map, List.length_set, List.length_take, List.length_drop, strs_len, ints_len, bools_len, aggs_len, vpv_len]; omega)) only [go_sem, fwin_window_at, winV, e]
end Ab
