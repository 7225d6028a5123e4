/- FnameConsolidates: any series that is to be consolidated in any way. -/
import Derived.Test.YtmggokdhhbaphaaDoorLSer
namespace Ab
open Go (IntKind BinOp UnOp)
theorem aggName_len (k : Int) : (aggName k).length ≤ 7 := by
  unfold aggName
  repeat' split
  all_goals simp
theorem aggName_ne (k : Int) : aggName k ≠ [] ↔ (1 ≤ k ∧ k ≤ 5) := by
  unfold aggName
  constructor
  · intro h
    repeat' split at h
    all_goals first | omega | (simp at h)
  · intro h
    repeat' split
    all_goals first | omega | simp
def consB : List UInt8 := [99, 111, 110, 115, 111, 108, 105, 100, 97, 116, 101, 66, 121]
def byS (kind : Int) (s : Ser) : Ser := if 1 ≤ kind ∧ kind ≤ 5 then { s with name := labelB consB s.name (aggName kind), cons := kind } else s
theorem res_fnameBy {k k' : SK} (kind : Int) (s : Ser) (hn : s.name.length ≤ 1000000) (e : res Γ 31 [s.pv k] = some [s.pv k']) : res Γ 9 [.int .i64 kind, s.pv k] = some [(byS kind s).pv k'] := by
  have h1 := aggName_len kind
  have h2 := aggName_ne kind
  have e2 := res_seriesLabel (kk := .tight) consB s.name (aggName kind) (by decide) hn (by omega)
  unfold consB at e2
  unfold Ser.pv at e ⊢
  refine res_code (fn := fname_By) rfl rfl ?_
  simp (disch := first | assumption | omega | (simp only [List.length_cons, List.length_nil, List.length_append, List.length_replicate, List.length_map, List.length_set, List.length_take, List.length_drop, strs_len, ints_len, bools_len, aggs_len]; done) | (simp only [List.length_cons, List.length_nil, List.length_append, List.length_replicate, List.length_map, List.length_set, List.length_take, List.length_drop, strs_len, ints_len, bools_len, aggs_len]; omega)) only [go_sem, fname_By, e]
  refine cond_split (fun hc => ?_) (fun hc => ?_)
  · simp (disch := first | assumption | omega | (simp only [List.length_cons, List.length_nil, List.length_append, List.length_replicate, List.length_map, List.length_set, List.length_take, List.length_drop, strs_len, ints_len, bools_len, aggs_len]; done) | (simp only [List.length_cons, List.length_nil, List.length_append, List.length_replicate, List.length_map, List.length_set, List.length_take, List.length_drop, strs_len, ints_len, bools_len, aggs_len]; omega)) only [go_sem, e2]
    rw [byS, if_pos (h2.1 hc)]
    rfl
  · simp (disch := first | assumption | omega | (simp only [List.length_cons, List.length_nil, List.length_append, List.length_replicate, List.length_map, List.length_set, List.length_take, List.length_drop, strs_len, ints_len, bools_len, aggs_len]; done) | (simp only [List.length_cons, List.length_nil, List.length_append, List.length_replicate, List.length_map, List.length_set, List.length_take, List.length_drop, strs_len, ints_len, bools_len, aggs_len]; omega)) only [go_sem]
    rw [byS, if_neg (fun h => hc (h2.2 h))]
theorem res_r24By {k : SK} (kind : Int) (s : Ser) (hn : s.name.length ≤ 1000000) (hv : s.vals.length ≤ 1073741824) : res Γ 10 [.int .i64 kind, s.pv k] = some [(byS kind s).pv .any] := by
  have h1 := aggName_len kind
  have h2 := aggName_ne kind
  have e := res_r18Own (kk := k) s hv
  have e2 := res_r18Label (kk := .tight) consB s.name (aggName kind) (by decide) hn (by omega)
  unfold consB at e2
  unfold Ser.pv at e ⊢
  refine res_code (fn := r24_By) rfl rfl ?_
  repeat' (first | (simp (disch := first | assumption | omega | (simp only [List.length_cons, List.length_nil, List.length_append, List.length_replicate, List.length_map, List.length_set, List.length_take, List.length_drop, strs_len, ints_len, bools_len, aggs_len]; done) | (simp only [List.length_cons, List.length_nil, List.length_append, List.length_replicate, List.length_map, List.length_set, List.length_take, List.length_drop, strs_len, ints_len, bools_len, aggs_len]; omega)) only [go_sem, r24_By, e, e2]) | refine cond_split (fun hc => ?_) (fun hc => ?_) | refine gd_split_f (fun hc => ?_) (fun hc => ?_) | refine gd_split_t (fun hc => ?_) (fun hc => ?_))
  all_goals first | (rw [byS, if_neg (by omega)]; done) | (rw [byS, if_pos (by omega)]; rfl)
theorem r18_Same_l1_ok {k1 k2 : SK} (a : Ser) (b1 b2 : List AV) (hv : a.vals.length ≤ 1073741824) (Q : Out → Prop) : ∀ (k i : Nat), i + k = a.vals.length →
    (∀ H, Q (.nrm, [], H)) →
    Wp Γ r18_Same_l1 [(2, .bx 0 0), (3, .bx 1 0), (5, .p (.int .i64 (i : Int)))] [.box [.p (.str a.name), .p (.int .i64 a.start), .p (.int .i64 a.step), .p (.sl k1 2 (vpv a.vals)), .p (.int .i64 a.cons)], .box [.p (.str a.name), .p (.int .i64 a.start), .p (.int .i64 a.step), .p (.sl k2 2 (vpv a.vals)), .p (.int .i64 a.cons)]] (InBlk [] 0 Q) := by
  intro k
  induction k with
  | zero =>
    intro i hi hQ
    obtain rfl : i = a.vals.length := by omega
    rw [W_loop (L := r18_Same_l1) rfl]
    simp (disch := first | assumption | omega | (simp only [List.length_cons, List.length_nil, List.length_append, List.length_replicate, List.length_map, List.length_set, List.length_take, List.length_drop, strs_len, ints_len, bools_len, aggs_len]; done) | (simp only [List.length_cons, List.length_nil, List.length_append, List.length_replicate, List.length_map, List.length_set, List.length_take, List.length_drop, strs_len, ints_len, bools_len, aggs_len]; omega)) only [go_sem]
    exact hQ _
  | succ k ih =>
    intro i hi hQ
    rw [W_loop (L := r18_Same_l1) rfl]
    simp (disch := first | assumption | omega | (simp only [List.length_cons, List.length_nil, List.length_append, List.length_replicate, List.length_map, List.length_set, List.length_take, List.length_drop, strs_len, ints_len, bools_len, aggs_len]; done) | (simp only [List.length_cons, List.length_nil, List.length_append, List.length_replicate, List.length_map, List.length_set, List.length_take, List.length_drop, strs_len, ints_len, bools_len, aggs_len]; omega)) only [go_sem, valP]
    exact ih (i + 1) (by omega) hQ
theorem res_Same_self {k1 k2 : SK} (s : Ser) (hv : s.vals.length ≤ 1073741824) : res Γ 28 [s.pv k1, s.pv k2] = some [.bool true] := by
  unfold Ser.pv
  refine res_code (fn := r18_Same) rfl rfl ?_
  simp (disch := first | assumption | omega | (simp only [List.length_cons, List.length_nil, List.length_append, List.length_replicate, List.length_map, List.length_set, List.length_take, List.length_drop, strs_len, ints_len, bools_len, aggs_len]; done) | (simp only [List.length_cons, List.length_nil, List.length_append, List.length_replicate, List.length_map, List.length_set, List.length_take, List.length_drop, strs_len, ints_len, bools_len, aggs_len]; omega)) only [go_sem, r18_Same, ne_eq, not_true_eq_false]
  refine r18_Same_l1_ok s [] [] hv _ s.vals.length 0 (by omega) (fun H => ?_)
  simp (disch := first | assumption | omega | (simp only [List.length_cons, List.length_nil, List.length_append, List.length_replicate, List.length_map, List.length_set, List.length_take, List.length_drop, strs_len, ints_len, bools_len, aggs_len]; done) | (simp only [List.length_cons, List.length_nil, List.length_append, List.length_replicate, List.length_map, List.length_set, List.length_take, List.length_drop, strs_len, ints_len, bools_len, aggs_len]; omega)) only [go_sem]
theorem res_same24 {k1 k2 : SK} (s : Ser) (hv : s.vals.length ≤ 1073741824) : res Γ 11 [s.pv k1, s.pv k2] = some [.bool true] := by
  have e := res_Same_self (k1 := k1) (k2 := k2) s hv
  unfold Ser.pv at e ⊢
  refine res_code (fn := l24_same) rfl rfl ?_
  simp (disch := first | assumption | omega | (simp only [List.length_cons, List.length_nil, List.length_append, List.length_replicate, List.length_map, List.length_set, List.length_take, List.length_drop, strs_len, ints_len, bools_len, aggs_len]; done) | (simp only [List.length_cons, List.length_nil, List.length_append, List.length_replicate, List.length_map, List.length_set, List.length_take, List.length_drop, strs_len, ints_len, bools_len, aggs_len]; omega)) only [go_sem, l24_same, e]
def heavyS (s : Ser) : Bool := decide (120 < s.vals.length) || decide (300 < s.name.length)
theorem res_heavy1 {k : SK} (s : Ser) (hv : s.vals.length ≤ 9223372036854775807) : res Γ 12 [.sl .tight 5 [s.pv k]] = some [.bool (heavyS s)] := by
  unfold Ser.pv
  refine res_code (fn := l24_heavy) rfl rfl ?_
  simp (disch := first | assumption | omega | (simp only [List.length_cons, List.length_nil, List.length_append, List.length_replicate, List.length_map, List.length_set, List.length_take, List.length_drop, strs_len, ints_len, bools_len, aggs_len]; done) | (simp only [List.length_cons, List.length_nil, List.length_append, List.length_replicate, List.length_map, List.length_set, List.length_take, List.length_drop, strs_len, ints_len, bools_len, aggs_len]; omega)) only [go_sem, l24_heavy]
  rw [W_loop (L := l24_heavy_l1) rfl]
  repeat' (first | (simp (disch := first | assumption | omega | (simp only [List.length_cons, List.length_nil, List.length_append, List.length_replicate, List.length_map, List.length_set, List.length_take, List.length_drop, strs_len, ints_len, bools_len, aggs_len]; done) | (simp only [List.length_cons, List.length_nil, List.length_append, List.length_replicate, List.length_map, List.length_set, List.length_take, List.length_drop, strs_len, ints_len, bools_len, aggs_len]; omega)) only [go_sem]) | refine cond_split (fun hc => ?_) (fun hc => ?_) | refine gd_split_f (fun hc => ?_) (fun hc => ?_) | refine gd_split_t (fun hc => ?_) (fun hc => ?_))
  · have e : heavyS s = true := by simp [heavyS]; omega
    rw [e]
  · have e : heavyS s = false := by simp [heavyS]; omega
    rw [W_loop (L := l24_heavy_l1) rfl]
    simp (disch := first | assumption | omega | (simp only [List.length_cons, List.length_nil, List.length_append, List.length_replicate, List.length_map, List.length_set, List.length_take, List.length_drop, strs_len, ints_len, bools_len, aggs_len]; done) | (simp only [List.length_cons, List.length_nil, List.length_append, List.length_replicate, List.length_map, List.length_set, List.length_take, List.length_drop, strs_len, ints_len, bools_len, aggs_len]; omega)) only [go_sem, e]
    rw [decide_eq_false (by omega)]
  · have e : heavyS s = true := by simp [heavyS]; omega
    rw [e]
theorem res_FnameConsolidates {k k' : SK} (kind : Int) (s : Ser) (hv : s.vals.length ≤ 9223372036854775807) (ho : s.vals.length ≤ 1073741824 → res Γ 31 [s.pv k] = some [s.pv k']) : res Γ 91 [.int .i64 kind, s.pv k] = some [.bool true] := by
  have h1 := res_heavy1 (k := k) s (by omega)
  unfold Ser.pv at h1
  by_cases hh : heavyS s = true
  · rw [hh] at h1
    unfold Ser.pv
    refine res_code (fn := l24_FnameConsolidates) rfl rfl ?_
    simp (disch := first | assumption | omega | (simp only [List.length_cons, List.length_nil, List.length_append, List.length_replicate, List.length_map, List.length_set, List.length_take, List.length_drop, strs_len, ints_len, bools_len, aggs_len]; done) | (simp only [List.length_cons, List.length_nil, List.length_append, List.length_replicate, List.length_map, List.length_set, List.length_take, List.length_drop, strs_len, ints_len, bools_len, aggs_len]; omega)) only [go_sem, l24_FnameConsolidates, h1]
  · have hh2 : heavyS s = false := by simpa using hh
    have hs : s.vals.length ≤ 120 ∧ s.name.length ≤ 300 := by
      simp [heavyS] at hh2; omega
    rw [hh2] at h1
    have e2 := res_fnameBy kind s (by omega) (ho (by omega))
    have e3 := res_r24By (k := k) kind s (by omega) (by omega)
    have hb : (byS kind s).vals = s.vals := by unfold byS; split <;> rfl
    have e4 := res_same24 (k1 := k') (k2 := .any) (byS kind s) (by rw [hb]; omega)
    unfold Ser.pv at e2 e3 e4 ⊢
    refine res_code (fn := l24_FnameConsolidates) rfl rfl ?_
    simp (disch := first | assumption | omega | (simp only [List.length_cons, List.length_nil, List.length_append, List.length_replicate, List.length_map, List.length_set, List.length_take, List.length_drop, strs_len, ints_len, bools_len, aggs_len]; done) | (simp only [List.length_cons, List.length_nil, List.length_append, List.length_replicate, List.length_map, List.length_set, List.length_take, List.length_drop, strs_len, ints_len, bools_len, aggs_len]; omega)) only [go_sem, l24_FnameConsolidates, h1, e2, e3, e4]
end Ab
