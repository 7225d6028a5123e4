import Derived.Test.YtcjkmikiinljmaaGreatDoorPApply
import Derived.Test.YtcjkmikiinljmaaGreatDoorLIs
import Derived.Test.YtcjkmikiinljmaaGreatDoorLMd
import Derived.Test.YtcjkmikiinljmaaGreatDoorCode
namespace Ab
open Go (IntKind BinOp UnOp)
theorem agg3_cons {l : List Val} {b : Val} {k : List Val} (h : knL l = b :: k) : aggV 3 l = (b :: k).getD k.length (false, 0) := by
  unfold aggV; rw [h]
  show (b :: k).getLastD noV = _
  rw [List.getLastD_eq_getLast?, List.getLast?_eq_getElem?, List.getD_eq_getElem?_getD]
  rfl
theorem aggNo {kind : Int} {l : List Val} (h : ¬ (1 ≤ kind ∧ kind ≤ 5)) : aggV kind l = (false, 0) := by
  unfold aggV
  cases knL l with
  | nil => rfl
  | cons b k =>
    show (if kind = 1 then _ else if kind = 2 then _ else if kind = 3 then _ else if kind = 4 then _ else if kind = 5 then _ else noV) = _
    rw [if_neg (by omega), if_neg (by omega), if_neg (by omega), if_neg (by omega), if_neg (by omega)]; rfl
theorem res_aggOf3 {kk : SK} (l : List Val) (hl : l.length < 1000000000) : res Γ 132 [.int .i64 3, .sl kk 2 (vpv l)] = some [.agg [.bool (aggV 3 l).1, .int .i64 (aggV 3 l).2]] := by
  have hk := knL_len l
  refine res_code (fn := agg_Of) rfl rfl ?_
  simp (disch := first | assumption | omega | decide | (simp only [List.length_cons, List.length_nil, List.length_append, List.length_replicate, List.length_map, List.length_set, List.length_take, List.length_drop, strs_len, ints_len, bools_len, aggs_len, vpv_len]; done) | (simp only [List.length_cons, List.length_nil, List.length_append, List.length_replicate, List.length_map, List.length_set, List.length_take, List.length_drop, strs_len, ints_len, bools_len, aggs_len, vpv_len]; omega)) only [go_sem, agg_Of]
  cases h : knL l with
  | nil =>
    simp (disch := first | assumption | omega | decide | (simp only [List.length_cons, List.length_nil, List.length_append, List.length_replicate, List.length_map, List.length_set, List.length_take, List.length_drop, strs_len, ints_len, bools_len, aggs_len, vpv_len]; done) | (simp only [List.length_cons, List.length_nil, List.length_append, List.length_replicate, List.length_map, List.length_set, List.length_take, List.length_drop, strs_len, ints_len, bools_len, aggs_len, vpv_len]; omega)) only [go_sem, agg2_nil h]
  | cons b k =>
    have e := agg3_cons h
    have e2 : ((k.length + 1 : Nat) : Int) - 1 = (k.length : Int) := by omega
    rw [h] at hk
    simp only [List.length_cons] at hk
    simp (disch := first | assumption | omega | decide | (simp only [List.length_cons, List.length_nil, List.length_append, List.length_replicate, List.length_map, List.length_set, List.length_take, List.length_drop, strs_len, ints_len, bools_len, aggs_len, vpv_len]; done) | (simp only [List.length_cons, List.length_nil, List.length_append, List.length_replicate, List.length_map, List.length_set, List.length_take, List.length_drop, strs_len, ints_len, bools_len, aggs_len, vpv_len]; omega)) only [go_sem, e, e2, valP]
theorem res_aggOfNo {kk : SK} (kind : Int) (hn : ¬ (1 ≤ kind ∧ kind ≤ 5)) (l : List Val) (hl : l.length < 1000000000) : res Γ 132 [.int .i64 kind, .sl kk 2 (vpv l)] = some [.agg [.bool (aggV kind l).1, .int .i64 (aggV kind l).2]] := by
  have hk := knL_len l
  have e := aggNo (l := l) hn
  have h1 : ¬ kind = 1 := by omega
  have h2 : ¬ kind = 2 := by omega
  have h3 : ¬ kind = 3 := by omega
  have h4 : ¬ kind = 4 := by omega
  have h5 : ¬ kind = 5 := by omega
  refine res_code (fn := agg_Of) rfl rfl ?_
  simp (disch := first | assumption | omega | decide | (simp only [List.length_cons, List.length_nil, List.length_append, List.length_replicate, List.length_map, List.length_set, List.length_take, List.length_drop, strs_len, ints_len, bools_len, aggs_len, vpv_len]; done) | (simp only [List.length_cons, List.length_nil, List.length_append, List.length_replicate, List.length_map, List.length_set, List.length_take, List.length_drop, strs_len, ints_len, bools_len, aggs_len, vpv_len]; omega)) only [go_sem, agg_Of]
  cases h : knL l with
  | nil =>
    simp (disch := first | assumption | omega | decide | (simp only [List.length_cons, List.length_nil, List.length_append, List.length_replicate, List.length_map, List.length_set, List.length_take, List.length_drop, strs_len, ints_len, bools_len, aggs_len, vpv_len]; done) | (simp only [List.length_cons, List.length_nil, List.length_append, List.length_replicate, List.length_map, List.length_set, List.length_take, List.length_drop, strs_len, ints_len, bools_len, aggs_len, vpv_len]; omega)) only [go_sem, e]
  | cons b k =>
    rw [h] at hk
    simp only [List.length_cons] at hk
    simp (disch := first | assumption | omega | decide | (simp only [List.length_cons, List.length_nil, List.length_append, List.length_replicate, List.length_map, List.length_set, List.length_take, List.length_drop, strs_len, ints_len, bools_len, aggs_len, vpv_len]; done) | (simp only [List.length_cons, List.length_nil, List.length_append, List.length_replicate, List.length_map, List.length_set, List.length_take, List.length_drop, strs_len, ints_len, bools_len, aggs_len, vpv_len]; omega)) only [go_sem, e, valP]
theorem res_aggOfK {kk : SK} (kind : Int) (l : List Val) (hl : l.length < 1000000000) : res Γ 132 [.int .i64 kind, .sl kk 2 (vpv l)] = some [.agg [.bool (aggV kind l).1, .int .i64 (aggV kind l).2]] := by
  by_cases h : 1 ≤ kind ∧ kind ≤ 5
  · have : kind = 1 ∨ kind = 2 ∨ kind = 3 ∨ kind = 4 ∨ kind = 5 := by omega
    rcases this with rfl | rfl | rfl | rfl | rfl
    · exact res_aggOf1 l hl
    · exact res_aggOf2 l hl
    · exact res_aggOf3 l hl
    · exact res_aggOf4 l hl
    · exact res_aggOf5 l hl
  · exact res_aggOfNo kind h l hl
theorem res_r6Of3 {kk : SK} (l : List Val) (hl : l.length < 1000000000) : res Γ 122 [.int .i64 3, .sl kk 2 (vpv l)] = some [.agg [.bool (aggV 3 l).1, .int .i64 (aggV 3 l).2]] := by
  have hk := knL_len l
  refine res_code (fn := r6_Of) rfl rfl ?_
  simp (disch := first | assumption | omega | decide | (simp only [List.length_cons, List.length_nil, List.length_append, List.length_replicate, List.length_map, List.length_set, List.length_take, List.length_drop, strs_len, ints_len, bools_len, aggs_len, vpv_len]; done) | (simp only [List.length_cons, List.length_nil, List.length_append, List.length_replicate, List.length_map, List.length_set, List.length_take, List.length_drop, strs_len, ints_len, bools_len, aggs_len, vpv_len]; omega)) only [go_sem, r6_Of]
  cases h : knL l with
  | nil =>
    simp (disch := first | assumption | omega | decide | (simp only [List.length_cons, List.length_nil, List.length_append, List.length_replicate, List.length_map, List.length_set, List.length_take, List.length_drop, strs_len, ints_len, bools_len, aggs_len, vpv_len]; done) | (simp only [List.length_cons, List.length_nil, List.length_append, List.length_replicate, List.length_map, List.length_set, List.length_take, List.length_drop, strs_len, ints_len, bools_len, aggs_len, vpv_len]; omega)) only [go_sem, agg2_nil h]
  | cons b k =>
    have e := agg3_cons h
    have e2 : ((k.length + 1 : Nat) : Int) - 1 = (k.length : Int) := by omega
    rw [h] at hk
    simp only [List.length_cons] at hk
    simp (disch := first | assumption | omega | decide | (simp only [List.length_cons, List.length_nil, List.length_append, List.length_replicate, List.length_map, List.length_set, List.length_take, List.length_drop, strs_len, ints_len, bools_len, aggs_len, vpv_len]; done) | (simp only [List.length_cons, List.length_nil, List.length_append, List.length_replicate, List.length_map, List.length_set, List.length_take, List.length_drop, strs_len, ints_len, bools_len, aggs_len, vpv_len]; omega)) only [go_sem, valP]
    refine r6_Of_l1_ok 3 b k (by omega) _ _ k.length 0 (by omega) ?_
    simp (disch := first | assumption | omega | decide | (simp only [List.length_cons, List.length_nil, List.length_append, List.length_replicate, List.length_map, List.length_set, List.length_take, List.length_drop, strs_len, ints_len, bools_len, aggs_len, vpv_len]; done) | (simp only [List.length_cons, List.length_nil, List.length_append, List.length_replicate, List.length_map, List.length_set, List.length_take, List.length_drop, strs_len, ints_len, bools_len, aggs_len, vpv_len]; omega)) only [go_sem, e, e2, valP]
theorem res_r6OfNo {kk : SK} (kind : Int) (hn : ¬ (1 ≤ kind ∧ kind ≤ 5)) (l : List Val) (hl : l.length < 1000000000) : res Γ 122 [.int .i64 kind, .sl kk 2 (vpv l)] = some [.agg [.bool (aggV kind l).1, .int .i64 (aggV kind l).2]] := by
  have hk := knL_len l
  have e := aggNo (l := l) hn
  refine res_code (fn := r6_Of) rfl rfl ?_
  simp (disch := first | assumption | omega | decide | (simp only [List.length_cons, List.length_nil, List.length_append, List.length_replicate, List.length_map, List.length_set, List.length_take, List.length_drop, strs_len, ints_len, bools_len, aggs_len, vpv_len]; done) | (simp only [List.length_cons, List.length_nil, List.length_append, List.length_replicate, List.length_map, List.length_set, List.length_take, List.length_drop, strs_len, ints_len, bools_len, aggs_len, vpv_len]; omega)) only [go_sem, r6_Of]
  by_cases h0 : (knL l).length = 0
  · simp (disch := first | assumption | omega | decide | (simp only [List.length_cons, List.length_nil, List.length_append, List.length_replicate, List.length_map, List.length_set, List.length_take, List.length_drop, strs_len, ints_len, bools_len, aggs_len, vpv_len]; done) | (simp only [List.length_cons, List.length_nil, List.length_append, List.length_replicate, List.length_map, List.length_set, List.length_take, List.length_drop, strs_len, ints_len, bools_len, aggs_len, vpv_len]; omega)) only [go_sem, e]
  · by_cases h1 : kind < 1
    · simp (disch := first | assumption | omega | decide | (simp only [List.length_cons, List.length_nil, List.length_append, List.length_replicate, List.length_map, List.length_set, List.length_take, List.length_drop, strs_len, ints_len, bools_len, aggs_len, vpv_len]; done) | (simp only [List.length_cons, List.length_nil, List.length_append, List.length_replicate, List.length_map, List.length_set, List.length_take, List.length_drop, strs_len, ints_len, bools_len, aggs_len, vpv_len]; omega)) only [go_sem, e]
    · simp (disch := first | assumption | omega | decide | (simp only [List.length_cons, List.length_nil, List.length_append, List.length_replicate, List.length_map, List.length_set, List.length_take, List.length_drop, strs_len, ints_len, bools_len, aggs_len, vpv_len]; done) | (simp only [List.length_cons, List.length_nil, List.length_append, List.length_replicate, List.length_map, List.length_set, List.length_take, List.length_drop, strs_len, ints_len, bools_len, aggs_len, vpv_len]; omega)) only [go_sem, e]
theorem res_r6OfK {kk : SK} (kind : Int) (l : List Val) (hl : l.length < 1000000000) : res Γ 122 [.int .i64 kind, .sl kk 2 (vpv l)] = some [.agg [.bool (aggV kind l).1, .int .i64 (aggV kind l).2]] := by
  by_cases h : 1 ≤ kind ∧ kind ≤ 5
  · have : kind = 1 ∨ kind = 2 ∨ kind = 3 ∨ kind = 4 ∨ kind = 5 := by omega
    rcases this with rfl | rfl | rfl | rfl | rfl
    · exact res_r6Of1 l hl
    · exact res_r6Of 2 (by omega) l hl
    · exact res_r6Of3 l hl
    · exact res_r6Of 4 (by omega) l hl
    · exact res_r6Of 5 (by omega) l hl
  · exact res_r6OfNo kind h l hl
end Ab
namespace Ab
open Go (IntKind BinOp UnOp)
end Ab
namespace Ab
open Go (IntKind BinOp UnOp)
theorem mulb {i : Nat} {step : Int} (h : i ≤ 131072) (h1 : 0 ≤ step) (h2 : step ≤ 1099511627776) : 0 ≤ (i : Int) * step ∧ (i : Int) * step ≤ 144115188075855872 := by
  refine ⟨Int.mul_nonneg (by omega) h1, ?_⟩
  calc (i : Int) * step ≤ 131072 * 1099511627776 := Int.mul_le_mul (by omega) h2 h1 (by omega)
    _ = 144115188075855872 := by decide
theorem res_within1 {kk : SK} (s : Ser) (hz : sizeS s) (t : Int) (ht : -1000000000000000000 ≤ t ∧ t ≤ 1000000000000000000) :
    res Γ 170 [.int .i64 t, .ptr [.str s.name, .int .i64 s.start, .int .i64 s.step, .sl kk 2 (vpv s.vals), .int .i64 s.cons]] = some [.int .i64 (plcS s t : Nat)] := by
  obtain ⟨_, _, _, _, _, _, _, _⟩ := hz
  refine res_code (fn := series_within_1) rfl rfl ?_
  by_cases h : t ≤ s.start
  · have e : plcS s t = 0 := by unfold plcS; rw [if_pos h]
    simp (disch := first | assumption | omega | decide | (simp only [List.length_cons, List.length_nil, List.length_append, List.length_replicate, List.length_map, List.length_set, List.length_take, List.length_drop, strs_len, ints_len, bools_len, aggs_len, vpv_len]; done) | (simp only [List.length_cons, List.length_nil, List.length_append, List.length_replicate, List.length_map, List.length_set, List.length_take, List.length_drop, strs_len, ints_len, bools_len, aggs_len, vpv_len]; omega)) only [go_sem, series_within_1, e]
    rfl
  · have h0 : 0 ≤ (t - s.start - 1) / s.step := Int.ediv_nonneg (by omega) (by omega)
    have h1 : (t - s.start - 1) / s.step ≤ t - s.start - 1 := Int.ediv_le_self _ (by omega)
    have m0 := map_quo (k := .i64) (a := t - s.start - 1) (b := s.step) (by omega) (by omega) (wrap_i64 (by omega) (by omega))
    have e : ((plcS s t : Nat) : Int) = min (s.vals.length : Int) ((t - s.start - 1) / s.step + 1) := by unfold plcS; rw [if_neg h]; omega
    simp (disch := first | assumption | omega | decide | (simp only [List.length_cons, List.length_nil, List.length_append, List.length_replicate, List.length_map, List.length_set, List.length_take, List.length_drop, strs_len, ints_len, bools_len, aggs_len, vpv_len]; done) | (simp only [List.length_cons, List.length_nil, List.length_append, List.length_replicate, List.length_map, List.length_set, List.length_take, List.length_drop, strs_len, ints_len, bools_len, aggs_len, vpv_len]; omega)) only [go_sem, series_within_1, m0, e]
theorem res_within {kk : SK} (s : Ser) (hz : sizeS s) (t u : Int) (ht : -1000000000000000000 ≤ t ∧ t ≤ u ∧ u ≤ 1000000000000000000) :
    res Γ 166 [s.pv kk, .int .i64 t, .int .i64 u] = some [.sl kk.cut 2 (vpv (withinV s t u))] := by
  have e1 := res_within1 (kk := kk) s hz t (by omega)
  have e2 := res_within1 (kk := kk) s hz u (by omega)
  have g := plcS_mono (s := s) (by have := hz; unfold sizeS at this; omega) (show t ≤ u by omega)
  have g2 := plcS_le s u
  have hw : (vpv s.vals).length = s.vals.length := vpv_len
  unfold Ser.pv
  refine res_code (fn := series_within) rfl rfl ?_
  simp (disch := first | assumption | omega | decide | (simp only [List.length_cons, List.length_nil, List.length_append, List.length_replicate, List.length_map, List.length_set, List.length_take, List.length_drop, strs_len, ints_len, bools_len, aggs_len, vpv_len]; done) | (simp only [List.length_cons, List.length_nil, List.length_append, List.length_replicate, List.length_map, List.length_set, List.length_take, List.length_drop, strs_len, ints_len, bools_len, aggs_len, vpv_len]; omega)) only [go_sem, series_within, e1, e2, withinV]
theorem res_seriesCons {kk : SK} (s : Ser) (hs : isS s = true) (hl : s.vals.length ≤ 9223372036854775807) : res Γ 165 [s.pv kk] = some [.int .i64 (consV s)] := by
  have e := res_seriesIs (kk := kk) s hl
  unfold Ser.pv at e ⊢
  refine res_code (fn := series_Cons) rfl rfl ?_
  by_cases h : s.cons = 0
  · simp (disch := first | assumption | omega | decide | (simp only [List.length_cons, List.length_nil, List.length_append, List.length_replicate, List.length_map, List.length_set, List.length_take, List.length_drop, strs_len, ints_len, bools_len, aggs_len, vpv_len]; done) | (simp only [List.length_cons, List.length_nil, List.length_append, List.length_replicate, List.length_map, List.length_set, List.length_take, List.length_drop, strs_len, ints_len, bools_len, aggs_len, vpv_len]; omega)) only [go_sem, series_Cons, consV]
    rw [if_pos h]
  · simp (disch := first | assumption | omega | decide | (simp only [List.length_cons, List.length_nil, List.length_append, List.length_replicate, List.length_map, List.length_set, List.length_take, List.length_drop, strs_len, ints_len, bools_len, aggs_len, vpv_len]; done) | (simp only [List.length_cons, List.length_nil, List.length_append, List.length_replicate, List.length_map, List.length_set, List.length_take, List.length_drop, strs_len, ints_len, bools_len, aggs_len, vpv_len]; omega)) only [go_sem, series_Cons, e, hs, consV]
    rw [if_neg h]
theorem res_r18Cons {kk : SK} (s : Ser) (hs : isS s = true) (hl : s.vals.length ≤ 9223372036854775807) : res Γ 169 [s.pv kk] = some [.int .i64 (consV s)] := by
  have e := res_r18Is (kk := kk) s hl
  unfold Ser.pv at e ⊢
  refine res_code (fn := r18_Cons) rfl rfl ?_
  by_cases h : s.cons = 0
  · simp (disch := first | assumption | omega | decide | (simp only [List.length_cons, List.length_nil, List.length_append, List.length_replicate, List.length_map, List.length_set, List.length_take, List.length_drop, strs_len, ints_len, bools_len, aggs_len, vpv_len]; done) | (simp only [List.length_cons, List.length_nil, List.length_append, List.length_replicate, List.length_map, List.length_set, List.length_take, List.length_drop, strs_len, ints_len, bools_len, aggs_len, vpv_len]; omega)) only [go_sem, r18_Cons, consV]
    rw [if_pos h]
  · simp (disch := first | assumption | omega | decide | (simp only [List.length_cons, List.length_nil, List.length_append, List.length_replicate, List.length_map, List.length_set, List.length_take, List.length_drop, strs_len, ints_len, bools_len, aggs_len, vpv_len]; done) | (simp only [List.length_cons, List.length_nil, List.length_append, List.length_replicate, List.length_map, List.length_set, List.length_take, List.length_drop, strs_len, ints_len, bools_len, aggs_len, vpv_len]; omega)) only [go_sem, r18_Cons, e, hs, consV]
    rw [if_neg h]
theorem isS_size {s : Ser} (h : isS s = true) : sizeS s := by
  unfold isS at h
  simp only [Bool.and_eq_true, decide_eq_true_eq] at h
  exact h.1
theorem withinV_len {s : Ser} {t u : Int} (h : s.vals.length ≤ 131072) : (withinV s t u).length ≤ 131072 := by
  unfold withinV
  rw [List.length_drop, List.length_take]; omega
theorem sFit_l1_ok {kk : SK} (s : Ser) (hs : isS s = true) (start step : Int) (h0 : 0 ≤ start) (h1 : start ≤ 4294967295) (g0 : 1 ≤ step) (g1 : step ≤ 1099511627776) (n : Nat) (hn : n ≤ 131072) (B1 : Blk) (Q : Out → Prop) : ∀ (k i : Nat), i + 1 + k = n →
    (Q (.nrm, [(8, .bx 1 0), (9, .bx 2 0)], [.box [.p (.str s.name), .p (.int .i64 s.start), .p (.int .i64 s.step), .p (.sl kk 2 (vpv s.vals)), .p (.int .i64 s.cons)], B1, .box [.p (.str s.name), .p (.int .i64 start), .p (.int .i64 step), .own 3 n, .p (.int .i64 s.cons)], .row false 2 (vpv (fitV s start step n))])) →
    Wp Γ series_Fit_l1 [(1, .p (.int .i64 start)), (2, .p (.int .i64 step)), (4, .bx 0 0), (8, .bx 1 0), (9, .bx 2 0), (48, .p (.int .i64 (n : Int))), (49, .p (.int .i64 ((i + 1 : Nat) : Int)))]
      [.box [.p (.str s.name), .p (.int .i64 s.start), .p (.int .i64 s.step), .p (.sl kk 2 (vpv s.vals)), .p (.int .i64 s.cons)], B1, .box [.p (.str s.name), .p (.int .i64 start), .p (.int .i64 step), .own 3 (i + 1), .p (.int .i64 s.cons)], .row false 2 (vpv (fitV s start step (i + 1)))] (InBlk [8, 9] 0 Q) := by
  have hz := isS_size hs
  have hv : s.vals.length ≤ 131072 := by unfold sizeS at hz; omega
  intro k
  induction k with
  | zero =>
    intro i hi hQ
    have hi : i + 1 = n := by omega
    rw [hi]
    rw [W_loop (L := series_Fit_l1) rfl]
    simp (disch := first | assumption | omega | decide | (simp only [List.length_cons, List.length_nil, List.length_append, List.length_replicate, List.length_map, List.length_set, List.length_take, List.length_drop, strs_len, ints_len, bools_len, aggs_len, vpv_len]; done) | (simp only [List.length_cons, List.length_nil, List.length_append, List.length_replicate, List.length_map, List.length_set, List.length_take, List.length_drop, strs_len, ints_len, bools_len, aggs_len, vpv_len]; omega)) only [go_sem]
    exact hQ
  | succ k ih =>
    intro i hi hQ
    have g := @fitV_len s start step (i + 1)
    have e := @fitV_succ s start step (i + 1)
    obtain ⟨b0, b1⟩ := mulb (i := i + 1) (step := step) (by omega) (by omega) g1
    have a := res_within (kk := kk) s hz (start + ((i + 1 : Nat) : Int) * step) (start + ((i + 1 : Nat) : Int) * step + step) (by omega)
    have hw := withinV_len (s := s) (t := start + ((i + 1 : Nat) : Int) * step) (u := start + ((i + 1 : Nat) : Int) * step + step) hv
    have c := res_aggOfK (kk := kk.cut) (consV s) (withinV s (start + ((i + 1 : Nat) : Int) * step) (start + ((i + 1 : Nat) : Int) * step + step)) (by omega)
    have d := res_seriesCons (kk := kk) s hs (by omega)
    unfold Ser.pv at a d
    rw [W_loop (L := series_Fit_l1) rfl]
    simp (disch := first | assumption | omega | decide | (simp only [List.length_cons, List.length_nil, List.length_append, List.length_replicate, List.length_map, List.length_set, List.length_take, List.length_drop, strs_len, ints_len, bools_len, aggs_len, vpv_len]; done) | (simp only [List.length_cons, List.length_nil, List.length_append, List.length_replicate, List.length_map, List.length_set, List.length_take, List.length_drop, strs_len, ints_len, bools_len, aggs_len, vpv_len]; omega)) only [go_sem, a, c, d]
    rw [← e]
    exact ih (i + 1) (by omega) hQ
theorem sFit_l1_first {kk : SK} (s : Ser) (hs : isS s = true) (start step : Int) (h0 : 0 ≤ start) (h1 : start ≤ 4294967295) (g0 : 1 ≤ step) (g1 : step ≤ 1099511627776) (n : Nat) (hn : n ≤ 131072) (hpos : 0 < n) (B1 : Blk) (Q : Out → Prop) :
    (Q (.nrm, [(8, .bx 1 0), (9, .bx 2 0)], [.box [.p (.str s.name), .p (.int .i64 s.start), .p (.int .i64 s.step), .p (.sl kk 2 (vpv s.vals)), .p (.int .i64 s.cons)], B1, .box [.p (.str s.name), .p (.int .i64 start), .p (.int .i64 step), .own 3 n, .p (.int .i64 s.cons)], .row false 2 (vpv (fitV s start step n))])) →
    Wp Γ series_Fit_l1 [(1, .p (.int .i64 start)), (2, .p (.int .i64 step)), (4, .bx 0 0), (8, .bx 1 0), (9, .bx 2 0), (48, .p (.int .i64 (n : Int))), (49, .p (.int .i64 0))]
      [.box [.p (.str s.name), .p (.int .i64 s.start), .p (.int .i64 s.step), .p (.sl kk 2 (vpv s.vals)), .p (.int .i64 s.cons)], B1, .box [.p (.str s.name), .p (.int .i64 start), .p (.int .i64 step), .p (.sl .nil 2 []), .p (.int .i64 s.cons)]] (InBlk [8, 9] 0 Q) := by
  have hz := isS_size hs
  have hv : s.vals.length ≤ 131072 := by unfold sizeS at hz; omega
  intro hQ
  have e := @fitV_succ s start step 0
  rw [show ((0 : Nat) : Int) = 0 from rfl, Int.zero_mul, Int.add_zero] at e
  have a := res_within (kk := kk) s hz start (start + step) (by omega)
  have hw := withinV_len (s := s) (t := start) (u := start + step) hv
  have c := res_aggOfK (kk := kk.cut) (consV s) (withinV s start (start + step)) (by omega)
  have d := res_seriesCons (kk := kk) s hs (by omega)
  unfold Ser.pv at a d
  rw [W_loop (L := series_Fit_l1) rfl]
  simp (disch := first | assumption | omega | decide | (simp only [List.length_cons, List.length_nil, List.length_append, List.length_replicate, List.length_map, List.length_set, List.length_take, List.length_drop, strs_len, ints_len, bools_len, aggs_len, vpv_len]; done) | (simp only [List.length_cons, List.length_nil, List.length_append, List.length_replicate, List.length_map, List.length_set, List.length_take, List.length_drop, strs_len, ints_len, bools_len, aggs_len, vpv_len]; omega)) only [go_sem, a, c, d, Int.zero_mul]
  have h := sFit_l1_ok (kk := kk) s hs start step h0 h1 g0 g1 n hn B1 Q (n - 1) 0 (by omega) hQ
  rw [e] at h
  exact h
def fitK (n : Nat) : SK := if n = 0 then .nil else .any
theorem res_seriesFit {kk : SK} (s : Ser) (hs : isS s = true) (start step : Int) (h0 : 0 ≤ start) (h1 : start ≤ 4294967295) (g0 : 1 ≤ step) (g1 : step ≤ 1099511627776) (n : Nat) (hn : n ≤ 131072) :
    res Γ 158 [s.pv kk, .int .i64 start, .int .i64 step, .int .i64 (n : Int)] = some [(fitS s start step n).pv (fitK n)] := by
  have hz := isS_size hs
  have hv : s.vals.length ≤ 131072 := by unfold sizeS at hz; omega
  have e := res_seriesIs (kk := kk) s (by omega)
  unfold Ser.pv at e ⊢
  refine res_code (fn := series_Fit) rfl rfl ?_
  simp (disch := first | assumption | omega | decide | (simp only [List.length_cons, List.length_nil, List.length_append, List.length_replicate, List.length_map, List.length_set, List.length_take, List.length_drop, strs_len, ints_len, bools_len, aggs_len, vpv_len]; done) | (simp only [List.length_cons, List.length_nil, List.length_append, List.length_replicate, List.length_map, List.length_set, List.length_take, List.length_drop, strs_len, ints_len, bools_len, aggs_len, vpv_len]; omega)) only [go_sem, series_Fit, e, hs]
  by_cases hne : n = 0
  · subst hne
    rw [W_loop (L := series_Fit_l1) rfl]
    simp (disch := first | assumption | omega | decide | (simp only [List.length_cons, List.length_nil, List.length_append, List.length_replicate, List.length_map, List.length_set, List.length_take, List.length_drop, strs_len, ints_len, bools_len, aggs_len, vpv_len]; done) | (simp only [List.length_cons, List.length_nil, List.length_append, List.length_replicate, List.length_map, List.length_set, List.length_take, List.length_drop, strs_len, ints_len, bools_len, aggs_len, vpv_len]; omega)) only [go_sem, fitS, fitK]
    rfl
  · refine sFit_l1_first s hs start step h0 h1 g0 g1 n hn (by omega) _ _ ?_
    have hw : (vpv (fitV s start step n)).length = n := by rw [vpv_len, fitV_len]
    simp (disch := first | assumption | omega | decide | (simp only [List.length_cons, List.length_nil, List.length_append, List.length_replicate, List.length_map, List.length_set, List.length_take, List.length_drop, strs_len, ints_len, bools_len, aggs_len, vpv_len]; done) | (simp only [List.length_cons, List.length_nil, List.length_append, List.length_replicate, List.length_map, List.length_set, List.length_take, List.length_drop, strs_len, ints_len, bools_len, aggs_len, vpv_len]; omega)) only [go_sem, fitS, fitK]
    rw [if_neg hne]
end Ab
namespace Ab
open Go (IntKind BinOp UnOp)
def colV (s : Ser) (f : Int) (j : Nat) : List Val := (s.vals.take j).drop (plcS s f)
theorem colV_lo {s : Ser} {f : Int} {j : Nat} (h : j ≤ plcS s f) : colV s f j = [] := by
  unfold colV
  exact List.drop_eq_nil_of_le (by rw [List.length_take]; omega)
theorem colV_hi {s : Ser} {f : Int} {j : Nat} (h : ¬ j < plcS s f) (hj : j < s.vals.length) : colV s f (j + 1) = colV s f j ++ [s.vals.getD j (false, 0)] := by
  unfold colV
  rw [take_snoc' (false, 0) hj, List.drop_append_of_le_length (by rw [List.length_take]; omega)]
theorem colV_len {s : Ser} {f : Int} {j : Nat} (h : s.vals.length ≤ 131072) : (colV s f j).length ≤ 131072 := by
  unfold colV
  rw [List.length_drop, List.length_take]; omega

theorem rFit_l1A {kk : SK} (s : Ser) (hz : sizeS s) (start step n : Int) (h0 : 0 ≤ start) (h1 : start ≤ 4294967295) (g0 : 1 ≤ step) (g1 : step ≤ 1099511627776) (k : Nat) (hk : k ≤ 131072) (B1 B2 : Blk) (Q : Out → Prop) : ∀ (d j : Nat), j + d = plcS s (start + k * step + step) →
    (Q (.nrm, [(1, .p (.int .i64 start)), (2, .p (.int .i64 step)), (3, .p (.int .i64 n)), (4, .bx 0 0), (8, .bx 1 0), (9, .bx 2 0), (10, .p (.int .i64 ((plcS s (start + k * step + step) : Nat)))), (11, .p (.int .i64 (k : Int))), (12, .own 3 (withinV s (start + k * step) (start + k * step + step)).length)], [.box [.p (.str s.name), .p (.int .i64 s.start), .p (.int .i64 s.step), .p (.sl kk 2 (vpv s.vals)), .p (.int .i64 s.cons)], B1, B2, .row false 2 (vpv (withinV s (start + k * step) (start + k * step + step)))])) →
    Wp Γ r18_Fit_l1 [(1, .p (.int .i64 start)), (2, .p (.int .i64 step)), (3, .p (.int .i64 n)), (4, .bx 0 0), (8, .bx 1 0), (9, .bx 2 0), (10, .p (.int .i64 ((j : Nat)))), (11, .p (.int .i64 (k : Int))), (12, .own 3 (colV s (start + k * step) j).length)] [.box [.p (.str s.name), .p (.int .i64 s.start), .p (.int .i64 s.step), .p (.sl kk 2 (vpv s.vals)), .p (.int .i64 s.cons)], B1, B2, .row false 2 (vpv (colV s (start + k * step) j))] (InBlk [1, 2, 3, 4, 8, 9, 10, 11, 12] 2 Q) := by
  have hs1 : 1 ≤ s.step := by unfold sizeS at hz; omega
  have hs2 : s.step ≤ 1099511627776 := by unfold sizeS at hz; omega
  have hv : s.vals.length ≤ 131072 := by unfold sizeS at hz; omega
  have hst : 0 ≤ s.start ∧ s.start ≤ 4294967295 := by unfold sizeS at hz; omega
  have em : ((k : Int) + 1) * step = (k : Int) * step + step := by rw [Int.add_mul, Int.one_mul]
  obtain ⟨b0, b1⟩ := mulb (i := k) (step := step) hk (by omega) g1
  have hp := plcS_le s (start + k * step + step)
  intro d
  induction d with
  | zero =>
    intro j hj hQ
    have hj : j = plcS s (start + k * step + step) := by omega
    have e : colV s (start + k * step) j = withinV s (start + k * step) (start + k * step + step) := by rw [hj]; rfl
    have hi := plcS_iff (s := s) (t := start + k * step + step) (i := j) hs1
    rw [← hj, ← e] at hQ
    rw [← hj] at hi
    clear hj
    rw [W_loop (L := r18_Fit_l1) rfl]
    by_cases h : j < s.vals.length
    · have hi := hi h
      obtain ⟨c0, c1⟩ := mulb (i := j) (step := s.step) (by omega) (by omega) hs2
      have hn : ¬ s.start + (j : Int) * s.step < start + ((k : Int) * step + step) := by omega
      simp (disch := first | assumption | omega | decide | (simp only [List.length_cons, List.length_nil, List.length_append, List.length_replicate, List.length_map, List.length_set, List.length_take, List.length_drop, strs_len, ints_len, bools_len, aggs_len, vpv_len]; done) | (simp only [List.length_cons, List.length_nil, List.length_append, List.length_replicate, List.length_map, List.length_set, List.length_take, List.length_drop, strs_len, ints_len, bools_len, aggs_len, vpv_len]; omega)) only [go_sem, em]
      exact hQ
    · simp (disch := first | assumption | omega | decide | (simp only [List.length_cons, List.length_nil, List.length_append, List.length_replicate, List.length_map, List.length_set, List.length_take, List.length_drop, strs_len, ints_len, bools_len, aggs_len, vpv_len]; done) | (simp only [List.length_cons, List.length_nil, List.length_append, List.length_replicate, List.length_map, List.length_set, List.length_take, List.length_drop, strs_len, ints_len, bools_len, aggs_len, vpv_len]; omega)) only [go_sem]
      exact hQ
  | succ d ih =>
    intro j hj hQ
    have hlt : j < plcS s (start + k * step + step) := by omega
    have h : j < s.vals.length := by omega
    have hi := (plcS_iff (s := s) (t := start + k * step + step) (i := j) hs1 h).1 hlt
    have hf := plcS_iff (s := s) (t := start + k * step) (i := j) hs1 h
    obtain ⟨c0, c1⟩ := mulb (i := j) (step := s.step) (by omega) (by omega) hs2
    have hn : s.start + (j : Int) * s.step < start + ((k : Int) * step + step) := by omega
    have hc := @colV_len s (start + k * step) j hv
    have hw : (vpv (colV s (start + k * step) j)).length = (colV s (start + k * step) j).length := vpv_len
    have ih := ih (j + 1) (by omega) hQ
    rw [W_loop (L := r18_Fit_l1) rfl]
    by_cases hb : j < plcS s (start + k * step)
    · have e1 := colV_lo (s := s) (f := start + k * step) (j := j) (by omega)
      have e2 := colV_lo (s := s) (f := start + k * step) (j := j + 1) (by omega)
      have hg : ¬ start + (k : Int) * step ≤ s.start + (j : Int) * s.step := by omega
      rw [e2, ← e1] at ih
      simp (disch := first | assumption | omega | decide | (simp only [List.length_cons, List.length_nil, List.length_append, List.length_replicate, List.length_map, List.length_set, List.length_take, List.length_drop, strs_len, ints_len, bools_len, aggs_len, vpv_len]; done) | (simp only [List.length_cons, List.length_nil, List.length_append, List.length_replicate, List.length_map, List.length_set, List.length_take, List.length_drop, strs_len, ints_len, bools_len, aggs_len, vpv_len]; omega)) only [go_sem, em]
      exact ih
    · have e1 := colV_hi hb h
      have hg : start + (k : Int) * step ≤ s.start + (j : Int) * s.step := by omega
      rw [e1, List.length_append] at ih
      simp (disch := first | assumption | omega | decide | (simp only [List.length_cons, List.length_nil, List.length_append, List.length_replicate, List.length_map, List.length_set, List.length_take, List.length_drop, strs_len, ints_len, bools_len, aggs_len, vpv_len]; done) | (simp only [List.length_cons, List.length_nil, List.length_append, List.length_replicate, List.length_map, List.length_set, List.length_take, List.length_drop, strs_len, ints_len, bools_len, aggs_len, vpv_len]; omega)) only [go_sem, em, valP]
      exact ih

theorem rFit_l1B {kk : SK} (s : Ser) (hz : sizeS s) (start step n : Int) (h0 : 0 ≤ start) (h1 : start ≤ 4294967295) (g0 : 1 ≤ step) (g1 : step ≤ 1099511627776) (k : Nat) (hk : k ≤ 131072) (B1 B2 B3 : Blk) (Q : Out → Prop) : ∀ (d j : Nat), j + d = plcS s (start + k * step + step) →
    (Q (.nrm, [(1, .p (.int .i64 start)), (2, .p (.int .i64 step)), (3, .p (.int .i64 n)), (4, .bx 0 0), (8, .bx 1 0), (9, .bx 2 0), (10, .p (.int .i64 ((plcS s (start + k * step + step) : Nat)))), (11, .p (.int .i64 (k : Int))), (12, .own 4 (withinV s (start + k * step) (start + k * step + step)).length)], [.box [.p (.str s.name), .p (.int .i64 s.start), .p (.int .i64 s.step), .p (.sl kk 2 (vpv s.vals)), .p (.int .i64 s.cons)], B1, B2, B3, .row false 2 (vpv (withinV s (start + k * step) (start + k * step + step)))])) →
    Wp Γ r18_Fit_l1 [(1, .p (.int .i64 start)), (2, .p (.int .i64 step)), (3, .p (.int .i64 n)), (4, .bx 0 0), (8, .bx 1 0), (9, .bx 2 0), (10, .p (.int .i64 ((j : Nat)))), (11, .p (.int .i64 (k : Int))), (12, .own 4 (colV s (start + k * step) j).length)] [.box [.p (.str s.name), .p (.int .i64 s.start), .p (.int .i64 s.step), .p (.sl kk 2 (vpv s.vals)), .p (.int .i64 s.cons)], B1, B2, B3, .row false 2 (vpv (colV s (start + k * step) j))] (InBlk [1, 2, 3, 4, 8, 9, 10, 11, 12] 2 Q) := by
  have hs1 : 1 ≤ s.step := by unfold sizeS at hz; omega
  have hs2 : s.step ≤ 1099511627776 := by unfold sizeS at hz; omega
  have hv : s.vals.length ≤ 131072 := by unfold sizeS at hz; omega
  have hst : 0 ≤ s.start ∧ s.start ≤ 4294967295 := by unfold sizeS at hz; omega
  have em : ((k : Int) + 1) * step = (k : Int) * step + step := by rw [Int.add_mul, Int.one_mul]
  obtain ⟨b0, b1⟩ := mulb (i := k) (step := step) hk (by omega) g1
  have hp := plcS_le s (start + k * step + step)
  intro d
  induction d with
  | zero =>
    intro j hj hQ
    have hj : j = plcS s (start + k * step + step) := by omega
    have e : colV s (start + k * step) j = withinV s (start + k * step) (start + k * step + step) := by rw [hj]; rfl
    have hi := plcS_iff (s := s) (t := start + k * step + step) (i := j) hs1
    rw [← hj, ← e] at hQ
    rw [← hj] at hi
    clear hj
    rw [W_loop (L := r18_Fit_l1) rfl]
    by_cases h : j < s.vals.length
    · have hi := hi h
      obtain ⟨c0, c1⟩ := mulb (i := j) (step := s.step) (by omega) (by omega) hs2
      have hn : ¬ s.start + (j : Int) * s.step < start + ((k : Int) * step + step) := by omega
      simp (disch := first | assumption | omega | decide | (simp only [List.length_cons, List.length_nil, List.length_append, List.length_replicate, List.length_map, List.length_set, List.length_take, List.length_drop, strs_len, ints_len, bools_len, aggs_len, vpv_len]; done) | (simp only [List.length_cons, List.length_nil, List.length_append, List.length_replicate, List.length_map, List.length_set, List.length_take, List.length_drop, strs_len, ints_len, bools_len, aggs_len, vpv_len]; omega)) only [go_sem, em]
      exact hQ
    · simp (disch := first | assumption | omega | decide | (simp only [List.length_cons, List.length_nil, List.length_append, List.length_replicate, List.length_map, List.length_set, List.length_take, List.length_drop, strs_len, ints_len, bools_len, aggs_len, vpv_len]; done) | (simp only [List.length_cons, List.length_nil, List.length_append, List.length_replicate, List.length_map, List.length_set, List.length_take, List.length_drop, strs_len, ints_len, bools_len, aggs_len, vpv_len]; omega)) only [go_sem]
      exact hQ
  | succ d ih =>
    intro j hj hQ
    have hlt : j < plcS s (start + k * step + step) := by omega
    have h : j < s.vals.length := by omega
    have hi := (plcS_iff (s := s) (t := start + k * step + step) (i := j) hs1 h).1 hlt
    have hf := plcS_iff (s := s) (t := start + k * step) (i := j) hs1 h
    obtain ⟨c0, c1⟩ := mulb (i := j) (step := s.step) (by omega) (by omega) hs2
    have hn : s.start + (j : Int) * s.step < start + ((k : Int) * step + step) := by omega
    have hc := @colV_len s (start + k * step) j hv
    have hw : (vpv (colV s (start + k * step) j)).length = (colV s (start + k * step) j).length := vpv_len
    have ih := ih (j + 1) (by omega) hQ
    rw [W_loop (L := r18_Fit_l1) rfl]
    by_cases hb : j < plcS s (start + k * step)
    · have e1 := colV_lo (s := s) (f := start + k * step) (j := j) (by omega)
      have e2 := colV_lo (s := s) (f := start + k * step) (j := j + 1) (by omega)
      have hg : ¬ start + (k : Int) * step ≤ s.start + (j : Int) * s.step := by omega
      rw [e2, ← e1] at ih
      simp (disch := first | assumption | omega | decide | (simp only [List.length_cons, List.length_nil, List.length_append, List.length_replicate, List.length_map, List.length_set, List.length_take, List.length_drop, strs_len, ints_len, bools_len, aggs_len, vpv_len]; done) | (simp only [List.length_cons, List.length_nil, List.length_append, List.length_replicate, List.length_map, List.length_set, List.length_take, List.length_drop, strs_len, ints_len, bools_len, aggs_len, vpv_len]; omega)) only [go_sem, em]
      exact ih
    · have e1 := colV_hi hb h
      have hg : start + (k : Int) * step ≤ s.start + (j : Int) * s.step := by omega
      rw [e1, List.length_append] at ih
      simp (disch := first | assumption | omega | decide | (simp only [List.length_cons, List.length_nil, List.length_append, List.length_replicate, List.length_map, List.length_set, List.length_take, List.length_drop, strs_len, ints_len, bools_len, aggs_len, vpv_len]; done) | (simp only [List.length_cons, List.length_nil, List.length_append, List.length_replicate, List.length_map, List.length_set, List.length_take, List.length_drop, strs_len, ints_len, bools_len, aggs_len, vpv_len]; omega)) only [go_sem, em, valP]
      exact ih

theorem rFit_l2_ok {kk : SK} (s : Ser) (hs : isS s = true) (start step : Int) (h0 : 0 ≤ start) (h1 : start ≤ 4294967295) (g0 : 1 ≤ step) (g1 : step ≤ 1099511627776) (n : Nat) (hn : n ≤ 131072) (a1 a2 a3 a4 a5 : PV) (Q : Out → Prop) : ∀ (d i : Nat) (env : Env) (X : Heap), i + 1 + d = n →
    norm [1, 2, 3, 4, 8, 9, 10, 11] (some 0) env X = some ([(1, .p (.int .i64 start)), (2, .p (.int .i64 step)), (3, .p (.int .i64 (n : Int))), (4, .bx 0 0), (8, .bx 1 0), (9, .bx 2 0), (10, .p (.int .i64 (plcS s (start + ((i + 1 : Nat) : Int) * step) : Nat))), (11, .p (.int .i64 ((i + 1 : Nat) : Int)))],
      [.box [.p (.str s.name), .p (.int .i64 s.start), .p (.int .i64 s.step), .p (.sl kk 2 (vpv s.vals)), .p (.int .i64 s.cons)], .box [.p a1, .p a2, .p a3, .p a4, .p a5], .box [.p (.str s.name), .p (.int .i64 start), .p (.int .i64 step), .own 3 (i + 1), .p (.int .i64 s.cons)], .row false 2 (vpv (fitV s start step (i + 1)))]) →
    (∀ B0 T, Q (.nrm, [(8, .bx 1 0), (9, .bx 2 0)], B0 :: .box [.p a1, .p a2, .p a3, .p a4, .p a5] :: .box [.p (.str s.name), .p (.int .i64 start), .p (.int .i64 step), .own 3 n, .p (.int .i64 s.cons)] :: .row false 2 (vpv (fitV s start step n)) :: T)) →
    Wp Γ r18_Fit_l2 env X (InBlk [8, 9] 0 Q) := by
  have hz := isS_size hs
  have hv : s.vals.length ≤ 131072 := by unfold sizeS at hz; omega
  have hs1 : 1 ≤ s.step := by unfold sizeS at hz; omega
  intro d
  induction d with
  | zero =>
    intro i env X hi hX hQ
    have hi : i + 1 = n := by omega
    rw [hi] at hX
    rw [W_loop (L := r18_Fit_l2) rfl]
    rw [hX]
    simp (disch := first | assumption | omega | decide | (simp only [List.length_cons, List.length_nil, List.length_append, List.length_replicate, List.length_map, List.length_set, List.length_take, List.length_drop, strs_len, ints_len, bools_len, aggs_len, vpv_len]; done) | (simp only [List.length_cons, List.length_nil, List.length_append, List.length_replicate, List.length_map, List.length_set, List.length_take, List.length_drop, strs_len, ints_len, bools_len, aggs_len, vpv_len]; omega)) only [go_sem]
    exact hQ _ []
  | succ d ih =>
    intro i env X hi hX hQ
    have g := @fitV_len s start step (i + 1)
    have e := @fitV_succ s start step (i + 1)
    obtain ⟨b0, b1⟩ := mulb (i := i + 1) (step := step) (by omega) (by omega) g1
    have hw := withinV_len (s := s) (t := start + ((i + 1 : Nat) : Int) * step) (u := start + ((i + 1 : Nat) : Int) * step + step) hv
    have c := res_r6OfK (kk := .any) (consV s) (withinV s (start + ((i + 1 : Nat) : Int) * step) (start + ((i + 1 : Nat) : Int) * step + step)) (by omega)
    have dd := res_r18Cons (kk := kk) s hs (by omega)
    have em : start + ((i + 1 + 1 : Nat) : Int) * step = start + ((i + 1 : Nat) : Int) * step + step := by
      rw [show ((i + 1 + 1 : Nat) : Int) = ((i + 1 : Nat) : Int) + 1 from rfl, Int.add_mul, Int.one_mul, Int.add_assoc]
    have ec := colV_lo (s := s) (f := start + ((i + 1 : Nat) : Int) * step) (j := plcS s (start + ((i + 1 : Nat) : Int) * step)) (Nat.le_refl _)
    have hm := plcS_mono hs1 (show start + ((i + 1 : Nat) : Int) * step ≤ start + ((i + 1 : Nat) : Int) * step + step by omega)
    have hw2 : (vpv (withinV s (start + ((i + 1 : Nat) : Int) * step) (start + ((i + 1 : Nat) : Int) * step + step))).length = (withinV s (start + ((i + 1 : Nat) : Int) * step) (start + ((i + 1 : Nat) : Int) * step + step)).length := vpv_len
    unfold Ser.pv at dd
    rw [W_loop (L := r18_Fit_l2) rfl]
    rw [hX]
    simp (disch := first | assumption | omega | decide | (simp only [List.length_cons, List.length_nil, List.length_append, List.length_replicate, List.length_map, List.length_set, List.length_take, List.length_drop, strs_len, ints_len, bools_len, aggs_len, vpv_len]; done) | (simp only [List.length_cons, List.length_nil, List.length_append, List.length_replicate, List.length_map, List.length_set, List.length_take, List.length_drop, strs_len, ints_len, bools_len, aggs_len, vpv_len]; omega)) only [go_sem]
    have l1 := fun Q hQ => rFit_l1B (kk := kk) s hz start step n h0 h1 g0 g1 (i + 1) (by omega) (.box [.p a1, .p a2, .p a3, .p a4, .p a5]) (.box [.p (.str s.name), .p (.int .i64 start), .p (.int .i64 step), .own 3 (i + 1), .p (.int .i64 s.cons)]) (.row false 2 (vpv (fitV s start step (i + 1)))) Q (plcS s (start + ((i + 1 : Nat) : Int) * step + step) - plcS s (start + ((i + 1 : Nat) : Int) * step)) (plcS s (start + ((i + 1 : Nat) : Int) * step)) (by omega) hQ
    simp only [ec, List.length_nil, vpv_nil] at l1
    refine l1 _ ?_
    simp (disch := first | assumption | omega | decide | (simp only [List.length_cons, List.length_nil, List.length_append, List.length_replicate, List.length_map, List.length_set, List.length_take, List.length_drop, strs_len, ints_len, bools_len, aggs_len, vpv_len]; done) | (simp only [List.length_cons, List.length_nil, List.length_append, List.length_replicate, List.length_map, List.length_set, List.length_take, List.length_drop, strs_len, ints_len, bools_len, aggs_len, vpv_len]; omega)) only [go_sem, dd, c]
    refine ih (i + 1) _ _ (by omega) ?_ hQ
    rw [e, em]
    simp (disch := first | assumption | omega | decide | (simp only [List.length_cons, List.length_nil, List.length_append, List.length_replicate, List.length_map, List.length_set, List.length_take, List.length_drop, strs_len, ints_len, bools_len, aggs_len, vpv_len]; done) | (simp only [List.length_cons, List.length_nil, List.length_append, List.length_replicate, List.length_map, List.length_set, List.length_take, List.length_drop, strs_len, ints_len, bools_len, aggs_len, vpv_len]; omega)) only [go_sem]
    rfl
theorem rFit_l2_first {kk : SK} (s : Ser) (hs : isS s = true) (start step : Int) (h0 : 0 ≤ start) (h1 : start ≤ 4294967295) (g0 : 1 ≤ step) (g1 : step ≤ 1099511627776) (n : Nat) (hn : n ≤ 131072) (hpos : 0 < n) (a1 a2 a3 a4 a5 : PV) (Q : Out → Prop) :
    (∀ B0 T, Q (.nrm, [(8, .bx 1 0), (9, .bx 2 0)], B0 :: .box [.p a1, .p a2, .p a3, .p a4, .p a5] :: .box [.p (.str s.name), .p (.int .i64 start), .p (.int .i64 step), .own 3 n, .p (.int .i64 s.cons)] :: .row false 2 (vpv (fitV s start step n)) :: T)) →
    Wp Γ r18_Fit_l2 [(1, .p (.int .i64 start)), (2, .p (.int .i64 step)), (3, .p (.int .i64 (n : Int))), (4, .bx 0 0), (8, .bx 1 0), (9, .bx 2 0), (10, .p (.int .i64 0)), (11, .p (.int .i64 0))]
      [.box [.p (.str s.name), .p (.int .i64 s.start), .p (.int .i64 s.step), .p (.sl kk 2 (vpv s.vals)), .p (.int .i64 s.cons)], .box [.p a1, .p a2, .p a3, .p a4, .p a5], .box [.p (.str s.name), .p (.int .i64 start), .p (.int .i64 step), .p (.sl .nil 2 []), .p (.int .i64 s.cons)]] (InBlk [8, 9] 0 Q) := by
  have hz := isS_size hs
  have hv : s.vals.length ≤ 131072 := by unfold sizeS at hz; omega
  have hs1 : 1 ≤ s.step := by unfold sizeS at hz; omega
  intro hQ
  have e := @fitV_succ s start step 0
  have ez : start + ((0 : Nat) : Int) * step = start := by rw [show ((0 : Nat) : Int) = 0 from rfl, Int.zero_mul, Int.add_zero]
  have ec := colV_lo (s := s) (f := start) (j := 0) (Nat.zero_le _)
  have hw := withinV_len (s := s) (t := start) (u := start + step) hv
  have c := res_r6OfK (kk := .any) (consV s) (withinV s start (start + step)) (by omega)
  have dd := res_r18Cons (kk := kk) s hs (by omega)
  have hw2 : (vpv (withinV s start (start + step))).length = (withinV s start (start + step)).length := vpv_len
  have em : start + ((0 + 1 : Nat) : Int) * step = start + step := by rw [show ((0 + 1 : Nat) : Int) = 1 from rfl, Int.one_mul]
  rw [ez] at e
  unfold Ser.pv at dd
  rw [W_loop (L := r18_Fit_l2) rfl]
  simp (disch := first | assumption | omega | decide | (simp only [List.length_cons, List.length_nil, List.length_append, List.length_replicate, List.length_map, List.length_set, List.length_take, List.length_drop, strs_len, ints_len, bools_len, aggs_len, vpv_len]; done) | (simp only [List.length_cons, List.length_nil, List.length_append, List.length_replicate, List.length_map, List.length_set, List.length_take, List.length_drop, strs_len, ints_len, bools_len, aggs_len, vpv_len]; omega)) only [go_sem]
  have l1 := fun Q hQ => rFit_l1A (kk := kk) s hz start step n h0 h1 g0 g1 0 (by omega) (.box [.p a1, .p a2, .p a3, .p a4, .p a5]) (.box [.p (.str s.name), .p (.int .i64 start), .p (.int .i64 step), .p (.sl .nil 2 []), .p (.int .i64 s.cons)]) Q (plcS s (start + ((0 : Nat) : Int) * step + step)) 0 (by omega) hQ
  simp only [ez, ec, List.length_nil, vpv_nil] at l1
  refine l1 _ ?_
  simp (disch := first | assumption | omega | decide | (simp only [List.length_cons, List.length_nil, List.length_append, List.length_replicate, List.length_map, List.length_set, List.length_take, List.length_drop, strs_len, ints_len, bools_len, aggs_len, vpv_len]; done) | (simp only [List.length_cons, List.length_nil, List.length_append, List.length_replicate, List.length_map, List.length_set, List.length_take, List.length_drop, strs_len, ints_len, bools_len, aggs_len, vpv_len]; omega)) only [go_sem, dd, c]
  refine rFit_l2_ok (kk := kk) s hs start step h0 h1 g0 g1 n hn a1 a2 a3 a4 a5 Q (n - 1) 0 _ _ (by omega) ?_ hQ
  rw [e, em]
  simp (disch := first | assumption | omega | decide | (simp only [List.length_cons, List.length_nil, List.length_append, List.length_replicate, List.length_map, List.length_set, List.length_take, List.length_drop, strs_len, ints_len, bools_len, aggs_len, vpv_len]; done) | (simp only [List.length_cons, List.length_nil, List.length_append, List.length_replicate, List.length_map, List.length_set, List.length_take, List.length_drop, strs_len, ints_len, bools_len, aggs_len, vpv_len]; omega)) only [go_sem]
  rfl
theorem res_r18Fit {kk : SK} (s : Ser) (hs : isS s = true) (start step : Int) (h0 : 0 ≤ start) (h1 : start ≤ 4294967295) (g0 : 1 ≤ step) (g1 : step ≤ 1099511627776) (n : Nat) (hn : n ≤ 131072) :
    res Γ 162 [s.pv kk, .int .i64 start, .int .i64 step, .int .i64 (n : Int)] = some [(fitS s start step n).pv (fitK n)] := by
  have hz := isS_size hs
  have hv : s.vals.length ≤ 131072 := by unfold sizeS at hz; omega
  have e := res_r18Is (kk := kk) s (by omega)
  unfold Ser.pv at e ⊢
  refine res_code (fn := r18_Fit) rfl rfl ?_
  simp (disch := first | assumption | omega | decide | (simp only [List.length_cons, List.length_nil, List.length_append, List.length_replicate, List.length_map, List.length_set, List.length_take, List.length_drop, strs_len, ints_len, bools_len, aggs_len, vpv_len]; done) | (simp only [List.length_cons, List.length_nil, List.length_append, List.length_replicate, List.length_map, List.length_set, List.length_take, List.length_drop, strs_len, ints_len, bools_len, aggs_len, vpv_len]; omega)) only [go_sem, r18_Fit, e, hs]
  by_cases hne : n = 0
  · subst hne
    rw [W_loop (L := r18_Fit_l2) rfl]
    simp (disch := first | assumption | omega | decide | (simp only [List.length_cons, List.length_nil, List.length_append, List.length_replicate, List.length_map, List.length_set, List.length_take, List.length_drop, strs_len, ints_len, bools_len, aggs_len, vpv_len]; done) | (simp only [List.length_cons, List.length_nil, List.length_append, List.length_replicate, List.length_map, List.length_set, List.length_take, List.length_drop, strs_len, ints_len, bools_len, aggs_len, vpv_len]; omega)) only [go_sem, fitS, fitK]
    rfl
  · refine rFit_l2_first s hs start step h0 h1 g0 g1 n hn (by omega) _ _ _ _ _ _ (fun B0 T => ?_)
    have hw : (vpv (fitV s start step n)).length = n := by rw [vpv_len, fitV_len]
    simp (disch := first | assumption | omega | decide | (simp only [List.length_cons, List.length_nil, List.length_append, List.length_replicate, List.length_map, List.length_set, List.length_take, List.length_drop, strs_len, ints_len, bools_len, aggs_len, vpv_len]; done) | (simp only [List.length_cons, List.length_nil, List.length_append, List.length_replicate, List.length_map, List.length_set, List.length_take, List.length_drop, strs_len, ints_len, bools_len, aggs_len, vpv_len]; omega)) only [go_sem, fitS, fitK]
    rw [if_neg hne]
end Ab
namespace Ab
open Go (IntKind BinOp UnOp)
theorem strsIn_strs (l : List (List UInt8)) : strsIn (strs l) = some l := by
  induction l with
  | nil => rfl
  | cons a l ih => simp only [strs, List.map_cons, strsIn] at ih ⊢; rw [ih]; rfl
@[go_sem] theorem res_Join {kk : SK} (l : List (List UInt8)) (sep : List UInt8) (hl : l.length < 1000000000) (hj : (joinB sep l).length ≤ 1000000000) : res Γ 48 [.sl kk 1 (strs l), .str sep] = some [.str (joinB sep l)] := by
  refine res_of (RunP_prim (g := joinG) rfl ?_)
  simp only [joinG, strsIn_strs]
  rw [if_pos ⟨hj, by omega⟩]
end Ab
namespace Ab
open Go (IntKind BinOp UnOp)
def labelL (nm : List UInt8) (l : List (List UInt8)) : List UInt8 := nm ++ 40 :: (joinB [44] l ++ [41])
theorem joinB_snoc (sep a : List UInt8) : ∀ l : List (List UInt8), l ≠ [] → joinB sep (l ++ [a]) = joinB sep l ++ (sep ++ a)
  | [], h => absurd rfl h
  | [x], _ => by simp [joinB]
  | x :: y :: r, _ => by
    have := joinB_snoc sep a (y :: r) (by simp)
    simp only [List.cons_append] at this ⊢
    simp only [joinB, this, List.append_assoc]
theorem joinB_take_len (sep : List UInt8) (l : List (List UInt8)) (i : Nat) : (joinB sep (l.take i)).length ≤ (joinB sep l).length := by
  induction l generalizing i with
  | nil => simp
  | cons x r ih =>
    cases i with
    | zero => simp [joinB]
    | succ i =>
      rw [List.take_succ_cons]
      have := ih i
      cases r with
      | nil => simp
      | cons y r =>
        cases i with
        | zero => simp only [List.take_zero, joinB, List.length_append]; omega
        | succ i =>
          rw [List.take_succ_cons] at this ⊢
          simp only [joinB, List.length_append] at this ⊢
          omega
theorem joinB_take_succ {l : List (List UInt8)} {i : Nat} (h : i < l.length) (hi : i ≠ 0) : joinB [44] (l.take (i + 1)) = joinB [44] (l.take i) ++ 44 :: l.getD i [] := by
  rw [take_snoc' [] h, joinB_snoc]
  · rfl
  · intro e
    have := congrArg List.length e
    rw [List.length_take, List.length_nil] at this
    omega
theorem joinB_take_one {l : List (List UInt8)} (h : 0 < l.length) : joinB [44] (l.take (0 + 1)) = l.getD 0 [] := by
  rw [take_snoc' [] h]; rfl
theorem res_seriesLabelL {kk : SK} (nm : List UInt8) (l : List (List UInt8)) (h : nm.length ≤ 1000000) (hl : l.length < 1000000000) (hj : (joinB [44] l).length ≤ 1000000000) : res Γ 30 [.str nm, .sl kk 1 (strs l)] = some [.str (labelL nm l)] := by
  have e := res_Join (kk := kk) l [44] hl hj
  refine res_code (fn := series_Label) rfl rfl ?_
  simp (disch := first | assumption | omega | decide | (simp only [List.length_cons, List.length_nil, List.length_append, List.length_replicate, List.length_map, List.length_set, List.length_take, List.length_drop, strs_len, ints_len, bools_len, aggs_len, vpv_len]; done) | (simp only [List.length_cons, List.length_nil, List.length_append, List.length_replicate, List.length_map, List.length_set, List.length_take, List.length_drop, strs_len, ints_len, bools_len, aggs_len, vpv_len]; omega)) only [go_sem, series_Label, e, labelL]
theorem r18_Label_l1_ok {kk : SK} (nm : List UInt8) (l : List (List UInt8)) (h : nm.length ≤ 1000000) (hl : l.length < 1000000000) (hj : (joinB [44] l).length ≤ 1000000000) (Q : Out → Prop) : ∀ (k i : Nat), i + k = l.length →
    Q (.nrm, [(5, .p (.str (nm ++ 40 :: joinB [44] l)))], []) →
    Wp Γ r18_Label_l1 [(1, .p (.sl kk 1 (strs l))), (5, .p (.str (nm ++ 40 :: joinB [44] (l.take i)))), (6, .p (.int .i64 (i : Int)))] [] (InBlk [5] 0 Q) := by
  intro k
  induction k with
  | zero =>
    intro i hi hQ
    obtain rfl : i = l.length := by omega
    rw [W_loop (L := r18_Label_l1) rfl]
    simp (disch := first | assumption | omega | decide | (simp only [List.length_cons, List.length_nil, List.length_append, List.length_replicate, List.length_map, List.length_set, List.length_take, List.length_drop, strs_len, ints_len, bools_len, aggs_len, vpv_len]; done) | (simp only [List.length_cons, List.length_nil, List.length_append, List.length_replicate, List.length_map, List.length_set, List.length_take, List.length_drop, strs_len, ints_len, bools_len, aggs_len, vpv_len]; omega)) only [go_sem]
    rw [List.take_length]
    exact hQ
  | succ k ih =>
    intro i hi hQ
    have ih := ih (i + 1) (by omega) hQ
    have g := joinB_take_len [44] l i
    have g2 := joinB_take_len [44] l (i + 1)
    rw [W_loop (L := r18_Label_l1) rfl]
    by_cases h0 : i = 0
    · subst h0
      have e := joinB_take_one (l := l) (by omega)
      rw [e] at ih g2
      simp (disch := first | assumption | omega | decide | (simp only [List.length_cons, List.length_nil, List.length_append, List.length_replicate, List.length_map, List.length_set, List.length_take, List.length_drop, strs_len, ints_len, bools_len, aggs_len, vpv_len]; done) | (simp only [List.length_cons, List.length_nil, List.length_append, List.length_replicate, List.length_map, List.length_set, List.length_take, List.length_drop, strs_len, ints_len, bools_len, aggs_len, vpv_len]; omega)) only [go_sem, joinB]
      exact ih
    · have e := joinB_take_succ (l := l) (i := i) (by omega) h0
      rw [e] at ih g2
      simp only [List.length_append, List.length_cons] at g2
      simp (disch := first | assumption | omega | decide | (simp only [List.length_cons, List.length_nil, List.length_append, List.length_replicate, List.length_map, List.length_set, List.length_take, List.length_drop, strs_len, ints_len, bools_len, aggs_len, vpv_len]; done) | (simp only [List.length_cons, List.length_nil, List.length_append, List.length_replicate, List.length_map, List.length_set, List.length_take, List.length_drop, strs_len, ints_len, bools_len, aggs_len, vpv_len]; omega)) only [go_sem]
      exact ih
theorem res_r18LabelL {kk : SK} (nm : List UInt8) (l : List (List UInt8)) (h : nm.length ≤ 1000000) (hl : l.length < 1000000000) (hj : (joinB [44] l).length ≤ 1000000000) : res Γ 33 [.str nm, .sl kk 1 (strs l)] = some [.str (labelL nm l)] := by
  refine res_code (fn := r18_Label) rfl rfl ?_
  simp (disch := first | assumption | omega | decide | (simp only [List.length_cons, List.length_nil, List.length_append, List.length_replicate, List.length_map, List.length_set, List.length_take, List.length_drop, strs_len, ints_len, bools_len, aggs_len, vpv_len]; done) | (simp only [List.length_cons, List.length_nil, List.length_append, List.length_replicate, List.length_map, List.length_set, List.length_take, List.length_drop, strs_len, ints_len, bools_len, aggs_len, vpv_len]; omega)) only [go_sem, r18_Label]
  refine r18_Label_l1_ok nm l h hl hj _ l.length 0 (by omega) ?_
  simp (disch := first | assumption | omega | decide | (simp only [List.length_cons, List.length_nil, List.length_append, List.length_replicate, List.length_map, List.length_set, List.length_take, List.length_drop, strs_len, ints_len, bools_len, aggs_len, vpv_len]; done) | (simp only [List.length_cons, List.length_nil, List.length_append, List.length_replicate, List.length_map, List.length_set, List.length_take, List.length_drop, strs_len, ints_len, bools_len, aggs_len, vpv_len]; omega)) only [go_sem, labelL]
end Ab
namespace Ab
open Go (IntKind BinOp UnOp)
def aggName (k : Int) : List UInt8 :=
  if k = 1 then [97, 118, 101, 114, 97, 103, 101] else if k = 2 then [115, 117, 109] else if k = 3 then [108, 97, 115, 116] else if k = 4 then [109, 97, 120] else if k = 5 then [109, 105, 110] else []
@[go_sem] theorem res_aggName (k : Int) : res Γ 29 [.int .i64 k] = some [.str (aggName k)] := by
  refine res_code (fn := agg_Name) rfl rfl ?_
  repeat' (first | (simp (disch := first | assumption | omega | decide | (simp only [List.length_cons, List.length_nil, List.length_append, List.length_replicate, List.length_map, List.length_set, List.length_take, List.length_drop, strs_len, ints_len, bools_len, aggs_len, vpv_len]; done) | (simp only [List.length_cons, List.length_nil, List.length_append, List.length_replicate, List.length_map, List.length_set, List.length_take, List.length_drop, strs_len, ints_len, bools_len, aggs_len, vpv_len]; omega)) only [go_sem, agg_Name]) | refine cond_split (fun hc => ?_) (fun hc => ?_) | refine gd_split_f (fun hc => ?_) (fun hc => ?_) | refine gd_split_t (fun hc => ?_) (fun hc => ?_))
  all_goals (simp only [Option.some.injEq, List.cons.injEq, and_true, PV.str.injEq, aggName]; simp [*])
end Ab
namespace Ab
open Go (IntKind BinOp UnOp)
@[go_sem] theorem storeK_vals {H : Heap} {sz id n i : Nat} {b : Bool} {m : Int} {l : List Val} (h : l.length = n) (h' : i < n) : storeK H (some (.row false sz (vpv l))) 2 id n i 0 (.p (.agg [.bool b, .int .i64 m])) = some (H.set id (.row false sz (vpv (l.set i (b, m))))) := by
  have e1 : (valP (l.getD i (false, 0))).length = 2 := rfl
  simp only [storeK, vpv_len, h, if_true, vpv_get (show i < l.length by omega), Option.bind_some, AV.cells, PV.cells, pures_map, AV.ok, List.length_cons, List.length_nil, e1]
  rw [if_pos ⟨trivial, by omega, trivial, by omega⟩]
  congr 3
  have : setPart 0 2 [.bool b, .int .i64 m] (.agg (valP (l.getD i (false, 0)))) = .agg (valP (b, m)) := by
    simp [setPart, valP]
  rw [this]
  simp [vpv, aggs, List.map_set]
end Ab
namespace Ab
open Go (IntKind BinOp UnOp)
end Ab
namespace Ab
open Go (IntKind BinOp UnOp)
end Ab
