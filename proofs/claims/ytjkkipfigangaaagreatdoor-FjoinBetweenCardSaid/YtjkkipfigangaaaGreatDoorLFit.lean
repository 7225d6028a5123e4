import Derived.Test.YtjkkipfigangaaaGreatDoorLAgg3
import Derived.Test.YtjkkipfigangaaaGreatDoorPSer
namespace Ab
open Go (IntKind BinOp UnOp)
abbrev placeP (kk : SK) (k : List Val) (p : Val) (kind : Int) : PV := .agg [.sl kk 2 (vpv k), .bool p.1, .int .i64 p.2, .int .i64 kind]
theorem res_placeOf {kk : SK} (k : List Val) (p : Val) (kind a : Int) (hk : k.length < 1000000000) : res Γ 267 [placeP kk k p kind, .int .i64 a] = some [.agg [.bool (aggV a k).1, .int .i64 (aggV a k).2]] := by
  have e := res_aggOfK (kk := kk) a k hk
  refine res_code (fn := fjoin_place_of) rfl rfl ?_
  simp (disch := first | assumption | omega | decide | (simp only [List.length_cons, List.length_nil, List.length_append, List.length_replicate, List.length_map, List.length_set, List.length_take, List.length_drop, strs_len, ints_len, bools_len, aggs_len, vpv_len]; done) | (simp only [List.length_cons, List.length_nil, List.length_append, List.length_replicate, List.length_map, List.length_set, List.length_take, List.length_drop, strs_len, ints_len, bools_len, aggs_len, vpv_len]; omega)) only [go_sem, fjoin_place_of, e]
theorem foldl_take {f : Val → Val → Val} {r : List Val} {x : Val} {i : Nat} (h : i < r.length) : (r.take (i + 1)).foldl f x = f ((r.take i).foldl f x) (r.getD i (false, 0)) := by
  rw [take_snoc' (false, 0) h, List.foldl_append]; rfl
theorem less_l1_ok {k2 : SK} (r : List Val) (hr : r.length < 1000000000) (x : Val) (B : Blk) (hB : ∃ cs : List PV, B = .box (cs.map .p)) (Q : Out → Prop)
    (hQ : Q (.nrm, [(2, .bx 0 0), (3, .bx 1 0)], [B, .box [.p (.bool (r.foldl subV x).1), .p (.int .i64 (r.foldl subV x).2)]])) : ∀ (n i : Nat) (env : Env) (H : Heap), i + n = r.length →
    norm [2, 3, 17, 18, 19] (some 0) env H = some ([(2, .bx 0 0), (3, .bx 1 0), (17, .p (.sl k2 2 (vpv r))), (18, .p (.int .i64 (r.length : Int))), (19, .p (.int .i64 (i : Int)))], [B, .box [.p (.bool ((r.take i).foldl subV x).1), .p (.int .i64 ((r.take i).foldl subV x).2)]]) →
    Wp Γ fjoin_place_less_l1 env H (InBlk [2, 3] 0 Q) := by
  obtain ⟨cs, rfl⟩ := hB
  intro n
  induction n with
  | zero =>
    intro i env H hi hN
    obtain rfl : i = r.length := by omega
    rw [List.take_length] at hN
    rw [W_loop (L := fjoin_place_less_l1) rfl]
    rw [hN]
    simp (disch := first | assumption | omega | decide | (simp only [List.length_cons, List.length_nil, List.length_append, List.length_replicate, List.length_map, List.length_set, List.length_take, List.length_drop, strs_len, ints_len, bools_len, aggs_len, vpv_len]; done) | (simp only [List.length_cons, List.length_nil, List.length_append, List.length_replicate, List.length_map, List.length_set, List.length_take, List.length_drop, strs_len, ints_len, bools_len, aggs_len, vpv_len]; omega)) only [go_sem]
    exact hQ
  | succ n ih =>
    intro i env H hi hN
    have hlt : i < r.length := by omega
    have ih := fun env H => ih (i + 1) env H (by omega)
    rw [foldl_take hlt] at ih
    have e := res_fixedSubV ((r.take i).foldl subV x) (r.getD i (false, 0))
    rw [W_loop (L := fjoin_place_less_l1) rfl]
    rw [hN]
    simp (disch := first | assumption | omega | decide | (simp only [List.length_cons, List.length_nil, List.length_append, List.length_replicate, List.length_map, List.length_set, List.length_take, List.length_drop, strs_len, ints_len, bools_len, aggs_len, vpv_len]; done) | (simp only [List.length_cons, List.length_nil, List.length_append, List.length_replicate, List.length_map, List.length_set, List.length_take, List.length_drop, strs_len, ints_len, bools_len, aggs_len, vpv_len]; omega)) only [go_sem, valP, e]
    refine ih _ _ ?_
    simp (disch := first | assumption | omega | decide | (simp only [List.length_cons, List.length_nil, List.length_append, List.length_replicate, List.length_map, List.length_set, List.length_take, List.length_drop, strs_len, ints_len, bools_len, aggs_len, vpv_len]; done) | (simp only [List.length_cons, List.length_nil, List.length_append, List.length_replicate, List.length_map, List.length_set, List.length_take, List.length_drop, strs_len, ints_len, bools_len, aggs_len, vpv_len]; omega)) only [go_sem]
    rfl
theorem product_l1_ok {k2 : SK} (r : List Val) (hr : r.length < 1000000000) (x : Val) (B : Blk) (hB : ∃ cs : List PV, B = .box (cs.map .p)) (Q : Out → Prop)
    (hQ : Q (.nrm, [(2, .bx 0 0), (3, .bx 1 0)], [B, .box [.p (.bool (r.foldl mulV x).1), .p (.int .i64 (r.foldl mulV x).2)]])) : ∀ (n i : Nat) (env : Env) (H : Heap), i + n = r.length →
    norm [2, 3, 13, 14, 15] (some 0) env H = some ([(2, .bx 0 0), (3, .bx 1 0), (13, .p (.sl k2 2 (vpv r))), (14, .p (.int .i64 (r.length : Int))), (15, .p (.int .i64 (i : Int)))], [B, .box [.p (.bool ((r.take i).foldl mulV x).1), .p (.int .i64 ((r.take i).foldl mulV x).2)]]) →
    Wp Γ fjoin_place_product_l1 env H (InBlk [2, 3] 0 Q) := by
  obtain ⟨cs, rfl⟩ := hB
  intro n
  induction n with
  | zero =>
    intro i env H hi hN
    obtain rfl : i = r.length := by omega
    rw [List.take_length] at hN
    rw [W_loop (L := fjoin_place_product_l1) rfl]
    rw [hN]
    simp (disch := first | assumption | omega | decide | (simp only [List.length_cons, List.length_nil, List.length_append, List.length_replicate, List.length_map, List.length_set, List.length_take, List.length_drop, strs_len, ints_len, bools_len, aggs_len, vpv_len]; done) | (simp only [List.length_cons, List.length_nil, List.length_append, List.length_replicate, List.length_map, List.length_set, List.length_take, List.length_drop, strs_len, ints_len, bools_len, aggs_len, vpv_len]; omega)) only [go_sem]
    exact hQ
  | succ n ih =>
    intro i env H hi hN
    have hlt : i < r.length := by omega
    have ih := fun env H => ih (i + 1) env H (by omega)
    rw [foldl_take hlt] at ih
    have e := res_fixedMulV ((r.take i).foldl mulV x) (r.getD i (false, 0))
    rw [W_loop (L := fjoin_place_product_l1) rfl]
    rw [hN]
    simp (disch := first | assumption | omega | decide | (simp only [List.length_cons, List.length_nil, List.length_append, List.length_replicate, List.length_map, List.length_set, List.length_take, List.length_drop, strs_len, ints_len, bools_len, aggs_len, vpv_len]; done) | (simp only [List.length_cons, List.length_nil, List.length_append, List.length_replicate, List.length_map, List.length_set, List.length_take, List.length_drop, strs_len, ints_len, bools_len, aggs_len, vpv_len]; omega)) only [go_sem, valP, e]
    refine ih _ _ ?_
    simp (disch := first | assumption | omega | decide | (simp only [List.length_cons, List.length_nil, List.length_append, List.length_replicate, List.length_map, List.length_set, List.length_take, List.length_drop, strs_len, ints_len, bools_len, aggs_len, vpv_len]; done) | (simp only [List.length_cons, List.length_nil, List.length_append, List.length_replicate, List.length_map, List.length_set, List.length_take, List.length_drop, strs_len, ints_len, bools_len, aggs_len, vpv_len]; omega)) only [go_sem]
    rfl
theorem res_placeLess {kk : SK} (k : List Val) (p : Val) (kind : Int) (hk : k.length < 100000000) : res Γ 251 [placeP kk k p kind] = some [.agg [.bool (lessL k).1, .int .i64 (lessL k).2]] := by
  cases k with
  | nil =>
    have hl : ([] : List Val).length = 0 := rfl
    refine res_code (fn := fjoin_place_less) rfl rfl ?_
    simp (disch := first | assumption | omega | decide | (simp only [List.length_cons, List.length_nil, List.length_append, List.length_replicate, List.length_map, List.length_set, List.length_take, List.length_drop, strs_len, ints_len, bools_len, aggs_len, vpv_len]; done) | (simp only [List.length_cons, List.length_nil, List.length_append, List.length_replicate, List.length_map, List.length_set, List.length_take, List.length_drop, strs_len, ints_len, bools_len, aggs_len, vpv_len]; omega)) only [go_sem, fjoin_place_less, hl]
    rfl
  | cons v r =>
    have hl : (v :: r).length = r.length + 1 := rfl
    have hl2 : (v :: r).length < 100000000 := hk
    have hd : (v :: r).drop 1 = r := rfl
    have hg : (v :: r).getD 0 (false, 0) = v := rfl
    have hv2 : (vpv (v :: r)).length = r.length + 1 := vpv_len
    refine res_code (fn := fjoin_place_less) rfl rfl ?_
    simp (disch := first | assumption | omega | decide | (simp only [List.length_cons, List.length_nil, List.length_append, List.length_replicate, List.length_map, List.length_set, List.length_take, List.length_drop, strs_len, ints_len, bools_len, aggs_len, vpv_len]; done) | (simp only [List.length_cons, List.length_nil, List.length_append, List.length_replicate, List.length_map, List.length_set, List.length_take, List.length_drop, strs_len, ints_len, bools_len, aggs_len, vpv_len]; omega)) only [go_sem, fjoin_place_less, hl, hg, valP, hd, hv2]
    refine less_l1_ok (k2 := kk.cut) r (by omega) v _ ⟨[.bool false, .int .i64 0], rfl⟩ _ ?_ r.length 0 _ _ (by omega) ?_
    · simp (disch := first | assumption | omega | decide | (simp only [List.length_cons, List.length_nil, List.length_append, List.length_replicate, List.length_map, List.length_set, List.length_take, List.length_drop, strs_len, ints_len, bools_len, aggs_len, vpv_len]; done) | (simp only [List.length_cons, List.length_nil, List.length_append, List.length_replicate, List.length_map, List.length_set, List.length_take, List.length_drop, strs_len, ints_len, bools_len, aggs_len, vpv_len]; omega)) only [go_sem, lessL]
    · simp (disch := first | assumption | omega | decide | (simp only [List.length_cons, List.length_nil, List.length_append, List.length_replicate, List.length_map, List.length_set, List.length_take, List.length_drop, strs_len, ints_len, bools_len, aggs_len, vpv_len]; done) | (simp only [List.length_cons, List.length_nil, List.length_append, List.length_replicate, List.length_map, List.length_set, List.length_take, List.length_drop, strs_len, ints_len, bools_len, aggs_len, vpv_len]; omega)) only [go_sem]
      rfl
theorem res_placeProduct {kk : SK} (k : List Val) (p : Val) (kind : Int) (hk : k.length < 100000000) : res Γ 249 [placeP kk k p kind] = some [.agg [.bool (timesL k).1, .int .i64 (timesL k).2]] := by
  have e1 : res Γ 137 [.int .i64 1] = some [.agg [.bool (intV 1).1, .int .i64 (intV 1).2]] := res_fixedInt (n := 1) (by omega)
  cases k with
  | nil =>
    have hl : ([] : List Val).length = 0 := rfl
    refine res_code (fn := fjoin_place_product) rfl rfl ?_
    simp (disch := first | assumption | omega | decide | (simp only [List.length_cons, List.length_nil, List.length_append, List.length_replicate, List.length_map, List.length_set, List.length_take, List.length_drop, strs_len, ints_len, bools_len, aggs_len, vpv_len]; done) | (simp only [List.length_cons, List.length_nil, List.length_append, List.length_replicate, List.length_map, List.length_set, List.length_take, List.length_drop, strs_len, ints_len, bools_len, aggs_len, vpv_len]; omega)) only [go_sem, fjoin_place_product, hl]
    rfl
  | cons v r =>
    have hl : (v :: r).length = r.length + 1 := rfl
    have hL := fun Q => product_l1_ok (k2 := kk) (v :: r) (by omega) (intV 1) (.box [.p (.bool false), .p (.int .i64 0)]) ⟨[.bool false, .int .i64 0], rfl⟩ Q
    have et : timesL (v :: r) = (v :: r).foldl mulV (intV 1) := rfl
    rw [et]
    have hpos : 0 < (v :: r).length := by simp
    generalize v :: r = l at *
    refine res_code (fn := fjoin_place_product) rfl rfl ?_
    simp (disch := first | assumption | omega | decide | (simp only [List.length_cons, List.length_nil, List.length_append, List.length_replicate, List.length_map, List.length_set, List.length_take, List.length_drop, strs_len, ints_len, bools_len, aggs_len, vpv_len]; done) | (simp only [List.length_cons, List.length_nil, List.length_append, List.length_replicate, List.length_map, List.length_set, List.length_take, List.length_drop, strs_len, ints_len, bools_len, aggs_len, vpv_len]; omega)) only [go_sem, fjoin_place_product, e1]
    refine hL _ ?_ l.length 0 _ _ (by omega) ?_
    · simp (disch := first | assumption | omega | decide | (simp only [List.length_cons, List.length_nil, List.length_append, List.length_replicate, List.length_map, List.length_set, List.length_take, List.length_drop, strs_len, ints_len, bools_len, aggs_len, vpv_len]; done) | (simp only [List.length_cons, List.length_nil, List.length_append, List.length_replicate, List.length_map, List.length_set, List.length_take, List.length_drop, strs_len, ints_len, bools_len, aggs_len, vpv_len]; omega)) only [go_sem]
    · simp (disch := first | assumption | omega | decide | (simp only [List.length_cons, List.length_nil, List.length_append, List.length_replicate, List.length_map, List.length_set, List.length_take, List.length_drop, strs_len, ints_len, bools_len, aggs_len, vpv_len]; done) | (simp only [List.length_cons, List.length_nil, List.length_append, List.length_replicate, List.length_map, List.length_set, List.length_take, List.length_drop, strs_len, ints_len, bools_len, aggs_len, vpv_len]; omega)) only [go_sem]
      rfl
theorem res_cl_sum {kk : SK} (k : List Val) (p : Val) (kind : Int) (hk : k.length < 100000000) : res Γ 242 [placeP kk k p kind] = some [.agg [.bool (aggV 2 k).1, .int .i64 (aggV 2 k).2]] := by
  have e := res_placeOf (kk := kk) k p kind 2 (by omega)
  refine res_code (fn := fjoin_does_1) rfl rfl ?_
  simp (disch := first | assumption | omega | decide | (simp only [List.length_cons, List.length_nil, List.length_append, List.length_replicate, List.length_map, List.length_set, List.length_take, List.length_drop, strs_len, ints_len, bools_len, aggs_len, vpv_len]; done) | (simp only [List.length_cons, List.length_nil, List.length_append, List.length_replicate, List.length_map, List.length_set, List.length_take, List.length_drop, strs_len, ints_len, bools_len, aggs_len, vpv_len]; omega)) only [go_sem, fjoin_does_1, e]
theorem res_cl_avg {kk : SK} (k : List Val) (p : Val) (kind : Int) (hk : k.length < 100000000) : res Γ 243 [placeP kk k p kind] = some [.agg [.bool (aggV 1 k).1, .int .i64 (aggV 1 k).2]] := by
  have e := res_placeOf (kk := kk) k p kind 1 (by omega)
  refine res_code (fn := fjoin_does_2) rfl rfl ?_
  simp (disch := first | assumption | omega | decide | (simp only [List.length_cons, List.length_nil, List.length_append, List.length_replicate, List.length_map, List.length_set, List.length_take, List.length_drop, strs_len, ints_len, bools_len, aggs_len, vpv_len]; done) | (simp only [List.length_cons, List.length_nil, List.length_append, List.length_replicate, List.length_map, List.length_set, List.length_take, List.length_drop, strs_len, ints_len, bools_len, aggs_len, vpv_len]; omega)) only [go_sem, fjoin_does_2, e]
theorem res_cl_min {kk : SK} (k : List Val) (p : Val) (kind : Int) (hk : k.length < 100000000) : res Γ 244 [placeP kk k p kind] = some [.agg [.bool (aggV 5 k).1, .int .i64 (aggV 5 k).2]] := by
  have e := res_placeOf (kk := kk) k p kind 5 (by omega)
  refine res_code (fn := fjoin_does_3) rfl rfl ?_
  simp (disch := first | assumption | omega | decide | (simp only [List.length_cons, List.length_nil, List.length_append, List.length_replicate, List.length_map, List.length_set, List.length_take, List.length_drop, strs_len, ints_len, bools_len, aggs_len, vpv_len]; done) | (simp only [List.length_cons, List.length_nil, List.length_append, List.length_replicate, List.length_map, List.length_set, List.length_take, List.length_drop, strs_len, ints_len, bools_len, aggs_len, vpv_len]; omega)) only [go_sem, fjoin_does_3, e]
theorem res_cl_max {kk : SK} (k : List Val) (p : Val) (kind : Int) (hk : k.length < 100000000) : res Γ 245 [placeP kk k p kind] = some [.agg [.bool (aggV 4 k).1, .int .i64 (aggV 4 k).2]] := by
  have e := res_placeOf (kk := kk) k p kind 4 (by omega)
  refine res_code (fn := fjoin_does_4) rfl rfl ?_
  simp (disch := first | assumption | omega | decide | (simp only [List.length_cons, List.length_nil, List.length_append, List.length_replicate, List.length_map, List.length_set, List.length_take, List.length_drop, strs_len, ints_len, bools_len, aggs_len, vpv_len]; done) | (simp only [List.length_cons, List.length_nil, List.length_append, List.length_replicate, List.length_map, List.length_set, List.length_take, List.length_drop, strs_len, ints_len, bools_len, aggs_len, vpv_len]; omega)) only [go_sem, fjoin_does_4, e]
theorem res_cl_med {kk : SK} (k : List Val) (p : Val) (kind : Int) (hk : k.length < 100000000) : res Γ 246 [placeP kk k p kind] = some [.agg [.bool (medV k).1, .int .i64 (medV k).2]] := by
  have e := res_fwinMedian (kk := kk) k (by omega)
  refine res_code (fn := fjoin_does_5) rfl rfl ?_
  simp (disch := first | assumption | omega | decide | (simp only [List.length_cons, List.length_nil, List.length_append, List.length_replicate, List.length_map, List.length_set, List.length_take, List.length_drop, strs_len, ints_len, bools_len, aggs_len, vpv_len]; done) | (simp only [List.length_cons, List.length_nil, List.length_append, List.length_replicate, List.length_map, List.length_set, List.length_take, List.length_drop, strs_len, ints_len, bools_len, aggs_len, vpv_len]; omega)) only [go_sem, fjoin_does_5, e]
theorem res_cl_dev {kk : SK} (k : List Val) (p : Val) (kind : Int) (hk : k.length < 100000000) : res Γ 247 [placeP kk k p kind] = some [.agg [.bool (devV k).1, .int .i64 (devV k).2]] := by
  have e := res_fwinDeviation (kk := kk) k (by omega)
  refine res_code (fn := fjoin_does_6) rfl rfl ?_
  simp (disch := first | assumption | omega | decide | (simp only [List.length_cons, List.length_nil, List.length_append, List.length_replicate, List.length_map, List.length_set, List.length_take, List.length_drop, strs_len, ints_len, bools_len, aggs_len, vpv_len]; done) | (simp only [List.length_cons, List.length_nil, List.length_append, List.length_replicate, List.length_map, List.length_set, List.length_take, List.length_drop, strs_len, ints_len, bools_len, aggs_len, vpv_len]; omega)) only [go_sem, fjoin_does_6, e]
theorem res_cl_rng {kk : SK} (k : List Val) (p : Val) (kind : Int) (hk : k.length < 100000000) : res Γ 248 [placeP kk k p kind] = some [.agg [.bool (subV (aggV 4 k) (aggV 5 k)).1, .int .i64 (subV (aggV 4 k) (aggV 5 k)).2]] := by
  have e1 := res_placeOf (kk := kk) k p kind 4 (by omega)
  have e2 := res_placeOf (kk := kk) k p kind 5 (by omega)
  have e3 := res_fixedSubV (aggV 4 k) (aggV 5 k)
  refine res_code (fn := fjoin_does_7) rfl rfl ?_
  simp (disch := first | assumption | omega | decide | (simp only [List.length_cons, List.length_nil, List.length_append, List.length_replicate, List.length_map, List.length_set, List.length_take, List.length_drop, strs_len, ints_len, bools_len, aggs_len, vpv_len]; done) | (simp only [List.length_cons, List.length_nil, List.length_append, List.length_replicate, List.length_map, List.length_set, List.length_take, List.length_drop, strs_len, ints_len, bools_len, aggs_len, vpv_len]; omega)) only [go_sem, fjoin_does_7, e1, e2, e3]
theorem res_cl_mul {kk : SK} (k : List Val) (p : Val) (kind : Int) (hk : k.length < 100000000) : res Γ 249 [placeP kk k p kind] = some [.agg [.bool (timesL k).1, .int .i64 (timesL k).2]] := by
  exact res_placeProduct k p kind hk
theorem res_cl_cnt {kk : SK} (k : List Val) (p : Val) (kind : Int) (hk : k.length < 100000000) : res Γ 250 [placeP kk k p kind] = some [.agg [.bool (intV (k.length : Nat)).1, .int .i64 (intV (k.length : Nat)).2]] := by
  have e := res_fixedInt (n := (k.length : Nat)) (by omega)
  refine res_code (fn := fjoin_does_8) rfl rfl ?_
  simp (disch := first | assumption | omega | decide | (simp only [List.length_cons, List.length_nil, List.length_append, List.length_replicate, List.length_map, List.length_set, List.length_take, List.length_drop, strs_len, ints_len, bools_len, aggs_len, vpv_len]; done) | (simp only [List.length_cons, List.length_nil, List.length_append, List.length_replicate, List.length_map, List.length_set, List.length_take, List.length_drop, strs_len, ints_len, bools_len, aggs_len, vpv_len]; omega)) only [go_sem, fjoin_does_8, e]
theorem res_cl_dif {kk : SK} (k : List Val) (p : Val) (kind : Int) (hk : k.length < 100000000) : res Γ 251 [placeP kk k p kind] = some [.agg [.bool (lessL k).1, .int .i64 (lessL k).2]] := by
  exact res_placeLess k p kind hk
theorem res_cl_per {kk : SK} (k : List Val) (p : Val) (kind : Int) (hk : k.length < 100000000) : res Γ 252 [placeP kk k p kind] = some [.agg [.bool (rankV p k).1, .int .i64 (rankV p k).2]] := by
  have e := res_fwinRank (kk := kk) p k (by omega)
  refine res_code (fn := fjoin_does_9) rfl rfl ?_
  simp (disch := first | assumption | omega | decide | (simp only [List.length_cons, List.length_nil, List.length_append, List.length_replicate, List.length_map, List.length_set, List.length_take, List.length_drop, strs_len, ints_len, bools_len, aggs_len, vpv_len]; done) | (simp only [List.length_cons, List.length_nil, List.length_append, List.length_replicate, List.length_map, List.length_set, List.length_take, List.length_drop, strs_len, ints_len, bools_len, aggs_len, vpv_len]; omega)) only [go_sem, fjoin_does_9, e]
theorem res_cl_agg {kk : SK} (k : List Val) (p : Val) (kind : Int) (hk : k.length < 100000000) : res Γ 253 [placeP kk k p kind] = some [.agg [.bool (aggV kind k).1, .int .i64 (aggV kind k).2]] := by
  have e := res_placeOf (kk := kk) k p kind kind (by omega)
  refine res_code (fn := fjoin_does_10) rfl rfl ?_
  simp (disch := first | assumption | omega | decide | (simp only [List.length_cons, List.length_nil, List.length_append, List.length_replicate, List.length_map, List.length_set, List.length_take, List.length_drop, strs_len, ints_len, bools_len, aggs_len, vpv_len]; done) | (simp only [List.length_cons, List.length_nil, List.length_append, List.length_replicate, List.length_map, List.length_set, List.length_take, List.length_drop, strs_len, ints_len, bools_len, aggs_len, vpv_len]; omega)) only [go_sem, fjoin_does_10, e]
theorem res_doesJ_sum : res Γ 230 [.str jSum] = some [.clo 242 []] := by
  refine res_code (fn := fjoin_does) rfl rfl ?_
  simp (disch := first | assumption | omega | decide | (simp only [List.length_cons, List.length_nil, List.length_append, List.length_replicate, List.length_map, List.length_set, List.length_take, List.length_drop, strs_len, ints_len, bools_len, aggs_len, vpv_len]; done) | (simp only [List.length_cons, List.length_nil, List.length_append, List.length_replicate, List.length_map, List.length_set, List.length_take, List.length_drop, strs_len, ints_len, bools_len, aggs_len, vpv_len]; omega)) only [go_sem, fjoin_does, jSum]
theorem res_doesJ_avg : res Γ 230 [.str jAvg] = some [.clo 243 []] := by
  refine res_code (fn := fjoin_does) rfl rfl ?_
  simp (disch := first | assumption | omega | decide | (simp only [List.length_cons, List.length_nil, List.length_append, List.length_replicate, List.length_map, List.length_set, List.length_take, List.length_drop, strs_len, ints_len, bools_len, aggs_len, vpv_len]; done) | (simp only [List.length_cons, List.length_nil, List.length_append, List.length_replicate, List.length_map, List.length_set, List.length_take, List.length_drop, strs_len, ints_len, bools_len, aggs_len, vpv_len]; omega)) only [go_sem, fjoin_does, jAvg]
theorem res_doesJ_min : res Γ 230 [.str jMin] = some [.clo 244 []] := by
  refine res_code (fn := fjoin_does) rfl rfl ?_
  simp (disch := first | assumption | omega | decide | (simp only [List.length_cons, List.length_nil, List.length_append, List.length_replicate, List.length_map, List.length_set, List.length_take, List.length_drop, strs_len, ints_len, bools_len, aggs_len, vpv_len]; done) | (simp only [List.length_cons, List.length_nil, List.length_append, List.length_replicate, List.length_map, List.length_set, List.length_take, List.length_drop, strs_len, ints_len, bools_len, aggs_len, vpv_len]; omega)) only [go_sem, fjoin_does, jMin]
theorem res_doesJ_max : res Γ 230 [.str jMax] = some [.clo 245 []] := by
  refine res_code (fn := fjoin_does) rfl rfl ?_
  simp (disch := first | assumption | omega | decide | (simp only [List.length_cons, List.length_nil, List.length_append, List.length_replicate, List.length_map, List.length_set, List.length_take, List.length_drop, strs_len, ints_len, bools_len, aggs_len, vpv_len]; done) | (simp only [List.length_cons, List.length_nil, List.length_append, List.length_replicate, List.length_map, List.length_set, List.length_take, List.length_drop, strs_len, ints_len, bools_len, aggs_len, vpv_len]; omega)) only [go_sem, fjoin_does, jMax]
theorem res_doesJ_med : res Γ 230 [.str jMed] = some [.clo 246 []] := by
  refine res_code (fn := fjoin_does) rfl rfl ?_
  simp (disch := first | assumption | omega | decide | (simp only [List.length_cons, List.length_nil, List.length_append, List.length_replicate, List.length_map, List.length_set, List.length_take, List.length_drop, strs_len, ints_len, bools_len, aggs_len, vpv_len]; done) | (simp only [List.length_cons, List.length_nil, List.length_append, List.length_replicate, List.length_map, List.length_set, List.length_take, List.length_drop, strs_len, ints_len, bools_len, aggs_len, vpv_len]; omega)) only [go_sem, fjoin_does, jMed]
theorem res_doesJ_dev : res Γ 230 [.str jDev] = some [.clo 247 []] := by
  refine res_code (fn := fjoin_does) rfl rfl ?_
  simp (disch := first | assumption | omega | decide | (simp only [List.length_cons, List.length_nil, List.length_append, List.length_replicate, List.length_map, List.length_set, List.length_take, List.length_drop, strs_len, ints_len, bools_len, aggs_len, vpv_len]; done) | (simp only [List.length_cons, List.length_nil, List.length_append, List.length_replicate, List.length_map, List.length_set, List.length_take, List.length_drop, strs_len, ints_len, bools_len, aggs_len, vpv_len]; omega)) only [go_sem, fjoin_does, jDev]
theorem res_doesJ_rng : res Γ 230 [.str jRng] = some [.clo 248 []] := by
  refine res_code (fn := fjoin_does) rfl rfl ?_
  simp (disch := first | assumption | omega | decide | (simp only [List.length_cons, List.length_nil, List.length_append, List.length_replicate, List.length_map, List.length_set, List.length_take, List.length_drop, strs_len, ints_len, bools_len, aggs_len, vpv_len]; done) | (simp only [List.length_cons, List.length_nil, List.length_append, List.length_replicate, List.length_map, List.length_set, List.length_take, List.length_drop, strs_len, ints_len, bools_len, aggs_len, vpv_len]; omega)) only [go_sem, fjoin_does, jRng]
theorem res_doesJ_mul : res Γ 230 [.str jMul] = some [.clo 249 []] := by
  refine res_code (fn := fjoin_does) rfl rfl ?_
  simp (disch := first | assumption | omega | decide | (simp only [List.length_cons, List.length_nil, List.length_append, List.length_replicate, List.length_map, List.length_set, List.length_take, List.length_drop, strs_len, ints_len, bools_len, aggs_len, vpv_len]; done) | (simp only [List.length_cons, List.length_nil, List.length_append, List.length_replicate, List.length_map, List.length_set, List.length_take, List.length_drop, strs_len, ints_len, bools_len, aggs_len, vpv_len]; omega)) only [go_sem, fjoin_does, jMul]
theorem res_doesJ_cnt : res Γ 230 [.str jCnt] = some [.clo 250 []] := by
  refine res_code (fn := fjoin_does) rfl rfl ?_
  simp (disch := first | assumption | omega | decide | (simp only [List.length_cons, List.length_nil, List.length_append, List.length_replicate, List.length_map, List.length_set, List.length_take, List.length_drop, strs_len, ints_len, bools_len, aggs_len, vpv_len]; done) | (simp only [List.length_cons, List.length_nil, List.length_append, List.length_replicate, List.length_map, List.length_set, List.length_take, List.length_drop, strs_len, ints_len, bools_len, aggs_len, vpv_len]; omega)) only [go_sem, fjoin_does, jCnt]
theorem res_doesJ_dif : res Γ 230 [.str jDif] = some [.clo 251 []] := by
  refine res_code (fn := fjoin_does) rfl rfl ?_
  simp (disch := first | assumption | omega | decide | (simp only [List.length_cons, List.length_nil, List.length_append, List.length_replicate, List.length_map, List.length_set, List.length_take, List.length_drop, strs_len, ints_len, bools_len, aggs_len, vpv_len]; done) | (simp only [List.length_cons, List.length_nil, List.length_append, List.length_replicate, List.length_map, List.length_set, List.length_take, List.length_drop, strs_len, ints_len, bools_len, aggs_len, vpv_len]; omega)) only [go_sem, fjoin_does, jDif]
theorem res_doesJ_per : res Γ 230 [.str jPer] = some [.clo 252 []] := by
  refine res_code (fn := fjoin_does) rfl rfl ?_
  simp (disch := first | assumption | omega | decide | (simp only [List.length_cons, List.length_nil, List.length_append, List.length_replicate, List.length_map, List.length_set, List.length_take, List.length_drop, strs_len, ints_len, bools_len, aggs_len, vpv_len]; done) | (simp only [List.length_cons, List.length_nil, List.length_append, List.length_replicate, List.length_map, List.length_set, List.length_take, List.length_drop, strs_len, ints_len, bools_len, aggs_len, vpv_len]; omega)) only [go_sem, fjoin_does, jPer]
theorem res_doesJ_agg : res Γ 230 [.str jAgg] = some [.clo 253 []] := by
  refine res_code (fn := fjoin_does) rfl rfl ?_
  simp (disch := first | assumption | omega | decide | (simp only [List.length_cons, List.length_nil, List.length_append, List.length_replicate, List.length_map, List.length_set, List.length_take, List.length_drop, strs_len, ints_len, bools_len, aggs_len, vpv_len]; done) | (simp only [List.length_cons, List.length_nil, List.length_append, List.length_replicate, List.length_map, List.length_set, List.length_take, List.length_drop, strs_len, ints_len, bools_len, aggs_len, vpv_len]; omega)) only [go_sem, fjoin_does, jAgg]
theorem res_doesJ {nm : List UInt8} (h : nm ∈ jAll) : ∃ f, res Γ 230 [.str nm] = some [.clo f []] ∧ ∀ (kk : SK) (k : List Val) (p : Val) (kind : Int), k.length < 100000000 → res Γ f [placeP kk k p kind] = some [.agg [.bool (placeV nm p kind k).1, .int .i64 (placeV nm p kind k).2]] := by
  simp only [jAll, List.mem_cons, List.not_mem_nil, or_false] at h
  rcases h with rfl | rfl | rfl | rfl | rfl | rfl | rfl | rfl | rfl | rfl | rfl | rfl
  · exact ⟨242, res_doesJ_sum, fun kk k p kind hk => res_cl_sum k p kind hk⟩
  · exact ⟨243, res_doesJ_avg, fun kk k p kind hk => res_cl_avg k p kind hk⟩
  · exact ⟨244, res_doesJ_min, fun kk k p kind hk => res_cl_min k p kind hk⟩
  · exact ⟨245, res_doesJ_max, fun kk k p kind hk => res_cl_max k p kind hk⟩
  · exact ⟨246, res_doesJ_med, fun kk k p kind hk => res_cl_med k p kind hk⟩
  · exact ⟨247, res_doesJ_dev, fun kk k p kind hk => res_cl_dev k p kind hk⟩
  · exact ⟨248, res_doesJ_rng, fun kk k p kind hk => res_cl_rng k p kind hk⟩
  · exact ⟨249, res_doesJ_mul, fun kk k p kind hk => res_cl_mul k p kind hk⟩
  · exact ⟨250, res_doesJ_cnt, fun kk k p kind hk => res_cl_cnt k p kind hk⟩
  · exact ⟨251, res_doesJ_dif, fun kk k p kind hk => res_cl_dif k p kind hk⟩
  · exact ⟨252, res_doesJ_per, fun kk k p kind hk => res_cl_per k p kind hk⟩
  · exact ⟨253, res_doesJ_agg, fun kk k p kind hk => res_cl_agg k p kind hk⟩
theorem res_doesJ_no {nm : List UInt8} (h : nm ∉ jAll) : res Γ 230 [.str nm] = some [.nilfn] := by
  simp only [jAll, jSum, jAvg, jMin, jMax, jMed, jDev, jRng, jMul, jCnt, jDif, jPer, jAgg, List.mem_cons, List.not_mem_nil, or_false, not_or] at h
  obtain ⟨h1, h2, h3, h4, h5, h6, h7, h8, h9, h10, h11, h12⟩ := h
  refine res_code (fn := fjoin_does) rfl rfl ?_
  simp (disch := first | assumption | omega | decide | (simp only [List.length_cons, List.length_nil, List.length_append, List.length_replicate, List.length_map, List.length_set, List.length_take, List.length_drop, strs_len, ints_len, bools_len, aggs_len, vpv_len]; done) | (simp only [List.length_cons, List.length_nil, List.length_append, List.length_replicate, List.length_map, List.length_set, List.length_take, List.length_drop, strs_len, ints_len, bools_len, aggs_len, vpv_len]; omega)) only [go_sem, fjoin_does]
end Ab
namespace Ab
open Go (IntKind BinOp UnOp)
theorem mulb {i : Nat} {step : Int} (h : i ≤ 131072) (h1 : 0 ≤ step) (h2 : step ≤ 1099511627776) : 0 ≤ (i : Int) * step ∧ (i : Int) * step ≤ 144115188075855872 := by
  refine ⟨Int.mul_nonneg (by omega) h1, ?_⟩
  calc (i : Int) * step ≤ 131072 * 1099511627776 := Int.mul_le_mul (by omega) h2 h1 (by omega)
    _ = 144115188075855872 := by decide
theorem res_within1 {kk : SK} (s : Ser) (hz : sizeS s) (t : Int) (ht : -1000000000000000000 ≤ t ∧ t ≤ 1000000000000000000) :
    res Γ 170 [.int .i64 t, .ptr [.str s.name, .int .i64 s.start, .int .i64 s.step, .sl kk 2 (vpv s.vals), .int .i64 s.cons]] = some [.int .i64 (plcS s t : Nat)] := by
  obtain ⟨_, _, _, _, _, _, _, _⟩ := hz
  refine res_code (fn := series_within_1) rfl rfl ?_
  by_cases h : t ≤ s.start
  · have e : plcS s t = 0 := by unfold plcS; rw [if_pos h]
    simp (disch := first | assumption | omega | decide | (simp only [List.length_cons, List.length_nil, List.length_append, List.length_replicate, List.length_map, List.length_set, List.length_take, List.length_drop, strs_len, ints_len, bools_len, aggs_len, vpv_len]; done) | (simp only [List.length_cons, List.length_nil, List.length_append, List.length_replicate, List.length_map, List.length_set, List.length_take, List.length_drop, strs_len, ints_len, bools_len, aggs_len, vpv_len]; omega)) only [go_sem, series_within_1, e]
    rfl
  · have h0 : 0 ≤ (t - s.start - 1) / s.step := Int.ediv_nonneg (by omega) (by omega)
    have h1 : (t - s.start - 1) / s.step ≤ t - s.start - 1 := Int.ediv_le_self _ (by omega)
    have m0 := map_quo (k := .i64) (a := t - s.start - 1) (b := s.step) (by omega) (by omega) (wrap_i64 (by omega) (by omega))
    have e : ((plcS s t : Nat) : Int) = min (s.vals.length : Int) ((t - s.start - 1) / s.step + 1) := by unfold plcS; rw [if_neg h]; omega
    simp (disch := first | assumption | omega | decide | (simp only [List.length_cons, List.length_nil, List.length_append, List.length_replicate, List.length_map, List.length_set, List.length_take, List.length_drop, strs_len, ints_len, bools_len, aggs_len, vpv_len]; done) | (simp only [List.length_cons, List.length_nil, List.length_append, List.length_replicate, List.length_map, List.length_set, List.length_take, List.length_drop, strs_len, ints_len, bools_len, aggs_len, vpv_len]; omega)) only [go_sem, series_within_1, m0, e]
theorem res_within {kk : SK} (s : Ser) (hz : sizeS s) (t u : Int) (ht : -1000000000000000000 ≤ t ∧ t ≤ u ∧ u ≤ 1000000000000000000) :
    res Γ 166 [s.pv kk, .int .i64 t, .int .i64 u] = some [.sl kk.cut 2 (vpv (withinV s t u))] := by
  have e1 := res_within1 (kk := kk) s hz t (by omega)
  have e2 := res_within1 (kk := kk) s hz u (by omega)
  have g := plcS_mono (s := s) (by have := hz; unfold sizeS at this; omega) (show t ≤ u by omega)
  have g2 := plcS_le s u
  have hw : (vpv s.vals).length = s.vals.length := vpv_len
  unfold Ser.pv
  refine res_code (fn := series_within) rfl rfl ?_
  simp (disch := first | assumption | omega | decide | (simp only [List.length_cons, List.length_nil, List.length_append, List.length_replicate, List.length_map, List.length_set, List.length_take, List.length_drop, strs_len, ints_len, bools_len, aggs_len, vpv_len]; done) | (simp only [List.length_cons, List.length_nil, List.length_append, List.length_replicate, List.length_map, List.length_set, List.length_take, List.length_drop, strs_len, ints_len, bools_len, aggs_len, vpv_len]; omega)) only [go_sem, series_within, e1, e2, withinV]
theorem res_seriesCons {kk : SK} (s : Ser) (hs : isS s = true) (hl : s.vals.length ≤ 9223372036854775807) : res Γ 165 [s.pv kk] = some [.int .i64 (consV s)] := by
  have e := res_seriesIs (kk := kk) s hl
  unfold Ser.pv at e ⊢
  refine res_code (fn := series_Cons) rfl rfl ?_
  by_cases h : s.cons = 0
  · simp (disch := first | assumption | omega | decide | (simp only [List.length_cons, List.length_nil, List.length_append, List.length_replicate, List.length_map, List.length_set, List.length_take, List.length_drop, strs_len, ints_len, bools_len, aggs_len, vpv_len]; done) | (simp only [List.length_cons, List.length_nil, List.length_append, List.length_replicate, List.length_map, List.length_set, List.length_take, List.length_drop, strs_len, ints_len, bools_len, aggs_len, vpv_len]; omega)) only [go_sem, series_Cons, consV]
    rw [if_pos h]
  · simp (disch := first | assumption | omega | decide | (simp only [List.length_cons, List.length_nil, List.length_append, List.length_replicate, List.length_map, List.length_set, List.length_take, List.length_drop, strs_len, ints_len, bools_len, aggs_len, vpv_len]; done) | (simp only [List.length_cons, List.length_nil, List.length_append, List.length_replicate, List.length_map, List.length_set, List.length_take, List.length_drop, strs_len, ints_len, bools_len, aggs_len, vpv_len]; omega)) only [go_sem, series_Cons, e, hs, consV]
    rw [if_neg h]
theorem res_r18Cons {kk : SK} (s : Ser) (hs : isS s = true) (hl : s.vals.length ≤ 9223372036854775807) : res Γ 169 [s.pv kk] = some [.int .i64 (consV s)] := by
  have e := res_r18Is (kk := kk) s hl
  unfold Ser.pv at e ⊢
  refine res_code (fn := r18_Cons) rfl rfl ?_
  by_cases h : s.cons = 0
  · simp (disch := first | assumption | omega | decide | (simp only [List.length_cons, List.length_nil, List.length_append, List.length_replicate, List.length_map, List.length_set, List.length_take, List.length_drop, strs_len, ints_len, bools_len, aggs_len, vpv_len]; done) | (simp only [List.length_cons, List.length_nil, List.length_append, List.length_replicate, List.length_map, List.length_set, List.length_take, List.length_drop, strs_len, ints_len, bools_len, aggs_len, vpv_len]; omega)) only [go_sem, r18_Cons, consV]
    rw [if_pos h]
  · simp (disch := first | assumption | omega | decide | (simp only [List.length_cons, List.length_nil, List.length_append, List.length_replicate, List.length_map, List.length_set, List.length_take, List.length_drop, strs_len, ints_len, bools_len, aggs_len, vpv_len]; done) | (simp only [List.length_cons, List.length_nil, List.length_append, List.length_replicate, List.length_map, List.length_set, List.length_take, List.length_drop, strs_len, ints_len, bools_len, aggs_len, vpv_len]; omega)) only [go_sem, r18_Cons, e, hs, consV]
    rw [if_neg h]
theorem isS_size {s : Ser} (h : isS s = true) : sizeS s := by
  unfold isS at h
  simp only [Bool.and_eq_true, decide_eq_true_eq] at h
  exact h.1
theorem withinV_len {s : Ser} {t u : Int} (h : s.vals.length ≤ 131072) : (withinV s t u).length ≤ 131072 := by
  unfold withinV
  rw [List.length_drop, List.length_take]; omega
theorem sFit_l1_ok {kk : SK} (s : Ser) (hs : isS s = true) (start step : Int) (h0 : 0 ≤ start) (h1 : start ≤ 4294967295) (g0 : 1 ≤ step) (g1 : step ≤ 1099511627776) (n : Nat) (hn : n ≤ 131072) (B1 : Blk) (Q : Out → Prop) : ∀ (k i : Nat), i + 1 + k = n →
    (Q (.nrm, [(8, .bx 1 0), (9, .bx 2 0)], [.box [.p (.str s.name), .p (.int .i64 s.start), .p (.int .i64 s.step), .p (.sl kk 2 (vpv s.vals)), .p (.int .i64 s.cons)], B1, .box [.p (.str s.name), .p (.int .i64 start), .p (.int .i64 step), .own 3 n, .p (.int .i64 s.cons)], .row false 2 (vpv (fitV s start step n))])) →
    Wp Γ series_Fit_l1 [(1, .p (.int .i64 start)), (2, .p (.int .i64 step)), (4, .bx 0 0), (8, .bx 1 0), (9, .bx 2 0), (48, .p (.int .i64 (n : Int))), (49, .p (.int .i64 ((i + 1 : Nat) : Int)))]
      [.box [.p (.str s.name), .p (.int .i64 s.start), .p (.int .i64 s.step), .p (.sl kk 2 (vpv s.vals)), .p (.int .i64 s.cons)], B1, .box [.p (.str s.name), .p (.int .i64 start), .p (.int .i64 step), .own 3 (i + 1), .p (.int .i64 s.cons)], .row false 2 (vpv (fitV s start step (i + 1)))] (InBlk [8, 9] 0 Q) := by
  have hz := isS_size hs
  have hv : s.vals.length ≤ 131072 := by unfold sizeS at hz; omega
  intro k
  induction k with
  | zero =>
    intro i hi hQ
    have hi : i + 1 = n := by omega
    rw [hi]
    rw [W_loop (L := series_Fit_l1) rfl]
    simp (disch := first | assumption | omega | decide | (simp only [List.length_cons, List.length_nil, List.length_append, List.length_replicate, List.length_map, List.length_set, List.length_take, List.length_drop, strs_len, ints_len, bools_len, aggs_len, vpv_len]; done) | (simp only [List.length_cons, List.length_nil, List.length_append, List.length_replicate, List.length_map, List.length_set, List.length_take, List.length_drop, strs_len, ints_len, bools_len, aggs_len, vpv_len]; omega)) only [go_sem]
    exact hQ
  | succ k ih =>
    intro i hi hQ
    have g := @fitV_len s start step (i + 1)
    have e := @fitV_succ s start step (i + 1)
    obtain ⟨b0, b1⟩ := mulb (i := i + 1) (step := step) (by omega) (by omega) g1
    have a := res_within (kk := kk) s hz (start + ((i + 1 : Nat) : Int) * step) (start + ((i + 1 : Nat) : Int) * step + step) (by omega)
    have hw := withinV_len (s := s) (t := start + ((i + 1 : Nat) : Int) * step) (u := start + ((i + 1 : Nat) : Int) * step + step) hv
    have c := res_aggOfK (kk := kk.cut) (consV s) (withinV s (start + ((i + 1 : Nat) : Int) * step) (start + ((i + 1 : Nat) : Int) * step + step)) (by omega)
    have d := res_seriesCons (kk := kk) s hs (by omega)
    unfold Ser.pv at a d
    rw [W_loop (L := series_Fit_l1) rfl]
    simp (disch := first | assumption | omega | decide | (simp only [List.length_cons, List.length_nil, List.length_append, List.length_replicate, List.length_map, List.length_set, List.length_take, List.length_drop, strs_len, ints_len, bools_len, aggs_len, vpv_len]; done) | (simp only [List.length_cons, List.length_nil, List.length_append, List.length_replicate, List.length_map, List.length_set, List.length_take, List.length_drop, strs_len, ints_len, bools_len, aggs_len, vpv_len]; omega)) only [go_sem, a, c, d]
    rw [← e]
    exact ih (i + 1) (by omega) hQ
theorem sFit_l1_first {kk : SK} (s : Ser) (hs : isS s = true) (start step : Int) (h0 : 0 ≤ start) (h1 : start ≤ 4294967295) (g0 : 1 ≤ step) (g1 : step ≤ 1099511627776) (n : Nat) (hn : n ≤ 131072) (hpos : 0 < n) (B1 : Blk) (Q : Out → Prop) :
    (Q (.nrm, [(8, .bx 1 0), (9, .bx 2 0)], [.box [.p (.str s.name), .p (.int .i64 s.start), .p (.int .i64 s.step), .p (.sl kk 2 (vpv s.vals)), .p (.int .i64 s.cons)], B1, .box [.p (.str s.name), .p (.int .i64 start), .p (.int .i64 step), .own 3 n, .p (.int .i64 s.cons)], .row false 2 (vpv (fitV s start step n))])) →
    Wp Γ series_Fit_l1 [(1, .p (.int .i64 start)), (2, .p (.int .i64 step)), (4, .bx 0 0), (8, .bx 1 0), (9, .bx 2 0), (48, .p (.int .i64 (n : Int))), (49, .p (.int .i64 0))]
      [.box [.p (.str s.name), .p (.int .i64 s.start), .p (.int .i64 s.step), .p (.sl kk 2 (vpv s.vals)), .p (.int .i64 s.cons)], B1, .box [.p (.str s.name), .p (.int .i64 start), .p (.int .i64 step), .p (.sl .nil 2 []), .p (.int .i64 s.cons)]] (InBlk [8, 9] 0 Q) := by
  have hz := isS_size hs
  have hv : s.vals.length ≤ 131072 := by unfold sizeS at hz; omega
  intro hQ
  have e := @fitV_succ s start step 0
  rw [show ((0 : Nat) : Int) = 0 from rfl, Int.zero_mul, Int.add_zero] at e
  have a := res_within (kk := kk) s hz start (start + step) (by omega)
  have hw := withinV_len (s := s) (t := start) (u := start + step) hv
  have c := res_aggOfK (kk := kk.cut) (consV s) (withinV s start (start + step)) (by omega)
  have d := res_seriesCons (kk := kk) s hs (by omega)
  unfold Ser.pv at a d
  rw [W_loop (L := series_Fit_l1) rfl]
  simp (disch := first | assumption | omega | decide | (simp only [List.length_cons, List.length_nil, List.length_append, List.length_replicate, List.length_map, List.length_set, List.length_take, List.length_drop, strs_len, ints_len, bools_len, aggs_len, vpv_len]; done) | (simp only [List.length_cons, List.length_nil, List.length_append, List.length_replicate, List.length_map, List.length_set, List.length_take, List.length_drop, strs_len, ints_len, bools_len, aggs_len, vpv_len]; omega)) only [go_sem, a, c, d, Int.zero_mul]
  have h := sFit_l1_ok (kk := kk) s hs start step h0 h1 g0 g1 n hn B1 Q (n - 1) 0 (by omega) hQ
  rw [e] at h
  exact h
def fitK (n : Nat) : SK := if n = 0 then .nil else .any
theorem res_seriesFit {kk : SK} (s : Ser) (hs : isS s = true) (start step : Int) (h0 : 0 ≤ start) (h1 : start ≤ 4294967295) (g0 : 1 ≤ step) (g1 : step ≤ 1099511627776) (n : Nat) (hn : n ≤ 131072) :
    res Γ 158 [s.pv kk, .int .i64 start, .int .i64 step, .int .i64 (n : Int)] = some [(fitS s start step n).pv (fitK n)] := by
  have hz := isS_size hs
  have hv : s.vals.length ≤ 131072 := by unfold sizeS at hz; omega
  have e := res_seriesIs (kk := kk) s (by omega)
  unfold Ser.pv at e ⊢
  refine res_code (fn := series_Fit) rfl rfl ?_
  simp (disch := first | assumption | omega | decide | (simp only [List.length_cons, List.length_nil, List.length_append, List.length_replicate, List.length_map, List.length_set, List.length_take, List.length_drop, strs_len, ints_len, bools_len, aggs_len, vpv_len]; done) | (simp only [List.length_cons, List.length_nil, List.length_append, List.length_replicate, List.length_map, List.length_set, List.length_take, List.length_drop, strs_len, ints_len, bools_len, aggs_len, vpv_len]; omega)) only [go_sem, series_Fit, e, hs]
  by_cases hne : n = 0
  · subst hne
    rw [W_loop (L := series_Fit_l1) rfl]
    simp (disch := first | assumption | omega | decide | (simp only [List.length_cons, List.length_nil, List.length_append, List.length_replicate, List.length_map, List.length_set, List.length_take, List.length_drop, strs_len, ints_len, bools_len, aggs_len, vpv_len]; done) | (simp only [List.length_cons, List.length_nil, List.length_append, List.length_replicate, List.length_map, List.length_set, List.length_take, List.length_drop, strs_len, ints_len, bools_len, aggs_len, vpv_len]; omega)) only [go_sem, fitS, fitK]
    rfl
  · refine sFit_l1_first s hs start step h0 h1 g0 g1 n hn (by omega) _ _ ?_
    have hw : (vpv (fitV s start step n)).length = n := by rw [vpv_len, fitV_len]
    simp (disch := first | assumption | omega | decide | (simp only [List.length_cons, List.length_nil, List.length_append, List.length_replicate, List.length_map, List.length_set, List.length_take, List.length_drop, strs_len, ints_len, bools_len, aggs_len, vpv_len]; done) | (simp only [List.length_cons, List.length_nil, List.length_append, List.length_replicate, List.length_map, List.length_set, List.length_take, List.length_drop, strs_len, ints_len, bools_len, aggs_len, vpv_len]; omega)) only [go_sem, fitS, fitK]
    rw [if_neg hne]
end Ab
