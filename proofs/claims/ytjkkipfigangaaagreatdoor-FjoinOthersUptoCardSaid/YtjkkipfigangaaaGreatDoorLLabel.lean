import Derived.Test.YtjkkipfigangaaaGreatDoorLAgg3
import Derived.Test.YtjkkipfigangaaaGreatDoorLAgg
import Derived.Test.YtjkkipfigangaaaGreatDoorCode
namespace Ab
open Go (IntKind BinOp UnOp)
abbrev placeP (kk : SK) (k : List Val) (p : Val) (kind : Int) : PV := .agg [.sl kk 2 (vpv k), .bool p.1, .int .i64 p.2, .int .i64 kind]
theorem res_placeOf {kk : SK} (k : List Val) (p : Val) (kind a : Int) (hk : k.length < 1000000000) : res Γ 267 [placeP kk k p kind, .int .i64 a] = some [.agg [.bool (aggV a k).1, .int .i64 (aggV a k).2]] := by
  have e := res_aggOfK (kk := kk) a k hk
  refine res_code (fn := fjoin_place_of) rfl rfl ?_
  simp (disch := first | assumption | omega | decide | (simp only [lens] <;> omega) | fail) only [go_sem, fjoin_place_of, e]
theorem foldl_take {f : Val → Val → Val} {r : List Val} {x : Val} {i : Nat} (h : i < r.length) : (r.take (i + 1)).foldl f x = f ((r.take i).foldl f x) (r.getD i (false, 0)) := by
  rw [take_snoc' (false, 0) h, List.foldl_append]; rfl
theorem less_l1_ok {k2 : SK} (r : List Val) (hr : r.length < 1000000000) (x : Val) (B : Blk) (hB : ∃ cs : List PV, B = .box (cs.map .p)) (Q : Out → Prop)
    (hQ : Q (.nrm, [(2, .bx 0 0), (3, .bx 1 0)], [B, .box [.p (.bool (r.foldl subV x).1), .p (.int .i64 (r.foldl subV x).2)]])) : ∀ (n i : Nat) (env : Env) (H : Heap), i + n = r.length →
    norm [2, 3, 17, 18, 19] (some 0) env H = some ([(2, .bx 0 0), (3, .bx 1 0), (17, .p (.sl k2 2 (vpv r))), (18, .p (.int .i64 (r.length : Int))), (19, .p (.int .i64 (i : Int)))], [B, .box [.p (.bool ((r.take i).foldl subV x).1), .p (.int .i64 ((r.take i).foldl subV x).2)]]) →
    Wp Γ fjoin_place_less_l1 env H (InBlk [2, 3] 0 Q) := by
  obtain ⟨cs, rfl⟩ := hB
  intro n
  induction n with
  | zero =>
    intro i env H hi hN
    obtain rfl : i = r.length := by omega
    rw [List.take_length] at hN
    rw [W_loop (L := fjoin_place_less_l1) rfl]
    rw [hN]
    simp (disch := first | assumption | omega | decide | (simp only [lens] <;> omega) | fail) only [go_sem]
    exact hQ
  | succ n ih =>
    intro i env H hi hN
    have hlt : i < r.length := by omega
    have ih := fun env H => ih (i + 1) env H (by omega)
    rw [foldl_take hlt] at ih
    have e := res_fixedSubV ((r.take i).foldl subV x) (r.getD i (false, 0))
    rw [W_loop (L := fjoin_place_less_l1) rfl]
    rw [hN]
    simp (disch := first | assumption | omega | decide | (simp only [lens] <;> omega) | fail) only [go_sem, valP, e]
    refine ih _ _ ?_
    simp (disch := first | assumption | omega | decide | (simp only [lens] <;> omega) | fail) only [go_sem]
    rfl
theorem product_l1_ok {k2 : SK} (r : List Val) (hr : r.length < 1000000000) (x : Val) (B : Blk) (hB : ∃ cs : List PV, B = .box (cs.map .p)) (Q : Out → Prop)
    (hQ : Q (.nrm, [(2, .bx 0 0), (3, .bx 1 0)], [B, .box [.p (.bool (r.foldl mulV x).1), .p (.int .i64 (r.foldl mulV x).2)]])) : ∀ (n i : Nat) (env : Env) (H : Heap), i + n = r.length →
    norm [2, 3, 13, 14, 15] (some 0) env H = some ([(2, .bx 0 0), (3, .bx 1 0), (13, .p (.sl k2 2 (vpv r))), (14, .p (.int .i64 (r.length : Int))), (15, .p (.int .i64 (i : Int)))], [B, .box [.p (.bool ((r.take i).foldl mulV x).1), .p (.int .i64 ((r.take i).foldl mulV x).2)]]) →
    Wp Γ fjoin_place_product_l1 env H (InBlk [2, 3] 0 Q) := by
  obtain ⟨cs, rfl⟩ := hB
  intro n
  induction n with
  | zero =>
    intro i env H hi hN
    obtain rfl : i = r.length := by omega
    rw [List.take_length] at hN
    rw [W_loop (L := fjoin_place_product_l1) rfl]
    rw [hN]
    simp (disch := first | assumption | omega | decide | (simp only [lens] <;> omega) | fail) only [go_sem]
    exact hQ
  | succ n ih =>
    intro i env H hi hN
    have hlt : i < r.length := by omega
    have ih := fun env H => ih (i + 1) env H (by omega)
    rw [foldl_take hlt] at ih
    have e := res_fixedMulV ((r.take i).foldl mulV x) (r.getD i (false, 0))
    rw [W_loop (L := fjoin_place_product_l1) rfl]
    rw [hN]
    simp (disch := first | assumption | omega | decide | (simp only [lens] <;> omega) | fail) only [go_sem, valP, e]
    refine ih _ _ ?_
    simp (disch := first | assumption | omega | decide | (simp only [lens] <;> omega) | fail) only [go_sem]
    rfl
theorem r22less_l1_ok {k2 : SK} (r : List Val) (v : Val) (hr : r.length < 100000000) (B : Blk) (hB : ∃ cs : List PV, B = .box (cs.map .p)) (Q : Out → Prop)
    (hQ : Q (.nrm, [(2, .bx 0 0), (3, .bx 1 0)], [B, .box [.p (.bool (r.foldl subV v).1), .p (.int .i64 (r.foldl subV v).2)]])) : ∀ (n i : Nat), i + n = r.length →
    Wp Γ r22_less_l1 [(0, .p (.sl k2 2 (vpv (v :: r)))), (2, .bx 0 0), (3, .bx 1 0), (4, .p (.int .i64 ((i + 1 : Nat) : Int)))] [B, .box [.p (.bool ((r.take i).foldl subV v).1), .p (.int .i64 ((r.take i).foldl subV v).2)]] (InBlk [2, 3] 0 Q) := by
  obtain ⟨cs, rfl⟩ := hB
  intro n
  induction n with
  | zero =>
    intro i hi
    obtain rfl : i = r.length := by omega
    rw [List.take_length]
    have hl : (v :: r).length = r.length + 1 := rfl
    rw [W_loop (L := r22_less_l1) rfl]
    simp (disch := first | assumption | omega | decide | (simp only [lens] <;> omega) | fail) only [go_sem, hl]
    exact hQ
  | succ n ih =>
    intro i hi
    have hlt : i < r.length := by omega
    have ih := ih (i + 1) (by omega)
    rw [foldl_take hlt] at ih
    have e := res_r1SubV ((r.take i).foldl subV v) (r.getD i (false, 0))
    have hl : (v :: r).length = r.length + 1 := rfl
    have hg : (v :: r).getD (i + 1) (false, 0) = r.getD i (false, 0) := rfl
    have hg2 : ((i + 1 : Nat) : Int).toNat = i + 1 := by omega
    rw [W_loop (L := r22_less_l1) rfl]
    simp (disch := first | assumption | omega | decide | (simp only [lens] <;> omega) | fail) only [go_sem, hl, hg, valP, e]
    exact ih
theorem r22times_l1_ok {k2 : SK} (r : List Val) (hr : r.length < 1000000000) (x : Val) (B : Blk) (hB : ∃ cs : List PV, B = .box (cs.map .p)) (Q : Out → Prop)
    (hQ : Q (.nrm, [(2, .bx 0 0), (3, .bx 1 0)], [B, .box [.p (.bool (r.foldl mulV x).1), .p (.int .i64 (r.foldl mulV x).2)]])) : ∀ (n i : Nat), i + n = r.length →
    Wp Γ r22_times_l1 [(0, .p (.sl k2 2 (vpv r))), (2, .bx 0 0), (3, .bx 1 0), (4, .p (.int .i64 (i : Int)))] [B, .box [.p (.bool ((r.take i).foldl mulV x).1), .p (.int .i64 ((r.take i).foldl mulV x).2)]] (InBlk [2, 3] 0 Q) := by
  obtain ⟨cs, rfl⟩ := hB
  intro n
  induction n with
  | zero =>
    intro i hi
    obtain rfl : i = r.length := by omega
    rw [List.take_length]
    rw [W_loop (L := r22_times_l1) rfl]
    simp (disch := first | assumption | omega | decide | (simp only [lens] <;> omega) | fail) only [go_sem]
    exact hQ
  | succ n ih =>
    intro i hi
    have hlt : i < r.length := by omega
    have ih := ih (i + 1) (by omega)
    rw [foldl_take hlt] at ih
    have e := res_r1MulV ((r.take i).foldl mulV x) (r.getD i (false, 0))
    rw [W_loop (L := r22_times_l1) rfl]
    simp (disch := first | assumption | omega | decide | (simp only [lens] <;> omega) | fail) only [go_sem, valP, e]
    exact ih
theorem res_placeLess {kk : SK} (k : List Val) (p : Val) (kind : Int) (hk : k.length < 100000000) : res Γ 251 [placeP kk k p kind] = some [.agg [.bool (lessL k).1, .int .i64 (lessL k).2]] := by
  cases k with
  | nil =>
    have hl : ([] : List Val).length = 0 := rfl
    refine res_code (fn := fjoin_place_less) rfl rfl ?_
    simp (disch := first | assumption | omega | decide | (simp only [lens] <;> omega) | fail) only [go_sem, fjoin_place_less, hl]
    rfl
  | cons v r =>
    have hl : (v :: r).length = r.length + 1 := rfl
    have hl2 : (v :: r).length < 100000000 := hk
    have hd : (v :: r).drop 1 = r := rfl
    have hg : (v :: r).getD 0 (false, 0) = v := rfl
    have hv2 : (vpv (v :: r)).length = r.length + 1 := vpv_len
    refine res_code (fn := fjoin_place_less) rfl rfl ?_
    simp (disch := first | assumption | omega | decide | (simp only [lens] <;> omega) | fail) only [go_sem, fjoin_place_less, hl, hg, valP, hd, hv2]
    refine less_l1_ok (k2 := kk.cut) r (by omega) v _ ⟨[.bool false, .int .i64 0], rfl⟩ _ ?_ r.length 0 _ _ (by omega) ?_
    · simp (disch := first | assumption | omega | decide | (simp only [lens] <;> omega) | fail) only [go_sem, lessL]
    · simp (disch := first | assumption | omega | decide | (simp only [lens] <;> omega) | fail) only [go_sem]
      rfl
theorem res_placeProduct {kk : SK} (k : List Val) (p : Val) (kind : Int) (hk : k.length < 100000000) : res Γ 249 [placeP kk k p kind] = some [.agg [.bool (timesL k).1, .int .i64 (timesL k).2]] := by
  have e1 : res Γ 137 [.int .i64 1] = some [.agg [.bool (intV 1).1, .int .i64 (intV 1).2]] := res_fixedInt (n := 1) (by omega)
  cases k with
  | nil =>
    have hl : ([] : List Val).length = 0 := rfl
    refine res_code (fn := fjoin_place_product) rfl rfl ?_
    simp (disch := first | assumption | omega | decide | (simp only [lens] <;> omega) | fail) only [go_sem, fjoin_place_product, hl]
    rfl
  | cons v r =>
    have hl : (v :: r).length = r.length + 1 := rfl
    have hL := fun Q => product_l1_ok (k2 := kk) (v :: r) (by omega) (intV 1) (.box [.p (.bool false), .p (.int .i64 0)]) ⟨[.bool false, .int .i64 0], rfl⟩ Q
    have et : timesL (v :: r) = (v :: r).foldl mulV (intV 1) := rfl
    rw [et]
    have hpos : 0 < (v :: r).length := by simp
    generalize v :: r = l at *
    refine res_code (fn := fjoin_place_product) rfl rfl ?_
    simp (disch := first | assumption | omega | decide | (simp only [lens] <;> omega) | fail) only [go_sem, fjoin_place_product, e1]
    refine hL _ ?_ l.length 0 _ _ (by omega) ?_
    · simp (disch := first | assumption | omega | decide | (simp only [lens] <;> omega) | fail) only [go_sem]
    · simp (disch := first | assumption | omega | decide | (simp only [lens] <;> omega) | fail) only [go_sem]
      rfl
theorem res_r22less {kk : SK} (k : List Val) (hk : k.length < 100000000) : res Γ 263 [.sl kk 2 (vpv k)] = some [.agg [.bool (lessL k).1, .int .i64 (lessL k).2]] := by
  cases k with
  | nil =>
    have hl : ([] : List Val).length = 0 := rfl
    refine res_code (fn := r22_less) rfl rfl ?_
    simp (disch := first | assumption | omega | decide | (simp only [lens] <;> omega) | fail) only [go_sem, r22_less, hl]
    rfl
  | cons v r =>
    have hl : (v :: r).length = r.length + 1 := rfl
    have hg : (v :: r).getD 0 (false, 0) = v := rfl
    refine res_code (fn := r22_less) rfl rfl ?_
    simp (disch := first | assumption | omega | decide | (simp only [lens] <;> omega) | fail) only [go_sem, r22_less, hl, hg, valP]
    refine r22less_l1_ok r v (by rw [hl] at hk; omega) _ ⟨[.bool false, .int .i64 0], rfl⟩ _ ?_ r.length 0 (by omega)
    simp (disch := first | assumption | omega | decide | (simp only [lens] <;> omega) | fail) only [go_sem, lessL]
theorem res_r22times {kk : SK} (k : List Val) (hk : k.length < 100000000) : res Γ 262 [.sl kk 2 (vpv k)] = some [.agg [.bool (timesL k).1, .int .i64 (timesL k).2]] := by
  have e1 : res Γ 129 [.int .i64 1] = some [.agg [.bool (intV 1).1, .int .i64 (intV 1).2]] := res_r1Int (n := 1) (by omega)
  cases k with
  | nil =>
    have hl : ([] : List Val).length = 0 := rfl
    refine res_code (fn := r22_times) rfl rfl ?_
    simp (disch := first | assumption | omega | decide | (simp only [lens] <;> omega) | fail) only [go_sem, r22_times, hl]
    rfl
  | cons v r =>
    have hL := fun Q => r22times_l1_ok (k2 := kk) (v :: r) (by omega) (intV 1) (.box [.p (.bool false), .p (.int .i64 0)]) ⟨[.bool false, .int .i64 0], rfl⟩ Q
    have et : timesL (v :: r) = (v :: r).foldl mulV (intV 1) := rfl
    rw [et]
    have hpos : 0 < (v :: r).length := by simp
    generalize v :: r = l at *
    refine res_code (fn := r22_times) rfl rfl ?_
    simp (disch := first | assumption | omega | decide | (simp only [lens] <;> omega) | fail) only [go_sem, r22_times, e1]
    refine hL _ ?_ l.length 0 (by omega)
    simp (disch := first | assumption | omega | decide | (simp only [lens] <;> omega) | fail) only [go_sem]
theorem res_cl_sum {kk : SK} (k : List Val) (p : Val) (kind : Int) (hk : k.length < 100000000) : res Γ 242 [placeP kk k p kind] = some [.agg [.bool (aggV 2 k).1, .int .i64 (aggV 2 k).2]] := by
  have e := res_placeOf (kk := kk) k p kind 2 (by omega)
  refine res_code (fn := fjoin_does_1) rfl rfl ?_
  simp (disch := first | assumption | omega | decide | (simp only [lens] <;> omega) | fail) only [go_sem, fjoin_does_1, e]
theorem res_cl_avg {kk : SK} (k : List Val) (p : Val) (kind : Int) (hk : k.length < 100000000) : res Γ 243 [placeP kk k p kind] = some [.agg [.bool (aggV 1 k).1, .int .i64 (aggV 1 k).2]] := by
  have e := res_placeOf (kk := kk) k p kind 1 (by omega)
  refine res_code (fn := fjoin_does_2) rfl rfl ?_
  simp (disch := first | assumption | omega | decide | (simp only [lens] <;> omega) | fail) only [go_sem, fjoin_does_2, e]
theorem res_cl_min {kk : SK} (k : List Val) (p : Val) (kind : Int) (hk : k.length < 100000000) : res Γ 244 [placeP kk k p kind] = some [.agg [.bool (aggV 5 k).1, .int .i64 (aggV 5 k).2]] := by
  have e := res_placeOf (kk := kk) k p kind 5 (by omega)
  refine res_code (fn := fjoin_does_3) rfl rfl ?_
  simp (disch := first | assumption | omega | decide | (simp only [lens] <;> omega) | fail) only [go_sem, fjoin_does_3, e]
theorem res_cl_max {kk : SK} (k : List Val) (p : Val) (kind : Int) (hk : k.length < 100000000) : res Γ 245 [placeP kk k p kind] = some [.agg [.bool (aggV 4 k).1, .int .i64 (aggV 4 k).2]] := by
  have e := res_placeOf (kk := kk) k p kind 4 (by omega)
  refine res_code (fn := fjoin_does_4) rfl rfl ?_
  simp (disch := first | assumption | omega | decide | (simp only [lens] <;> omega) | fail) only [go_sem, fjoin_does_4, e]
theorem res_cl_med {kk : SK} (k : List Val) (p : Val) (kind : Int) (hk : k.length < 100000000) : res Γ 246 [placeP kk k p kind] = some [.agg [.bool (medV k).1, .int .i64 (medV k).2]] := by
  have e := res_fwinMedian (kk := kk) k (by omega)
  refine res_code (fn := fjoin_does_5) rfl rfl ?_
  simp (disch := first | assumption | omega | decide | (simp only [lens] <;> omega) | fail) only [go_sem, fjoin_does_5, e]
theorem res_cl_dev {kk : SK} (k : List Val) (p : Val) (kind : Int) (hk : k.length < 100000000) : res Γ 247 [placeP kk k p kind] = some [.agg [.bool (devV k).1, .int .i64 (devV k).2]] := by
  have e := res_fwinDeviation (kk := kk) k (by omega)
  refine res_code (fn := fjoin_does_6) rfl rfl ?_
  simp (disch := first | assumption | omega | decide | (simp only [lens] <;> omega) | fail) only [go_sem, fjoin_does_6, e]
theorem res_cl_rng {kk : SK} (k : List Val) (p : Val) (kind : Int) (hk : k.length < 100000000) : res Γ 248 [placeP kk k p kind] = some [.agg [.bool (subV (aggV 4 k) (aggV 5 k)).1, .int .i64 (subV (aggV 4 k) (aggV 5 k)).2]] := by
  have e1 := res_placeOf (kk := kk) k p kind 4 (by omega)
  have e2 := res_placeOf (kk := kk) k p kind 5 (by omega)
  have e3 := res_fixedSubV (aggV 4 k) (aggV 5 k)
  refine res_code (fn := fjoin_does_7) rfl rfl ?_
  simp (disch := first | assumption | omega | decide | (simp only [lens] <;> omega) | fail) only [go_sem, fjoin_does_7, e1, e2, e3]
theorem res_cl_mul {kk : SK} (k : List Val) (p : Val) (kind : Int) (hk : k.length < 100000000) : res Γ 249 [placeP kk k p kind] = some [.agg [.bool (timesL k).1, .int .i64 (timesL k).2]] := by
  exact res_placeProduct k p kind hk
theorem res_cl_cnt {kk : SK} (k : List Val) (p : Val) (kind : Int) (hk : k.length < 100000000) : res Γ 250 [placeP kk k p kind] = some [.agg [.bool (intV (k.length : Nat)).1, .int .i64 (intV (k.length : Nat)).2]] := by
  have e := res_fixedInt (n := (k.length : Nat)) (by omega)
  refine res_code (fn := fjoin_does_8) rfl rfl ?_
  simp (disch := first | assumption | omega | decide | (simp only [lens] <;> omega) | fail) only [go_sem, fjoin_does_8, e]
theorem res_cl_dif {kk : SK} (k : List Val) (p : Val) (kind : Int) (hk : k.length < 100000000) : res Γ 251 [placeP kk k p kind] = some [.agg [.bool (lessL k).1, .int .i64 (lessL k).2]] := by
  exact res_placeLess k p kind hk
theorem res_cl_per {kk : SK} (k : List Val) (p : Val) (kind : Int) (hk : k.length < 100000000) : res Γ 252 [placeP kk k p kind] = some [.agg [.bool (rankV p k).1, .int .i64 (rankV p k).2]] := by
  have e := res_fwinRank (kk := kk) p k (by omega)
  refine res_code (fn := fjoin_does_9) rfl rfl ?_
  simp (disch := first | assumption | omega | decide | (simp only [lens] <;> omega) | fail) only [go_sem, fjoin_does_9, e]
theorem res_cl_agg {kk : SK} (k : List Val) (p : Val) (kind : Int) (hk : k.length < 100000000) : res Γ 253 [placeP kk k p kind] = some [.agg [.bool (aggV kind k).1, .int .i64 (aggV kind k).2]] := by
  have e := res_placeOf (kk := kk) k p kind kind (by omega)
  refine res_code (fn := fjoin_does_10) rfl rfl ?_
  simp (disch := first | assumption | omega | decide | (simp only [lens] <;> omega) | fail) only [go_sem, fjoin_does_10, e]
theorem res_doesJ_sum : res Γ 230 [.str jSum] = some [.clo 242 []] := by
  refine res_code (fn := fjoin_does) rfl rfl ?_
  simp (disch := first | assumption | omega | decide | (simp only [lens] <;> omega) | fail) only [go_sem, fjoin_does, jSum]
theorem res_doesJ_avg : res Γ 230 [.str jAvg] = some [.clo 243 []] := by
  refine res_code (fn := fjoin_does) rfl rfl ?_
  simp (disch := first | assumption | omega | decide | (simp only [lens] <;> omega) | fail) only [go_sem, fjoin_does, jAvg]
theorem res_doesJ_min : res Γ 230 [.str jMin] = some [.clo 244 []] := by
  refine res_code (fn := fjoin_does) rfl rfl ?_
  simp (disch := first | assumption | omega | decide | (simp only [lens] <;> omega) | fail) only [go_sem, fjoin_does, jMin]
theorem res_doesJ_max : res Γ 230 [.str jMax] = some [.clo 245 []] := by
  refine res_code (fn := fjoin_does) rfl rfl ?_
  simp (disch := first | assumption | omega | decide | (simp only [lens] <;> omega) | fail) only [go_sem, fjoin_does, jMax]
theorem res_doesJ_med : res Γ 230 [.str jMed] = some [.clo 246 []] := by
  refine res_code (fn := fjoin_does) rfl rfl ?_
  simp (disch := first | assumption | omega | decide | (simp only [lens] <;> omega) | fail) only [go_sem, fjoin_does, jMed]
theorem res_doesJ_dev : res Γ 230 [.str jDev] = some [.clo 247 []] := by
  refine res_code (fn := fjoin_does) rfl rfl ?_
  simp (disch := first | assumption | omega | decide | (simp only [lens] <;> omega) | fail) only [go_sem, fjoin_does, jDev]
theorem res_doesJ_rng : res Γ 230 [.str jRng] = some [.clo 248 []] := by
  refine res_code (fn := fjoin_does) rfl rfl ?_
  simp (disch := first | assumption | omega | decide | (simp only [lens] <;> omega) | fail) only [go_sem, fjoin_does, jRng]
theorem res_doesJ_mul : res Γ 230 [.str jMul] = some [.clo 249 []] := by
  refine res_code (fn := fjoin_does) rfl rfl ?_
  simp (disch := first | assumption | omega | decide | (simp only [lens] <;> omega) | fail) only [go_sem, fjoin_does, jMul]
theorem res_doesJ_cnt : res Γ 230 [.str jCnt] = some [.clo 250 []] := by
  refine res_code (fn := fjoin_does) rfl rfl ?_
  simp (disch := first | assumption | omega | decide | (simp only [lens] <;> omega) | fail) only [go_sem, fjoin_does, jCnt]
theorem res_doesJ_dif : res Γ 230 [.str jDif] = some [.clo 251 []] := by
  refine res_code (fn := fjoin_does) rfl rfl ?_
  simp (disch := first | assumption | omega | decide | (simp only [lens] <;> omega) | fail) only [go_sem, fjoin_does, jDif]
theorem res_doesJ_per : res Γ 230 [.str jPer] = some [.clo 252 []] := by
  refine res_code (fn := fjoin_does) rfl rfl ?_
  simp (disch := first | assumption | omega | decide | (simp only [lens] <;> omega) | fail) only [go_sem, fjoin_does, jPer]
theorem res_doesJ_agg : res Γ 230 [.str jAgg] = some [.clo 253 []] := by
  refine res_code (fn := fjoin_does) rfl rfl ?_
  simp (disch := first | assumption | omega | decide | (simp only [lens] <;> omega) | fail) only [go_sem, fjoin_does, jAgg]
theorem res_doesJ {nm : List UInt8} (h : nm ∈ jAll) : ∃ f, res Γ 230 [.str nm] = some [.clo f []] ∧ ∀ (kk : SK) (k : List Val) (p : Val) (kind : Int), k.length < 100000000 → res Γ f [placeP kk k p kind] = some [.agg [.bool (placeV nm p kind k).1, .int .i64 (placeV nm p kind k).2]] := by
  simp only [jAll, List.mem_cons, List.not_mem_nil, or_false] at h
  rcases h with rfl | rfl | rfl | rfl | rfl | rfl | rfl | rfl | rfl | rfl | rfl | rfl
  · exact ⟨242, res_doesJ_sum, fun kk k p kind hk => res_cl_sum k p kind hk⟩
  · exact ⟨243, res_doesJ_avg, fun kk k p kind hk => res_cl_avg k p kind hk⟩
  · exact ⟨244, res_doesJ_min, fun kk k p kind hk => res_cl_min k p kind hk⟩
  · exact ⟨245, res_doesJ_max, fun kk k p kind hk => res_cl_max k p kind hk⟩
  · exact ⟨246, res_doesJ_med, fun kk k p kind hk => res_cl_med k p kind hk⟩
  · exact ⟨247, res_doesJ_dev, fun kk k p kind hk => res_cl_dev k p kind hk⟩
  · exact ⟨248, res_doesJ_rng, fun kk k p kind hk => res_cl_rng k p kind hk⟩
  · exact ⟨249, res_doesJ_mul, fun kk k p kind hk => res_cl_mul k p kind hk⟩
  · exact ⟨250, res_doesJ_cnt, fun kk k p kind hk => res_cl_cnt k p kind hk⟩
  · exact ⟨251, res_doesJ_dif, fun kk k p kind hk => res_cl_dif k p kind hk⟩
  · exact ⟨252, res_doesJ_per, fun kk k p kind hk => res_cl_per k p kind hk⟩
  · exact ⟨253, res_doesJ_agg, fun kk k p kind hk => res_cl_agg k p kind hk⟩
theorem res_doesJ_no {nm : List UInt8} (h : nm ∉ jAll) : res Γ 230 [.str nm] = some [.nilfn] := by
  simp only [jAll, jSum, jAvg, jMin, jMax, jMed, jDev, jRng, jMul, jCnt, jDif, jPer, jAgg, List.mem_cons, List.not_mem_nil, or_false, not_or] at h
  obtain ⟨h1, h2, h3, h4, h5, h6, h7, h8, h9, h10, h11, h12⟩ := h
  refine res_code (fn := fjoin_does) rfl rfl ?_
  simp (disch := first | assumption | omega | decide | (simp only [lens] <;> omega) | fail) only [go_sem, fjoin_does]
theorem res_one_sum {kk : SK} (l : List Val) (p : Val) (kind : Int) (hl : l.length < 100000000) : res Γ 236 [.str jSum, .agg [.bool p.1, .int .i64 p.2], .int .i64 kind, .sl kk 2 (vpv l)] = some [.agg [.bool (aggV 2 (knL l)).1, .int .i64 (aggV 2 (knL l)).2], .bool true] := by
  have hkl := knL_len l
  have hk2 : (knL l).length < 1000000000 := by omega
  have hk3 : (knL l).length < 100000000 := by omega
  have ek := res_r6Known (kk := kk) l (by omega)
  have e := res_r6OfK (kk := .any) 2 (knL l) hk2
  refine res_code (fn := r22_one) rfl rfl ?_
  simp (disch := first | assumption | omega | decide | (simp only [lens] <;> omega) | fail) only [go_sem, r22_one, jSum, ek, e]
theorem res_one_avg {kk : SK} (l : List Val) (p : Val) (kind : Int) (hl : l.length < 100000000) : res Γ 236 [.str jAvg, .agg [.bool p.1, .int .i64 p.2], .int .i64 kind, .sl kk 2 (vpv l)] = some [.agg [.bool (aggV 1 (knL l)).1, .int .i64 (aggV 1 (knL l)).2], .bool true] := by
  have hkl := knL_len l
  have hk2 : (knL l).length < 1000000000 := by omega
  have hk3 : (knL l).length < 100000000 := by omega
  have ek := res_r6Known (kk := kk) l (by omega)
  have e := res_r6OfK (kk := .any) 1 (knL l) hk2
  refine res_code (fn := r22_one) rfl rfl ?_
  simp (disch := first | assumption | omega | decide | (simp only [lens] <;> omega) | fail) only [go_sem, r22_one, jAvg, ek, e]
theorem res_one_min {kk : SK} (l : List Val) (p : Val) (kind : Int) (hl : l.length < 100000000) : res Γ 236 [.str jMin, .agg [.bool p.1, .int .i64 p.2], .int .i64 kind, .sl kk 2 (vpv l)] = some [.agg [.bool (aggV 5 (knL l)).1, .int .i64 (aggV 5 (knL l)).2], .bool true] := by
  have hkl := knL_len l
  have hk2 : (knL l).length < 1000000000 := by omega
  have hk3 : (knL l).length < 100000000 := by omega
  have ek := res_r6Known (kk := kk) l (by omega)
  have e := res_r6OfK (kk := .any) 5 (knL l) hk2
  refine res_code (fn := r22_one) rfl rfl ?_
  simp (disch := first | assumption | omega | decide | (simp only [lens] <;> omega) | fail) only [go_sem, r22_one, jMin, ek, e]
theorem res_one_max {kk : SK} (l : List Val) (p : Val) (kind : Int) (hl : l.length < 100000000) : res Γ 236 [.str jMax, .agg [.bool p.1, .int .i64 p.2], .int .i64 kind, .sl kk 2 (vpv l)] = some [.agg [.bool (aggV 4 (knL l)).1, .int .i64 (aggV 4 (knL l)).2], .bool true] := by
  have hkl := knL_len l
  have hk2 : (knL l).length < 1000000000 := by omega
  have hk3 : (knL l).length < 100000000 := by omega
  have ek := res_r6Known (kk := kk) l (by omega)
  have e := res_r6OfK (kk := .any) 4 (knL l) hk2
  refine res_code (fn := r22_one) rfl rfl ?_
  simp (disch := first | assumption | omega | decide | (simp only [lens] <;> omega) | fail) only [go_sem, r22_one, jMax, ek, e]
theorem res_one_med {kk : SK} (l : List Val) (p : Val) (kind : Int) (hl : l.length < 100000000) : res Γ 236 [.str jMed, .agg [.bool p.1, .int .i64 p.2], .int .i64 kind, .sl kk 2 (vpv l)] = some [.agg [.bool (medV (knL l)).1, .int .i64 (medV (knL l)).2], .bool true] := by
  have hkl := knL_len l
  have hk2 : (knL l).length < 1000000000 := by omega
  have hk3 : (knL l).length < 100000000 := by omega
  have ek := res_r6Known (kk := kk) l (by omega)
  have e := res_r21Median (kk := .any) (knL l) hk2
  refine res_code (fn := r22_one) rfl rfl ?_
  simp (disch := first | assumption | omega | decide | (simp only [lens] <;> omega) | fail) only [go_sem, r22_one, jMed, ek, e]
theorem res_one_dev {kk : SK} (l : List Val) (p : Val) (kind : Int) (hl : l.length < 100000000) : res Γ 236 [.str jDev, .agg [.bool p.1, .int .i64 p.2], .int .i64 kind, .sl kk 2 (vpv l)] = some [.agg [.bool (devV (knL l)).1, .int .i64 (devV (knL l)).2], .bool true] := by
  have hkl := knL_len l
  have hk2 : (knL l).length < 1000000000 := by omega
  have hk3 : (knL l).length < 100000000 := by omega
  have ek := res_r6Known (kk := kk) l (by omega)
  have e := res_r21Deviation (kk := .any) (knL l) hk2
  refine res_code (fn := r22_one) rfl rfl ?_
  simp (disch := first | assumption | omega | decide | (simp only [lens] <;> omega) | fail) only [go_sem, r22_one, jDev, ek, e]
theorem res_one_rng {kk : SK} (l : List Val) (p : Val) (kind : Int) (hl : l.length < 100000000) : res Γ 236 [.str jRng, .agg [.bool p.1, .int .i64 p.2], .int .i64 kind, .sl kk 2 (vpv l)] = some [.agg [.bool (subV (aggV 4 (knL l)) (aggV 5 (knL l))).1, .int .i64 (subV (aggV 4 (knL l)) (aggV 5 (knL l))).2], .bool true] := by
  have hkl := knL_len l
  have hk2 : (knL l).length < 1000000000 := by omega
  have hk3 : (knL l).length < 100000000 := by omega
  have ek := res_r6Known (kk := kk) l (by omega)
  have e1 := res_r6OfK (kk := .any) 4 (knL l) hk2
  have e2 := res_r6OfK (kk := .any) 5 (knL l) hk2
  have e3 := res_r1SubV (aggV 4 (knL l)) (aggV 5 (knL l))
  refine res_code (fn := r22_one) rfl rfl ?_
  simp (disch := first | assumption | omega | decide | (simp only [lens] <;> omega) | fail) only [go_sem, r22_one, jRng, ek, e1, e2, e3]
theorem res_one_mul {kk : SK} (l : List Val) (p : Val) (kind : Int) (hl : l.length < 100000000) : res Γ 236 [.str jMul, .agg [.bool p.1, .int .i64 p.2], .int .i64 kind, .sl kk 2 (vpv l)] = some [.agg [.bool (timesL (knL l)).1, .int .i64 (timesL (knL l)).2], .bool true] := by
  have hkl := knL_len l
  have hk2 : (knL l).length < 1000000000 := by omega
  have hk3 : (knL l).length < 100000000 := by omega
  have ek := res_r6Known (kk := kk) l (by omega)
  have e := res_r22times (kk := .any) (knL l) hk3
  refine res_code (fn := r22_one) rfl rfl ?_
  simp (disch := first | assumption | omega | decide | (simp only [lens] <;> omega) | fail) only [go_sem, r22_one, jMul, ek, e]
theorem res_one_cnt {kk : SK} (l : List Val) (p : Val) (kind : Int) (hl : l.length < 100000000) : res Γ 236 [.str jCnt, .agg [.bool p.1, .int .i64 p.2], .int .i64 kind, .sl kk 2 (vpv l)] = some [.agg [.bool (intV ((knL l).length : Nat)).1, .int .i64 (intV ((knL l).length : Nat)).2], .bool true] := by
  have hkl := knL_len l
  have hk2 : (knL l).length < 1000000000 := by omega
  have hk3 : (knL l).length < 100000000 := by omega
  have ek := res_r6Known (kk := kk) l (by omega)
  have e := res_r1Int (n := ((knL l).length : Nat)) (by omega)
  refine res_code (fn := r22_one) rfl rfl ?_
  simp (disch := first | assumption | omega | decide | (simp only [lens] <;> omega) | fail) only [go_sem, r22_one, jCnt, ek, e]
theorem res_one_dif {kk : SK} (l : List Val) (p : Val) (kind : Int) (hl : l.length < 100000000) : res Γ 236 [.str jDif, .agg [.bool p.1, .int .i64 p.2], .int .i64 kind, .sl kk 2 (vpv l)] = some [.agg [.bool (lessL (knL l)).1, .int .i64 (lessL (knL l)).2], .bool true] := by
  have hkl := knL_len l
  have hk2 : (knL l).length < 1000000000 := by omega
  have hk3 : (knL l).length < 100000000 := by omega
  have ek := res_r6Known (kk := kk) l (by omega)
  have e := res_r22less (kk := .any) (knL l) hk3
  refine res_code (fn := r22_one) rfl rfl ?_
  simp (disch := first | assumption | omega | decide | (simp only [lens] <;> omega) | fail) only [go_sem, r22_one, jDif, ek, e]
theorem res_one_per {kk : SK} (l : List Val) (p : Val) (kind : Int) (hl : l.length < 100000000) : res Γ 236 [.str jPer, .agg [.bool p.1, .int .i64 p.2], .int .i64 kind, .sl kk 2 (vpv l)] = some [.agg [.bool (rankV p (knL l)).1, .int .i64 (rankV p (knL l)).2], .bool true] := by
  have hkl := knL_len l
  have hk2 : (knL l).length < 1000000000 := by omega
  have hk3 : (knL l).length < 100000000 := by omega
  have ek := res_r6Known (kk := kk) l (by omega)
  have e := res_r21Rank (kk := .any) p (knL l) hk2
  refine res_code (fn := r22_one) rfl rfl ?_
  simp (disch := first | assumption | omega | decide | (simp only [lens] <;> omega) | fail) only [go_sem, r22_one, jPer, ek, e]
theorem res_one_agg {kk : SK} (l : List Val) (p : Val) (kind : Int) (hl : l.length < 100000000) : res Γ 236 [.str jAgg, .agg [.bool p.1, .int .i64 p.2], .int .i64 kind, .sl kk 2 (vpv l)] = some [.agg [.bool (aggV kind (knL l)).1, .int .i64 (aggV kind (knL l)).2], .bool true] := by
  have hkl := knL_len l
  have hk2 : (knL l).length < 1000000000 := by omega
  have hk3 : (knL l).length < 100000000 := by omega
  have ek := res_r6Known (kk := kk) l (by omega)
  have e := res_r6OfK (kk := .any) kind (knL l) hk2
  refine res_code (fn := r22_one) rfl rfl ?_
  simp (disch := first | assumption | omega | decide | (simp only [lens] <;> omega) | fail) only [go_sem, r22_one, jAgg, ek, e]
theorem res_oneJ {kk : SK} {nm : List UInt8} (h : nm ∈ jAll) (l : List Val) (p : Val) (kind : Int) (hl : l.length < 100000000) : res Γ 236 [.str nm, .agg [.bool p.1, .int .i64 p.2], .int .i64 kind, .sl kk 2 (vpv l)] = some [.agg [.bool (placeV nm p kind (knL l)).1, .int .i64 (placeV nm p kind (knL l)).2], .bool true] := by
  simp only [jAll, List.mem_cons, List.not_mem_nil, or_false] at h
  rcases h with rfl | rfl | rfl | rfl | rfl | rfl | rfl | rfl | rfl | rfl | rfl | rfl
  · exact res_one_sum l p kind hl
  · exact res_one_avg l p kind hl
  · exact res_one_min l p kind hl
  · exact res_one_max l p kind hl
  · exact res_one_med l p kind hl
  · exact res_one_dev l p kind hl
  · exact res_one_rng l p kind hl
  · exact res_one_mul l p kind hl
  · exact res_one_cnt l p kind hl
  · exact res_one_dif l p kind hl
  · exact res_one_per l p kind hl
  · exact res_one_agg l p kind hl
theorem res_oneJ_no {kk : SK} {nm : List UInt8} (h : nm ∉ jAll) (l : List Val) (p : Val) (kind : Int) (hl : l.length < 100000000) : res Γ 236 [.str nm, .agg [.bool p.1, .int .i64 p.2], .int .i64 kind, .sl kk 2 (vpv l)] = some [.agg [.bool false, .int .i64 0], .bool false] := by
  have ek := res_r6Known (kk := kk) l (by omega)
  simp only [jAll, jSum, jAvg, jMin, jMax, jMed, jDev, jRng, jMul, jCnt, jDif, jPer, jAgg, List.mem_cons, List.not_mem_nil, or_false, not_or] at h
  obtain ⟨h1, h2, h3, h4, h5, h6, h7, h8, h9, h10, h11, h12⟩ := h
  refine res_code (fn := r22_one) rfl rfl ?_
  simp (disch := first | assumption | omega | decide | (simp only [lens] <;> omega) | fail) only [go_sem, r22_one, ek]
end Ab
namespace Ab
open Go (IntKind BinOp UnOp)
theorem mulb {i : Nat} {step : Int} (h : i ≤ 131072) (h1 : 0 ≤ step) (h2 : step ≤ 1099511627776) : 0 ≤ (i : Int) * step ∧ (i : Int) * step ≤ 144115188075855872 := by
  refine ⟨Int.mul_nonneg (by omega) h1, ?_⟩
  calc (i : Int) * step ≤ 131072 * 1099511627776 := Int.mul_le_mul (by omega) h2 h1 (by omega)
    _ = 144115188075855872 := by decide
theorem res_within1 {kk : SK} (s : Ser) (hz : sizeS s) (t : Int) (ht : -1000000000000000000 ≤ t ∧ t ≤ 1000000000000000000) :
    res Γ 170 [.int .i64 t, .ptr [.str s.name, .int .i64 s.start, .int .i64 s.step, .sl kk 2 (vpv s.vals), .int .i64 s.cons]] = some [.int .i64 (plcS s t : Nat)] := by
  obtain ⟨_, _, _, _, _, _, _, _⟩ := hz
  refine res_code (fn := series_within_1) rfl rfl ?_
  by_cases h : t ≤ s.start
  · have e : plcS s t = 0 := by unfold plcS; rw [if_pos h]
    simp (disch := first | assumption | omega | decide | (simp only [lens] <;> omega) | fail) only [go_sem, series_within_1, e]
    rfl
  · have h0 : 0 ≤ (t - s.start - 1) / s.step := Int.ediv_nonneg (by omega) (by omega)
    have h1 : (t - s.start - 1) / s.step ≤ t - s.start - 1 := Int.ediv_le_self _ (by omega)
    have m0 := map_quo (k := .i64) (a := t - s.start - 1) (b := s.step) (by omega) (by omega) (wrap_i64 (by omega) (by omega))
    have e : ((plcS s t : Nat) : Int) = min (s.vals.length : Int) ((t - s.start - 1) / s.step + 1) := by unfold plcS; rw [if_neg h]; omega
    simp (disch := first | assumption | omega | decide | (simp only [lens] <;> omega) | fail) only [go_sem, series_within_1, m0, e]
theorem res_within {kk : SK} (s : Ser) (hz : sizeS s) (t u : Int) (ht : -1000000000000000000 ≤ t ∧ t ≤ u ∧ u ≤ 1000000000000000000) :
    res Γ 166 [s.pv kk, .int .i64 t, .int .i64 u] = some [.sl kk.cut 2 (vpv (withinV s t u))] := by
  have e1 := res_within1 (kk := kk) s hz t (by omega)
  have e2 := res_within1 (kk := kk) s hz u (by omega)
  have g := plcS_mono (s := s) (by have := hz; unfold sizeS at this; omega) (show t ≤ u by omega)
  have g2 := plcS_le s u
  have hw : (vpv s.vals).length = s.vals.length := vpv_len
  unfold Ser.pv
  refine res_code (fn := series_within) rfl rfl ?_
  simp (disch := first | assumption | omega | decide | (simp only [lens] <;> omega) | fail) only [go_sem, series_within, e1, e2, withinV]
theorem res_seriesCons {kk : SK} (s : Ser) (hs : isS s = true) (hl : s.vals.length ≤ 9223372036854775807) : res Γ 165 [s.pv kk] = some [.int .i64 (consV s)] := by
  have e := res_seriesIs (kk := kk) s hl
  unfold Ser.pv at e ⊢
  refine res_code (fn := series_Cons) rfl rfl ?_
  by_cases h : s.cons = 0
  · simp (disch := first | assumption | omega | decide | (simp only [lens] <;> omega) | fail) only [go_sem, series_Cons, consV]
    rw [if_pos h]
  · simp (disch := first | assumption | omega | decide | (simp only [lens] <;> omega) | fail) only [go_sem, series_Cons, e, hs, consV]
    rw [if_neg h]
theorem res_r18Cons {kk : SK} (s : Ser) (hs : isS s = true) (hl : s.vals.length ≤ 9223372036854775807) : res Γ 169 [s.pv kk] = some [.int .i64 (consV s)] := by
  have e := res_r18Is (kk := kk) s hl
  unfold Ser.pv at e ⊢
  refine res_code (fn := r18_Cons) rfl rfl ?_
  by_cases h : s.cons = 0
  · simp (disch := first | assumption | omega | decide | (simp only [lens] <;> omega) | fail) only [go_sem, r18_Cons, consV]
    rw [if_pos h]
  · simp (disch := first | assumption | omega | decide | (simp only [lens] <;> omega) | fail) only [go_sem, r18_Cons, e, hs, consV]
    rw [if_neg h]
theorem isS_size {s : Ser} (h : isS s = true) : sizeS s := by
  unfold isS at h
  simp only [Bool.and_eq_true, decide_eq_true_eq] at h
  exact h.1
theorem withinV_len {s : Ser} {t u : Int} (h : s.vals.length ≤ 131072) : (withinV s t u).length ≤ 131072 := by
  unfold withinV
  rw [List.length_drop, List.length_take]; omega
theorem sFit_l1_ok {kk : SK} (s : Ser) (hs : isS s = true) (start step : Int) (h0 : 0 ≤ start) (h1 : start ≤ 4294967295) (g0 : 1 ≤ step) (g1 : step ≤ 1099511627776) (n : Nat) (hn : n ≤ 131072) (B1 : Blk) (Q : Out → Prop) : ∀ (k i : Nat), i + 1 + k = n →
    (Q (.nrm, [(8, .bx 1 0), (9, .bx 2 0)], [.box [.p (.str s.name), .p (.int .i64 s.start), .p (.int .i64 s.step), .p (.sl kk 2 (vpv s.vals)), .p (.int .i64 s.cons)], B1, .box [.p (.str s.name), .p (.int .i64 start), .p (.int .i64 step), .own 3 n, .p (.int .i64 s.cons)], .row false 2 (vpv (fitV s start step n))])) →
    Wp Γ series_Fit_l1 [(1, .p (.int .i64 start)), (2, .p (.int .i64 step)), (4, .bx 0 0), (8, .bx 1 0), (9, .bx 2 0), (48, .p (.int .i64 (n : Int))), (49, .p (.int .i64 ((i + 1 : Nat) : Int)))]
      [.box [.p (.str s.name), .p (.int .i64 s.start), .p (.int .i64 s.step), .p (.sl kk 2 (vpv s.vals)), .p (.int .i64 s.cons)], B1, .box [.p (.str s.name), .p (.int .i64 start), .p (.int .i64 step), .own 3 (i + 1), .p (.int .i64 s.cons)], .row false 2 (vpv (fitV s start step (i + 1)))] (InBlk [8, 9] 0 Q) := by
  have hz := isS_size hs
  have hv : s.vals.length ≤ 131072 := by unfold sizeS at hz; omega
  intro k
  induction k with
  | zero =>
    intro i hi hQ
    have hi : i + 1 = n := by omega
    rw [hi]
    rw [W_loop (L := series_Fit_l1) rfl]
    simp (disch := first | assumption | omega | decide | (simp only [lens] <;> omega) | fail) only [go_sem]
    exact hQ
  | succ k ih =>
    intro i hi hQ
    have g := @fitV_len s start step (i + 1)
    have e := @fitV_succ s start step (i + 1)
    obtain ⟨b0, b1⟩ := mulb (i := i + 1) (step := step) (by omega) (by omega) g1
    have a := res_within (kk := kk) s hz (start + ((i + 1 : Nat) : Int) * step) (start + ((i + 1 : Nat) : Int) * step + step) (by omega)
    have hw := withinV_len (s := s) (t := start + ((i + 1 : Nat) : Int) * step) (u := start + ((i + 1 : Nat) : Int) * step + step) hv
    have c := res_aggOfK (kk := kk.cut) (consV s) (withinV s (start + ((i + 1 : Nat) : Int) * step) (start + ((i + 1 : Nat) : Int) * step + step)) (by omega)
    have d := res_seriesCons (kk := kk) s hs (by omega)
    unfold Ser.pv at a d
    rw [W_loop (L := series_Fit_l1) rfl]
    simp (disch := first | assumption | omega | decide | (simp only [lens] <;> omega) | fail) only [go_sem, a, c, d]
    rw [← e]
    exact ih (i + 1) (by omega) hQ
theorem sFit_l1_first {kk : SK} (s : Ser) (hs : isS s = true) (start step : Int) (h0 : 0 ≤ start) (h1 : start ≤ 4294967295) (g0 : 1 ≤ step) (g1 : step ≤ 1099511627776) (n : Nat) (hn : n ≤ 131072) (hpos : 0 < n) (B1 : Blk) (Q : Out → Prop) :
    (Q (.nrm, [(8, .bx 1 0), (9, .bx 2 0)], [.box [.p (.str s.name), .p (.int .i64 s.start), .p (.int .i64 s.step), .p (.sl kk 2 (vpv s.vals)), .p (.int .i64 s.cons)], B1, .box [.p (.str s.name), .p (.int .i64 start), .p (.int .i64 step), .own 3 n, .p (.int .i64 s.cons)], .row false 2 (vpv (fitV s start step n))])) →
    Wp Γ series_Fit_l1 [(1, .p (.int .i64 start)), (2, .p (.int .i64 step)), (4, .bx 0 0), (8, .bx 1 0), (9, .bx 2 0), (48, .p (.int .i64 (n : Int))), (49, .p (.int .i64 0))]
      [.box [.p (.str s.name), .p (.int .i64 s.start), .p (.int .i64 s.step), .p (.sl kk 2 (vpv s.vals)), .p (.int .i64 s.cons)], B1, .box [.p (.str s.name), .p (.int .i64 start), .p (.int .i64 step), .p (.sl .nil 2 []), .p (.int .i64 s.cons)]] (InBlk [8, 9] 0 Q) := by
  have hz := isS_size hs
  have hv : s.vals.length ≤ 131072 := by unfold sizeS at hz; omega
  intro hQ
  have e := @fitV_succ s start step 0
  rw [show ((0 : Nat) : Int) = 0 from rfl, Int.zero_mul, Int.add_zero] at e
  have a := res_within (kk := kk) s hz start (start + step) (by omega)
  have hw := withinV_len (s := s) (t := start) (u := start + step) hv
  have c := res_aggOfK (kk := kk.cut) (consV s) (withinV s start (start + step)) (by omega)
  have d := res_seriesCons (kk := kk) s hs (by omega)
  unfold Ser.pv at a d
  rw [W_loop (L := series_Fit_l1) rfl]
  simp (disch := first | assumption | omega | decide | (simp only [lens] <;> omega) | fail) only [go_sem, a, c, d, Int.zero_mul]
  have h := sFit_l1_ok (kk := kk) s hs start step h0 h1 g0 g1 n hn B1 Q (n - 1) 0 (by omega) hQ
  rw [e] at h
  exact h
def fitK (n : Nat) : SK := if n = 0 then .nil else .any
theorem res_seriesFit {kk : SK} (s : Ser) (hs : isS s = true) (start step : Int) (h0 : 0 ≤ start) (h1 : start ≤ 4294967295) (g0 : 1 ≤ step) (g1 : step ≤ 1099511627776) (n : Nat) (hn : n ≤ 131072) :
    res Γ 158 [s.pv kk, .int .i64 start, .int .i64 step, .int .i64 (n : Int)] = some [(fitS s start step n).pv (fitK n)] := by
  have hz := isS_size hs
  have hv : s.vals.length ≤ 131072 := by unfold sizeS at hz; omega
  have e := res_seriesIs (kk := kk) s (by omega)
  unfold Ser.pv at e ⊢
  refine res_code (fn := series_Fit) rfl rfl ?_
  simp (disch := first | assumption | omega | decide | (simp only [lens] <;> omega) | fail) only [go_sem, series_Fit, e, hs]
  by_cases hne : n = 0
  · subst hne
    rw [W_loop (L := series_Fit_l1) rfl]
    simp (disch := first | assumption | omega | decide | (simp only [lens] <;> omega) | fail) only [go_sem, fitS, fitK]
    rfl
  · refine sFit_l1_first s hs start step h0 h1 g0 g1 n hn (by omega) _ _ ?_
    have hw : (vpv (fitV s start step n)).length = n := by rw [vpv_len, fitV_len]
    simp (disch := first | assumption | omega | decide | (simp only [lens] <;> omega) | fail) only [go_sem, fitS, fitK]
    rw [if_neg hne]
end Ab
namespace Ab
open Go (IntKind BinOp UnOp)
def colV (s : Ser) (f : Int) (j : Nat) : List Val := (s.vals.take j).drop (plcS s f)
theorem colV_lo {s : Ser} {f : Int} {j : Nat} (h : j ≤ plcS s f) : colV s f j = [] := by
  unfold colV
  exact List.drop_eq_nil_of_le (by rw [List.length_take]; omega)
theorem colV_hi {s : Ser} {f : Int} {j : Nat} (h : ¬ j < plcS s f) (hj : j < s.vals.length) : colV s f (j + 1) = colV s f j ++ [s.vals.getD j (false, 0)] := by
  unfold colV
  rw [take_snoc' (false, 0) hj, List.drop_append_of_le_length (by rw [List.length_take]; omega)]
theorem colV_len {s : Ser} {f : Int} {j : Nat} (h : s.vals.length ≤ 131072) : (colV s f j).length ≤ 131072 := by
  unfold colV
  rw [List.length_drop, List.length_take]; omega

theorem rFit_l1A {kk : SK} (s : Ser) (hz : sizeS s) (start step n : Int) (h0 : 0 ≤ start) (h1 : start ≤ 4294967295) (g0 : 1 ≤ step) (g1 : step ≤ 1099511627776) (k : Nat) (hk : k ≤ 131072) (B1 B2 : Blk) (Q : Out → Prop) : ∀ (d j : Nat), j + d = plcS s (start + k * step + step) →
    (Q (.nrm, [(1, .p (.int .i64 start)), (2, .p (.int .i64 step)), (3, .p (.int .i64 n)), (4, .bx 0 0), (8, .bx 1 0), (9, .bx 2 0), (10, .p (.int .i64 ((plcS s (start + k * step + step) : Nat)))), (11, .p (.int .i64 (k : Int))), (12, .own 3 (withinV s (start + k * step) (start + k * step + step)).length)], [.box [.p (.str s.name), .p (.int .i64 s.start), .p (.int .i64 s.step), .p (.sl kk 2 (vpv s.vals)), .p (.int .i64 s.cons)], B1, B2, .row false 2 (vpv (withinV s (start + k * step) (start + k * step + step)))])) →
    Wp Γ r18_Fit_l1 [(1, .p (.int .i64 start)), (2, .p (.int .i64 step)), (3, .p (.int .i64 n)), (4, .bx 0 0), (8, .bx 1 0), (9, .bx 2 0), (10, .p (.int .i64 ((j : Nat)))), (11, .p (.int .i64 (k : Int))), (12, .own 3 (colV s (start + k * step) j).length)] [.box [.p (.str s.name), .p (.int .i64 s.start), .p (.int .i64 s.step), .p (.sl kk 2 (vpv s.vals)), .p (.int .i64 s.cons)], B1, B2, .row false 2 (vpv (colV s (start + k * step) j))] (InBlk [1, 2, 3, 4, 8, 9, 10, 11, 12] 2 Q) := by
  have hs1 : 1 ≤ s.step := by unfold sizeS at hz; omega
  have hs2 : s.step ≤ 1099511627776 := by unfold sizeS at hz; omega
  have hv : s.vals.length ≤ 131072 := by unfold sizeS at hz; omega
  have hst : 0 ≤ s.start ∧ s.start ≤ 4294967295 := by unfold sizeS at hz; omega
  have em : ((k : Int) + 1) * step = (k : Int) * step + step := by rw [Int.add_mul, Int.one_mul]
  obtain ⟨b0, b1⟩ := mulb (i := k) (step := step) hk (by omega) g1
  have hp := plcS_le s (start + k * step + step)
  intro d
  induction d with
  | zero =>
    intro j hj hQ
    have hj : j = plcS s (start + k * step + step) := by omega
    have e : colV s (start + k * step) j = withinV s (start + k * step) (start + k * step + step) := by rw [hj]; rfl
    have hi := plcS_iff (s := s) (t := start + k * step + step) (i := j) hs1
    rw [← hj, ← e] at hQ
    rw [← hj] at hi
    clear hj
    rw [W_loop (L := r18_Fit_l1) rfl]
    by_cases h : j < s.vals.length
    · have hi := hi h
      obtain ⟨c0, c1⟩ := mulb (i := j) (step := s.step) (by omega) (by omega) hs2
      have hn : ¬ s.start + (j : Int) * s.step < start + ((k : Int) * step + step) := by omega
      simp (disch := first | assumption | omega | decide | (simp only [lens] <;> omega) | fail) only [go_sem, em]
      exact hQ
    · simp (disch := first | assumption | omega | decide | (simp only [lens] <;> omega) | fail) only [go_sem, em]
      exact hQ
  | succ d ih =>
    intro j hj hQ
    have hlt : j < plcS s (start + k * step + step) := by omega
    have h : j < s.vals.length := by omega
    have hi := (plcS_iff (s := s) (t := start + k * step + step) (i := j) hs1 h).1 hlt
    have hf := plcS_iff (s := s) (t := start + k * step) (i := j) hs1 h
    obtain ⟨c0, c1⟩ := mulb (i := j) (step := s.step) (by omega) (by omega) hs2
    have hn : s.start + (j : Int) * s.step < start + ((k : Int) * step + step) := by omega
    have hc := @colV_len s (start + k * step) j hv
    have hw : (vpv (colV s (start + k * step) j)).length = (colV s (start + k * step) j).length := vpv_len
    have ih := ih (j + 1) (by omega) hQ
    rw [W_loop (L := r18_Fit_l1) rfl]
    by_cases hb : j < plcS s (start + k * step)
    · have e1 := colV_lo (s := s) (f := start + k * step) (j := j) (by omega)
      have e2 := colV_lo (s := s) (f := start + k * step) (j := j + 1) (by omega)
      have hg : ¬ start + (k : Int) * step ≤ s.start + (j : Int) * s.step := by omega
      rw [e2, ← e1] at ih
      simp (disch := first | assumption | omega | decide | (simp only [lens] <;> omega) | fail) only [go_sem, em]
      exact ih
    · have e1 := colV_hi hb h
      have hg : start + (k : Int) * step ≤ s.start + (j : Int) * s.step := by omega
      rw [e1, List.length_append] at ih
      simp (disch := first | assumption | omega | decide | (simp only [lens] <;> omega) | fail) only [go_sem, em, valP]
      exact ih

theorem rFit_l1B {kk : SK} (s : Ser) (hz : sizeS s) (start step n : Int) (h0 : 0 ≤ start) (h1 : start ≤ 4294967295) (g0 : 1 ≤ step) (g1 : step ≤ 1099511627776) (k : Nat) (hk : k ≤ 131072) (B1 B2 B3 : Blk) (Q : Out → Prop) : ∀ (d j : Nat), j + d = plcS s (start + k * step + step) →
    (Q (.nrm, [(1, .p (.int .i64 start)), (2, .p (.int .i64 step)), (3, .p (.int .i64 n)), (4, .bx 0 0), (8, .bx 1 0), (9, .bx 2 0), (10, .p (.int .i64 ((plcS s (start + k * step + step) : Nat)))), (11, .p (.int .i64 (k : Int))), (12, .own 4 (withinV s (start + k * step) (start + k * step + step)).length)], [.box [.p (.str s.name), .p (.int .i64 s.start), .p (.int .i64 s.step), .p (.sl kk 2 (vpv s.vals)), .p (.int .i64 s.cons)], B1, B2, B3, .row false 2 (vpv (withinV s (start + k * step) (start + k * step + step)))])) →
    Wp Γ r18_Fit_l1 [(1, .p (.int .i64 start)), (2, .p (.int .i64 step)), (3, .p (.int .i64 n)), (4, .bx 0 0), (8, .bx 1 0), (9, .bx 2 0), (10, .p (.int .i64 ((j : Nat)))), (11, .p (.int .i64 (k : Int))), (12, .own 4 (colV s (start + k * step) j).length)] [.box [.p (.str s.name), .p (.int .i64 s.start), .p (.int .i64 s.step), .p (.sl kk 2 (vpv s.vals)), .p (.int .i64 s.cons)], B1, B2, B3, .row false 2 (vpv (colV s (start + k * step) j))] (InBlk [1, 2, 3, 4, 8, 9, 10, 11, 12] 2 Q) := by
  have hs1 : 1 ≤ s.step := by unfold sizeS at hz; omega
  have hs2 : s.step ≤ 1099511627776 := by unfold sizeS at hz; omega
  have hv : s.vals.length ≤ 131072 := by unfold sizeS at hz; omega
  have hst : 0 ≤ s.start ∧ s.start ≤ 4294967295 := by unfold sizeS at hz; omega
  have em : ((k : Int) + 1) * step = (k : Int) * step + step := by rw [Int.add_mul, Int.one_mul]
  obtain ⟨b0, b1⟩ := mulb (i := k) (step := step) hk (by omega) g1
  have hp := plcS_le s (start + k * step + step)
  intro d
  induction d with
  | zero =>
    intro j hj hQ
    have hj : j = plcS s (start + k * step + step) := by omega
    have e : colV s (start + k * step) j = withinV s (start + k * step) (start + k * step + step) := by rw [hj]; rfl
    have hi := plcS_iff (s := s) (t := start + k * step + step) (i := j) hs1
    rw [← hj, ← e] at hQ
    rw [← hj] at hi
    clear hj
    rw [W_loop (L := r18_Fit_l1) rfl]
    by_cases h : j < s.vals.length
    · have hi := hi h
      obtain ⟨c0, c1⟩ := mulb (i := j) (step := s.step) (by omega) (by omega) hs2
      have hn : ¬ s.start + (j : Int) * s.step < start + ((k : Int) * step + step) := by omega
      simp (disch := first | assumption | omega | decide | (simp only [lens] <;> omega) | fail) only [go_sem, em]
      exact hQ
    · simp (disch := first | assumption | omega | decide | (simp only [lens] <;> omega) | fail) only [go_sem, em]
      exact hQ
  | succ d ih =>
    intro j hj hQ
    have hlt : j < plcS s (start + k * step + step) := by omega
    have h : j < s.vals.length := by omega
    have hi := (plcS_iff (s := s) (t := start + k * step + step) (i := j) hs1 h).1 hlt
    have hf := plcS_iff (s := s) (t := start + k * step) (i := j) hs1 h
    obtain ⟨c0, c1⟩ := mulb (i := j) (step := s.step) (by omega) (by omega) hs2
    have hn : s.start + (j : Int) * s.step < start + ((k : Int) * step + step) := by omega
    have hc := @colV_len s (start + k * step) j hv
    have hw : (vpv (colV s (start + k * step) j)).length = (colV s (start + k * step) j).length := vpv_len
    have ih := ih (j + 1) (by omega) hQ
    rw [W_loop (L := r18_Fit_l1) rfl]
    by_cases hb : j < plcS s (start + k * step)
    · have e1 := colV_lo (s := s) (f := start + k * step) (j := j) (by omega)
      have e2 := colV_lo (s := s) (f := start + k * step) (j := j + 1) (by omega)
      have hg : ¬ start + (k : Int) * step ≤ s.start + (j : Int) * s.step := by omega
      rw [e2, ← e1] at ih
      simp (disch := first | assumption | omega | decide | (simp only [lens] <;> omega) | fail) only [go_sem, em]
      exact ih
    · have e1 := colV_hi hb h
      have hg : start + (k : Int) * step ≤ s.start + (j : Int) * s.step := by omega
      rw [e1, List.length_append] at ih
      simp (disch := first | assumption | omega | decide | (simp only [lens] <;> omega) | fail) only [go_sem, em, valP]
      exact ih

theorem rFit_l2_ok {kk : SK} (s : Ser) (hs : isS s = true) (start step : Int) (h0 : 0 ≤ start) (h1 : start ≤ 4294967295) (g0 : 1 ≤ step) (g1 : step ≤ 1099511627776) (n : Nat) (hn : n ≤ 131072) (a1 a2 a3 a4 a5 : PV) (Q : Out → Prop) : ∀ (d i : Nat) (env : Env) (X : Heap), i + 1 + d = n →
    norm [1, 2, 3, 4, 8, 9, 10, 11] (some 0) env X = some ([(1, .p (.int .i64 start)), (2, .p (.int .i64 step)), (3, .p (.int .i64 (n : Int))), (4, .bx 0 0), (8, .bx 1 0), (9, .bx 2 0), (10, .p (.int .i64 (plcS s (start + ((i + 1 : Nat) : Int) * step) : Nat))), (11, .p (.int .i64 ((i + 1 : Nat) : Int)))],
      [.box [.p (.str s.name), .p (.int .i64 s.start), .p (.int .i64 s.step), .p (.sl kk 2 (vpv s.vals)), .p (.int .i64 s.cons)], .box [.p a1, .p a2, .p a3, .p a4, .p a5], .box [.p (.str s.name), .p (.int .i64 start), .p (.int .i64 step), .own 3 (i + 1), .p (.int .i64 s.cons)], .row false 2 (vpv (fitV s start step (i + 1)))]) →
    (∀ B0 T, Q (.nrm, [(8, .bx 1 0), (9, .bx 2 0)], B0 :: .box [.p a1, .p a2, .p a3, .p a4, .p a5] :: .box [.p (.str s.name), .p (.int .i64 start), .p (.int .i64 step), .own 3 n, .p (.int .i64 s.cons)] :: .row false 2 (vpv (fitV s start step n)) :: T)) →
    Wp Γ r18_Fit_l2 env X (InBlk [8, 9] 0 Q) := by
  have hz := isS_size hs
  have hv : s.vals.length ≤ 131072 := by unfold sizeS at hz; omega
  have hs1 : 1 ≤ s.step := by unfold sizeS at hz; omega
  intro d
  induction d with
  | zero =>
    intro i env X hi hX hQ
    have hi : i + 1 = n := by omega
    rw [hi] at hX
    rw [W_loop (L := r18_Fit_l2) rfl]
    rw [hX]
    simp (disch := first | assumption | omega | decide | (simp only [lens] <;> omega) | fail) only [go_sem]
    exact hQ _ []
  | succ d ih =>
    intro i env X hi hX hQ
    have g := @fitV_len s start step (i + 1)
    have e := @fitV_succ s start step (i + 1)
    obtain ⟨b0, b1⟩ := mulb (i := i + 1) (step := step) (by omega) (by omega) g1
    have hw := withinV_len (s := s) (t := start + ((i + 1 : Nat) : Int) * step) (u := start + ((i + 1 : Nat) : Int) * step + step) hv
    have c := res_r6OfK (kk := .any) (consV s) (withinV s (start + ((i + 1 : Nat) : Int) * step) (start + ((i + 1 : Nat) : Int) * step + step)) (by omega)
    have dd := res_r18Cons (kk := kk) s hs (by omega)
    have em : start + ((i + 1 + 1 : Nat) : Int) * step = start + ((i + 1 : Nat) : Int) * step + step := by
      rw [show ((i + 1 + 1 : Nat) : Int) = ((i + 1 : Nat) : Int) + 1 from rfl, Int.add_mul, Int.one_mul, Int.add_assoc]
    have ec := colV_lo (s := s) (f := start + ((i + 1 : Nat) : Int) * step) (j := plcS s (start + ((i + 1 : Nat) : Int) * step)) (Nat.le_refl _)
    have hm := plcS_mono hs1 (show start + ((i + 1 : Nat) : Int) * step ≤ start + ((i + 1 : Nat) : Int) * step + step by omega)
    have hw2 : (vpv (withinV s (start + ((i + 1 : Nat) : Int) * step) (start + ((i + 1 : Nat) : Int) * step + step))).length = (withinV s (start + ((i + 1 : Nat) : Int) * step) (start + ((i + 1 : Nat) : Int) * step + step)).length := vpv_len
    unfold Ser.pv at dd
    rw [W_loop (L := r18_Fit_l2) rfl]
    rw [hX]
    simp (disch := first | assumption | omega | decide | (simp only [lens] <;> omega) | fail) only [go_sem]
    have l1 := fun Q hQ => rFit_l1B (kk := kk) s hz start step n h0 h1 g0 g1 (i + 1) (by omega) (.box [.p a1, .p a2, .p a3, .p a4, .p a5]) (.box [.p (.str s.name), .p (.int .i64 start), .p (.int .i64 step), .own 3 (i + 1), .p (.int .i64 s.cons)]) (.row false 2 (vpv (fitV s start step (i + 1)))) Q (plcS s (start + ((i + 1 : Nat) : Int) * step + step) - plcS s (start + ((i + 1 : Nat) : Int) * step)) (plcS s (start + ((i + 1 : Nat) : Int) * step)) (by omega) hQ
    simp only [ec, List.length_nil, vpv_nil] at l1
    refine l1 _ ?_
    simp (disch := first | assumption | omega | decide | (simp only [lens] <;> omega) | fail) only [go_sem, dd, c]
    refine ih (i + 1) _ _ (by omega) ?_ hQ
    rw [e, em]
    simp (disch := first | assumption | omega | decide | (simp only [lens] <;> omega) | fail) only [go_sem]
    rfl
theorem rFit_l2_first {kk : SK} (s : Ser) (hs : isS s = true) (start step : Int) (h0 : 0 ≤ start) (h1 : start ≤ 4294967295) (g0 : 1 ≤ step) (g1 : step ≤ 1099511627776) (n : Nat) (hn : n ≤ 131072) (hpos : 0 < n) (a1 a2 a3 a4 a5 : PV) (Q : Out → Prop) :
    (∀ B0 T, Q (.nrm, [(8, .bx 1 0), (9, .bx 2 0)], B0 :: .box [.p a1, .p a2, .p a3, .p a4, .p a5] :: .box [.p (.str s.name), .p (.int .i64 start), .p (.int .i64 step), .own 3 n, .p (.int .i64 s.cons)] :: .row false 2 (vpv (fitV s start step n)) :: T)) →
    Wp Γ r18_Fit_l2 [(1, .p (.int .i64 start)), (2, .p (.int .i64 step)), (3, .p (.int .i64 (n : Int))), (4, .bx 0 0), (8, .bx 1 0), (9, .bx 2 0), (10, .p (.int .i64 0)), (11, .p (.int .i64 0))]
      [.box [.p (.str s.name), .p (.int .i64 s.start), .p (.int .i64 s.step), .p (.sl kk 2 (vpv s.vals)), .p (.int .i64 s.cons)], .box [.p a1, .p a2, .p a3, .p a4, .p a5], .box [.p (.str s.name), .p (.int .i64 start), .p (.int .i64 step), .p (.sl .nil 2 []), .p (.int .i64 s.cons)]] (InBlk [8, 9] 0 Q) := by
  have hz := isS_size hs
  have hv : s.vals.length ≤ 131072 := by unfold sizeS at hz; omega
  have hs1 : 1 ≤ s.step := by unfold sizeS at hz; omega
  intro hQ
  have e := @fitV_succ s start step 0
  have ez : start + ((0 : Nat) : Int) * step = start := by rw [show ((0 : Nat) : Int) = 0 from rfl, Int.zero_mul, Int.add_zero]
  have ec := colV_lo (s := s) (f := start) (j := 0) (Nat.zero_le _)
  have hw := withinV_len (s := s) (t := start) (u := start + step) hv
  have c := res_r6OfK (kk := .any) (consV s) (withinV s start (start + step)) (by omega)
  have dd := res_r18Cons (kk := kk) s hs (by omega)
  have hw2 : (vpv (withinV s start (start + step))).length = (withinV s start (start + step)).length := vpv_len
  have em : start + ((0 + 1 : Nat) : Int) * step = start + step := by rw [show ((0 + 1 : Nat) : Int) = 1 from rfl, Int.one_mul]
  rw [ez] at e
  unfold Ser.pv at dd
  rw [W_loop (L := r18_Fit_l2) rfl]
  simp (disch := first | assumption | omega | decide | (simp only [lens] <;> omega) | fail) only [go_sem]
  have l1 := fun Q hQ => rFit_l1A (kk := kk) s hz start step n h0 h1 g0 g1 0 (by omega) (.box [.p a1, .p a2, .p a3, .p a4, .p a5]) (.box [.p (.str s.name), .p (.int .i64 start), .p (.int .i64 step), .p (.sl .nil 2 []), .p (.int .i64 s.cons)]) Q (plcS s (start + ((0 : Nat) : Int) * step + step)) 0 (by omega) hQ
  simp only [ez, ec, List.length_nil, vpv_nil] at l1
  refine l1 _ ?_
  simp (disch := first | assumption | omega | decide | (simp only [lens] <;> omega) | fail) only [go_sem, dd, c]
  refine rFit_l2_ok (kk := kk) s hs start step h0 h1 g0 g1 n hn a1 a2 a3 a4 a5 Q (n - 1) 0 _ _ (by omega) ?_ hQ
  rw [e, em]
  simp (disch := first | assumption | omega | decide | (simp only [lens] <;> omega) | fail) only [go_sem]
  rfl
theorem res_r18Fit {kk : SK} (s : Ser) (hs : isS s = true) (start step : Int) (h0 : 0 ≤ start) (h1 : start ≤ 4294967295) (g0 : 1 ≤ step) (g1 : step ≤ 1099511627776) (n : Nat) (hn : n ≤ 131072) :
    res Γ 162 [s.pv kk, .int .i64 start, .int .i64 step, .int .i64 (n : Int)] = some [(fitS s start step n).pv (fitK n)] := by
  have hz := isS_size hs
  have hv : s.vals.length ≤ 131072 := by unfold sizeS at hz; omega
  have e := res_r18Is (kk := kk) s (by omega)
  unfold Ser.pv at e ⊢
  refine res_code (fn := r18_Fit) rfl rfl ?_
  simp (disch := first | assumption | omega | decide | (simp only [lens] <;> omega) | fail) only [go_sem, r18_Fit, e, hs]
  by_cases hne : n = 0
  · subst hne
    rw [W_loop (L := r18_Fit_l2) rfl]
    simp (disch := first | assumption | omega | decide | (simp only [lens] <;> omega) | fail) only [go_sem, fitS, fitK]
    rfl
  · refine rFit_l2_first s hs start step h0 h1 g0 g1 n hn (by omega) _ _ _ _ _ _ (fun B0 T => ?_)
    have hw : (vpv (fitV s start step n)).length = n := by rw [vpv_len, fitV_len]
    simp (disch := first | assumption | omega | decide | (simp only [lens] <;> omega) | fail) only [go_sem, fitS, fitK]
    rw [if_neg hne]
end Ab
namespace Ab
open Go (IntKind BinOp UnOp)
theorem strsIn_strs (l : List (List UInt8)) : strsIn (strs l) = some l := by
  induction l with
  | nil => rfl
  | cons a l ih => simp only [strs, List.map_cons, strsIn] at ih ⊢; rw [ih]; rfl
@[go_sem] theorem res_Join {kk : SK} (l : List (List UInt8)) (sep : List UInt8) (hl : l.length < 1000000000) (hj : (joinB sep l).length ≤ 1000000000) : res Γ 48 [.sl kk 1 (strs l), .str sep] = some [.str (joinB sep l)] := by
  refine res_of (RunP_prim (g := joinG) rfl ?_)
  simp only [joinG, strsIn_strs]
  rw [if_pos ⟨hj, by omega⟩]
end Ab
