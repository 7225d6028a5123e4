import Derived.Test.YtcjkmikiinljmaaGreatDoorLApply3
import Derived.Test.YtcjkmikiinljmaaGreatDoorCode
import Derived.Test.YtcjkmikiinljmaaGreatDoorAbPrim
import Derived.KernelRfl
namespace Ab
open Go (IntKind BinOp UnOp)
abbrev zB : Blk := .box [.p (.str []), .p (.int .i64 0), .p (.int .i64 0), .p (.sl .nil 2 []), .p (.int .i64 0)]
set_option maxRecDepth 10000 in
theorem by_l1_ok {K : SK} {t : Int} {g : Val → Val → Val} (ht : (t = 1 ∧ g = divV) ∨ (t = 100 ∧ g = shareV)) (lab : List UInt8) (a b : Int) (m : List (SK × Ser)) (hm : m.length = 2) (n : Nat) (hn : n ≤ 1000000) (hml : (m.getD 0 noSer).2.vals.length = n) (hi : ∀ i, i < n → ∀ x ∈ m, i < x.2.vals.length) (Q : Out → Prop)
    (hQ : Q (.nrm, [(10, .bx 0 0), (14, .bx 1 0)], [zB, serB lab a b (.own 2 n) 0, .row false 2 (vpv (valsF (fun i => g (colJ m 0 i) (colJ m 1 i)) n))])) : ∀ (k i : Nat) (env : Env) (H : Heap), i + 1 + k = n →
    norm [4, 10, 12, 14, 15] (some 0) env H = some ([(4, .p (.int .i64 t)), (10, .bx 0 0), (12, .p (.sl K 5 (sers m))), (14, .bx 1 0), (15, .p (.int .i64 ((i + 1 : Nat) : Int)))], [zB, serB lab a b (.own 2 (i + 1)) 0, .row false 2 (vpv (valsF (fun i => g (colJ m 0 i) (colJ m 1 i)) (i + 1)))]) →
    Wp Γ r22_by_l1 env H (InBlk [10, 14] 0 Q) := by
  intro k
  induction k with
  | zero =>
    intro i env H hi' hN
    have hi' : i + 1 = n := by omega
    rw [hi'] at hN
    obtain ⟨x, hx⟩ : ∃ x, m.getD 0 noSer = x := ⟨_, rfl⟩
    rw [hx] at hml
    rw [W_loop (L := r22_by_l1) rfl]
    rw [hN]
    simp (disch := first | assumption | omega | decide | (simp only [List.length_cons, List.length_nil, List.length_append, List.length_replicate, List.length_map, List.length_set, List.length_take, List.length_drop, strs_len, ints_len, bools_len, aggs_len, vpv_len]; done) | (simp only [List.length_cons, List.length_nil, List.length_append, List.length_replicate, List.length_map, List.length_set, List.length_take, List.length_drop, strs_len, ints_len, bools_len, aggs_len, vpv_len]; omega)) only [go_sem, hx, serC, hml]
    exact hQ
  | succ k ih =>
    intro i env H hi' hN
    have ih := fun env H => ih (i + 1) env H (by omega)
    rw [valsF_succ] at ih
    have h0 := hi (i + 1) (by omega) _ (ser_mem (show 0 < m.length by omega))
    have h1 := hi (i + 1) (by omega) _ (ser_mem (show 1 < m.length by omega))
    have hlen := @valsF_len (fun i => g (colJ m 0 i) (colJ m 1 i)) (i + 1)
    generalize valsF (fun i => g (colJ m 0 i) (colJ m 1 i)) (i + 1) = V at *
    unfold colJ at ih
    obtain ⟨x, hx⟩ : ∃ x, m.getD 0 noSer = x := ⟨_, rfl⟩
    obtain ⟨y, hy⟩ : ∃ y, m.getD 1 noSer = y := ⟨_, rfl⟩
    rw [hx] at h0 hml
    rw [hy] at h1
    simp only [hx, hy] at ih
    have e1 := res_r1DivV (x.2.vals.getD (i + 1) (false, 0)) (y.2.vals.getD (i + 1) (false, 0))
    rcases ht with ⟨rfl, rfl⟩ | ⟨rfl, rfl⟩
    · generalize divV (x.2.vals.getD (i + 1) (false, 0)) (y.2.vals.getD (i + 1) (false, 0)) = w at *
      rw [W_loop (L := r22_by_l1) rfl]
      rw [hN]
      simp (disch := first | assumption | omega | decide | (simp only [List.length_cons, List.length_nil, List.length_append, List.length_replicate, List.length_map, List.length_set, List.length_take, List.length_drop, strs_len, ints_len, bools_len, aggs_len, vpv_len]; done) | (simp only [List.length_cons, List.length_nil, List.length_append, List.length_replicate, List.length_map, List.length_set, List.length_take, List.length_drop, strs_len, ints_len, bools_len, aggs_len, vpv_len]; omega)) only [go_sem, hx, hy, serC, hml, valP, e1, ne_eq, not_true_eq_false]
      refine ih _ _ ?_
      simp (disch := first | assumption | omega | decide | (simp only [List.length_cons, List.length_nil, List.length_append, List.length_replicate, List.length_map, List.length_set, List.length_take, List.length_drop, strs_len, ints_len, bools_len, aggs_len, vpv_len]; done) | (simp only [List.length_cons, List.length_nil, List.length_append, List.length_replicate, List.length_map, List.length_set, List.length_take, List.length_drop, strs_len, ints_len, bools_len, aggs_len, vpv_len]; omega)) only [go_sem]
      rfl
    · have e2 : res Γ 129 [.int .i64 100] = some [.agg [.bool true, .int .i64 100000000]] := res_r1Int (n := 100) (by omega)
      have e3 := res_r1MulV (true, 100000000) (divV (x.2.vals.getD (i + 1) (false, 0)) (y.2.vals.getD (i + 1) (false, 0)))
      unfold shareV at ih
      generalize divV (x.2.vals.getD (i + 1) (false, 0)) (y.2.vals.getD (i + 1) (false, 0)) = w at *
      generalize mulV (true, 100000000) w = u at *
      rw [W_loop (L := r22_by_l1) rfl]
      rw [hN]
      simp (disch := first | assumption | omega | decide | (simp only [List.length_cons, List.length_nil, List.length_append, List.length_replicate, List.length_map, List.length_set, List.length_take, List.length_drop, strs_len, ints_len, bools_len, aggs_len, vpv_len]; done) | (simp only [List.length_cons, List.length_nil, List.length_append, List.length_replicate, List.length_map, List.length_set, List.length_take, List.length_drop, strs_len, ints_len, bools_len, aggs_len, vpv_len]; omega)) only [go_sem, hx, hy, serC, hml, valP, e1, e2, e3]
      refine ih _ _ ?_
      simp (disch := first | assumption | omega | decide | (simp only [List.length_cons, List.length_nil, List.length_append, List.length_replicate, List.length_map, List.length_set, List.length_take, List.length_drop, strs_len, ints_len, bools_len, aggs_len, vpv_len]; done) | (simp only [List.length_cons, List.length_nil, List.length_append, List.length_replicate, List.length_map, List.length_set, List.length_take, List.length_drop, strs_len, ints_len, bools_len, aggs_len, vpv_len]; omega)) only [go_sem]
      rfl
set_option maxRecDepth 10000 in
theorem by_l1_first {K : SK} {t : Int} {g : Val → Val → Val} (ht : (t = 1 ∧ g = divV) ∨ (t = 100 ∧ g = shareV)) (lab : List UInt8) (a b : Int) (m : List (SK × Ser)) (hm : m.length = 2) (n : Nat) (hn : n ≤ 1000000) (hml : (m.getD 0 noSer).2.vals.length = n) (hi : ∀ i, i < n → ∀ x ∈ m, i < x.2.vals.length) (Q : Out → Prop)
    (hQ0 : n = 0 → Q (.nrm, [(10, .bx 0 0), (14, .bx 1 0)], [zB, serB lab a b (.p (.sl .nil 2 [])) 0]))
    (hQ : n ≠ 0 → Q (.nrm, [(10, .bx 0 0), (14, .bx 1 0)], [zB, serB lab a b (.own 2 n) 0, .row false 2 (vpv (valsF (fun i => g (colJ m 0 i) (colJ m 1 i)) n))])) (env : Env) (H : Heap)
    (hN : norm [4, 10, 12, 14, 15] (some 0) env H = some ([(4, .p (.int .i64 t)), (10, .bx 0 0), (12, .p (.sl K 5 (sers m))), (14, .bx 1 0), (15, .p (.int .i64 0))], [zB, serB lab a b (.p (.sl .nil 2 [])) 0])) :
    Wp Γ r22_by_l1 env H (InBlk [10, 14] 0 Q) := by
  by_cases h : n = 0
  · obtain ⟨x, hx⟩ : ∃ x, m.getD 0 noSer = x := ⟨_, rfl⟩
    rw [hx, h] at hml
    rw [W_loop (L := r22_by_l1) rfl]
    rw [hN]
    simp (disch := first | assumption | omega | decide | (simp only [List.length_cons, List.length_nil, List.length_append, List.length_replicate, List.length_map, List.length_set, List.length_take, List.length_drop, strs_len, ints_len, bools_len, aggs_len, vpv_len]; done) | (simp only [List.length_cons, List.length_nil, List.length_append, List.length_replicate, List.length_map, List.length_set, List.length_take, List.length_drop, strs_len, ints_len, bools_len, aggs_len, vpv_len]; omega)) only [go_sem, hx, serC, hml]
    exact hQ0 h
  · have L := by_l1_ok (K := K) ht lab a b m hm n hn hml hi Q (hQ h) (n - 1) 0
    have ev : valsF (fun i => g (colJ m 0 i) (colJ m 1 i)) 1 = [g (colJ m 0 0) (colJ m 1 0)] := rfl
    have h0 := hi 0 (by omega) _ (ser_mem (show 0 < m.length by omega))
    have h1 := hi 0 (by omega) _ (ser_mem (show 1 < m.length by omega))
    rw [Nat.zero_add, ev] at L
    unfold colJ at L
    obtain ⟨x, hx⟩ : ∃ x, m.getD 0 noSer = x := ⟨_, rfl⟩
    obtain ⟨y, hy⟩ : ∃ y, m.getD 1 noSer = y := ⟨_, rfl⟩
    rw [hx] at h0 hml
    rw [hy] at h1
    simp only [hx, hy] at L
    have e1 := res_r1DivV (x.2.vals.getD 0 (false, 0)) (y.2.vals.getD 0 (false, 0))
    clear hQ hQ0
    rcases ht with ⟨rfl, rfl⟩ | ⟨rfl, rfl⟩
    · generalize divV (x.2.vals.getD 0 (false, 0)) (y.2.vals.getD 0 (false, 0)) = w at *
      rw [W_loop (L := r22_by_l1) rfl]
      rw [hN]
      simp (disch := first | assumption | omega | decide | (simp only [List.length_cons, List.length_nil, List.length_append, List.length_replicate, List.length_map, List.length_set, List.length_take, List.length_drop, strs_len, ints_len, bools_len, aggs_len, vpv_len]; done) | (simp only [List.length_cons, List.length_nil, List.length_append, List.length_replicate, List.length_map, List.length_set, List.length_take, List.length_drop, strs_len, ints_len, bools_len, aggs_len, vpv_len]; omega)) only [go_sem, hx, hy, serC, hml, valP, e1, ne_eq, not_true_eq_false]
      refine L _ _ (by omega) ?_
      simp (disch := first | assumption | omega | decide | (simp only [List.length_cons, List.length_nil, List.length_append, List.length_replicate, List.length_map, List.length_set, List.length_take, List.length_drop, strs_len, ints_len, bools_len, aggs_len, vpv_len]; done) | (simp only [List.length_cons, List.length_nil, List.length_append, List.length_replicate, List.length_map, List.length_set, List.length_take, List.length_drop, strs_len, ints_len, bools_len, aggs_len, vpv_len]; omega)) only [go_sem]
      rfl
    · have e2 : res Γ 129 [.int .i64 100] = some [.agg [.bool true, .int .i64 100000000]] := res_r1Int (n := 100) (by omega)
      have e3 := res_r1MulV (true, 100000000) (divV (x.2.vals.getD 0 (false, 0)) (y.2.vals.getD 0 (false, 0)))
      unfold shareV at L
      generalize divV (x.2.vals.getD 0 (false, 0)) (y.2.vals.getD 0 (false, 0)) = w at *
      generalize mulV (true, 100000000) w = u at *
      rw [W_loop (L := r22_by_l1) rfl]
      rw [hN]
      simp (disch := first | assumption | omega | decide | (simp only [List.length_cons, List.length_nil, List.length_append, List.length_replicate, List.length_map, List.length_set, List.length_take, List.length_drop, strs_len, ints_len, bools_len, aggs_len, vpv_len]; done) | (simp only [List.length_cons, List.length_nil, List.length_append, List.length_replicate, List.length_map, List.length_set, List.length_take, List.length_drop, strs_len, ints_len, bools_len, aggs_len, vpv_len]; omega)) only [go_sem, hx, hy, serC, hml, valP, e1, e2, e3]
      refine L _ _ (by omega) ?_
      simp (disch := first | assumption | omega | decide | (simp only [List.length_cons, List.length_nil, List.length_append, List.length_replicate, List.length_map, List.length_set, List.length_take, List.length_drop, strs_len, ints_len, bools_len, aggs_len, vpv_len]; done) | (simp only [List.length_cons, List.length_nil, List.length_append, List.length_replicate, List.length_map, List.length_set, List.length_take, List.length_drop, strs_len, ints_len, bools_len, aggs_len, vpv_len]; omega)) only [go_sem]
      rfl
theorem zser_eq : noSer.2.pv .nil = .agg [.str [], .int .i64 0, .int .i64 0, .sl .nil 2 [], .int .i64 0] := rfl
set_option maxRecDepth 10000 in
theorem res_by {t : Int} {g : Val → Val → Val} (ht : (t = 1 ∧ g = divV) ∨ (t = 100 ∧ g = shareV)) (nm : List UInt8) (hnm : nm.length ≤ 1000000) (x y : SK × Ser) (hx : x.2.vals.length ≤ 1000000) (hy : y.2.vals.length ≤ 1000000) (nx : x.2.name.length ≤ 4096) (ny : y.2.name.length ≤ 4096) :
    res Γ 260 [.str nm, x.2.pv x.1, y.2.pv y.1, .sl .tight 1 [.str x.2.name, .str y.2.name], .int .i64 t] = some (twoR nm g x y) := by
  have hv : ∀ z ∈ [x, y], z.2.vals.length ≤ 1000000 := by
    intro z hz
    rcases List.mem_cons.1 hz with rfl | hz
    · exact hx
    · rw [List.mem_singleton.1 hz]; exact hy
  have es : sers [x, y] = [x.2.pv x.1, y.2.pv y.1] := rfl
  have eJ := res_r18Join (kk := .tight) [x, y] (by simp) hv
  rw [es] at eJ
  unfold joinR at eJ
  unfold twoR
  by_cases he : errJ (sersOf [x, y]) = 0
  · rw [if_neg (fun h => h he)]
    have hne : [x, y] ≠ [] := by simp
    rw [if_pos he, if_neg hne, joinJ_eq] at eJ
    have hn := nJ_le he hne
    have eL : res Γ 33 [.str nm, .sl .tight 1 [.str x.2.name, .str y.2.name]] = some [.str (labelL nm [x.2.name, y.2.name])] := res_r18LabelL (kk := .tight) nm [x.2.name, y.2.name] hnm (by simp) (by simp [joinB]; omega)
    have hjl := @joinW_len [x, y] (bJ [x, y]) (sJ [x, y]) (nJ [x, y])
    have hjg := joinW_get (b := bJ [x, y]) (st := sJ [x, y]) (n := nJ [x, y]) (l := [x, y]) (i := 0) (by simp)
    have hml : ((joinW [x, y] (bJ [x, y]) (sJ [x, y]) (nJ [x, y])).getD 0 noSer).2.vals.length = nJ [x, y] := by rw [hjg]; exact fitV_len
    have L := fun lab a b Q h1 h2 env H hN => by_l1_first (K := .any) ht lab a b (joinW [x, y] (bJ [x, y]) (sJ [x, y]) (nJ [x, y])) (by rw [hjl]; rfl) (nJ [x, y]) (by omega) hml (fun i hi => joinW_ok hi) Q h1 h2 env H hN
    have hvl := @valsF_len (fun i => g (colJ (joinW [x, y] (bJ [x, y]) (sJ [x, y]) (nJ [x, y])) 0 i) (colJ (joinW [x, y] (bJ [x, y]) (sJ [x, y]) (nJ [x, y])) 1 i)) (nJ [x, y])
    have hb' : begJ (sersOf [x, y]) = bJ [x, y] := rfl
    have hs' : stepJ (sersOf [x, y]) = sJ [x, y] := rfl
    have hn' : (manyJ (sersOf [x, y])).toNat = nJ [x, y] := rfl
    rw [hb', hs', hn'] at eJ
    have hv0 : nJ [x, y] = 0 → valsF (fun i => g (colJ (joinW [x, y] (bJ [x, y]) (sJ [x, y]) (nJ [x, y])) 0 i) (colJ (joinW [x, y] (bJ [x, y]) (sJ [x, y]) (nJ [x, y])) 1 i)) (nJ [x, y]) = [] := fun h => by rw [h]; rfl
    have hg1 : (joinW [x, y] (bJ [x, y]) (sJ [x, y]) (nJ [x, y])).getD 0 noSer = (fitK (nJ [x, y]), fitS x.2 (bJ [x, y]) (sJ [x, y]) (nJ [x, y])) := hjg
    unfold twoS
    generalize valsF (fun i => g (colJ (joinW [x, y] (bJ [x, y]) (sJ [x, y]) (nJ [x, y])) 0 i) (colJ (joinW [x, y] (bJ [x, y]) (sJ [x, y]) (nJ [x, y])) 1 i)) (nJ [x, y]) = V at *
    generalize joinW [x, y] (bJ [x, y]) (sJ [x, y]) (nJ [x, y]) = m at *
    have hjl : m.length = 2 := hjl
    clear hjg es
    generalize bJ [x, y] = b0 at *
    generalize sJ [x, y] = s0 at *
    generalize nJ [x, y] = n0 at *
    unfold Ser.pv at *
    unfold fitK
    refine res_code (fn := r22_by) rfl rfl ?_
    simp (disch := first | assumption | omega | decide | (simp only [List.length_cons, List.length_nil, List.length_append, List.length_replicate, List.length_map, List.length_set, List.length_take, List.length_drop, strs_len, ints_len, bools_len, aggs_len, vpv_len]; done) | (simp only [List.length_cons, List.length_nil, List.length_append, List.length_replicate, List.length_map, List.length_set, List.length_take, List.length_drop, strs_len, ints_len, bools_len, aggs_len, vpv_len]; omega)) only [go_sem, r22_by, eJ, eL, ne_eq, not_true_eq_false, hg1, serC, fitS]
    refine L (labelL nm [x.2.name, y.2.name]) b0 s0 _ (fun h => ?_) (fun h => ?_) _ _ ?_
    · rw [hv0 h, if_pos h]
      simp (disch := first | assumption | omega | decide | (simp only [List.length_cons, List.length_nil, List.length_append, List.length_replicate, List.length_map, List.length_set, List.length_take, List.length_drop, strs_len, ints_len, bools_len, aggs_len, vpv_len]; done) | (simp only [List.length_cons, List.length_nil, List.length_append, List.length_replicate, List.length_map, List.length_set, List.length_take, List.length_drop, strs_len, ints_len, bools_len, aggs_len, vpv_len]; omega)) only [go_sem]
    · rw [if_neg h]
      simp (disch := first | assumption | omega | decide | (simp only [List.length_cons, List.length_nil, List.length_append, List.length_replicate, List.length_map, List.length_set, List.length_take, List.length_drop, strs_len, ints_len, bools_len, aggs_len, vpv_len]; done) | (simp only [List.length_cons, List.length_nil, List.length_append, List.length_replicate, List.length_map, List.length_set, List.length_take, List.length_drop, strs_len, ints_len, bools_len, aggs_len, vpv_len]; omega)) only [go_sem]
    · simp (disch := first | assumption | omega | decide | (simp only [List.length_cons, List.length_nil, List.length_append, List.length_replicate, List.length_map, List.length_set, List.length_take, List.length_drop, strs_len, ints_len, bools_len, aggs_len, vpv_len]; done) | (simp only [List.length_cons, List.length_nil, List.length_append, List.length_replicate, List.length_map, List.length_set, List.length_take, List.length_drop, strs_len, ints_len, bools_len, aggs_len, vpv_len]; omega)) only [go_sem]
  · rw [if_pos he]
    rw [if_neg he] at eJ
    generalize errJ (sersOf [x, y]) = E at *
    rw [zser_eq]
    unfold Ser.pv at *
    refine res_code (fn := r22_by) rfl rfl ?_
    simp (disch := first | assumption | omega | decide | (simp only [List.length_cons, List.length_nil, List.length_append, List.length_replicate, List.length_map, List.length_set, List.length_take, List.length_drop, strs_len, ints_len, bools_len, aggs_len, vpv_len]; done) | (simp only [List.length_cons, List.length_nil, List.length_append, List.length_replicate, List.length_map, List.length_set, List.length_take, List.length_drop, strs_len, ints_len, bools_len, aggs_len, vpv_len]; omega)) only [go_sem, r22_by, eJ]
set_option maxRecDepth 10000 in
theorem rPair_l1_ok {k1 k2 : SK} {t : Int} {g : Val → Val → Val} (ht : (t = 1 ∧ g = divV) ∨ (t = 100 ∧ g = shareV))
    (nm : List UInt8) (hnm : nm.length ≤ 1000000) (m l : List (SK × Ser)) (hl : l.length ≤ 1000000) (hm : m.length ≤ 1000000) (hm0 : 0 < m.length) (hml : 1 < m.length → m.length = l.length)
    (hv : ∀ x ∈ l, x.2.vals.length ≤ 1000000) (hn : ∀ x ∈ l, x.2.name.length ≤ 4096) (hv' : ∀ x ∈ m, x.2.vals.length ≤ 1000000) (hn' : ∀ x ∈ m, x.2.name.length ≤ 4096)
    (Q : Out → Prop) (hQ : fstE (errP m l) 0 l.length = 0 → Q (.nrm, [(9, .own 0 l.length)], [.row false 5 (sers (pairL nm g m l l.length))]))
    (hQe : fstE (errP m l) 0 l.length ≠ 0 → ∀ H, Q (.ret, [(6, .p (.sl .nil 5 [])), (7, .p (.int .i64 (fstE (errP m l) 0 l.length)))], H)) : ∀ (j i : Nat) (env : Env) (H : Heap), i + j = l.length → fstE (errP m l) 0 l.length = fstE (errP m l) i j →
    norm [0, 1, 2, 8, 9, 10] (some 0) env H = some ([(0, .p (.str nm)), (1, .p (.sl k1 5 (sers m))), (2, .p (.sl k2 5 (sers l))), (8, .p (.int .i64 t)), (9, .own 0 i), (10, .p (.int .i64 (i : Int)))], [.row false 5 (sers (pairL nm g m l i))]) →
    Wp Γ r22_Pair_l1 env H (InBlk [9] 1 Q) := by
  intro j
  induction j with
  | zero =>
    intro i env H hj hfe hN
    obtain rfl : i = l.length := by omega
    rw [W_loop (L := r22_Pair_l1) rfl]
    rw [hN]
    simp (disch := first | assumption | omega | decide | (simp only [List.length_cons, List.length_nil, List.length_append, List.length_replicate, List.length_map, List.length_set, List.length_take, List.length_drop, strs_len, ints_len, bools_len, aggs_len, vpv_len]; done) | (simp only [List.length_cons, List.length_nil, List.length_append, List.length_replicate, List.length_map, List.length_set, List.length_take, List.length_drop, strs_len, ints_len, bools_len, aggs_len, vpv_len]; omega)) only [go_sem]
    exact hQ hfe
  | succ j ih =>
    intro i env H hj hfe hN
    have hlt : i < l.length := by omega
    have hmem := ser_mem hlt
    have ih := fun h env H => ih (i + 1) env H (by omega) h
    rw [pairL_succ] at ih
    have hlen : (sers (pairL nm g m l i)).length = i := by rw [sers_len, pairL_len]
    have hym : yAt m i ∈ m := by
      unfold yAt
      refine ser_mem ?_
      split
      · rename_i h; rw [hml h]; exact hlt
      · exact hm0
    have e := res_by ht nm hnm (l.getD i noSer) (yAt m i) (hv _ hmem) (hv' _ hym) (hn _ hmem) (hn' _ hym)
    unfold twoR at e
    by_cases hE : errP m l i = 0
    · rw [fstE_zero hE] at hfe
      have ih := ih hfe
      have hE' : errJ (sersOf [l.getD i noSer, yAt m i]) = 0 := hE
      rw [if_neg (fun h => h hE')] at e
      clear hE hE' hfe hQ hQe
      generalize twoS nm g (l.getD i noSer) (yAt m i) = z at *
      obtain ⟨zk, ⟨z1, z2, z3, z4, z5⟩⟩ := z
      unfold yAt at e
      unfold Ser.pv at e
      by_cases h1 : 1 < m.length
      · have hi' : i < m.length := by rw [hml h1]; exact hlt
        rw [if_pos h1] at e
        rw [W_loop (L := r22_Pair_l1) rfl]
        rw [hN]
        simp (disch := first | assumption | omega | decide | (simp only [List.length_cons, List.length_nil, List.length_append, List.length_replicate, List.length_map, List.length_set, List.length_take, List.length_drop, strs_len, ints_len, bools_len, aggs_len, vpv_len]; done) | (simp only [List.length_cons, List.length_nil, List.length_append, List.length_replicate, List.length_map, List.length_set, List.length_take, List.length_drop, strs_len, ints_len, bools_len, aggs_len, vpv_len]; omega)) only [go_sem, serC, e, ne_eq, not_true_eq_false]
        refine ih _ _ ?_
        simp (disch := first | assumption | omega | decide | (simp only [List.length_cons, List.length_nil, List.length_append, List.length_replicate, List.length_map, List.length_set, List.length_take, List.length_drop, strs_len, ints_len, bools_len, aggs_len, vpv_len]; done) | (simp only [List.length_cons, List.length_nil, List.length_append, List.length_replicate, List.length_map, List.length_set, List.length_take, List.length_drop, strs_len, ints_len, bools_len, aggs_len, vpv_len]; omega)) only [go_sem]
        rfl
      · rw [if_neg h1] at e
        rw [W_loop (L := r22_Pair_l1) rfl]
        rw [hN]
        simp (disch := first | assumption | omega | decide | (simp only [List.length_cons, List.length_nil, List.length_append, List.length_replicate, List.length_map, List.length_set, List.length_take, List.length_drop, strs_len, ints_len, bools_len, aggs_len, vpv_len]; done) | (simp only [List.length_cons, List.length_nil, List.length_append, List.length_replicate, List.length_map, List.length_set, List.length_take, List.length_drop, strs_len, ints_len, bools_len, aggs_len, vpv_len]; omega)) only [go_sem, serC, e, ne_eq, not_true_eq_false]
        refine ih _ _ ?_
        simp (disch := first | assumption | omega | decide | (simp only [List.length_cons, List.length_nil, List.length_append, List.length_replicate, List.length_map, List.length_set, List.length_take, List.length_drop, strs_len, ints_len, bools_len, aggs_len, vpv_len]; done) | (simp only [List.length_cons, List.length_nil, List.length_append, List.length_replicate, List.length_map, List.length_set, List.length_take, List.length_drop, strs_len, ints_len, bools_len, aggs_len, vpv_len]; omega)) only [go_sem]
        rfl
    · rw [fstE_not hE] at hfe
      have hE' : errJ (sersOf [l.getD i noSer, yAt m i]) ≠ 0 := hE
      rw [if_pos hE'] at e
      have hQe := hQe (by rw [hfe]; exact hE)
      rw [hfe] at hQe
      unfold errP at hQe hE
      clear hfe hQ hE'
      generalize errJ (sersOf [l.getD i noSer, yAt m i]) = E at *
      rw [zser_eq] at e
      unfold yAt at e
      unfold Ser.pv at e
      by_cases h1 : 1 < m.length
      · have hi' : i < m.length := by rw [hml h1]; exact hlt
        rw [if_pos h1] at e
        rw [W_loop (L := r22_Pair_l1) rfl]
        rw [hN]
        simp (disch := first | assumption | omega | decide | (simp only [List.length_cons, List.length_nil, List.length_append, List.length_replicate, List.length_map, List.length_set, List.length_take, List.length_drop, strs_len, ints_len, bools_len, aggs_len, vpv_len]; done) | (simp only [List.length_cons, List.length_nil, List.length_append, List.length_replicate, List.length_map, List.length_set, List.length_take, List.length_drop, strs_len, ints_len, bools_len, aggs_len, vpv_len]; omega)) only [go_sem, serC, e]
        exact hQe _
      · rw [if_neg h1] at e
        rw [W_loop (L := r22_Pair_l1) rfl]
        rw [hN]
        simp (disch := first | assumption | omega | decide | (simp only [List.length_cons, List.length_nil, List.length_append, List.length_replicate, List.length_map, List.length_set, List.length_take, List.length_drop, strs_len, ints_len, bools_len, aggs_len, vpv_len]; done) | (simp only [List.length_cons, List.length_nil, List.length_append, List.length_replicate, List.length_map, List.length_set, List.length_take, List.length_drop, strs_len, ints_len, bools_len, aggs_len, vpv_len]; omega)) only [go_sem, serC, e]
        exact hQe _
set_option maxRecDepth 10000 in
theorem parts_l1_ok {K k5 : SK} (l : List (SK × Ser)) (k c : Nat) (lab : List UInt8) (a b : Int) (m : List (SK × Ser)) (hm : m.length ≤ 1000000) (hk : k < m.length) (n : Nat) (hn : n ≤ 1000000) (hml : (m.getD k noSer).2.vals.length = n) (hi : ∀ i, i < n → ∀ x ∈ m, i < x.2.vals.length) (os : List PV) (Q : Out → Prop)
    (hQ : Q (.nrm, [(0, .p (.sl k5 5 (sers l))), (4, .p (.sl K 5 (sers m))), (6, .own 0 c), (7, .p (.int .i64 (k : Int))), (8, .bx 1 0)], [.row false 5 os, serB lab a b (.own 2 n) 0, .row false 2 (vpv (valsF (fun i => shareV (colJ m k i) (aggV 2 (knL (atV m i)))) n))])) : ∀ (j i : Nat) (env : Env) (H : Heap), i + 1 + j = n →
    norm [0, 4, 6, 7, 8, 9] (some 0) env H = some ([(0, .p (.sl k5 5 (sers l))), (4, .p (.sl K 5 (sers m))), (6, .own 0 c), (7, .p (.int .i64 (k : Int))), (8, .bx 1 0), (9, .p (.int .i64 ((i + 1 : Nat) : Int)))], [.row false 5 os, serB lab a b (.own 2 (i + 1)) 0, .row false 2 (vpv (valsF (fun i => shareV (colJ m k i) (aggV 2 (knL (atV m i)))) (i + 1)))]) →
    Wp Γ r22_parts_l1 env H (InBlk [0, 4, 6, 7, 8] 2 Q) := by
  intro j
  induction j with
  | zero =>
    intro i env H hi' hN
    have hi' : i + 1 = n := by omega
    rw [hi'] at hN
    obtain ⟨x, hx⟩ : ∃ x, m.getD k noSer = x := ⟨_, rfl⟩
    rw [hx] at hml
    rw [W_loop (L := r22_parts_l1) rfl]
    rw [hN]
    simp (disch := first | assumption | omega | decide | (simp only [List.length_cons, List.length_nil, List.length_append, List.length_replicate, List.length_map, List.length_set, List.length_take, List.length_drop, strs_len, ints_len, bools_len, aggs_len, vpv_len]; done) | (simp only [List.length_cons, List.length_nil, List.length_append, List.length_replicate, List.length_map, List.length_set, List.length_take, List.length_drop, strs_len, ints_len, bools_len, aggs_len, vpv_len]; omega)) only [go_sem, hx, serC, hml]
    exact hQ
  | succ j ih =>
    intro i env H hi' hN
    have ih := fun env H => ih (i + 1) env H (by omega)
    rw [valsF_succ] at ih
    have h0 := hi (i + 1) (by omega) _ (ser_mem hk)
    have hlen := @valsF_len (fun i => shareV (colJ m k i) (aggV 2 (knL (atV m i)))) (i + 1)
    generalize valsF (fun i => shareV (colJ m k i) (aggV 2 (knL (atV m i)))) (i + 1) = V at *
    unfold colJ at ih
    obtain ⟨x, hx⟩ : ∃ x, m.getD k noSer = x := ⟨_, rfl⟩
    rw [hx] at h0 hml
    simp only [hx] at ih
    have ea := res_atJ (kk := K) m hm (i + 1) (hi (i + 1) (by omega)) (by omega)
    have es := res_r6Of (kk := .any) 2 (.inl rfl) (atV m (i + 1)) (by rw [atV_len]; omega)
    rw [aggV_knL] at ih
    generalize aggV 2 (atV m (i + 1)) = s at *
    generalize vpv (atV m (i + 1)) = A at *
    have e1 := res_r1DivV (x.2.vals.getD (i + 1) (false, 0)) s
    have e2 : res Γ 129 [.int .i64 100] = some [.agg [.bool true, .int .i64 100000000]] := res_r1Int (n := 100) (by omega)
    have e3 := res_r1MulV (true, 100000000) (divV (x.2.vals.getD (i + 1) (false, 0)) s)
    unfold shareV at ih
    generalize divV (x.2.vals.getD (i + 1) (false, 0)) s = w at *
    generalize mulV (true, 100000000) w = u at *
    rw [W_loop (L := r22_parts_l1) rfl]
    rw [hN]
    simp (disch := first | assumption | omega | decide | (simp only [List.length_cons, List.length_nil, List.length_append, List.length_replicate, List.length_map, List.length_set, List.length_take, List.length_drop, strs_len, ints_len, bools_len, aggs_len, vpv_len]; done) | (simp only [List.length_cons, List.length_nil, List.length_append, List.length_replicate, List.length_map, List.length_set, List.length_take, List.length_drop, strs_len, ints_len, bools_len, aggs_len, vpv_len]; omega)) only [go_sem, hx, serC, hml, valP, ea, es, e1, e2, e3]
    refine ih _ _ ?_
    simp (disch := first | assumption | omega | decide | (simp only [List.length_cons, List.length_nil, List.length_append, List.length_replicate, List.length_map, List.length_set, List.length_take, List.length_drop, strs_len, ints_len, bools_len, aggs_len, vpv_len]; done) | (simp only [List.length_cons, List.length_nil, List.length_append, List.length_replicate, List.length_map, List.length_set, List.length_take, List.length_drop, strs_len, ints_len, bools_len, aggs_len, vpv_len]; omega)) only [go_sem]
    rfl
set_option maxRecDepth 10000 in
theorem parts_l1_first {K k5 : SK} (l : List (SK × Ser)) (k c : Nat) (lab : List UInt8) (a b : Int) (m : List (SK × Ser)) (hm : m.length ≤ 1000000) (hk : k < m.length) (n : Nat) (hn : n ≤ 1000000) (hml : (m.getD k noSer).2.vals.length = n) (hi : ∀ i, i < n → ∀ x ∈ m, i < x.2.vals.length) (os : List PV) (Q : Out → Prop)
    (hQ0 : n = 0 → Q (.nrm, [(0, .p (.sl k5 5 (sers l))), (4, .p (.sl K 5 (sers m))), (6, .own 0 c), (7, .p (.int .i64 (k : Int))), (8, .bx 1 0)], [.row false 5 os, serB lab a b (.p (.sl .nil 2 [])) 0]))
    (hQ : n ≠ 0 → Q (.nrm, [(0, .p (.sl k5 5 (sers l))), (4, .p (.sl K 5 (sers m))), (6, .own 0 c), (7, .p (.int .i64 (k : Int))), (8, .bx 1 0)], [.row false 5 os, serB lab a b (.own 2 n) 0, .row false 2 (vpv (valsF (fun i => shareV (colJ m k i) (aggV 2 (knL (atV m i)))) n))])) (env : Env) (H : Heap)
    (hN : norm [0, 4, 6, 7, 8, 9] (some 0) env H = some ([(0, .p (.sl k5 5 (sers l))), (4, .p (.sl K 5 (sers m))), (6, .own 0 c), (7, .p (.int .i64 (k : Int))), (8, .bx 1 0), (9, .p (.int .i64 0))], [.row false 5 os, serB lab a b (.p (.sl .nil 2 [])) 0])) :
    Wp Γ r22_parts_l1 env H (InBlk [0, 4, 6, 7, 8] 2 Q) := by
  by_cases h : n = 0
  · obtain ⟨x, hx⟩ : ∃ x, m.getD k noSer = x := ⟨_, rfl⟩
    rw [hx, h] at hml
    rw [W_loop (L := r22_parts_l1) rfl]
    rw [hN]
    simp (disch := first | assumption | omega | decide | (simp only [List.length_cons, List.length_nil, List.length_append, List.length_replicate, List.length_map, List.length_set, List.length_take, List.length_drop, strs_len, ints_len, bools_len, aggs_len, vpv_len]; done) | (simp only [List.length_cons, List.length_nil, List.length_append, List.length_replicate, List.length_map, List.length_set, List.length_take, List.length_drop, strs_len, ints_len, bools_len, aggs_len, vpv_len]; omega)) only [go_sem, hx, serC, hml]
    exact hQ0 h
  · have L := parts_l1_ok (K := K) (k5 := k5) l k c lab a b m hm hk n hn hml hi os Q (hQ h) (n - 1) 0
    have ev : valsF (fun i => shareV (colJ m k i) (aggV 2 (knL (atV m i)))) 1 = [shareV (colJ m k 0) (aggV 2 (knL (atV m 0)))] := rfl
    have h0 := hi 0 (by omega) _ (ser_mem hk)
    rw [Nat.zero_add, ev] at L
    unfold colJ at L
    obtain ⟨x, hx⟩ : ∃ x, m.getD k noSer = x := ⟨_, rfl⟩
    rw [hx] at h0 hml
    simp only [hx] at L
    have ea : res Γ 235 [.sl K 5 (sers m), .int .i64 0] = some [.sl .any 2 (vpv (atV m 0))] := res_atJ (kk := K) m hm 0 (hi 0 (by omega)) (by omega)
    have es := res_r6Of (kk := .any) 2 (.inl rfl) (atV m 0) (by rw [atV_len]; omega)
    rw [aggV_knL] at L
    clear hQ hQ0
    generalize aggV 2 (atV m 0) = s at *
    generalize vpv (atV m 0) = A at *
    have e1 := res_r1DivV (x.2.vals.getD 0 (false, 0)) s
    have e2 : res Γ 129 [.int .i64 100] = some [.agg [.bool true, .int .i64 100000000]] := res_r1Int (n := 100) (by omega)
    have e3 := res_r1MulV (true, 100000000) (divV (x.2.vals.getD 0 (false, 0)) s)
    unfold shareV at L
    generalize divV (x.2.vals.getD 0 (false, 0)) s = w at *
    generalize mulV (true, 100000000) w = u at *
    rw [W_loop (L := r22_parts_l1) rfl]
    rw [hN]
    simp (disch := first | assumption | omega | decide | (simp only [List.length_cons, List.length_nil, List.length_append, List.length_replicate, List.length_map, List.length_set, List.length_take, List.length_drop, strs_len, ints_len, bools_len, aggs_len, vpv_len]; done) | (simp only [List.length_cons, List.length_nil, List.length_append, List.length_replicate, List.length_map, List.length_set, List.length_take, List.length_drop, strs_len, ints_len, bools_len, aggs_len, vpv_len]; omega)) only [go_sem, hx, serC, hml, valP, ea, es, e1, e2, e3]
    refine L _ _ (by omega) ?_
    simp (disch := first | assumption | omega | decide | (simp only [List.length_cons, List.length_nil, List.length_append, List.length_replicate, List.length_map, List.length_set, List.length_take, List.length_drop, strs_len, ints_len, bools_len, aggs_len, vpv_len]; done) | (simp only [List.length_cons, List.length_nil, List.length_append, List.length_replicate, List.length_map, List.length_set, List.length_take, List.length_drop, strs_len, ints_len, bools_len, aggs_len, vpv_len]; omega)) only [go_sem]
    rfl
set_option maxRecDepth 10000 in
theorem parts_l2_ok {k5 : SK} (l : List (SK × Ser)) (hl : l.length ≤ 1000000) (hn : ∀ x ∈ l, x.2.name.length ≤ 4096) (a : Int) (st n : Nat) (hn1 : n ≤ 131072) (Q : Out → Prop)
    (hQ : Q (.nrm, [(6, .own 0 l.length)], [.row false 5 (sers (shareL pPer l a st (fun k i => shareV (colJ (joinW l a st n) k i) (aggV 2 (knL (atV (joinW l a st n) i)))) n l.length))])) : ∀ (j k : Nat) (env : Env) (H : Heap), k + j = l.length →
    norm [0, 4, 6, 7] (some 0) env H = some ([(0, .p (.sl k5 5 (sers l))), (4, .p (.sl .any 5 (sers (joinW l a st n)))), (6, .own 0 k), (7, .p (.int .i64 (k : Int)))], [.row false 5 (sers (shareL pPer l a st (fun k i => shareV (colJ (joinW l a st n) k i) (aggV 2 (knL (atV (joinW l a st n) i)))) n k))]) →
    Wp Γ r22_parts_l2 env H (InBlk [6] 0 Q) := by
  have hjl := @joinW_len l a st n
  intro j
  induction j with
  | zero =>
    intro k env H hj hN
    obtain rfl : k = l.length := by omega
    rw [W_loop (L := r22_parts_l2) rfl]
    rw [hN]
    simp (disch := first | assumption | omega | decide | (simp only [List.length_cons, List.length_nil, List.length_append, List.length_replicate, List.length_map, List.length_set, List.length_take, List.length_drop, strs_len, ints_len, bools_len, aggs_len, vpv_len]; done) | (simp only [List.length_cons, List.length_nil, List.length_append, List.length_replicate, List.length_map, List.length_set, List.length_take, List.length_drop, strs_len, ints_len, bools_len, aggs_len, vpv_len]; omega)) only [go_sem]
    exact hQ
  | succ j ih =>
    intro k env H hj hN
    clear hQ
    have hlt : k < l.length := by omega
    have hmem := ser_mem hlt
    have hnx := hn _ hmem
    have ih := fun env H => ih (k + 1) env H (by omega)
    rw [shareL_succ] at ih
    have hlen : (sers (shareL pPer l a st (fun k i => shareV (colJ (joinW l a st n) k i) (aggV 2 (knL (atV (joinW l a st n) i)))) n k)).length = k := by rw [sers_len, shareL_len]
    have hjg := joinW_get (b := a) (st := st) (n := n) hlt
    have hml : ((joinW l a st n).getD k noSer).2.vals.length = n := by rw [hjg]; exact fitV_len
    have L := fun c lab os Q h1 h2 env H hN => parts_l1_first (K := .any) (k5 := k5) l k c lab a (st : Int) (joinW l a st n) (by omega) (by omega) n (by omega) hml (fun i hi => joinW_ok hi) os Q h1 h2 env H hN
    have hv0 : n = 0 → valsF (fun i => shareV (colJ (joinW l a st n) k i) (aggV 2 (knL (atV (joinW l a st n) i)))) n = [] := fun h => by rw [h]; rfl
    have hvl := @valsF_len (fun i => shareV (colJ (joinW l a st n) k i) (aggV 2 (knL (atV (joinW l a st n) i)))) n
    generalize shareL pPer l a st (fun k i => shareV (colJ (joinW l a st n) k i) (aggV 2 (knL (atV (joinW l a st n) i)))) n k = os at *
    generalize valsF (fun i => shareV (colJ (joinW l a st n) k i) (aggV 2 (knL (atV (joinW l a st n) i)))) n = V at *
    generalize joinW l a st n = m at *
    obtain ⟨x, hx⟩ : ∃ x, l.getD k noSer = x := ⟨_, rfl⟩
    rw [hx] at ih hnx hjg
    have eL : res Γ 33 [.str [97, 115, 80, 101, 114, 99, 101, 110, 116], .sl .tight 1 [.str x.2.name]] = some [.str (labelL pPer [x.2.name])] := res_r18LabelL (kk := .tight) pPer [x.2.name] (by decide) (by simp) (by simp [joinB]; omega)
    unfold fitK at ih
    rw [W_loop (L := r22_parts_l2) rfl]
    rw [hN]
    simp (disch := first | assumption | omega | decide | (simp only [List.length_cons, List.length_nil, List.length_append, List.length_replicate, List.length_map, List.length_set, List.length_take, List.length_drop, strs_len, ints_len, bools_len, aggs_len, vpv_len]; done) | (simp only [List.length_cons, List.length_nil, List.length_append, List.length_replicate, List.length_map, List.length_set, List.length_take, List.length_drop, strs_len, ints_len, bools_len, aggs_len, vpv_len]; omega)) only [go_sem, hx, hjg, serC, fitS, eL]
    refine L k (labelL pPer [x.2.name]) (sers os) _ (fun h => ?_) (fun h => ?_) _ _ ?_
    · rw [if_pos h, hv0 h] at ih
      simp (disch := first | assumption | omega | decide | (simp only [List.length_cons, List.length_nil, List.length_append, List.length_replicate, List.length_map, List.length_set, List.length_take, List.length_drop, strs_len, ints_len, bools_len, aggs_len, vpv_len]; done) | (simp only [List.length_cons, List.length_nil, List.length_append, List.length_replicate, List.length_map, List.length_set, List.length_take, List.length_drop, strs_len, ints_len, bools_len, aggs_len, vpv_len]; omega)) only [go_sem]
      refine ih _ _ ?_
      simp (disch := first | assumption | omega | decide | (simp only [List.length_cons, List.length_nil, List.length_append, List.length_replicate, List.length_map, List.length_set, List.length_take, List.length_drop, strs_len, ints_len, bools_len, aggs_len, vpv_len]; done) | (simp only [List.length_cons, List.length_nil, List.length_append, List.length_replicate, List.length_map, List.length_set, List.length_take, List.length_drop, strs_len, ints_len, bools_len, aggs_len, vpv_len]; omega)) only [go_sem]
      rw [← sers_app]
      rfl
    · rw [if_neg h] at ih
      simp (disch := first | assumption | omega | decide | (simp only [List.length_cons, List.length_nil, List.length_append, List.length_replicate, List.length_map, List.length_set, List.length_take, List.length_drop, strs_len, ints_len, bools_len, aggs_len, vpv_len]; done) | (simp only [List.length_cons, List.length_nil, List.length_append, List.length_replicate, List.length_map, List.length_set, List.length_take, List.length_drop, strs_len, ints_len, bools_len, aggs_len, vpv_len]; omega)) only [go_sem]
      refine ih _ _ ?_
      simp (disch := first | assumption | omega | decide | (simp only [List.length_cons, List.length_nil, List.length_append, List.length_replicate, List.length_map, List.length_set, List.length_take, List.length_drop, strs_len, ints_len, bools_len, aggs_len, vpv_len]; done) | (simp only [List.length_cons, List.length_nil, List.length_append, List.length_replicate, List.length_map, List.length_set, List.length_take, List.length_drop, strs_len, ints_len, bools_len, aggs_len, vpv_len]; omega)) only [go_sem]
      rfl
    · simp (disch := first | assumption | omega | decide | (simp only [List.length_cons, List.length_nil, List.length_append, List.length_replicate, List.length_map, List.length_set, List.length_take, List.length_drop, strs_len, ints_len, bools_len, aggs_len, vpv_len]; done) | (simp only [List.length_cons, List.length_nil, List.length_append, List.length_replicate, List.length_map, List.length_set, List.length_take, List.length_drop, strs_len, ints_len, bools_len, aggs_len, vpv_len]; omega)) only [go_sem]
set_option maxRecDepth 10000 in
theorem res_parts {kk : SK} (l : List (SK × Ser)) (hl : l.length ≤ 1000000) (hv : ∀ x ∈ l, x.2.vals.length ≤ 1000000) (hn : ∀ x ∈ l, x.2.name.length ≤ 4096) :
    res Γ 261 [.sl kk 5 (sers l)] = some (sharesR pPer l) := by
  have eJ := res_r18Join (kk := kk) l hl hv
  unfold joinR at eJ
  unfold sharesR
  by_cases he : errJ (sersOf l) = 0
  · rw [if_neg (fun h => h he)]
    rw [if_pos he] at eJ
    by_cases h0 : l = []
    · subst h0
      have eJ : res Γ 231 [.sl kk 5 []] = some [.sl .nil 5 [], .int .i64 0] := eJ
      rw [sers_nil]
      refine res_code (fn := r22_parts) rfl rfl ?_
      simp (disch := first | assumption | omega | decide | (simp only [List.length_cons, List.length_nil, List.length_append, List.length_replicate, List.length_map, List.length_set, List.length_take, List.length_drop, strs_len, ints_len, bools_len, aggs_len, vpv_len]; done) | (simp only [List.length_cons, List.length_nil, List.length_append, List.length_replicate, List.length_map, List.length_set, List.length_take, List.length_drop, strs_len, ints_len, bools_len, aggs_len, vpv_len]; omega)) only [go_sem, r22_parts, eJ, ne_eq, not_true_eq_false]
      rw [W_loop (L := r22_parts_l2) rfl]
      simp (disch := first | assumption | omega | decide | (simp only [List.length_cons, List.length_nil, List.length_append, List.length_replicate, List.length_map, List.length_set, List.length_take, List.length_drop, strs_len, ints_len, bools_len, aggs_len, vpv_len]; done) | (simp only [List.length_cons, List.length_nil, List.length_append, List.length_replicate, List.length_map, List.length_set, List.length_take, List.length_drop, strs_len, ints_len, bools_len, aggs_len, vpv_len]; omega)) only [go_sem]
      rfl
    · rw [if_neg h0, joinJ_eq] at eJ
      have hn1 := nJ_le he h0
      have hb' : begJ (sersOf l) = bJ l := rfl
      have hs' : stepJ (sersOf l) = sJ l := rfl
      have hn' : (manyJ (sersOf l)).toNat = nJ l := rfl
      rw [hb', hs', hn'] at eJ
      have L := fun Q hQ env H hN => parts_l2_ok (k5 := kk) l hl hn (bJ l) (sJ l) (nJ l) hn1 Q hQ l.length 0 env H (by omega) hN
      have hlen : (sers (shareL pPer l (bJ l) (sJ l) (fun k i => shareV (colJ (joinW l (bJ l) (sJ l) (nJ l)) k i) (aggV 2 (knL (atV (joinW l (bJ l) (sJ l) (nJ l)) i)))) (nJ l) l.length)).length = l.length := by rw [sers_len, shareL_len]
      generalize (fun k i => shareV (colJ (joinW l (bJ l) (sJ l) (nJ l)) k i) (aggV 2 (knL (atV (joinW l (bJ l) (sJ l) (nJ l)) i)))) = g at *
      generalize joinW l (bJ l) (sJ l) (nJ l) = m at *
      refine res_code (fn := r22_parts) rfl rfl ?_
      simp (disch := first | assumption | omega | decide | (simp only [List.length_cons, List.length_nil, List.length_append, List.length_replicate, List.length_map, List.length_set, List.length_take, List.length_drop, strs_len, ints_len, bools_len, aggs_len, vpv_len]; done) | (simp only [List.length_cons, List.length_nil, List.length_append, List.length_replicate, List.length_map, List.length_set, List.length_take, List.length_drop, strs_len, ints_len, bools_len, aggs_len, vpv_len]; omega)) only [go_sem, r22_parts, eJ, ne_eq, not_true_eq_false]
      refine L _ ?_ _ _ ?_
      · simp (disch := first | assumption | omega | decide | (simp only [List.length_cons, List.length_nil, List.length_append, List.length_replicate, List.length_map, List.length_set, List.length_take, List.length_drop, strs_len, ints_len, bools_len, aggs_len, vpv_len]; done) | (simp only [List.length_cons, List.length_nil, List.length_append, List.length_replicate, List.length_map, List.length_set, List.length_take, List.length_drop, strs_len, ints_len, bools_len, aggs_len, vpv_len]; omega)) only [go_sem]
      · simp (disch := first | assumption | omega | decide | (simp only [List.length_cons, List.length_nil, List.length_append, List.length_replicate, List.length_map, List.length_set, List.length_take, List.length_drop, strs_len, ints_len, bools_len, aggs_len, vpv_len]; done) | (simp only [List.length_cons, List.length_nil, List.length_append, List.length_replicate, List.length_map, List.length_set, List.length_take, List.length_drop, strs_len, ints_len, bools_len, aggs_len, vpv_len]; omega)) only [go_sem]
        rfl
  · rw [if_pos he]
    rw [if_neg he] at eJ
    refine res_code (fn := r22_parts) rfl rfl ?_
    simp (disch := first | assumption | omega | decide | (simp only [List.length_cons, List.length_nil, List.length_append, List.length_replicate, List.length_map, List.length_set, List.length_take, List.length_drop, strs_len, ints_len, bools_len, aggs_len, vpv_len]; done) | (simp only [List.length_cons, List.length_nil, List.length_append, List.length_replicate, List.length_map, List.length_set, List.length_take, List.length_drop, strs_len, ints_len, bools_len, aggs_len, vpv_len]; omega)) only [go_sem, r22_parts, eJ]
set_option maxRecDepth 10000 in
theorem res_rPair {k1 k2 : SK} (nm : List UInt8) (hnm : nm.length ≤ 1000000) (m l : List (SK × Ser)) (hl : l.length ≤ 1000000) (hm : m.length ≤ 1000000)
    (hv : ∀ x ∈ l, x.2.vals.length ≤ 1000000) (hn : ∀ x ∈ l, x.2.name.length ≤ 4096) (hv' : ∀ x ∈ m, x.2.vals.length ≤ 1000000) (hn' : ∀ x ∈ m, x.2.name.length ≤ 4096) :
    res Γ 232 [.str nm, .sl k1 5 (sers m), .sl k2 5 (sers l)] = some (pairR nm m l) := by
  have hpd : ¬ pPer = pDiv := by decide
  have hlen : (sers (pairL nm (opP nm) m l l.length)).length = l.length := by rw [sers_len, pairL_len]
  have fin : ∀ (t : Int), ((t = 1 ∧ opP nm = divV) ∨ (t = 100 ∧ opP nm = shareV)) → 0 < m.length → (1 < m.length → m.length = l.length) →
      ∀ Q, (fstE (errP m l) 0 l.length = 0 → Q (.nrm, [(9, .own 0 l.length)], [.row false 5 (sers (pairL nm (opP nm) m l l.length))])) →
      (fstE (errP m l) 0 l.length ≠ 0 → ∀ H, Q (.ret, [(6, .p (.sl .nil 5 [])), (7, .p (.int .i64 (fstE (errP m l) 0 l.length)))], H)) →
      Wp Γ r22_Pair_l1 [(0, .p (.str nm)), (1, .p (.sl k1 5 (sers m))), (2, .p (.sl k2 5 (sers l))), (8, .p (.int .i64 t)), (9, .own 0 0), (10, .p (.int .i64 0))] [.row false 5 []] (InBlk [9] 1 Q) :=
    fun t ht h0 h1 Q q1 q2 => rPair_l1_ok ht nm hnm m l hl hm h0 h1 hv hn hv' hn' Q q1 q2 l.length 0 _ _ (by omega) rfl (by simp (disch := first | assumption | omega | decide | (simp only [List.length_cons, List.length_nil, List.length_append, List.length_replicate, List.length_map, List.length_set, List.length_take, List.length_drop, strs_len, ints_len, bools_len, aggs_len, vpv_len]; done) | (simp only [List.length_cons, List.length_nil, List.length_append, List.length_replicate, List.length_map, List.length_set, List.length_take, List.length_drop, strs_len, ints_len, bools_len, aggs_len, vpv_len]; omega)) only [go_sem]; rfl)
  unfold pairR
  by_cases c1 : nm = pPer
  · rw [if_neg (fun h => h.2 c1)]
    have hop : opP nm = shareV := by unfold opP; rw [if_pos c1]
    have fin := fin 100 (.inr ⟨rfl, hop⟩)
    have c2 : ¬ nm = pDiv := by rw [c1]; exact hpd
    clear hop
    by_cases c3 : m = []
    · rw [if_pos ⟨c1, c3⟩]
      have e := res_parts (kk := k2) l hl hv hn
      rw [c1]
      have hs : ∃ a b, sharesR pPer l = [a, b] := by
        unfold sharesR
        split
        · exact ⟨_, _, rfl⟩
        · exact ⟨_, _, rfl⟩
      obtain ⟨a, b, hab⟩ := hs
      rw [hab] at e ⊢
      clear fin c2 hab hlen
      subst c3 c1
      unfold pPer at *
      refine res_code (fn := r22_Pair) rfl rfl ?_
      simp (disch := first | assumption | omega | decide | (simp only [List.length_cons, List.length_nil, List.length_append, List.length_replicate, List.length_map, List.length_set, List.length_take, List.length_drop, strs_len, ints_len, bools_len, aggs_len, vpv_len]; done) | (simp only [List.length_cons, List.length_nil, List.length_append, List.length_replicate, List.length_map, List.length_set, List.length_take, List.length_drop, strs_len, ints_len, bools_len, aggs_len, vpv_len]; omega)) only [go_sem, r22_Pair, e]
    · rw [if_neg (fun h => c3 h.2)]
      have hpos : 0 < m.length := List.length_pos_iff.2 c3
      by_cases c4 : m.length = 1
      · rw [if_neg (fun h => h.1 c4)]
        have fin := fin hpos (by omega)
        subst c1
        generalize opP pPer = g at *
        unfold pPer at *
        by_cases hE : fstE (errP m l) 0 l.length = 0
        · rw [if_neg (fun h => h hE)]
          refine res_code (fn := r22_Pair) rfl rfl ?_
          simp (disch := first | assumption | omega | decide | (simp only [List.length_cons, List.length_nil, List.length_append, List.length_replicate, List.length_map, List.length_set, List.length_take, List.length_drop, strs_len, ints_len, bools_len, aggs_len, vpv_len]; done) | (simp only [List.length_cons, List.length_nil, List.length_append, List.length_replicate, List.length_map, List.length_set, List.length_take, List.length_drop, strs_len, ints_len, bools_len, aggs_len, vpv_len]; omega)) only [go_sem, r22_Pair, c4]
          refine fin _ (fun _ => ?_) (fun h => absurd hE h)
          simp (disch := first | assumption | omega | decide | (simp only [List.length_cons, List.length_nil, List.length_append, List.length_replicate, List.length_map, List.length_set, List.length_take, List.length_drop, strs_len, ints_len, bools_len, aggs_len, vpv_len]; done) | (simp only [List.length_cons, List.length_nil, List.length_append, List.length_replicate, List.length_map, List.length_set, List.length_take, List.length_drop, strs_len, ints_len, bools_len, aggs_len, vpv_len]; omega)) only [go_sem]
        · rw [if_pos hE]
          refine res_code (fn := r22_Pair) rfl rfl ?_
          simp (disch := first | assumption | omega | decide | (simp only [List.length_cons, List.length_nil, List.length_append, List.length_replicate, List.length_map, List.length_set, List.length_take, List.length_drop, strs_len, ints_len, bools_len, aggs_len, vpv_len]; done) | (simp only [List.length_cons, List.length_nil, List.length_append, List.length_replicate, List.length_map, List.length_set, List.length_take, List.length_drop, strs_len, ints_len, bools_len, aggs_len, vpv_len]; omega)) only [go_sem, r22_Pair, c4]
          refine fin _ (fun h => absurd h hE) (fun _ H => ?_)
          simp (disch := first | assumption | omega | decide | (simp only [List.length_cons, List.length_nil, List.length_append, List.length_replicate, List.length_map, List.length_set, List.length_take, List.length_drop, strs_len, ints_len, bools_len, aggs_len, vpv_len]; done) | (simp only [List.length_cons, List.length_nil, List.length_append, List.length_replicate, List.length_map, List.length_set, List.length_take, List.length_drop, strs_len, ints_len, bools_len, aggs_len, vpv_len]; omega)) only [go_sem]
      · by_cases c5 : m.length = l.length
        · rw [if_neg (fun h => h.2.elim c2 (fun h => h c5))]
          have fin := fin hpos (fun _ => c5)
          subst c1
          generalize opP pPer = g at *
          unfold pPer at *
          by_cases hE : fstE (errP m l) 0 l.length = 0
          · rw [if_neg (fun h => h hE)]
            refine res_code (fn := r22_Pair) rfl rfl ?_
            simp (disch := first | assumption | omega | decide | (simp only [List.length_cons, List.length_nil, List.length_append, List.length_replicate, List.length_map, List.length_set, List.length_take, List.length_drop, strs_len, ints_len, bools_len, aggs_len, vpv_len]; done) | (simp only [List.length_cons, List.length_nil, List.length_append, List.length_replicate, List.length_map, List.length_set, List.length_take, List.length_drop, strs_len, ints_len, bools_len, aggs_len, vpv_len]; omega)) only [go_sem, r22_Pair]
            refine fin _ (fun _ => ?_) (fun h => absurd hE h)
            simp (disch := first | assumption | omega | decide | (simp only [List.length_cons, List.length_nil, List.length_append, List.length_replicate, List.length_map, List.length_set, List.length_take, List.length_drop, strs_len, ints_len, bools_len, aggs_len, vpv_len]; done) | (simp only [List.length_cons, List.length_nil, List.length_append, List.length_replicate, List.length_map, List.length_set, List.length_take, List.length_drop, strs_len, ints_len, bools_len, aggs_len, vpv_len]; omega)) only [go_sem]
          · rw [if_pos hE]
            refine res_code (fn := r22_Pair) rfl rfl ?_
            simp (disch := first | assumption | omega | decide | (simp only [List.length_cons, List.length_nil, List.length_append, List.length_replicate, List.length_map, List.length_set, List.length_take, List.length_drop, strs_len, ints_len, bools_len, aggs_len, vpv_len]; done) | (simp only [List.length_cons, List.length_nil, List.length_append, List.length_replicate, List.length_map, List.length_set, List.length_take, List.length_drop, strs_len, ints_len, bools_len, aggs_len, vpv_len]; omega)) only [go_sem, r22_Pair]
            refine fin _ (fun h => absurd h hE) (fun _ H => ?_)
            simp (disch := first | assumption | omega | decide | (simp only [List.length_cons, List.length_nil, List.length_append, List.length_replicate, List.length_map, List.length_set, List.length_take, List.length_drop, strs_len, ints_len, bools_len, aggs_len, vpv_len]; done) | (simp only [List.length_cons, List.length_nil, List.length_append, List.length_replicate, List.length_map, List.length_set, List.length_take, List.length_drop, strs_len, ints_len, bools_len, aggs_len, vpv_len]; omega)) only [go_sem]
        · rw [if_pos ⟨c4, .inr c5⟩]
          clear fin c2
          subst c1
          unfold pPer at *
          refine res_code (fn := r22_Pair) rfl rfl ?_
          simp (disch := first | assumption | omega | decide | (simp only [List.length_cons, List.length_nil, List.length_append, List.length_replicate, List.length_map, List.length_set, List.length_take, List.length_drop, strs_len, ints_len, bools_len, aggs_len, vpv_len]; done) | (simp only [List.length_cons, List.length_nil, List.length_append, List.length_replicate, List.length_map, List.length_set, List.length_take, List.length_drop, strs_len, ints_len, bools_len, aggs_len, vpv_len]; omega)) only [go_sem, r22_Pair]
  · by_cases c2 : nm = pDiv
    · rw [if_neg (fun h => h.1 c2), if_neg (fun h => c1 h.1)]
      have hop : opP nm = divV := by unfold opP; rw [if_neg c1]
      have fin := fin 1 (.inl ⟨rfl, hop⟩)
      clear hop c1
      by_cases c4 : m.length = 1
      · rw [if_neg (fun h => h.1 c4)]
        have fin := fin (by omega) (by omega)
        subst c2
        generalize opP pDiv = g at *
        unfold pDiv at *
        by_cases hE : fstE (errP m l) 0 l.length = 0
        · rw [if_neg (fun h => h hE)]
          refine res_code (fn := r22_Pair) rfl rfl ?_
          simp (disch := first | assumption | omega | decide | (simp only [List.length_cons, List.length_nil, List.length_append, List.length_replicate, List.length_map, List.length_set, List.length_take, List.length_drop, strs_len, ints_len, bools_len, aggs_len, vpv_len]; done) | (simp only [List.length_cons, List.length_nil, List.length_append, List.length_replicate, List.length_map, List.length_set, List.length_take, List.length_drop, strs_len, ints_len, bools_len, aggs_len, vpv_len]; omega)) only [go_sem, r22_Pair, c4, ne_eq, not_true_eq_false]
          refine fin _ (fun _ => ?_) (fun h => absurd hE h)
          simp (disch := first | assumption | omega | decide | (simp only [List.length_cons, List.length_nil, List.length_append, List.length_replicate, List.length_map, List.length_set, List.length_take, List.length_drop, strs_len, ints_len, bools_len, aggs_len, vpv_len]; done) | (simp only [List.length_cons, List.length_nil, List.length_append, List.length_replicate, List.length_map, List.length_set, List.length_take, List.length_drop, strs_len, ints_len, bools_len, aggs_len, vpv_len]; omega)) only [go_sem]
        · rw [if_pos hE]
          refine res_code (fn := r22_Pair) rfl rfl ?_
          simp (disch := first | assumption | omega | decide | (simp only [List.length_cons, List.length_nil, List.length_append, List.length_replicate, List.length_map, List.length_set, List.length_take, List.length_drop, strs_len, ints_len, bools_len, aggs_len, vpv_len]; done) | (simp only [List.length_cons, List.length_nil, List.length_append, List.length_replicate, List.length_map, List.length_set, List.length_take, List.length_drop, strs_len, ints_len, bools_len, aggs_len, vpv_len]; omega)) only [go_sem, r22_Pair, c4, ne_eq, not_true_eq_false]
          refine fin _ (fun h => absurd h hE) (fun _ H => ?_)
          simp (disch := first | assumption | omega | decide | (simp only [List.length_cons, List.length_nil, List.length_append, List.length_replicate, List.length_map, List.length_set, List.length_take, List.length_drop, strs_len, ints_len, bools_len, aggs_len, vpv_len]; done) | (simp only [List.length_cons, List.length_nil, List.length_append, List.length_replicate, List.length_map, List.length_set, List.length_take, List.length_drop, strs_len, ints_len, bools_len, aggs_len, vpv_len]; omega)) only [go_sem]
      · rw [if_pos ⟨c4, .inl c2⟩]
        clear fin
        subst c2
        unfold pDiv at *
        refine res_code (fn := r22_Pair) rfl rfl ?_
        simp (disch := first | assumption | omega | decide | (simp only [List.length_cons, List.length_nil, List.length_append, List.length_replicate, List.length_map, List.length_set, List.length_take, List.length_drop, strs_len, ints_len, bools_len, aggs_len, vpv_len]; done) | (simp only [List.length_cons, List.length_nil, List.length_append, List.length_replicate, List.length_map, List.length_set, List.length_take, List.length_drop, strs_len, ints_len, bools_len, aggs_len, vpv_len]; omega)) only [go_sem, r22_Pair, ne_eq, not_true_eq_false]
    · rw [if_pos ⟨c2, c1⟩]
      clear fin
      unfold pDiv at c2
      unfold pPer at c1
      refine res_code (fn := r22_Pair) rfl rfl ?_
      simp (disch := first | assumption | omega | decide | (simp only [List.length_cons, List.length_nil, List.length_append, List.length_replicate, List.length_map, List.length_set, List.length_take, List.length_drop, strs_len, ints_len, bools_len, aggs_len, vpv_len]; done) | (simp only [List.length_cons, List.length_nil, List.length_append, List.length_replicate, List.length_map, List.length_set, List.length_take, List.length_drop, strs_len, ints_len, bools_len, aggs_len, vpv_len]; omega)) only [go_sem, r22_Pair]
end Ab
namespace Ab
theorem known_ev22 : ∃ n r, callOf Γ (ev Γ n) 216 ((List.map .p ([] : List PV))) [] = some r ∧ mapO (reify r.2 4) r.1 = some [.bool true] := ⟨400, ([.p (.bool true)], (callOf Γ (ev Γ 400) 216 [] []).elim [] (·.2)), by kernel_rfl, by kernel_rfl⟩
theorem res_known22 : res Γ 216 [] = some [.bool true] := res_of known_ev22
end Ab
