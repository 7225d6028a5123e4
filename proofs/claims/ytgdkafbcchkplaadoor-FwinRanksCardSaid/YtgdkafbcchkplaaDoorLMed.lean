import Derived.Test.YtgdkafbcchkplaaDoorLBuck
import Derived.Test.YtgdkafbcchkplaaDoorLDiv2
import Derived.Test.YtgdkafbcchkplaaDoorLKnown21
import Derived.Test.YtgdkafbcchkplaaDoorAbRel
import Derived.Test.YtgdkafbcchkplaaDoorPSer
/- fwin.Buckets. -/
namespace Ab
open Go (IntKind BinOp UnOp)
def nmS : List UInt8 := [115, 117, 109, 109, 97, 114, 105, 122, 101]
def nmH : List UInt8 := [104, 105, 116, 99, 111, 117, 110, 116]
def alignI (t iv : Int) : Int := t - t % iv
/-- How many intervals there are. -/
def nB (s : Ser) (iv : Int) : Nat := if s.vals = [] then 0 else ((s.start + s.vals.length * s.step - s.step - alignI s.start iv) / iv + 1).toNat
def buckX (nm : List UInt8) (s : Ser) (kind : Int) : Ser := if nm = nmH then ⟨s.name, s.start, s.step, s.vals.map (hitV s.step), 2⟩ else ⟨s.name, s.start, s.step, s.vals, kind⟩
def buckT (nm : List UInt8) (s : Ser) (iv kind : Int) : List (List UInt8) := if nm = nmH then [s.name, decB iv.toNat] else [s.name, decB iv.toNat, aggName kind]
def buckS (nm : List UInt8) (s : Ser) (iv kind : Int) : Ser := ⟨labelL nm (buckT nm s iv kind), alignI s.start iv, iv, fitV (buckX nm s kind) (alignI s.start iv) iv (nB s iv), s.cons⟩
def buckOk (nm : List UInt8) (s : Ser) (iv kind : Int) : Prop := isS s = true ∧ 1 ≤ iv ∧ iv ≤ 16777216 ∧ ((nm = nmS ∧ 1 ≤ kind ∧ kind ≤ 5) ∨ nm = nmH) ∧ nB s iv ≤ 131072
theorem hitV_isV (step : Int) (v : Val) : isV (hitV step v) = true := by
  unfold hitV
  split
  · cases mdV v.2 step 1 with
    | none => rfl
    | some q => exact ofV_isV q
  · rfl
theorem buckX_is {nm : List UInt8} {s : Ser} {kind : Int} (hs : isS s = true) (hk : nm = nmH ∨ (1 ≤ kind ∧ kind ≤ 5)) : isS (buckX nm s kind) = true := by
  have hz := isS_size hs
  rw [isS_yes hz] at hs
  unfold sizeS at hz
  unfold buckX
  by_cases h : nm = nmH
  · rw [if_pos h]
    rw [isS_yes]
    · simp only [List.all_map, List.all_eq_true, Function.comp_apply]
      exact fun v _ => hitV_isV _ v
    · unfold sizeS
      simp only [List.length_map]
      omega
  · rw [if_neg h]
    have hk := hk.resolve_left h
    rw [isS_yes]
    · exact hs
    · unfold sizeS
      simp only
      omega
theorem align_le {t iv : Int} (h : 0 ≤ t) (h1 : 1 ≤ iv) : 0 ≤ alignI t iv ∧ alignI t iv ≤ t := by
  unfold alignI
  have h2 := Int.emod_nonneg t (show iv ≠ 0 by omega)
  have h3 : t % iv ≤ t := by
    have h4 := Int.ediv_nonneg h (show 0 ≤ iv by omega)
    have h5 := Int.mul_ediv_add_emod t iv
    have h6 : 0 ≤ iv * (t / iv) := Int.mul_nonneg (by omega) h4
    omega
  omega
theorem isS_bound {s : Ser} (h : isS s = true) : ∀ v ∈ s.vals, -9223372036854775808 ≤ v.2 ∧ v.2 ≤ 9223372036854775807 := by
  intro v hv
  rw [isS_yes (isS_size h), List.all_eq_true] at h
  have h := h v hv
  unfold isV maxN at h
  split at h
  · simp only [decide_eq_true_eq] at h; omega
  · simp only [decide_eq_true_eq] at h; omega
theorem res_slotAlign {t iv : Int} (h : 0 ≤ t ∧ t ≤ 4294967295) (h1 : 1 ≤ iv ∧ iv ≤ 16777216) : res Γ 160 [.int .i64 t, .int .i64 iv] = some [.int .i64 (alignI t iv)] := by
  have a := align_le h.1 h1.1
  unfold alignI at a ⊢
  refine res_code (fn := slot_Align) rfl rfl ?_
  simp (disch := first | assumption | omega | decide | (simp only [List.length_cons, List.length_nil, List.length_append, List.length_replicate, List.length_map, List.length_set, List.length_take, List.length_drop, strs_len, ints_len, bools_len, aggs_len, vpv_len]; done) | (simp only [List.length_cons, List.length_nil, List.length_append, List.length_replicate, List.length_map, List.length_set, List.length_take, List.length_drop, strs_len, ints_len, bools_len, aggs_len, vpv_len]; omega)) only [go_sem, slot_Align]
theorem res_seriesEnd {kk : SK} (s : Ser) (hs : isS s = true) (hl : s.vals.length ≤ 9223372036854775807) : res Γ 159 [s.pv kk] = some [.int .i64 (endS s)] := by
  have e := res_seriesIs (kk := kk) s hl
  have hz := isS_size hs
  unfold sizeS at hz
  have b := mulb (i := s.vals.length) (step := s.step) (by omega) (by omega) (by omega)
  unfold Ser.pv at e ⊢
  refine res_code (fn := series_End) rfl rfl ?_
  simp (disch := first | assumption | omega | decide | (simp only [List.length_cons, List.length_nil, List.length_append, List.length_replicate, List.length_map, List.length_set, List.length_take, List.length_drop, strs_len, ints_len, bools_len, aggs_len, vpv_len]; done) | (simp only [List.length_cons, List.length_nil, List.length_append, List.length_replicate, List.length_map, List.length_set, List.length_take, List.length_drop, strs_len, ints_len, bools_len, aggs_len, vpv_len]; omega)) only [go_sem, series_End, e, hs, endS]
theorem nB_cast {s : Ser} {iv : Int} (hs : isS s = true) (h1 : 1 ≤ iv) (hne : s.vals ≠ []) :
    0 ≤ s.start + s.vals.length * s.step - s.step - alignI s.start iv ∧ s.start + s.vals.length * s.step - s.step - alignI s.start iv ≤ 144115192370823167 ∧
    (s.start + s.vals.length * s.step - s.step - alignI s.start iv) / iv + 1 = (nB s iv : Int) := by
  have hz := isS_size hs
  unfold sizeS at hz
  have a := align_le (t := s.start) (by omega) h1
  have b := mulb (i := s.vals.length) (step := s.step) (by omega) (by omega) (by omega)
  have hp : 1 ≤ s.vals.length := List.length_pos_iff.2 hne
  have c : s.step ≤ s.vals.length * s.step := by
    have := Int.mul_le_mul_of_nonneg_right (show (1 : Int) ≤ s.vals.length by omega) (show 0 ≤ s.step by omega)
    omega
  have d : 0 ≤ s.start + s.vals.length * s.step - s.step - alignI s.start iv := by omega
  refine ⟨d, by omega, ?_⟩
  have := Int.ediv_nonneg d (show 0 ≤ iv by omega)
  unfold nB
  rw [if_neg hne]
  omega
theorem label_len {nm : List UInt8} {s : Ser} {iv kind : Int} (hs : isS s = true) (h1 : 1 ≤ iv ∧ iv ≤ 16777216) : (joinB [44] [s.name, decB iv.toNat, aggName kind]).length ≤ 1000000000 ∧ (joinB [44] [s.name, decB iv.toNat]).length ≤ 1000000000 := by
  have hz := isS_size hs
  unfold sizeS at hz
  have d := decB_len 7 iv.toNat (by omega)
  have a : (aggName kind).length ≤ 7 := by
    by_cases hk : 1 ≤ kind ∧ kind ≤ 5
    · exact (aggName_yes hk).2
    · rw [aggName_no hk]; simp
  simp only [joinB, List.length_append, List.length_cons, List.length_nil]
  omega
theorem strs_three (a b c : List UInt8) : ([.str a, .str b, .str c] : List PV) = strs [a, b, c] := rfl
theorem strs_two (a b : List UInt8) : ([.str a, .str b] : List PV) = strs [a, b] := rfl
theorem nB_nil {s : Ser} {iv : Int} (h : s.vals = []) : nB s iv = 0 := by unfold nB; rw [if_pos h]
section
variable {kk : SK} (s : Ser) (iv kind : Int) (hs : isS s = true) (h1 : 1 ≤ iv ∧ iv ≤ 16777216)
include hs h1
/-- What the code computes as the number of intervals. -/
theorem fB_sum (hk : 1 ≤ kind ∧ kind ≤ 5) : (nB s iv ≤ 131072 → res Γ 157 [.str nmS, s.pv kk, .int .i64 iv, .int .i64 kind] = some [(buckS nmS s iv kind).pv (fitK (nB s iv)), .bool true]) ∧
    (¬ nB s iv ≤ 131072 → res Γ 157 [.str nmS, s.pv kk, .int .i64 iv, .int .i64 kind] = some [noneS.pv .nil, .bool false]) := by
  have hz := isS_size hs
  unfold sizeS at hz
  have e := res_seriesIs (kk := kk) s (by omega)
  have d := res_decDigits iv.toNat (by omega)
  rw [Int.toNat_of_nonneg (by omega)] at d
  have ea := res_slotAlign (t := s.start) (iv := iv) (by omega) (by omega)
  have al := align_le (t := s.start) (iv := iv) (by omega) (by omega)
  have ee := res_seriesEnd (kk := kk) s hs (by omega)
  have hk2 := (aggName_yes hk).1
  have hx := buckX_is (nm := nmS) (s := s) (kind := kind) hs (.inr hk)
  have elb : res Γ 30 [.str nmS, .sl .any 1 [.str s.name, .str (decB iv.toNat), .str (aggName kind)]] = some [.str (labelL nmS [s.name, decB iv.toNat, aggName kind])] := by
    rw [strs_three]
    exact res_seriesLabelL nmS _ (by decide) (by simp) (label_len (nm := nmS) (kind := kind) hs h1).1
  have hb : buckX nmS s kind = ⟨s.name, s.start, s.step, s.vals, kind⟩ := by unfold buckX; rw [if_neg (by decide)]
  have ht : buckT nmS s iv kind = [s.name, decB iv.toNat, aggName kind] := by unfold buckT; rw [if_neg (by decide)]
  have hS : buckS nmS s iv kind = ⟨labelL nmS [s.name, decB iv.toNat, aggName kind], alignI s.start iv, iv, fitV ⟨s.name, s.start, s.step, s.vals, kind⟩ (alignI s.start iv) iv (nB s iv), s.cons⟩ := by unfold buckS; rw [hb, ht]
  rw [hb] at hx
  by_cases hne : s.vals = []
  · have hn := nB_nil (iv := iv) hne
    have hl0 : s.vals.length = 0 := by rw [hne]; rfl
    have ef : res Γ 158 [(Ser.mk s.name s.start s.step s.vals kind).pv kk, .int .i64 (alignI s.start iv), .int .i64 iv, .int .i64 0] = _ := res_seriesFit (kk := kk) _ hx (alignI s.start iv) iv (by omega) (by omega) (by omega) (by omega) 0 (by omega)
    refine ⟨fun _ => ?_, fun h => absurd h (by omega)⟩
    rw [hS, hn]
    unfold Ser.pv at e ee ef ⊢
    unfold nmS at elb ⊢
    refine res_code (fn := fwin_Buckets) rfl rfl ?_
    simp (disch := first | assumption | omega | decide | (simp only [List.length_cons, List.length_nil, List.length_append, List.length_replicate, List.length_map, List.length_set, List.length_take, List.length_drop, strs_len, ints_len, bools_len, aggs_len, vpv_len]; done) | (simp only [List.length_cons, List.length_nil, List.length_append, List.length_replicate, List.length_map, List.length_set, List.length_take, List.length_drop, strs_len, ints_len, bools_len, aggs_len, vpv_len]; omega)) only [go_sem, fwin_Buckets, e, hs, d, hk2, ea, ef, elb, fitS]
    try rfl
  · obtain ⟨n0, n1, n2⟩ := nB_cast (iv := iv) hs (by omega) hne
    have hpos : 0 < s.vals.length := List.length_pos_iff.2 hne
    unfold endS at ee
    have q0 := Int.ediv_nonneg n0 (show 0 ≤ iv by omega)
    have q1 := Int.ediv_le_self iv n0
    have m0 := map_quo (k := .i64) (a := s.start + s.vals.length * s.step - s.step - alignI s.start iv) (b := iv) n0 (by omega) (wrap_i64 (by omega) (by omega))
    have mb := mulb (i := s.vals.length) (step := s.step) (by omega) (by omega) (by omega)
    refine ⟨fun hn => ?_, fun hn => ?_⟩
    · have ef : res Γ 158 [(Ser.mk s.name s.start s.step s.vals kind).pv kk, .int .i64 (alignI s.start iv), .int .i64 iv, .int .i64 ((nB s iv : Nat) : Int)] = _ := res_seriesFit (kk := kk) _ hx (alignI s.start iv) iv (by omega) (by omega) (by omega) (by omega) (nB s iv) hn
      rw [hS]
      unfold Ser.pv at e ee ef ⊢
      unfold nmS at elb ⊢
      refine res_code (fn := fwin_Buckets) rfl rfl ?_
      simp (disch := first | assumption | omega | decide | (simp only [List.length_cons, List.length_nil, List.length_append, List.length_replicate, List.length_map, List.length_set, List.length_take, List.length_drop, strs_len, ints_len, bools_len, aggs_len, vpv_len]; done) | (simp only [List.length_cons, List.length_nil, List.length_append, List.length_replicate, List.length_map, List.length_set, List.length_take, List.length_drop, strs_len, ints_len, bools_len, aggs_len, vpv_len]; omega)) only [go_sem, fwin_Buckets, e, hs, d, hk2, ea, ee, m0, n2, ef, elb, fitS]
      try rfl
    · unfold Ser.pv at e ee ⊢
      unfold noneS nmS
      refine res_code (fn := fwin_Buckets) rfl rfl ?_
      simp (disch := first | assumption | omega | decide | (simp only [List.length_cons, List.length_nil, List.length_append, List.length_replicate, List.length_map, List.length_set, List.length_take, List.length_drop, strs_len, ints_len, bools_len, aggs_len, vpv_len]; done) | (simp only [List.length_cons, List.length_nil, List.length_append, List.length_replicate, List.length_map, List.length_set, List.length_take, List.length_drop, strs_len, ints_len, bools_len, aggs_len, vpv_len]; omega)) only [go_sem, fwin_Buckets, e, hs, d, hk2, ea, ee, m0, n2]
theorem fB_hit : (nB s iv ≤ 131072 → res Γ 157 [.str nmH, s.pv kk, .int .i64 iv, .int .i64 kind] = some [(buckS nmH s iv kind).pv (fitK (nB s iv)), .bool true]) ∧
    (¬ nB s iv ≤ 131072 → res Γ 157 [.str nmH, s.pv kk, .int .i64 iv, .int .i64 kind] = some [noneS.pv .nil, .bool false]) := by
  have hz := isS_size hs
  unfold sizeS at hz
  have e := res_seriesIs (kk := kk) s (by omega)
  have d := res_decDigits iv.toNat (by omega)
  rw [Int.toNat_of_nonneg (by omega)] at d
  have ea := res_slotAlign (t := s.start) (iv := iv) (by omega) (by omega)
  have al := align_le (t := s.start) (iv := iv) (by omega) (by omega)
  have ee := res_seriesEnd (kk := kk) s hs (by omega)
  have eh := res_hits (kk := kk) s (isS_size hs) (isS_bound hs)
  have hx := buckX_is (nm := nmH) (s := s) (kind := kind) hs (.inl rfl)
  have elb : res Γ 30 [.str nmH, .sl .tight 1 [.str s.name, .str (decB iv.toNat)]] = some [.str (labelL nmH [s.name, decB iv.toNat])] := by
    rw [strs_two]
    exact res_seriesLabelL nmH _ (by decide) (by simp) (label_len (nm := nmH) (kind := kind) hs h1).2
  have hb : buckX nmH s kind = ⟨s.name, s.start, s.step, s.vals.map (hitV s.step), 2⟩ := by unfold buckX; rw [if_pos rfl]
  have ht : buckT nmH s iv kind = [s.name, decB iv.toNat] := by unfold buckT; rw [if_pos rfl]
  have hS : buckS nmH s iv kind = ⟨labelL nmH [s.name, decB iv.toNat], alignI s.start iv, iv, fitV ⟨s.name, s.start, s.step, s.vals.map (hitV s.step), 2⟩ (alignI s.start iv) iv (nB s iv), s.cons⟩ := by unfold buckS; rw [hb, ht]
  rw [hb] at hx
  unfold hitS at eh
  by_cases hne : s.vals = []
  · have hn := nB_nil (iv := iv) hne
    have hl0 : s.vals.length = 0 := by rw [hne]; rfl
    have ef : res Γ 158 [(Ser.mk s.name s.start s.step (s.vals.map (hitV s.step)) 2).pv .any, .int .i64 (alignI s.start iv), .int .i64 iv, .int .i64 0] = _ := res_seriesFit (kk := .any) _ hx (alignI s.start iv) iv (by omega) (by omega) (by omega) (by omega) 0 (by omega)
    refine ⟨fun _ => ?_, fun h => absurd h (by omega)⟩
    rw [hS, hn]
    unfold Ser.pv at e ee ef eh ⊢
    unfold nmH at elb ⊢
    refine res_code (fn := fwin_Buckets) rfl rfl ?_
    simp (disch := first | assumption | omega | decide | (simp only [List.length_cons, List.length_nil, List.length_append, List.length_replicate, List.length_map, List.length_set, List.length_take, List.length_drop, strs_len, ints_len, bools_len, aggs_len, vpv_len]; done) | (simp only [List.length_cons, List.length_nil, List.length_append, List.length_replicate, List.length_map, List.length_set, List.length_take, List.length_drop, strs_len, ints_len, bools_len, aggs_len, vpv_len]; omega)) only [go_sem, fwin_Buckets, e, hs, d, ea, eh, ef, elb, fitS]
    try rfl
  · obtain ⟨n0, n1, n2⟩ := nB_cast (iv := iv) hs (by omega) hne
    have hpos : 0 < s.vals.length := List.length_pos_iff.2 hne
    unfold endS at ee
    have q0 := Int.ediv_nonneg n0 (show 0 ≤ iv by omega)
    have q1 := Int.ediv_le_self iv n0
    have m0 := map_quo (k := .i64) (a := s.start + s.vals.length * s.step - s.step - alignI s.start iv) (b := iv) n0 (by omega) (wrap_i64 (by omega) (by omega))
    have mb := mulb (i := s.vals.length) (step := s.step) (by omega) (by omega) (by omega)
    refine ⟨fun hn => ?_, fun hn => ?_⟩
    · have ef : res Γ 158 [(Ser.mk s.name s.start s.step (s.vals.map (hitV s.step)) 2).pv .any, .int .i64 (alignI s.start iv), .int .i64 iv, .int .i64 ((nB s iv : Nat) : Int)] = _ := res_seriesFit (kk := .any) _ hx (alignI s.start iv) iv (by omega) (by omega) (by omega) (by omega) (nB s iv) hn
      rw [hS]
      unfold Ser.pv at e ee ef eh ⊢
      unfold nmH at elb ⊢
      refine res_code (fn := fwin_Buckets) rfl rfl ?_
      simp (disch := first | assumption | omega | decide | (simp only [List.length_cons, List.length_nil, List.length_append, List.length_replicate, List.length_map, List.length_set, List.length_take, List.length_drop, strs_len, ints_len, bools_len, aggs_len, vpv_len]; done) | (simp only [List.length_cons, List.length_nil, List.length_append, List.length_replicate, List.length_map, List.length_set, List.length_take, List.length_drop, strs_len, ints_len, bools_len, aggs_len, vpv_len]; omega)) only [go_sem, fwin_Buckets, e, hs, d, ea, ee, eh, m0, n2, ef, elb, fitS]
      try rfl
    · unfold Ser.pv at e ee eh ⊢
      unfold noneS nmH
      refine res_code (fn := fwin_Buckets) rfl rfl ?_
      simp (disch := first | assumption | omega | decide | (simp only [List.length_cons, List.length_nil, List.length_append, List.length_replicate, List.length_map, List.length_set, List.length_take, List.length_drop, strs_len, ints_len, bools_len, aggs_len, vpv_len]; done) | (simp only [List.length_cons, List.length_nil, List.length_append, List.length_replicate, List.length_map, List.length_set, List.length_take, List.length_drop, strs_len, ints_len, bools_len, aggs_len, vpv_len]; omega)) only [go_sem, fwin_Buckets, e, hs, d, ea, ee, eh, m0, n2]
end
theorem res_fwinBuckets {kk : SK} {nm : List UInt8} (s : Ser) (iv kind : Int) (h : buckOk nm s iv kind) : res Γ 157 [.str nm, s.pv kk, .int .i64 iv, .int .i64 kind] = some [(buckS nm s iv kind).pv (fitK (nB s iv)), .bool true] := by
  obtain ⟨hs, h1, h2, h3, h4⟩ := h
  rcases h3 with ⟨rfl, hk⟩ | rfl
  · exact (fB_sum s iv kind hs ⟨h1, h2⟩ hk).1 h4
  · exact (fB_hit s iv kind hs ⟨h1, h2⟩).1 h4
theorem res_fwinBuckets_no {kk : SK} {nm : List UInt8} (s : Ser) (iv kind : Int) (hl : s.vals.length ≤ 9223372036854775807) (h : ¬ buckOk nm s iv kind) : res Γ 157 [.str nm, s.pv kk, .int .i64 iv, .int .i64 kind] = some [noneS.pv .nil, .bool false] := by
  have e := res_seriesIs (kk := kk) s hl
  cases hs : isS s
  · unfold Ser.pv at e ⊢
    unfold noneS
    refine res_code (fn := fwin_Buckets) rfl rfl ?_
    simp (disch := first | assumption | omega | decide | (simp only [List.length_cons, List.length_nil, List.length_append, List.length_replicate, List.length_map, List.length_set, List.length_take, List.length_drop, strs_len, ints_len, bools_len, aggs_len, vpv_len]; done) | (simp only [List.length_cons, List.length_nil, List.length_append, List.length_replicate, List.length_map, List.length_set, List.length_take, List.length_drop, strs_len, ints_len, bools_len, aggs_len, vpv_len]; omega)) only [go_sem, fwin_Buckets, e, hs]
  · by_cases h1 : 1 ≤ iv ∧ iv ≤ 16777216
    · by_cases hS : nm = nmS
      · subst hS
        by_cases hk : 1 ≤ kind ∧ kind ≤ 5
        · refine (fB_sum s iv kind hs h1 hk).2 (fun hn => h ⟨hs, h1.1, h1.2, .inl ⟨rfl, hk⟩, hn⟩)
        · have hk2 := aggName_no hk
          have d := res_decDigits iv.toNat (by omega)
          rw [Int.toNat_of_nonneg (by omega)] at d
          unfold Ser.pv at e ⊢
          unfold noneS nmS
          refine res_code (fn := fwin_Buckets) rfl rfl ?_
          simp (disch := first | assumption | omega | decide | (simp only [List.length_cons, List.length_nil, List.length_append, List.length_replicate, List.length_map, List.length_set, List.length_take, List.length_drop, strs_len, ints_len, bools_len, aggs_len, vpv_len]; done) | (simp only [List.length_cons, List.length_nil, List.length_append, List.length_replicate, List.length_map, List.length_set, List.length_take, List.length_drop, strs_len, ints_len, bools_len, aggs_len, vpv_len]; omega)) only [go_sem, fwin_Buckets, e, hs, d, hk2]
      · by_cases hH : nm = nmH
        · subst hH
          exact (fB_hit s iv kind hs h1).2 (fun hn => h ⟨hs, h1.1, h1.2, .inr rfl, hn⟩)
        · have d := res_decDigits iv.toNat (by omega)
          rw [Int.toNat_of_nonneg (by omega)] at d
          unfold Ser.pv at e ⊢
          unfold noneS
          unfold nmS at hS
          unfold nmH at hH
          refine res_code (fn := fwin_Buckets) rfl rfl ?_
          simp (disch := first | assumption | omega | decide | (simp only [List.length_cons, List.length_nil, List.length_append, List.length_replicate, List.length_map, List.length_set, List.length_take, List.length_drop, strs_len, ints_len, bools_len, aggs_len, vpv_len]; done) | (simp only [List.length_cons, List.length_nil, List.length_append, List.length_replicate, List.length_map, List.length_set, List.length_take, List.length_drop, strs_len, ints_len, bools_len, aggs_len, vpv_len]; omega)) only [go_sem, fwin_Buckets, e, hs, d]
    · unfold Ser.pv at e ⊢
      unfold noneS
      refine res_code (fn := fwin_Buckets) rfl rfl ?_
      by_cases h2 : iv < 1
      · simp (disch := first | assumption | omega | decide | (simp only [List.length_cons, List.length_nil, List.length_append, List.length_replicate, List.length_map, List.length_set, List.length_take, List.length_drop, strs_len, ints_len, bools_len, aggs_len, vpv_len]; done) | (simp only [List.length_cons, List.length_nil, List.length_append, List.length_replicate, List.length_map, List.length_set, List.length_take, List.length_drop, strs_len, ints_len, bools_len, aggs_len, vpv_len]; omega)) only [go_sem, fwin_Buckets, e, hs]
      · simp (disch := first | assumption | omega | decide | (simp only [List.length_cons, List.length_nil, List.length_append, List.length_replicate, List.length_map, List.length_set, List.length_take, List.length_drop, strs_len, ints_len, bools_len, aggs_len, vpv_len]; done) | (simp only [List.length_cons, List.length_nil, List.length_append, List.length_replicate, List.length_map, List.length_set, List.length_take, List.length_drop, strs_len, ints_len, bools_len, aggs_len, vpv_len]; omega)) only [go_sem, fwin_Buckets, e, hs]
end Ab
/- FwinHits. -/
namespace Ab
open Go (IntKind BinOp UnOp)
/-- All together. -/
def sumI (l : List Val) : Int := (l.map (·.2)).sum
theorem sumI_nil : sumI [] = 0 := rfl
theorem sumI_app (a b : List Val) : sumI (a ++ b) = sumI a + sumI b := by simp [sumI]
theorem sumI_one (v : Val) : sumI [v] = v.2 := by simp [sumI]
theorem sumI_bound {l : List Val} {B : Int} (hB : 0 ≤ B) (h : ∀ v ∈ l, -B ≤ v.2 ∧ v.2 ≤ B) : -(l.length * B) ≤ sumI l ∧ sumI l ≤ l.length * B := by
  induction l with
  | nil => simp [sumI]
  | cons v l ih =>
    have ih := ih fun x hx => h x (by simp [hx])
    have hv := h v (by simp)
    have e : sumI (v :: l) = v.2 + sumI l := by simp [sumI]
    have e2 : ((v :: l).length : Int) * B = l.length * B + B := by rw [List.length_cons, Int.natCast_add, Int.add_mul]; simp
    rw [e, e2]
    omega
theorem sumI_known {l : List Val} (h : ∀ v ∈ l, knV v = false → v.2 = 0) : sumI (knL l) = sumI l := by
  induction l with
  | nil => rfl
  | cons v l ih =>
    have ih := ih fun x hx => h x (by simp [hx])
    have e : sumI (v :: l) = v.2 + sumI l := by simp [sumI]
    unfold knL at *
    by_cases hk : knV v = true
    · rw [List.filter_cons_of_pos hk, e]
      show sumI (v :: _) = _
      rw [show sumI (v :: List.filter knV l) = v.2 + sumI (List.filter knV l) by simp [sumI], ih]
    · rw [List.filter_cons_of_neg hk, ih, e, h v (by simp) (by simpa using hk), Int.zero_add]
theorem addV_sum : ∀ (l : List Val) (a : Int), (∀ v ∈ l, knV v = true) → (∀ i, -maxN ≤ a + sumI (l.take i) ∧ a + sumI (l.take i) ≤ maxN) → l.foldl sumV (true, a) = (true, a + sumI l)
  | [], a, _, _ => by simp [sumI]
  | v :: l, a, hk, hb => by
    rw [List.foldl_cons]
    have hv := hk v (by simp)
    have e : sumI (v :: l) = v.2 + sumI l := by simp [sumI]
    have h0 := hb 0
    have h1 := hb 1
    rw [List.take_zero, sumI_nil, Int.add_zero] at h0
    rw [show (v :: l).take 1 = [v] by simp, sumI_one] at h1
    have es : sumV (true, a) v = (true, a + v.2) := by
      unfold sumV
      rw [if_pos ⟨knV_iff.2 ⟨rfl, h0⟩, hv⟩]
      unfold ofV
      rw [if_pos h1]
    rw [es, addV_sum l (a + v.2) (fun x hx => hk x (by simp [hx])) (fun i => by
      have := hb (i + 1)
      rw [List.take_succ_cons, show sumI (v :: l.take i) = v.2 + sumI (l.take i) by simp [sumI]] at this
      omega), e, Int.add_assoc]
theorem agg2_sum {l : List Val} (hl : l.length ≤ 1000) (h : ∀ v ∈ l, (knV v = false → v.2 = 0) ∧ -1125899906842624 ≤ v.2 ∧ v.2 ≤ 1125899906842624) : (aggV 2 l).2 = sumI l := by
  rw [← sumI_known fun v hv => (h v hv).1]
  unfold aggV
  have hk : ∀ v ∈ knL l, knV v = true := fun v hv => knL_mem hv
  have hb : ∀ v ∈ knL l, -1125899906842624 ≤ v.2 ∧ v.2 ≤ 1125899906842624 := fun v hv => (h v (List.mem_filter.1 hv).1).2
  have hlen : (knL l).length ≤ 1000 := Nat.le_trans (knL_len l) hl
  generalize knL l = k at *
  cases k with
  | nil => rfl
  | cons b k =>
    show (addV (b :: k)).2 = _
    unfold addV
    have e0 : ofV 0 = (true, 0) := by decide
    rw [e0, addV_sum (b :: k) 0 hk (fun i => by
      have := sumI_bound (l := (b :: k).take i) (B := 1125899906842624) (by omega) fun v hv => hb v (List.mem_of_mem_take hv)
      have h2 : ((b :: k).take i).length ≤ 1000 := by rw [List.length_take]; omega
      unfold maxN
      omega), Int.zero_add]
/-- What intervals side by side have together is what all have. -/
theorem sum_parts (l : List Val) (p : Nat → Nat) (n : Nat) (h0 : p 0 = 0) (hm : ∀ k, p k ≤ p (k + 1)) : ((List.range n).map fun k => sumI ((l.take (p (k + 1))).drop (p k))).sum = sumI (l.take (p n)) := by
  induction n with
  | zero => simp [h0, sumI]
  | succ n ih =>
    rw [List.range_succ, List.map_append, List.sum_append, ih]
    simp only [List.map_cons, List.map_nil, List.sum_cons, List.sum_nil, Int.add_zero]
    have e : l.take (p (n + 1)) = (l.take (p n)) ++ (l.take (p (n + 1))).drop (p n) := by
      have := List.take_append_drop (p n) (l.take (p (n + 1)))
      rw [List.take_take, Nat.min_eq_left (hm n)] at this
      exact this.symm
    conv => rhs; rw [e, sumI_app]
theorem hit_true {n step : Int} (h1 : 1 ≤ step ∧ step ≤ 1000) (hb : -4611686018427387904 ≤ n * step ∧ n * step ≤ 4611686018427387904) : hitV step (true, n) = (true, n * step) := by
  have e : mdV n step 1 = some (n * step) := by
    unfold mdV
    rw [if_neg (by decide)]
    have e1 : n.natAbs * step.natAbs / (1 : Int).natAbs = (n * step).natAbs := by rw [Int.natAbs_mul]; exact Nat.div_one _
    have e2 : n.natAbs * step.natAbs % (1 : Int).natAbs = 0 := Nat.mod_one _
    simp only [e1, e2]
    rw [if_neg (show ¬ (1 : Int).natAbs - 0 ≤ 0 by decide), if_pos (by unfold maxN; omega)]
    have hs : decide (step < 0) = false := by simp; omega
    have h1' : decide ((1 : Int) < 0) = false := by decide
    rw [hs, h1']
    by_cases h0 : n < 0
    · have : n * step ≤ 0 := Int.mul_nonpos_of_nonpos_of_nonneg (by omega) (by omega)
      rw [if_pos (by simp [h0])]
      congr 1; omega
    · have : 0 ≤ n * step := Int.mul_nonneg (by omega) (by omega)
      rw [if_neg (by simp [h0])]
      congr 1; omega
  have : hitV step (true, n) = ofV (n * step) := by simp [hitV, e, valV]
  rw [this]
  unfold ofV maxN
  rw [if_pos (by omega)]
theorem hitV_val {step : Int} {v : Val} (hv : isV v = true) (h1 : 1 ≤ step ∧ step ≤ 1000) (hb : -1099511627776 ≤ v.2 ∧ v.2 ≤ 1099511627776) : (hitV step v).2 = v.2 * step ∧ (knV (hitV step v) = false → (hitV step v).2 = 0) ∧ -1125899906842624 ≤ v.2 * step ∧ v.2 * step ≤ 1125899906842624 := by
  obtain ⟨b, n⟩ := v
  simp only at hb
  have m1 : n * step ≤ 1099511627776 * 1000 := by
    rcases Int.le_total 0 n with h | h
    · exact Int.mul_le_mul hb.2 h1.2 (by omega) (by omega)
    · have : n * step ≤ 0 := Int.mul_nonpos_of_nonpos_of_nonneg h (by omega)
      omega
  have m2 : -(1099511627776 * 1000) ≤ n * step := by
    rcases Int.le_total 0 n with h | h
    · have : 0 ≤ n * step := Int.mul_nonneg h (by omega)
      omega
    · have : (-n) * step ≤ 1099511627776 * 1000 := Int.mul_le_mul (by omega) h1.2 (by omega) (by omega)
      rw [Int.neg_mul] at this
      omega
  refine ⟨?_, ?_, by simp only; omega, by simp only; omega⟩
  · cases b
    · unfold isV at hv
      simp only [Bool.false_eq_true, if_false, decide_eq_true_eq] at hv
      subst hv
      show (0 : Int) = 0 * step
      rw [Int.zero_mul]
    · rw [hit_true h1 (by omega)]
  · intro hk
    cases b
    · rfl
    · rw [hit_true h1 (by omega)] at hk
      have : knV (true, n * step) = true := knV_iff.2 ⟨rfl, by unfold maxN; show -4611686018427387904 ≤ n * step ∧ n * step ≤ 4611686018427387904; omega⟩
      rw [this] at hk; cases hk
theorem hits_sum_take (s : Ser) (i : Nat) (his : isS s = true) (hst : s.step ≤ 1000) (hb : ∀ v ∈ s.vals, -1099511627776 ≤ v.2 ∧ v.2 ≤ 1099511627776) : sumI ((s.vals.map (hitV s.step)).take i) = ((s.vals.take i).map fun v => v.2 * s.step).sum := by
  have hz := isS_size his
  rw [isS_yes hz, List.all_eq_true] at his
  unfold sizeS at hz
  unfold sumI
  rw [← List.map_take, List.map_map]
  congr 1
  refine List.map_congr_left fun v hv => ?_
  have hm := List.mem_of_mem_take hv
  exact (hitV_val (his v hm) ⟨by omega, hst⟩ (hb v hm)).1
end Ab
/- FwinHits: the law. -/
namespace Ab
open Go (IntKind BinOp UnOp)
theorem prod_bound {n step : Int} (h1 : 1 ≤ step ∧ step ≤ 1000) (hb : -1099511627776 ≤ n ∧ n ≤ 1099511627776) : -1125899906842624 ≤ n * step ∧ n * step ≤ 1125899906842624 := by
  constructor
  · rcases Int.le_total 0 n with h | h
    · have : 0 ≤ n * step := Int.mul_nonneg h (by omega)
      omega
    · have : (-n) * step ≤ 1099511627776 * 1000 := Int.mul_le_mul (by omega) h1.2 (by omega) (by omega)
      rw [Int.neg_mul] at this
      omega
  · rcases Int.le_total 0 n with h | h
    · have : n * step ≤ 1099511627776 * 1000 := Int.mul_le_mul hb.2 h1.2 (by omega) (by omega)
      omega
    · have : n * step ≤ 0 := Int.mul_nonpos_of_nonpos_of_nonneg h (by omega)
      omega
/-- All values times the step, up to a place. -/
def timesT (s : Ser) (i : Nat) : Int := sumI ((s.vals.take i).map fun v => (v.1, v.2 * s.step))
theorem timesT_succ {s : Ser} {i : Nat} (h : i < s.vals.length) : timesT s (i + 1) = timesT s i + (s.vals.getD i (false, 0)).2 * s.step := by
  unfold timesT
  rw [take_snoc' (false, 0) h, List.map_append, sumI_app]
  simp only [List.map_cons, List.map_nil, sumI_one]
theorem timesT_bound {s : Ser} {i : Nat} (h1 : 1 ≤ s.step ∧ s.step ≤ 1000) (hl : s.vals.length ≤ 120) (hb : ∀ v ∈ s.vals.take i, -1099511627776 ≤ v.2 ∧ v.2 ≤ 1099511627776) : -135107988821114880 ≤ timesT s i ∧ timesT s i ≤ 135107988821114880 := by
  unfold timesT
  have := sumI_bound (l := (s.vals.take i).map fun v => (v.1, v.2 * s.step)) (B := 1125899906842624) (by omega) (fun v hv => by
    obtain ⟨x, hx, rfl⟩ := List.mem_map.1 hv
    exact prod_bound h1 (hb x hx))
  rw [List.length_map, List.length_take] at this
  have h2 : min i s.vals.length ≤ 120 := by omega
  generalize min i s.vals.length = m at *
  omega
theorem Hits_l2_ok {kk : SK} (s : Ser) (iv : AV) (h1 : 1 ≤ s.step ∧ s.step ≤ 1000) (hl : s.vals.length ≤ 120) (Q : Out → Prop) : ∀ (d i : Nat), i + d = s.vals.length → (∀ v ∈ s.vals.take i, -1099511627776 ≤ v.2 ∧ v.2 ≤ 1099511627776) →
    ((∀ v ∈ s.vals, -1099511627776 ≤ v.2 ∧ v.2 ≤ 1099511627776) → Q (.nrm, [(1, iv), (2, .bx 0 0), (5, .p (.int .i64 (timesT s s.vals.length)))], [.box [.p (.str s.name), .p (.int .i64 s.start), .p (.int .i64 s.step), .p (.sl kk 2 (vpv s.vals)), .p (.int .i64 s.cons)]])) →
    (∀ H, Q (.ret, [(4, .p (.bool true))], H)) →
    Wp Γ l21_FwinHits_l2 [(1, iv), (2, .bx 0 0), (5, .p (.int .i64 (timesT s i))), (6, .p (.int .i64 (i : Int)))] [.box [.p (.str s.name), .p (.int .i64 s.start), .p (.int .i64 s.step), .p (.sl kk 2 (vpv s.vals)), .p (.int .i64 s.cons)]] (InBlk [1, 2, 5] 0 Q) := by
  intro d
  induction d with
  | zero =>
    intro i hi hb h2 h3
    obtain rfl : i = s.vals.length := by omega
    rw [List.take_length] at hb
    rw [W_loop (L := l21_FwinHits_l2) rfl]
    simp (disch := first | assumption | omega | decide | (simp only [List.length_cons, List.length_nil, List.length_append, List.length_replicate, List.length_map, List.length_set, List.length_take, List.length_drop, strs_len, ints_len, bools_len, aggs_len, vpv_len]; done) | (simp only [List.length_cons, List.length_nil, List.length_append, List.length_replicate, List.length_map, List.length_set, List.length_take, List.length_drop, strs_len, ints_len, bools_len, aggs_len, vpv_len]; omega)) only [go_sem]
    exact h2 hb
  | succ d ih =>
    intro i hi hb h2 h3
    have h : i < s.vals.length := by omega
    have e := timesT_succ h
    have t0 := timesT_bound h1 hl hb
    have ih := ih (i + 1) (by omega)
    rw [take_snoc' (false, 0) h] at ih
    rw [e] at ih
    generalize hv : s.vals.getD i (false, 0) = v at *
    rw [W_loop (L := l21_FwinHits_l2) rfl]
    by_cases hg : v.2 > 1099511627776
    · simp (disch := first | assumption | omega | decide | (simp only [List.length_cons, List.length_nil, List.length_append, List.length_replicate, List.length_map, List.length_set, List.length_take, List.length_drop, strs_len, ints_len, bools_len, aggs_len, vpv_len]; done) | (simp only [List.length_cons, List.length_nil, List.length_append, List.length_replicate, List.length_map, List.length_set, List.length_take, List.length_drop, strs_len, ints_len, bools_len, aggs_len, vpv_len]; omega)) only [go_sem, valP, hv]
      exact h3 _
    · by_cases hg2 : v.2 < -1099511627776
      · simp (disch := first | assumption | omega | decide | (simp only [List.length_cons, List.length_nil, List.length_append, List.length_replicate, List.length_map, List.length_set, List.length_take, List.length_drop, strs_len, ints_len, bools_len, aggs_len, vpv_len]; done) | (simp only [List.length_cons, List.length_nil, List.length_append, List.length_replicate, List.length_map, List.length_set, List.length_take, List.length_drop, strs_len, ints_len, bools_len, aggs_len, vpv_len]; omega)) only [go_sem, valP, hv]
        exact h3 _
      · have pb := prod_bound (n := v.2) h1 (by omega)
        simp (disch := first | assumption | omega | decide | (simp only [List.length_cons, List.length_nil, List.length_append, List.length_replicate, List.length_map, List.length_set, List.length_take, List.length_drop, strs_len, ints_len, bools_len, aggs_len, vpv_len]; done) | (simp only [List.length_cons, List.length_nil, List.length_append, List.length_replicate, List.length_map, List.length_set, List.length_take, List.length_drop, strs_len, ints_len, bools_len, aggs_len, vpv_len]; omega)) only [go_sem, valP, hv]
        refine ih (fun x hx => ?_) h2 h3
        rcases List.mem_append.1 hx with hx | hx
        · exact hb x hx
        · rw [List.mem_singleton] at hx
          subst hx
          omega
theorem fitV_take {s : Ser} {a b : Int} {n i : Nat} (h : i ≤ n) : (fitV s a b n).take i = fitV s a b i := by
  unfold fitV
  rw [← List.map_take, List.take_range, Nat.min_eq_left h]
/-- What the intervals have together. -/
theorem fit_sum (s : Ser) (al iv : Int) (i : Nat) (hi : 1 ≤ iv) (hs : 1 ≤ s.step) (hc : consV s = 2) (h0 : al ≤ s.start) (hl : s.vals.length ≤ 120) (hb : ∀ v ∈ s.vals, (knV v = false → v.2 = 0) ∧ -1125899906842624 ≤ v.2 ∧ v.2 ≤ 1125899906842624) :
    sumI (fitV s al iv i) = sumI (s.vals.take (plcS s (al + i * iv))) := by
  have em : ∀ k : Nat, al + ((k + 1 : Nat) : Int) * iv = al + (k : Int) * iv + iv := fun k => by
    rw [show ((k + 1 : Nat) : Int) = (k : Int) + 1 from rfl, Int.add_mul, Int.one_mul, Int.add_assoc]
  have key := sum_parts s.vals (fun k => plcS s (al + k * iv)) i (by
    show plcS s (al + ((0 : Nat) : Int) * iv) = 0
    unfold plcS
    rw [if_pos (by simp; omega)]) (fun k => plcS_mono hs (by rw [em]; omega))
  rw [← key]
  unfold fitV
  show ((_ : List Val).map _).sum = _
  rw [List.map_map]
  congr 1
  refine List.map_congr_left fun k _ => ?_
  show (aggV (consV s) (withinV s (al + (k : Int) * iv) (al + (k : Int) * iv + iv))).2 = _
  rw [hc, em k]
  unfold withinV
  refine agg2_sum (by rw [List.length_drop, List.length_take]; omega) fun v hv => hb v (List.mem_of_mem_take (List.mem_of_mem_drop hv))
theorem plc_end {s : Ser} {iv : Int} (his : isS s = true) (h1 : 1 ≤ iv) (hne : s.vals ≠ []) : plcS s (alignI s.start iv + (nB s iv : Int) * iv) = s.vals.length := by
  have hz := isS_size his
  unfold sizeS at hz
  obtain ⟨n0, n1, n2⟩ := nB_cast his h1 hne
  have hp : 1 ≤ s.vals.length := List.length_pos_iff.2 hne
  have hlt : s.vals.length - 1 < plcS s (alignI s.start iv + (nB s iv : Int) * iv) := by
    rw [plcS_iff (by omega) (by omega), ← n2]
    have := Int.lt_ediv_add_one_mul_self (s.start + s.vals.length * s.step - s.step - alignI s.start iv) (show 0 < iv by omega)
    rw [show ((s.vals.length - 1 : Nat) : Int) = (s.vals.length : Int) - 1 by omega, Int.sub_mul, Int.one_mul]
    omega
  have := plcS_le s (alignI s.start iv + (nB s iv : Int) * iv)
  omega
theorem Hits_l1_ok {kk : SK} (x : Ser) (iv : AV) (T : Int) (hT : -135107988821114880 ≤ T ∧ T ≤ 135107988821114880) (hl : x.vals.length ≤ 131072) (hb : ∀ i, i ≤ x.vals.length → -135107988821114880 ≤ sumI (x.vals.take i) ∧ sumI (x.vals.take i) ≤ 135107988821114880) (B : Blk) (Q : Out → Prop) : ∀ (d i : Nat), i + d = x.vals.length →
    Q (.nrm, [(1, iv), (5, .p (.int .i64 (T - sumI x.vals))), (7, .bx 1 0)], [B, .box [.p (.str x.name), .p (.int .i64 x.start), .p (.int .i64 x.step), .p (.sl kk 2 (vpv x.vals)), .p (.int .i64 x.cons)]]) →
    Wp Γ l21_FwinHits_l1 [(1, iv), (5, .p (.int .i64 (T - sumI (x.vals.take i)))), (7, .bx 1 0), (9, .p (.int .i64 (i : Int)))] [B, .box [.p (.str x.name), .p (.int .i64 x.start), .p (.int .i64 x.step), .p (.sl kk 2 (vpv x.vals)), .p (.int .i64 x.cons)]] (InBlk [1, 5, 7] 2 Q) := by
  intro d
  induction d with
  | zero =>
    intro i hi hQ
    obtain rfl : i = x.vals.length := by omega
    rw [W_loop (L := l21_FwinHits_l1) rfl]
    simp (disch := first | assumption | omega | decide | (simp only [List.length_cons, List.length_nil, List.length_append, List.length_replicate, List.length_map, List.length_set, List.length_take, List.length_drop, strs_len, ints_len, bools_len, aggs_len, vpv_len]; done) | (simp only [List.length_cons, List.length_nil, List.length_append, List.length_replicate, List.length_map, List.length_set, List.length_take, List.length_drop, strs_len, ints_len, bools_len, aggs_len, vpv_len]; omega)) only [go_sem]
    rw [List.take_length]
    exact hQ
  | succ d ih =>
    intro i hi hQ
    have h : i < x.vals.length := by omega
    have b0 := hb i (by omega)
    have b1 := hb (i + 1) (by omega)
    have ih := ih (i + 1) (by omega) hQ
    rw [take_snoc' (false, 0) h, sumI_app, sumI_one] at ih b1
    have e : T - (sumI (x.vals.take i) + (x.vals.getD i (false, 0)).2) = T - sumI (x.vals.take i) - (x.vals.getD i (false, 0)).2 := by omega
    rw [e] at ih
    rw [W_loop (L := l21_FwinHits_l1) rfl]
    simp (disch := first | assumption | omega | decide | (simp only [List.length_cons, List.length_nil, List.length_append, List.length_replicate, List.length_map, List.length_set, List.length_take, List.length_drop, strs_len, ints_len, bools_len, aggs_len, vpv_len]; done) | (simp only [List.length_cons, List.length_nil, List.length_append, List.length_replicate, List.length_map, List.length_set, List.length_take, List.length_drop, strs_len, ints_len, bools_len, aggs_len, vpv_len]; omega)) only [go_sem, valP]
    exact ih
theorem align_mod {t iv : Int} : alignI t iv % iv = 0 := by
  unfold alignI
  rw [Int.sub_emod, Int.emod_emod_of_dvd _ (Int.dvd_refl iv), Int.sub_self, Int.zero_emod]
theorem res_FwinHitsA {k : SK} (s : Ser) (iv : Int) (o : Ser.Ok k s) (_ : -9223372036854775808 ≤ iv ∧ iv ≤ 9223372036854775807) : res Γ 214 [s.pv k, .int .i64 iv] = some [.bool true] := by
  have hk := res_known21
  have hv : s.vals.length ≤ 9223372036854775807 := o.len
  have h1 := res_heavy21 (k := k) s hv
  have h2 := res_r18Is (kk := k) s hv
  cases hh : heavyS s
  · rw [hh] at h1
    have hs : s.vals.length ≤ 120 := by simp [heavyS] at hh; omega
    cases his : isS s
    · unfold Ser.pv at h1 h2 ⊢
      refine res_code (fn := l21_FwinHits) rfl rfl ?_
      simp (disch := first | assumption | omega | decide | (simp only [List.length_cons, List.length_nil, List.length_append, List.length_replicate, List.length_map, List.length_set, List.length_take, List.length_drop, strs_len, ints_len, bools_len, aggs_len, vpv_len]; done) | (simp only [List.length_cons, List.length_nil, List.length_append, List.length_replicate, List.length_map, List.length_set, List.length_take, List.length_drop, strs_len, ints_len, bools_len, aggs_len, vpv_len]; omega)) only [go_sem, l21_FwinHits, h1, h2, his]
    · have hz := isS_size his
      have hall := his
      rw [isS_yes hz, List.all_eq_true] at hall
      unfold sizeS at hz
      by_cases g1 : iv < 1
      · unfold Ser.pv at h1 h2 ⊢
        refine res_code (fn := l21_FwinHits) rfl rfl ?_
        simp (disch := first | assumption | omega | decide | (simp only [List.length_cons, List.length_nil, List.length_append, List.length_replicate, List.length_map, List.length_set, List.length_take, List.length_drop, strs_len, ints_len, bools_len, aggs_len, vpv_len]; done) | (simp only [List.length_cons, List.length_nil, List.length_append, List.length_replicate, List.length_map, List.length_set, List.length_take, List.length_drop, strs_len, ints_len, bools_len, aggs_len, vpv_len]; omega)) only [go_sem, l21_FwinHits, h1, h2, his]
      · by_cases g2 : 16777216 < iv
        · unfold Ser.pv at h1 h2 ⊢
          refine res_code (fn := l21_FwinHits) rfl rfl ?_
          simp (disch := first | assumption | omega | decide | (simp only [List.length_cons, List.length_nil, List.length_append, List.length_replicate, List.length_map, List.length_set, List.length_take, List.length_drop, strs_len, ints_len, bools_len, aggs_len, vpv_len]; done) | (simp only [List.length_cons, List.length_nil, List.length_append, List.length_replicate, List.length_map, List.length_set, List.length_take, List.length_drop, strs_len, ints_len, bools_len, aggs_len, vpv_len]; omega)) only [go_sem, l21_FwinHits, h1, h2, his]
        · by_cases g3 : 1000 < s.step
          · unfold Ser.pv at h1 h2 ⊢
            refine res_code (fn := l21_FwinHits) rfl rfl ?_
            simp (disch := first | assumption | omega | decide | (simp only [List.length_cons, List.length_nil, List.length_append, List.length_replicate, List.length_map, List.length_set, List.length_take, List.length_drop, strs_len, ints_len, bools_len, aggs_len, vpv_len]; done) | (simp only [List.length_cons, List.length_nil, List.length_append, List.length_replicate, List.length_map, List.length_set, List.length_take, List.length_drop, strs_len, ints_len, bools_len, aggs_len, vpv_len]; omega)) only [go_sem, l21_FwinHits, h1, h2, his]
          · have q0 : 0 ≤ s.step / iv := Int.ediv_nonneg (by omega) (by omega)
            have q1 : s.step / iv ≤ s.step := Int.ediv_le_self iv (by omega)
            have m0 := map_quo (k := .i64) (a := s.step) (b := iv) (by omega) (by omega) (wrap_i64 (by omega) (by omega))
            have b0 : 0 ≤ (s.vals.length : Int) * (s.step / iv) := Int.mul_nonneg (by omega) q0
            have b1 : (s.vals.length : Int) * (s.step / iv) ≤ 120 * 1000 := Int.mul_le_mul (by omega) (by omega) q0 (by omega)
            by_cases g4 : 1000 < (s.vals.length : Int) * (s.step / iv)
            · unfold Ser.pv at h1 h2 ⊢
              refine res_code (fn := l21_FwinHits) rfl rfl ?_
              simp (disch := first | assumption | omega | decide | (simp only [List.length_cons, List.length_nil, List.length_append, List.length_replicate, List.length_map, List.length_set, List.length_take, List.length_drop, strs_len, ints_len, bools_len, aggs_len, vpv_len]; done) | (simp only [List.length_cons, List.length_nil, List.length_append, List.length_replicate, List.length_map, List.length_set, List.length_take, List.length_drop, strs_len, ints_len, bools_len, aggs_len, vpv_len]; omega)) only [go_sem, l21_FwinHits, h1, h2, his, m0]
            · have al := align_le (t := s.start) (iv := iv) (by omega) (by omega)
              have am := @align_mod s.start iv
              have hst : 1 ≤ s.step ∧ s.step ≤ 1000 := by omega
              have hnB : nB s iv ≤ 131072 := by
                by_cases hne : s.vals = []
                · rw [nB_nil hne]; omega
                · obtain ⟨n0, n1, n2⟩ := nB_cast (iv := iv) his (by omega) hne
                  have c0 : (s.vals.length : Int) * s.step ≤ 120 * 1000 := Int.mul_le_mul (by omega) (by omega) (by omega) (by omega)
                  have c1 : s.start - alignI s.start iv < iv := by
                    unfold alignI
                    have := Int.emod_lt_of_pos s.start (show 0 < iv by omega)
                    omega
                  have c2 : (s.start + s.vals.length * s.step - s.step - alignI s.start iv) / iv ≤ (120000 * iv + iv) / iv := Int.ediv_le_ediv (by omega) (by
                    have : (120000 : Int) ≤ 120000 * iv := by omega
                    omega)
                  rw [Int.add_ediv_of_dvd_right (Int.dvd_refl iv), Int.mul_ediv_cancel _ (by omega), Int.ediv_self (by omega)] at c2
                  omega
              have eb := res_fwinBuckets (kk := k) (nm := nmH) s iv 0 ⟨his, by omega, by omega, .inr rfl, hnB⟩
              have hbv : (buckS nmH s iv 0).vals = fitV ⟨s.name, s.start, s.step, s.vals.map (hitV s.step), 2⟩ (alignI s.start iv) iv (nB s iv) := rfl
              have l2 := Hits_l2_ok (kk := k) s (.p (.int .i64 iv)) hst hs
              unfold Ser.pv at h1 h2 eb ⊢
              unfold nmH at eb hbv
              refine res_code (fn := l21_FwinHits) rfl rfl ?_
              simp (disch := first | assumption | omega | decide | (simp only [List.length_cons, List.length_nil, List.length_append, List.length_replicate, List.length_map, List.length_set, List.length_take, List.length_drop, strs_len, ints_len, bools_len, aggs_len, vpv_len]; done) | (simp only [List.length_cons, List.length_nil, List.length_append, List.length_replicate, List.length_map, List.length_set, List.length_take, List.length_drop, strs_len, ints_len, bools_len, aggs_len, vpv_len]; omega)) only [go_sem, l21_FwinHits, h1, h2, his, m0]
              refine l2 _ s.vals.length 0 (by omega) (by simp) (fun hall2 => ?_) (fun H => ?_)
              · -- every value is within bounds
                have tb := timesT_bound (i := s.vals.length) hst hs (fun v hv => hall2 v (List.mem_of_mem_take hv))
                have hX : ∀ v ∈ s.vals.map (hitV s.step), (knV v = false → v.2 = 0) ∧ -1125899906842624 ≤ v.2 ∧ v.2 ≤ 1125899906842624 := by
                  intro v hv
                  obtain ⟨w, hw, rfl⟩ := List.mem_map.1 hv
                  obtain ⟨a1, a2, a3⟩ := hitV_val (hall w hw) hst (hall2 w hw)
                  exact ⟨a2, by rw [a1]; exact a3⟩
                have fs := fun i => fit_sum ⟨s.name, s.start, s.step, s.vals.map (hitV s.step), 2⟩ (alignI s.start iv) iv i (by omega) hst.1 rfl al.2 (by rw [List.length_map]; exact hs) hX
                have sb : ∀ i, -135107988821114880 ≤ sumI ((s.vals.map (hitV s.step)).take i) ∧ sumI ((s.vals.map (hitV s.step)).take i) ≤ 135107988821114880 := fun i => by
                  have := sumI_bound (l := (s.vals.map (hitV s.step)).take i) (B := 1125899906842624) (by omega) fun v hv => (hX v (List.mem_of_mem_take hv)).2
                  rw [List.length_take, List.length_map] at this
                  have h2 : min i s.vals.length ≤ 120 := by omega
                  generalize min i s.vals.length = m at *
                  omega
                have tot : sumI (fitV ⟨s.name, s.start, s.step, s.vals.map (hitV s.step), 2⟩ (alignI s.start iv) iv (nB s iv)) = timesT s s.vals.length := by
                  rw [fs (nB s iv)]
                  have pe : (s.vals.map (hitV s.step)).take (plcS ⟨s.name, s.start, s.step, s.vals.map (hitV s.step), 2⟩ (alignI s.start iv + (nB s iv : Int) * iv)) = s.vals.map (hitV s.step) := by
                    by_cases hne : s.vals = []
                    · rw [hne, List.map_nil, List.take_nil]
                    · have pl : plcS ⟨s.name, s.start, s.step, s.vals.map (hitV s.step), 2⟩ (alignI s.start iv + (nB s iv : Int) * iv) = plcS s (alignI s.start iv + (nB s iv : Int) * iv) := by
                        unfold plcS; simp only [List.length_map]
                      rw [pl, plc_end his (by omega) hne, List.take_of_length_le (by rw [List.length_map]; omega)]
                  show sumI ((s.vals.map (hitV s.step)).take _) = _
                  rw [pe]
                  have := hits_sum_take s s.vals.length his (by omega) hall2
                  rw [List.take_of_length_le (by rw [List.length_map]; omega), List.take_length] at this
                  rw [this]
                  unfold timesT sumI
                  rw [List.take_length, List.map_map]
                  rfl
                have l1 := fun B Q => Hits_l1_ok (kk := fitK (nB s iv)) (buckS [104, 105, 116, 99, 111, 117, 110, 116] s iv 0) (.p (.int .i64 iv)) (timesT s s.vals.length) tb (by rw [hbv, fitV_len]; exact hnB) (fun i hi => by
                  rw [hbv, fitV_len] at hi
                  rw [hbv, fitV_take hi, fs i]
                  exact sb _) B Q (buckS [104, 105, 116, 99, 111, 117, 110, 116] s iv 0).vals.length 0 (by omega)
                rw [← hbv] at tot
                have x1 : (buckS [104, 105, 116, 99, 111, 117, 110, 116] s iv 0).step = iv := rfl
                have x2 : (buckS [104, 105, 116, 99, 111, 117, 110, 116] s iv 0).start = alignI s.start iv := rfl
                simp only [List.take_zero, sumI_nil, Int.sub_zero, tot, Int.sub_self] at l1
                generalize buckS [104, 105, 116, 99, 111, 117, 110, 116] s iv 0 = x at *
                simp (disch := first | assumption | omega | decide | (simp only [List.length_cons, List.length_nil, List.length_append, List.length_replicate, List.length_map, List.length_set, List.length_take, List.length_drop, strs_len, ints_len, bools_len, aggs_len, vpv_len]; done) | (simp only [List.length_cons, List.length_nil, List.length_append, List.length_replicate, List.length_map, List.length_set, List.length_take, List.length_drop, strs_len, ints_len, bools_len, aggs_len, vpv_len]; omega)) only [go_sem, eb]
                refine l1 _ _ ?_
                rw [x1, x2]
                simp (disch := first | assumption | omega | decide | (simp only [List.length_cons, List.length_nil, List.length_append, List.length_replicate, List.length_map, List.length_set, List.length_take, List.length_drop, strs_len, ints_len, bools_len, aggs_len, vpv_len]; done) | (simp only [List.length_cons, List.length_nil, List.length_append, List.length_replicate, List.length_map, List.length_set, List.length_take, List.length_drop, strs_len, ints_len, bools_len, aggs_len, vpv_len]; omega)) only [go_sem, am, hk]
              · simp (disch := first | assumption | omega | decide | (simp only [List.length_cons, List.length_nil, List.length_append, List.length_replicate, List.length_map, List.length_set, List.length_take, List.length_drop, strs_len, ints_len, bools_len, aggs_len, vpv_len]; done) | (simp only [List.length_cons, List.length_nil, List.length_append, List.length_replicate, List.length_map, List.length_set, List.length_take, List.length_drop, strs_len, ints_len, bools_len, aggs_len, vpv_len]; omega)) only [go_sem]
  · rw [hh] at h1
    unfold Ser.pv at h1 ⊢
    refine res_code (fn := l21_FwinHits) rfl rfl ?_
    simp (disch := first | assumption | omega | decide | (simp only [List.length_cons, List.length_nil, List.length_append, List.length_replicate, List.length_map, List.length_set, List.length_take, List.length_drop, strs_len, ints_len, bools_len, aggs_len, vpv_len]; done) | (simp only [List.length_cons, List.length_nil, List.length_append, List.length_replicate, List.length_map, List.length_set, List.length_take, List.length_drop, strs_len, ints_len, bools_len, aggs_len, vpv_len]; omega)) only [go_sem, l21_FwinHits, h1]
end Ab
/- The one in the middle; the one at so many of a hundred. -/
namespace Ab
open Go (IntKind BinOp UnOp)
def medV (l : List Val) : Val :=
  let o := sortI (nums l)
  if o.length = 0 then noV else if o.length % 2 = 1 then (true, o.getD (o.length / 2) 0)
  else divV (addV [(true, o.getD (o.length / 2 - 1) 0), (true, o.getD (o.length / 2) 0)]) (intV 2)
theorem sortO_len {l : List Val} : (sortI (nums l)).length = (knL l).length := by rw [sortI_len', nums_len]
theorem two_vpv (a b : Int) : ([.agg [.bool true, .int .i64 a], .agg [.bool true, .int .i64 b]] : List PV) = vpv [(true, a), (true, b)] := rfl
theorem nat_rem (n : Nat) : (n : Int) % 2 = 1 ↔ n % 2 = 1 := by omega
theorem toNat_half (n : Nat) : ((n : Int) / 2).toNat = n / 2 := by omega
theorem toNat_half1 (n : Nat) : ((n : Int) / 2 - 1).toNat = n / 2 - 1 := by omega
theorem res_fwinMedian {kk : SK} (l : List Val) (hl : l.length < 1000000000) : res Γ 115 [.sl kk 2 (vpv l)] = some [.agg [.bool (medV l).1, .int .i64 (medV l).2]] := by
  have hk := knL_len l
  have hs := @sortO_len l
  have e := res_fwinSorted (kk := kk) l hl
  have hw : (sortV l).length = (sortI (nums l)).length := toV_len
  have eg : ∀ j, j < (sortI (nums l)).length → (sortV l).getD j (false, 0) = (true, (sortI (nums l)).getD j 0) := fun j h => toV_getD h
  have q : (medV l) = if (sortI (nums l)).length = 0 then noV else if (sortI (nums l)).length % 2 = 1 then (true, (sortI (nums l)).getD ((sortI (nums l)).length / 2) 0)
    else divV (addV [(true, (sortI (nums l)).getD ((sortI (nums l)).length / 2 - 1) 0), (true, (sortI (nums l)).getD ((sortI (nums l)).length / 2) 0)]) (intV 2) := rfl
  rw [q]
  generalize sortI (nums l) = o at *
  refine res_code (fn := fwin_Median) rfl rfl ?_
  by_cases h0 : o.length = 0
  · rw [if_pos h0]
    simp (disch := first | assumption | omega | decide | (simp only [List.length_cons, List.length_nil, List.length_append, List.length_replicate, List.length_map, List.length_set, List.length_take, List.length_drop, strs_len, ints_len, bools_len, aggs_len, vpv_len]; done) | (simp only [List.length_cons, List.length_nil, List.length_append, List.length_replicate, List.length_map, List.length_set, List.length_take, List.length_drop, strs_len, ints_len, bools_len, aggs_len, vpv_len]; omega)) only [go_sem, fwin_Median, e, hw, noV]
  · rw [if_neg h0]
    have g0 : ((o.length : Int) / 2).toNat < o.length := by omega
    have g1 : ((o.length : Int) / 2 - 1).toNat < o.length := by omega
    have e0 := eg _ g0
    have e1 := eg _ g1
    have w0 := wrap_i64 (x := (o.length : Int) / 2) (by omega) (by omega)
    have m0 := map_quo (k := .i64) (a := (o.length : Int)) (b := 2) (by omega) (by omega) w0
    rw [toNat_half] at e0 g0
    rw [toNat_half1] at e1 g1
    by_cases h1 : o.length % 2 = 1
    · rw [if_pos h1]
      have h1' : (o.length : Int) % 2 = 1 := by omega
      simp (disch := first | assumption | omega | decide | (simp only [List.length_cons, List.length_nil, List.length_append, List.length_replicate, List.length_map, List.length_set, List.length_take, List.length_drop, strs_len, ints_len, bools_len, aggs_len, vpv_len]; done) | (simp only [List.length_cons, List.length_nil, List.length_append, List.length_replicate, List.length_map, List.length_set, List.length_take, List.length_drop, strs_len, ints_len, bools_len, aggs_len, vpv_len]; omega)) only [go_sem, fwin_Median, e, hw, m0, toNat_half, e0, valP]
    · rw [if_neg h1]
      have h1' : ¬ (o.length : Int) % 2 = 1 := by omega
      have a := res_fixedAdd (kk := .tight) [(true, o.getD (o.length / 2 - 1) 0), (true, o.getD (o.length / 2) 0)] (by simp)
      rw [← two_vpv] at a
      have b := res_fixedInt (n := 2) (by omega)
      have c := res_fixedDivV (addV [(true, o.getD (o.length / 2 - 1) 0), (true, o.getD (o.length / 2) 0)]) (intV 2)
      simp (disch := first | assumption | omega | decide | (simp only [List.length_cons, List.length_nil, List.length_append, List.length_replicate, List.length_map, List.length_set, List.length_take, List.length_drop, strs_len, ints_len, bools_len, aggs_len, vpv_len]; done) | (simp only [List.length_cons, List.length_nil, List.length_append, List.length_replicate, List.length_map, List.length_set, List.length_take, List.length_drop, strs_len, ints_len, bools_len, aggs_len, vpv_len]; omega)) only [go_sem, fwin_Median, e, hw, m0, toNat_half, toNat_half1, e0, e1, valP, a, b, c]
end Ab
