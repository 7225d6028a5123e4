import Derived.Test.YtgdkafbcchkplaaGreatDoorAbMem2
import Derived.Test.YtgdkafbcchkplaaGreatDoorLDig
import Derived.Test.YtgdkafbcchkplaaGreatDoorMFwin
import Derived.Test.YtgdkafbcchkplaaGreatDoorLLen
import Derived.Test.YtgdkafbcchkplaaGreatDoorMMoved
/- How much each value is over its step; a series by intervals. -/
namespace Ab
open Go (IntKind BinOp UnOp)
def hitV (step : Int) (v : Val) : Val := if v.1 = true then valV (mdV v.2 step 1) else noV
def hitT (l : List Val) (step : Int) (i : Nat) : List Val := (l.take i).map (hitV step) ++ l.drop i
theorem hitT_len {l : List Val} {step : Int} {i : Nat} : (hitT l step i).length = l.length := by
  unfold hitT
  rw [List.length_append, List.length_map, List.length_take, List.length_drop]; omega
theorem hitT_get {l : List Val} {step : Int} {i : Nat} (h : i < l.length) : (hitT l step i).getD i (false, 0) = l.getD i (false, 0) := by
  unfold hitT
  have e : ((l.take i).map (hitV step)).length = i := by rw [List.length_map, List.length_take]; omega
  rw [List.getD_eq_getElem?_getD, List.getElem?_append_right (by omega), e, Nat.sub_self, List.getElem?_drop, List.getD_eq_getElem?_getD]
  rfl
theorem hitT_set {l : List Val} {step : Int} {i : Nat} (h : i < l.length) : (hitT l step i).set i (hitV step (l.getD i (false, 0))) = hitT l step (i + 1) := by
  unfold hitT
  have e : ((l.take i).map (hitV step)).length = i := by rw [List.length_map, List.length_take]; omega
  rw [List.set_append_right _ _ (by omega), e, Nat.sub_self, take_snoc' (false, 0) h, List.map_append, List.drop_eq_getElem_cons h, List.set_cons_zero, List.append_assoc]
  rfl
theorem hitT_all {l : List Val} {step : Int} : hitT l step l.length = l.map (hitV step) := by
  unfold hitT
  rw [List.take_length, List.drop_length, List.append_nil]
theorem hitT_zero {l : List Val} {step : Int} : hitT l step 0 = l := rfl
@[go_sem] theorem storeK_vals {H : Heap} {sz id n i : Nat} {b : Bool} {m : Int} {l : List Val} (h : l.length = n) (h' : i < n) : storeK H (some (.row false sz (vpv l))) 2 id n i 0 (.p (.agg [.bool b, .int .i64 m])) = some (H.set id (.row false sz (vpv (l.set i (b, m))))) := by
  have e1 : (valP (l.getD i (false, 0))).length = 2 := rfl
  simp only [storeK, vpv_len, h, if_true, vpv_get (show i < l.length by omega), Option.bind_some, AV.cells, PV.cells, pures_map, AV.ok, List.length_cons, List.length_nil, e1]
  rw [if_pos ⟨trivial, by omega, trivial, by omega⟩]
  congr 3
  have : setPart 0 2 [.bool b, .int .i64 m] (.agg (valP (l.getD i (false, 0)))) = .agg (valP (b, m)) := by
    simp [setPart, valP]
  rw [this]
  simp [vpv, aggs, List.map_set]
def hitS (s : Ser) : Ser := ⟨s.name, s.start, s.step, s.vals.map (hitV s.step), s.cons⟩
theorem resM_Clone {kk : SK} (l : List Val) (hl : l.length ≤ 1073741824) : resM Γ 0 49 [.p (.sl kk 2 (vpv l))] [] = some ([.own 0 l.length], [.row false 2 (vpv l)]) := by
  have h := resM_fresh (Γ := Γ) (f := 49) (g := cloneG 2) (ps := [.sl kk 2 (vpv l)]) (sz := 2) (xs := vpv l) rfl (by
    simp only [cloneG]
    rw [if_pos ⟨trivial, by omega, by rw [vpv_len]; exact hl, vpv_flat l⟩]) (by omega) (by rw [vpv_len]; exact hl)
  rw [vpv_len] at h
  exact h
theorem st49 : stillF Γ 49 = true := rfl
theorem resM_seriesOwn {kk : SK} (s : Ser) (hl : s.vals.length ≤ 1073741824) : resM Γ 0 31 [.p (s.pv kk)] [] = some ([.agg [.p (.str s.name), .p (.int .i64 s.start), .p (.int .i64 s.step), .own 0 s.vals.length, .p (.int .i64 s.cons)]], [.row false 2 (vpv s.vals)]) := by
  have e := resM_Clone (kk := kk) s.vals hl
  unfold Ser.pv
  refine resM_code (fn := series_Own) rfl rfl ?_
  simp (disch := first | assumption | omega | decide | (simp only [List.length_cons, List.length_nil, List.length_append, List.length_replicate, List.length_map, List.length_set, List.length_take, List.length_drop, strs_len, ints_len, bools_len, aggs_len, vpv_len]; done) | (simp only [List.length_cons, List.length_nil, List.length_append, List.length_replicate, List.length_map, List.length_set, List.length_take, List.length_drop, strs_len, ints_len, bools_len, aggs_len, vpv_len]; omega)) only [go_sem, series_Own, e, st49]
theorem hits_l1_ok (s : Ser) (hz : sizeS s) (hb : ∀ v ∈ s.vals, -9223372036854775808 ≤ v.2 ∧ v.2 ≤ 9223372036854775807) (_B1 : Blk) (Q : Out → Prop) : ∀ (d i : Nat) (T : Heap), i + d = s.vals.length →
    (∀ T, Q (.nrm, [(1, .bx 0 0), (2, .bx 1 0)], .box [.p (.str s.name), .p (.int .i64 s.start), .p (.int .i64 s.step), .own 2 s.vals.length, .p (.int .i64 s.cons)] :: .box [.p (.str []), .p (.int .i64 0), .p (.int .i64 0), .p (.sl .nil 2 []), .p (.int .i64 0)] :: .row false 2 (vpv (s.vals.map (hitV s.step))) :: T)) →
    Wp Γ fwin_hits_l1 [(1, .bx 0 0), (2, .bx 1 0), (10, .own 2 s.vals.length), (11, .p (.int .i64 (s.vals.length : Int))), (12, .p (.int .i64 (i : Int)))]
      (.box [.p (.str s.name), .p (.int .i64 s.start), .p (.int .i64 s.step), .own 2 s.vals.length, .p (.int .i64 s.cons)] :: .box [.p (.str []), .p (.int .i64 0), .p (.int .i64 0), .p (.sl .nil 2 []), .p (.int .i64 0)] :: .row false 2 (vpv (hitT s.vals s.step i)) :: T) (InBlk [1, 2] 0 Q) := by
  have hv : s.vals.length ≤ 131072 := by unfold sizeS at hz; omega
  have hst : 1 ≤ s.step ∧ s.step ≤ 1099511627776 := by unfold sizeS at hz; omega
  intro d
  induction d with
  | zero =>
    intro i T hi hQ
    obtain rfl : i = s.vals.length := by omega
    rw [W_loop (L := fwin_hits_l1) rfl]
    simp (disch := first | assumption | omega | decide | (simp only [List.length_cons, List.length_nil, List.length_append, List.length_replicate, List.length_map, List.length_set, List.length_take, List.length_drop, strs_len, ints_len, bools_len, aggs_len, vpv_len]; done) | (simp only [List.length_cons, List.length_nil, List.length_append, List.length_replicate, List.length_map, List.length_set, List.length_take, List.length_drop, strs_len, ints_len, bools_len, aggs_len, vpv_len]; omega)) only [go_sem]
    rw [hitT_all]
    exact hQ _
  | succ d ih =>
    intro i T hi hQ
    have h : i < s.vals.length := by omega
    have g1 := @hitT_len s.vals s.step i
    have g2 := hitT_get (step := s.step) h
    have g3 := hitT_set (step := s.step) h
    have hm : s.vals.getD i (false, 0) ∈ s.vals := by rw [List.getD_eq_getElem?_getD, List.getElem?_eq_getElem h]; exact List.getElem_mem h
    have hbb := hb _ hm
    have e := res_fixedMulDiv (a := (s.vals.getD i (false, 0)).2) (b := s.step) (c := 1) hbb (by omega) (by omega)
    have ih := fun T => ih (i + 1) T (by omega) hQ
    generalize s.vals.getD i (false, 0) = v at *
    obtain ⟨b, n⟩ := v
    rw [W_loop (L := fwin_hits_l1) rfl]
    cases b
    · have e1 : hitV s.step (false, n) = (false, 0) := rfl
      rw [e1] at g3
      rw [← g3] at ih
      cases hm : mdV n s.step 1 with
      | none =>
        rw [hm] at e
        simp only [mdR] at e
        simp (disch := first | assumption | omega | decide | (simp only [List.length_cons, List.length_nil, List.length_append, List.length_replicate, List.length_map, List.length_set, List.length_take, List.length_drop, strs_len, ints_len, bools_len, aggs_len, vpv_len]; done) | (simp only [List.length_cons, List.length_nil, List.length_append, List.length_replicate, List.length_map, List.length_set, List.length_take, List.length_drop, strs_len, ints_len, bools_len, aggs_len, vpv_len]; omega)) only [go_sem, g2, valP, e]
        exact ih _
      | some q =>
        rw [hm] at e
        simp only [mdR] at e
        simp (disch := first | assumption | omega | decide | (simp only [List.length_cons, List.length_nil, List.length_append, List.length_replicate, List.length_map, List.length_set, List.length_take, List.length_drop, strs_len, ints_len, bools_len, aggs_len, vpv_len]; done) | (simp only [List.length_cons, List.length_nil, List.length_append, List.length_replicate, List.length_map, List.length_set, List.length_take, List.length_drop, strs_len, ints_len, bools_len, aggs_len, vpv_len]; omega)) only [go_sem, g2, valP, e]
        exact ih _
    · cases hm : mdV n s.step 1 with
      | none =>
        have e1 : hitV s.step (true, n) = (false, 0) := by simp [hitV, hm, valV, noV]
        rw [e1] at g3
        rw [← g3] at ih
        rw [hm] at e
        simp only [mdR] at e
        simp (disch := first | assumption | omega | decide | (simp only [List.length_cons, List.length_nil, List.length_append, List.length_replicate, List.length_map, List.length_set, List.length_take, List.length_drop, strs_len, ints_len, bools_len, aggs_len, vpv_len]; done) | (simp only [List.length_cons, List.length_nil, List.length_append, List.length_replicate, List.length_map, List.length_set, List.length_take, List.length_drop, strs_len, ints_len, bools_len, aggs_len, vpv_len]; omega)) only [go_sem, g2, valP, e]
        exact ih _
      | some q =>
        have e1 : hitV s.step (true, n) = ofV q := by simp [hitV, hm, valV]
        rw [e1] at g3
        rw [← g3] at ih
        rw [hm] at e
        simp only [mdR] at e
        simp (disch := first | assumption | omega | decide | (simp only [List.length_cons, List.length_nil, List.length_append, List.length_replicate, List.length_map, List.length_set, List.length_take, List.length_drop, strs_len, ints_len, bools_len, aggs_len, vpv_len]; done) | (simp only [List.length_cons, List.length_nil, List.length_append, List.length_replicate, List.length_map, List.length_set, List.length_take, List.length_drop, strs_len, ints_len, bools_len, aggs_len, vpv_len]; omega)) only [go_sem, g2, valP, e]
        exact ih _
theorem res_hits {kk : SK} (s : Ser) (hz : sizeS s) (hb : ∀ v ∈ s.vals, -9223372036854775808 ≤ v.2 ∧ v.2 ≤ 9223372036854775807) : res Γ 161 [s.pv kk] = some [(hitS s).pv .any] := by
  have hv : s.vals.length ≤ 131072 := by unfold sizeS at hz; omega
  have e := resM_seriesOwn (kk := kk) s (by omega)
  have hw : (vpv s.vals).length = s.vals.length := vpv_len
  have hw2 : (vpv (s.vals.map (hitV s.step))).length = s.vals.length := by rw [vpv_len, List.length_map]
  have l1 := fun B Q => hits_l1_ok s hz hb B Q s.vals.length 0 [] (by omega)
  simp only [hitT_zero] at l1
  unfold Ser.pv at e ⊢
  refine res_code (fn := fwin_hits) rfl rfl ?_
  simp (disch := first | assumption | omega | decide | (simp only [List.length_cons, List.length_nil, List.length_append, List.length_replicate, List.length_map, List.length_set, List.length_take, List.length_drop, strs_len, ints_len, bools_len, aggs_len, vpv_len]; done) | (simp only [List.length_cons, List.length_nil, List.length_append, List.length_replicate, List.length_map, List.length_set, List.length_take, List.length_drop, strs_len, ints_len, bools_len, aggs_len, vpv_len]; omega)) only [go_sem, fwin_hits, e]
  refine l1 .dead _ (fun T => ?_)
  simp (disch := first | assumption | omega | decide | (simp only [List.length_cons, List.length_nil, List.length_append, List.length_replicate, List.length_map, List.length_set, List.length_take, List.length_drop, strs_len, ints_len, bools_len, aggs_len, vpv_len]; done) | (simp only [List.length_cons, List.length_nil, List.length_append, List.length_replicate, List.length_map, List.length_set, List.length_take, List.length_drop, strs_len, ints_len, bools_len, aggs_len, vpv_len]; omega)) only [go_sem, hitS]
end Ab
/- fwin.Buckets. -/
namespace Ab
open Go (IntKind BinOp UnOp)
def nmS : List UInt8 := [115, 117, 109, 109, 97, 114, 105, 122, 101]
def nmH : List UInt8 := [104, 105, 116, 99, 111, 117, 110, 116]
def alignI (t iv : Int) : Int := t - t % iv
/-- How many intervals there are. -/
def nB (s : Ser) (iv : Int) : Nat := if s.vals = [] then 0 else ((s.start + s.vals.length * s.step - s.step - alignI s.start iv) / iv + 1).toNat
def buckX (nm : List UInt8) (s : Ser) (kind : Int) : Ser := if nm = nmH then ⟨s.name, s.start, s.step, s.vals.map (hitV s.step), 2⟩ else ⟨s.name, s.start, s.step, s.vals, kind⟩
def buckT (nm : List UInt8) (s : Ser) (iv kind : Int) : List (List UInt8) := if nm = nmH then [s.name, decB iv.toNat] else [s.name, decB iv.toNat, aggName kind]
def buckS (nm : List UInt8) (s : Ser) (iv kind : Int) : Ser := ⟨labelL nm (buckT nm s iv kind), alignI s.start iv, iv, fitV (buckX nm s kind) (alignI s.start iv) iv (nB s iv), s.cons⟩
def buckOk (nm : List UInt8) (s : Ser) (iv kind : Int) : Prop := isS s = true ∧ 1 ≤ iv ∧ iv ≤ 16777216 ∧ ((nm = nmS ∧ 1 ≤ kind ∧ kind ≤ 5) ∨ nm = nmH) ∧ nB s iv ≤ 131072
theorem hitV_isV (step : Int) (v : Val) : isV (hitV step v) = true := by
  unfold hitV
  split
  · cases mdV v.2 step 1 with
    | none => rfl
    | some q => exact ofV_isV q
  · rfl
theorem buckX_is {nm : List UInt8} {s : Ser} {kind : Int} (hs : isS s = true) (hk : nm = nmH ∨ (1 ≤ kind ∧ kind ≤ 5)) : isS (buckX nm s kind) = true := by
  have hz := isS_size hs
  rw [isS_yes hz] at hs
  unfold sizeS at hz
  unfold buckX
  by_cases h : nm = nmH
  · rw [if_pos h]
    rw [isS_yes]
    · simp only [List.all_map, List.all_eq_true, Function.comp_apply]
      exact fun v _ => hitV_isV _ v
    · unfold sizeS
      simp only [List.length_map]
      omega
  · rw [if_neg h]
    have hk := hk.resolve_left h
    rw [isS_yes]
    · exact hs
    · unfold sizeS
      simp only
      omega
theorem align_le {t iv : Int} (h : 0 ≤ t) (h1 : 1 ≤ iv) : 0 ≤ alignI t iv ∧ alignI t iv ≤ t := by
  unfold alignI
  have h2 := Int.emod_nonneg t (show iv ≠ 0 by omega)
  have h3 : t % iv ≤ t := by
    have h4 := Int.ediv_nonneg h (show 0 ≤ iv by omega)
    have h5 := Int.mul_ediv_add_emod t iv
    have h6 : 0 ≤ iv * (t / iv) := Int.mul_nonneg (by omega) h4
    omega
  omega
theorem isS_bound {s : Ser} (h : isS s = true) : ∀ v ∈ s.vals, -9223372036854775808 ≤ v.2 ∧ v.2 ≤ 9223372036854775807 := by
  intro v hv
  rw [isS_yes (isS_size h), List.all_eq_true] at h
  have h := h v hv
  unfold isV maxN at h
  split at h
  · simp only [decide_eq_true_eq] at h; omega
  · simp only [decide_eq_true_eq] at h; omega
theorem res_slotAlign {t iv : Int} (h : 0 ≤ t ∧ t ≤ 4294967295) (h1 : 1 ≤ iv ∧ iv ≤ 16777216) : res Γ 160 [.int .i64 t, .int .i64 iv] = some [.int .i64 (alignI t iv)] := by
  have a := align_le h.1 h1.1
  unfold alignI at a ⊢
  refine res_code (fn := slot_Align) rfl rfl ?_
  simp (disch := first | assumption | omega | decide | (simp only [List.length_cons, List.length_nil, List.length_append, List.length_replicate, List.length_map, List.length_set, List.length_take, List.length_drop, strs_len, ints_len, bools_len, aggs_len, vpv_len]; done) | (simp only [List.length_cons, List.length_nil, List.length_append, List.length_replicate, List.length_map, List.length_set, List.length_take, List.length_drop, strs_len, ints_len, bools_len, aggs_len, vpv_len]; omega)) only [go_sem, slot_Align]
theorem res_r5Align {t iv : Int} (h : 0 ≤ t ∧ t ≤ 4294967295) (h1 : 1 ≤ iv ∧ iv ≤ 16777216) : res Γ 163 [.int .i64 t, .int .i64 iv] = some [.int .i64 (alignI t iv)] := by
  have a := align_le h.1 h1.1
  unfold alignI at a ⊢
  refine res_code (fn := r5_Align) rfl rfl ?_
  simp (disch := first | assumption | omega | decide | (simp only [List.length_cons, List.length_nil, List.length_append, List.length_replicate, List.length_map, List.length_set, List.length_take, List.length_drop, strs_len, ints_len, bools_len, aggs_len, vpv_len]; done) | (simp only [List.length_cons, List.length_nil, List.length_append, List.length_replicate, List.length_map, List.length_set, List.length_take, List.length_drop, strs_len, ints_len, bools_len, aggs_len, vpv_len]; omega)) only [go_sem, r5_Align]
theorem res_seriesEnd {kk : SK} (s : Ser) (hs : isS s = true) (hl : s.vals.length ≤ 9223372036854775807) : res Γ 159 [s.pv kk] = some [.int .i64 (endS s)] := by
  have e := res_seriesIs (kk := kk) s hl
  have hz := isS_size hs
  unfold sizeS at hz
  have b := mulb (i := s.vals.length) (step := s.step) (by omega) (by omega) (by omega)
  unfold Ser.pv at e ⊢
  refine res_code (fn := series_End) rfl rfl ?_
  simp (disch := first | assumption | omega | decide | (simp only [List.length_cons, List.length_nil, List.length_append, List.length_replicate, List.length_map, List.length_set, List.length_take, List.length_drop, strs_len, ints_len, bools_len, aggs_len, vpv_len]; done) | (simp only [List.length_cons, List.length_nil, List.length_append, List.length_replicate, List.length_map, List.length_set, List.length_take, List.length_drop, strs_len, ints_len, bools_len, aggs_len, vpv_len]; omega)) only [go_sem, series_End, e, hs, endS]
theorem nB_cast {s : Ser} {iv : Int} (hs : isS s = true) (h1 : 1 ≤ iv) (hne : s.vals ≠ []) :
    0 ≤ s.start + s.vals.length * s.step - s.step - alignI s.start iv ∧ s.start + s.vals.length * s.step - s.step - alignI s.start iv ≤ 144115192370823167 ∧
    (s.start + s.vals.length * s.step - s.step - alignI s.start iv) / iv + 1 = (nB s iv : Int) := by
  have hz := isS_size hs
  unfold sizeS at hz
  have a := align_le (t := s.start) (by omega) h1
  have b := mulb (i := s.vals.length) (step := s.step) (by omega) (by omega) (by omega)
  have hp : 1 ≤ s.vals.length := List.length_pos_iff.2 hne
  have c : s.step ≤ s.vals.length * s.step := by
    have := Int.mul_le_mul_of_nonneg_right (show (1 : Int) ≤ s.vals.length by omega) (show 0 ≤ s.step by omega)
    omega
  have d : 0 ≤ s.start + s.vals.length * s.step - s.step - alignI s.start iv := by omega
  refine ⟨d, by omega, ?_⟩
  have := Int.ediv_nonneg d (show 0 ≤ iv by omega)
  unfold nB
  rw [if_neg hne]
  omega
theorem label_len {s : Ser} {iv kind : Int} (hs : isS s = true) (h1 : 1 ≤ iv ∧ iv ≤ 16777216) : (joinB [44] [s.name, decB iv.toNat, aggName kind]).length ≤ 1000000000 ∧ (joinB [44] [s.name, decB iv.toNat]).length ≤ 1000000000 := by
  have hz := isS_size hs
  unfold sizeS at hz
  have d := decB_len 7 iv.toNat (by omega)
  have a : (aggName kind).length ≤ 7 := by
    by_cases hk : 1 ≤ kind ∧ kind ≤ 5
    · exact (aggName_yes hk).2
    · rw [aggName_no hk]; simp
  simp only [joinB, List.length_append, List.length_cons, List.length_nil]
  omega
theorem strs_three (a b c : List UInt8) : ([.str a, .str b, .str c] : List PV) = strs [a, b, c] := rfl
theorem strs_two (a b : List UInt8) : ([.str a, .str b] : List PV) = strs [a, b] := rfl
theorem nB_nil {s : Ser} {iv : Int} (h : s.vals = []) : nB s iv = 0 := by unfold nB; rw [if_pos h]
section
variable {kk : SK} (s : Ser) (iv kind : Int) (hs : isS s = true) (h1 : 1 ≤ iv ∧ iv ≤ 16777216)
include hs h1
/-- What the code computes as the number of intervals. -/
theorem fB_sum (hk : 1 ≤ kind ∧ kind ≤ 5) : (nB s iv ≤ 131072 → res Γ 157 [.str nmS, s.pv kk, .int .i64 iv, .int .i64 kind] = some [(buckS nmS s iv kind).pv (fitK (nB s iv)), .bool true]) ∧
    (¬ nB s iv ≤ 131072 → res Γ 157 [.str nmS, s.pv kk, .int .i64 iv, .int .i64 kind] = some [noneS.pv .nil, .bool false]) := by
  have hz := isS_size hs
  unfold sizeS at hz
  have e := res_seriesIs (kk := kk) s (by omega)
  have d := res_decDigits iv.toNat (by omega)
  rw [Int.toNat_of_nonneg (by omega)] at d
  have ea := res_slotAlign (t := s.start) (iv := iv) (by omega) (by omega)
  have al := align_le (t := s.start) (iv := iv) (by omega) (by omega)
  have ee := res_seriesEnd (kk := kk) s hs (by omega)
  have hk2 := (aggName_yes hk).1
  have hx := buckX_is (nm := nmS) (s := s) (kind := kind) hs (.inr hk)
  have elb : res Γ 30 [.str nmS, .sl .any 1 [.str s.name, .str (decB iv.toNat), .str (aggName kind)]] = some [.str (labelL nmS [s.name, decB iv.toNat, aggName kind])] := by
    rw [strs_three]
    exact res_seriesLabelL nmS _ (by decide) (by simp) (label_len (kind := kind) hs h1).1
  have hb : buckX nmS s kind = ⟨s.name, s.start, s.step, s.vals, kind⟩ := by unfold buckX; rw [if_neg (by decide)]
  have ht : buckT nmS s iv kind = [s.name, decB iv.toNat, aggName kind] := by unfold buckT; rw [if_neg (by decide)]
  have hS : buckS nmS s iv kind = ⟨labelL nmS [s.name, decB iv.toNat, aggName kind], alignI s.start iv, iv, fitV ⟨s.name, s.start, s.step, s.vals, kind⟩ (alignI s.start iv) iv (nB s iv), s.cons⟩ := by unfold buckS; rw [hb, ht]
  rw [hb] at hx
  by_cases hne : s.vals = []
  · have hn := nB_nil (iv := iv) hne
    have hl0 : s.vals.length = 0 := by rw [hne]; rfl
    have ef : res Γ 158 [(Ser.mk s.name s.start s.step s.vals kind).pv kk, .int .i64 (alignI s.start iv), .int .i64 iv, .int .i64 0] = _ := res_seriesFit (kk := kk) _ hx (alignI s.start iv) iv (by omega) (by omega) (by omega) (by omega) 0 (by omega)
    refine ⟨fun _ => ?_, fun h => absurd h (by omega)⟩
    rw [hS, hn]
    unfold Ser.pv at e ee ef ⊢
    unfold nmS at elb ⊢
    refine res_code (fn := fwin_Buckets) rfl rfl ?_
    simp (disch := first | assumption | omega | decide | (simp only [List.length_cons, List.length_nil, List.length_append, List.length_replicate, List.length_map, List.length_set, List.length_take, List.length_drop, strs_len, ints_len, bools_len, aggs_len, vpv_len]; done) | (simp only [List.length_cons, List.length_nil, List.length_append, List.length_replicate, List.length_map, List.length_set, List.length_take, List.length_drop, strs_len, ints_len, bools_len, aggs_len, vpv_len]; omega)) only [go_sem, fwin_Buckets, e, hs, d, hk2, ea, ef, elb, fitS]
    try rfl
  · obtain ⟨n0, n1, n2⟩ := nB_cast (iv := iv) hs (by omega) hne
    have hpos : 0 < s.vals.length := List.length_pos_iff.2 hne
    unfold endS at ee
    have q0 := Int.ediv_nonneg n0 (show 0 ≤ iv by omega)
    have q1 := Int.ediv_le_self iv n0
    have m0 := map_quo (k := .i64) (a := s.start + s.vals.length * s.step - s.step - alignI s.start iv) (b := iv) n0 (by omega) (wrap_i64 (by omega) (by omega))
    have mb := mulb (i := s.vals.length) (step := s.step) (by omega) (by omega) (by omega)
    refine ⟨fun hn => ?_, fun hn => ?_⟩
    · have ef : res Γ 158 [(Ser.mk s.name s.start s.step s.vals kind).pv kk, .int .i64 (alignI s.start iv), .int .i64 iv, .int .i64 ((nB s iv : Nat) : Int)] = _ := res_seriesFit (kk := kk) _ hx (alignI s.start iv) iv (by omega) (by omega) (by omega) (by omega) (nB s iv) hn
      rw [hS]
      unfold Ser.pv at e ee ef ⊢
      unfold nmS at elb ⊢
      refine res_code (fn := fwin_Buckets) rfl rfl ?_
      simp (disch := first | assumption | omega | decide | (simp only [List.length_cons, List.length_nil, List.length_append, List.length_replicate, List.length_map, List.length_set, List.length_take, List.length_drop, strs_len, ints_len, bools_len, aggs_len, vpv_len]; done) | (simp only [List.length_cons, List.length_nil, List.length_append, List.length_replicate, List.length_map, List.length_set, List.length_take, List.length_drop, strs_len, ints_len, bools_len, aggs_len, vpv_len]; omega)) only [go_sem, fwin_Buckets, e, hs, d, hk2, ea, ee, m0, n2, ef, elb, fitS]
      try rfl
    · unfold Ser.pv at e ee ⊢
      unfold noneS nmS
      refine res_code (fn := fwin_Buckets) rfl rfl ?_
      simp (disch := first | assumption | omega | decide | (simp only [List.length_cons, List.length_nil, List.length_append, List.length_replicate, List.length_map, List.length_set, List.length_take, List.length_drop, strs_len, ints_len, bools_len, aggs_len, vpv_len]; done) | (simp only [List.length_cons, List.length_nil, List.length_append, List.length_replicate, List.length_map, List.length_set, List.length_take, List.length_drop, strs_len, ints_len, bools_len, aggs_len, vpv_len]; omega)) only [go_sem, fwin_Buckets, e, hs, d, hk2, ea, ee, m0, n2]
theorem fB_hit : (nB s iv ≤ 131072 → res Γ 157 [.str nmH, s.pv kk, .int .i64 iv, .int .i64 kind] = some [(buckS nmH s iv kind).pv (fitK (nB s iv)), .bool true]) ∧
    (¬ nB s iv ≤ 131072 → res Γ 157 [.str nmH, s.pv kk, .int .i64 iv, .int .i64 kind] = some [noneS.pv .nil, .bool false]) := by
  have hz := isS_size hs
  unfold sizeS at hz
  have e := res_seriesIs (kk := kk) s (by omega)
  have d := res_decDigits iv.toNat (by omega)
  rw [Int.toNat_of_nonneg (by omega)] at d
  have ea := res_slotAlign (t := s.start) (iv := iv) (by omega) (by omega)
  have al := align_le (t := s.start) (iv := iv) (by omega) (by omega)
  have ee := res_seriesEnd (kk := kk) s hs (by omega)
  have eh := res_hits (kk := kk) s (isS_size hs) (isS_bound hs)
  have hx := buckX_is (nm := nmH) (s := s) (kind := kind) hs (.inl rfl)
  have elb : res Γ 30 [.str nmH, .sl .tight 1 [.str s.name, .str (decB iv.toNat)]] = some [.str (labelL nmH [s.name, decB iv.toNat])] := by
    rw [strs_two]
    exact res_seriesLabelL nmH _ (by decide) (by simp) (label_len (kind := kind) hs h1).2
  have hb : buckX nmH s kind = ⟨s.name, s.start, s.step, s.vals.map (hitV s.step), 2⟩ := by unfold buckX; rw [if_pos rfl]
  have ht : buckT nmH s iv kind = [s.name, decB iv.toNat] := by unfold buckT; rw [if_pos rfl]
  have hS : buckS nmH s iv kind = ⟨labelL nmH [s.name, decB iv.toNat], alignI s.start iv, iv, fitV ⟨s.name, s.start, s.step, s.vals.map (hitV s.step), 2⟩ (alignI s.start iv) iv (nB s iv), s.cons⟩ := by unfold buckS; rw [hb, ht]
  rw [hb] at hx
  unfold hitS at eh
  by_cases hne : s.vals = []
  · have hn := nB_nil (iv := iv) hne
    have hl0 : s.vals.length = 0 := by rw [hne]; rfl
    have ef : res Γ 158 [(Ser.mk s.name s.start s.step (s.vals.map (hitV s.step)) 2).pv .any, .int .i64 (alignI s.start iv), .int .i64 iv, .int .i64 0] = _ := res_seriesFit (kk := .any) _ hx (alignI s.start iv) iv (by omega) (by omega) (by omega) (by omega) 0 (by omega)
    refine ⟨fun _ => ?_, fun h => absurd h (by omega)⟩
    rw [hS, hn]
    unfold Ser.pv at e ee ef eh ⊢
    unfold nmH at elb ⊢
    refine res_code (fn := fwin_Buckets) rfl rfl ?_
    simp (disch := first | assumption | omega | decide | (simp only [List.length_cons, List.length_nil, List.length_append, List.length_replicate, List.length_map, List.length_set, List.length_take, List.length_drop, strs_len, ints_len, bools_len, aggs_len, vpv_len]; done) | (simp only [List.length_cons, List.length_nil, List.length_append, List.length_replicate, List.length_map, List.length_set, List.length_take, List.length_drop, strs_len, ints_len, bools_len, aggs_len, vpv_len]; omega)) only [go_sem, fwin_Buckets, e, hs, d, ea, eh, ef, elb, fitS]
    try rfl
  · obtain ⟨n0, n1, n2⟩ := nB_cast (iv := iv) hs (by omega) hne
    have hpos : 0 < s.vals.length := List.length_pos_iff.2 hne
    unfold endS at ee
    have q0 := Int.ediv_nonneg n0 (show 0 ≤ iv by omega)
    have q1 := Int.ediv_le_self iv n0
    have m0 := map_quo (k := .i64) (a := s.start + s.vals.length * s.step - s.step - alignI s.start iv) (b := iv) n0 (by omega) (wrap_i64 (by omega) (by omega))
    have mb := mulb (i := s.vals.length) (step := s.step) (by omega) (by omega) (by omega)
    refine ⟨fun hn => ?_, fun hn => ?_⟩
    · have ef : res Γ 158 [(Ser.mk s.name s.start s.step (s.vals.map (hitV s.step)) 2).pv .any, .int .i64 (alignI s.start iv), .int .i64 iv, .int .i64 ((nB s iv : Nat) : Int)] = _ := res_seriesFit (kk := .any) _ hx (alignI s.start iv) iv (by omega) (by omega) (by omega) (by omega) (nB s iv) hn
      rw [hS]
      unfold Ser.pv at e ee ef eh ⊢
      unfold nmH at elb ⊢
      refine res_code (fn := fwin_Buckets) rfl rfl ?_
      simp (disch := first | assumption | omega | decide | (simp only [List.length_cons, List.length_nil, List.length_append, List.length_replicate, List.length_map, List.length_set, List.length_take, List.length_drop, strs_len, ints_len, bools_len, aggs_len, vpv_len]; done) | (simp only [List.length_cons, List.length_nil, List.length_append, List.length_replicate, List.length_map, List.length_set, List.length_take, List.length_drop, strs_len, ints_len, bools_len, aggs_len, vpv_len]; omega)) only [go_sem, fwin_Buckets, e, hs, d, ea, ee, eh, m0, n2, ef, elb, fitS]
      try rfl
    · unfold Ser.pv at e ee eh ⊢
      unfold noneS nmH
      refine res_code (fn := fwin_Buckets) rfl rfl ?_
      simp (disch := first | assumption | omega | decide | (simp only [List.length_cons, List.length_nil, List.length_append, List.length_replicate, List.length_map, List.length_set, List.length_take, List.length_drop, strs_len, ints_len, bools_len, aggs_len, vpv_len]; done) | (simp only [List.length_cons, List.length_nil, List.length_append, List.length_replicate, List.length_map, List.length_set, List.length_take, List.length_drop, strs_len, ints_len, bools_len, aggs_len, vpv_len]; omega)) only [go_sem, fwin_Buckets, e, hs, d, ea, ee, eh, m0, n2]
end
theorem res_fwinBuckets {kk : SK} {nm : List UInt8} (s : Ser) (iv kind : Int) (h : buckOk nm s iv kind) : res Γ 157 [.str nm, s.pv kk, .int .i64 iv, .int .i64 kind] = some [(buckS nm s iv kind).pv (fitK (nB s iv)), .bool true] := by
  obtain ⟨hs, h1, h2, h3, h4⟩ := h
  rcases h3 with ⟨rfl, hk⟩ | rfl
  · exact (fB_sum s iv kind hs ⟨h1, h2⟩ hk).1 h4
  · exact (fB_hit s iv kind hs ⟨h1, h2⟩).1 h4
theorem res_fwinBuckets_no {kk : SK} {nm : List UInt8} (s : Ser) (iv kind : Int) (hl : s.vals.length ≤ 9223372036854775807) (h : ¬ buckOk nm s iv kind) : res Γ 157 [.str nm, s.pv kk, .int .i64 iv, .int .i64 kind] = some [noneS.pv .nil, .bool false] := by
  have e := res_seriesIs (kk := kk) s hl
  cases hs : isS s
  · unfold Ser.pv at e ⊢
    unfold noneS
    refine res_code (fn := fwin_Buckets) rfl rfl ?_
    simp (disch := first | assumption | omega | decide | (simp only [List.length_cons, List.length_nil, List.length_append, List.length_replicate, List.length_map, List.length_set, List.length_take, List.length_drop, strs_len, ints_len, bools_len, aggs_len, vpv_len]; done) | (simp only [List.length_cons, List.length_nil, List.length_append, List.length_replicate, List.length_map, List.length_set, List.length_take, List.length_drop, strs_len, ints_len, bools_len, aggs_len, vpv_len]; omega)) only [go_sem, fwin_Buckets, e, hs]
  · by_cases h1 : 1 ≤ iv ∧ iv ≤ 16777216
    · by_cases hS : nm = nmS
      · subst hS
        by_cases hk : 1 ≤ kind ∧ kind ≤ 5
        · refine (fB_sum s iv kind hs h1 hk).2 (fun hn => h ⟨hs, h1.1, h1.2, .inl ⟨rfl, hk⟩, hn⟩)
        · have hk2 := aggName_no hk
          have d := res_decDigits iv.toNat (by omega)
          rw [Int.toNat_of_nonneg (by omega)] at d
          unfold Ser.pv at e ⊢
          unfold noneS nmS
          refine res_code (fn := fwin_Buckets) rfl rfl ?_
          simp (disch := first | assumption | omega | decide | (simp only [List.length_cons, List.length_nil, List.length_append, List.length_replicate, List.length_map, List.length_set, List.length_take, List.length_drop, strs_len, ints_len, bools_len, aggs_len, vpv_len]; done) | (simp only [List.length_cons, List.length_nil, List.length_append, List.length_replicate, List.length_map, List.length_set, List.length_take, List.length_drop, strs_len, ints_len, bools_len, aggs_len, vpv_len]; omega)) only [go_sem, fwin_Buckets, e, hs, d, hk2]
      · by_cases hH : nm = nmH
        · subst hH
          exact (fB_hit s iv kind hs h1).2 (fun hn => h ⟨hs, h1.1, h1.2, .inr rfl, hn⟩)
        · have d := res_decDigits iv.toNat (by omega)
          rw [Int.toNat_of_nonneg (by omega)] at d
          unfold Ser.pv at e ⊢
          unfold noneS
          unfold nmS at hS
          unfold nmH at hH
          refine res_code (fn := fwin_Buckets) rfl rfl ?_
          simp (disch := first | assumption | omega | decide | (simp only [List.length_cons, List.length_nil, List.length_append, List.length_replicate, List.length_map, List.length_set, List.length_take, List.length_drop, strs_len, ints_len, bools_len, aggs_len, vpv_len]; done) | (simp only [List.length_cons, List.length_nil, List.length_append, List.length_replicate, List.length_map, List.length_set, List.length_take, List.length_drop, strs_len, ints_len, bools_len, aggs_len, vpv_len]; omega)) only [go_sem, fwin_Buckets, e, hs, d]
    · unfold Ser.pv at e ⊢
      unfold noneS
      refine res_code (fn := fwin_Buckets) rfl rfl ?_
      by_cases h2 : iv < 1
      · simp (disch := first | assumption | omega | decide | (simp only [List.length_cons, List.length_nil, List.length_append, List.length_replicate, List.length_map, List.length_set, List.length_take, List.length_drop, strs_len, ints_len, bools_len, aggs_len, vpv_len]; done) | (simp only [List.length_cons, List.length_nil, List.length_append, List.length_replicate, List.length_map, List.length_set, List.length_take, List.length_drop, strs_len, ints_len, bools_len, aggs_len, vpv_len]; omega)) only [go_sem, fwin_Buckets, e, hs]
      · simp (disch := first | assumption | omega | decide | (simp only [List.length_cons, List.length_nil, List.length_append, List.length_replicate, List.length_map, List.length_set, List.length_take, List.length_drop, strs_len, ints_len, bools_len, aggs_len, vpv_len]; done) | (simp only [List.length_cons, List.length_nil, List.length_append, List.length_replicate, List.length_map, List.length_set, List.length_take, List.length_drop, strs_len, ints_len, bools_len, aggs_len, vpv_len]; omega)) only [go_sem, fwin_Buckets, e, hs]
end Ab
/- The reference's Buckets. -/
namespace Ab
open Go (IntKind BinOp UnOp)
theorem resM_r18Own {kk : SK} (s : Ser) (hl : s.vals.length ≤ 1073741824) : resM Γ 0 34 [.p (s.pv kk)] [] = some ([.agg [.p (.str s.name), .p (.int .i64 s.start), .p (.int .i64 s.step), .own 0 s.vals.length, .p (.int .i64 s.cons)]], [.row false 2 (vpv s.vals)]) := by
  have hv : (vpv s.vals).length ≤ 1073741824 := by rw [vpv_len]; exact hl
  have hw : (vpv s.vals).length = s.vals.length := vpv_len
  unfold Ser.pv
  refine resM_code (fn := r18_Own) rfl rfl ?_
  simp (disch := first | assumption | omega | decide | (simp only [List.length_cons, List.length_nil, List.length_append, List.length_replicate, List.length_map, List.length_set, List.length_take, List.length_drop, strs_len, ints_len, bools_len, aggs_len, vpv_len]; done) | (simp only [List.length_cons, List.length_nil, List.length_append, List.length_replicate, List.length_map, List.length_set, List.length_take, List.length_drop, strs_len, ints_len, bools_len, aggs_len, vpv_len]; omega)) only [go_sem, r18_Own]
theorem st34 : stillF Γ 34 = true := rfl
theorem rB_l1_ok {kk : SK} (s : Ser) (hz : sizeS s) (hb : ∀ v ∈ s.vals, -9223372036854775808 ≤ v.2 ∧ v.2 ≤ 9223372036854775807) (nm iv x : AV) (B1 : Blk) (Q : Out → Prop) : ∀ (d i : Nat), i + d = s.vals.length →
    Q (.nrm, [(0, nm), (2, iv), (3, .p (.int .i64 2)), (5, .bx 0 0), (8, .bx 1 0), (10, .bx 3 0), (11, x)], [.box [.p (.str s.name), .p (.int .i64 s.start), .p (.int .i64 s.step), .p (.sl kk 2 (vpv s.vals)), .p (.int .i64 s.cons)], B1, .row false 2 (vpv (s.vals.map (hitV s.step))), .box [.p (.str s.name), .p (.int .i64 s.start), .p (.int .i64 s.step), .own 2 s.vals.length, .p (.int .i64 s.cons)]]) →
    Wp Γ r21_Buckets_l1 [(0, nm), (2, iv), (3, .p (.int .i64 2)), (5, .bx 0 0), (8, .bx 1 0), (10, .bx 3 0), (11, x), (12, .p (.int .i64 (i : Int)))]
      [.box [.p (.str s.name), .p (.int .i64 s.start), .p (.int .i64 s.step), .p (.sl kk 2 (vpv s.vals)), .p (.int .i64 s.cons)], B1, .row false 2 (vpv (hitT s.vals s.step i)), .box [.p (.str s.name), .p (.int .i64 s.start), .p (.int .i64 s.step), .own 2 s.vals.length, .p (.int .i64 s.cons)]] (InBlk [0, 2, 3, 5, 8, 10, 11] 0 Q) := by
  have hv : s.vals.length ≤ 131072 := by unfold sizeS at hz; omega
  have hst : 1 ≤ s.step ∧ s.step ≤ 1099511627776 := by unfold sizeS at hz; omega
  intro d
  induction d with
  | zero =>
    intro i hi hQ
    obtain rfl : i = s.vals.length := by omega
    have g1 := @hitT_len s.vals s.step s.vals.length
    rw [W_loop (L := r21_Buckets_l1) rfl]
    simp (disch := first | assumption | omega | decide | (simp only [List.length_cons, List.length_nil, List.length_append, List.length_replicate, List.length_map, List.length_set, List.length_take, List.length_drop, strs_len, ints_len, bools_len, aggs_len, vpv_len]; done) | (simp only [List.length_cons, List.length_nil, List.length_append, List.length_replicate, List.length_map, List.length_set, List.length_take, List.length_drop, strs_len, ints_len, bools_len, aggs_len, vpv_len]; omega)) only [go_sem]
    rw [hitT_all]
    exact hQ
  | succ d ih =>
    intro i hi hQ
    have h : i < s.vals.length := by omega
    have g1 := @hitT_len s.vals s.step i
    have g2 := hitT_get (step := s.step) h
    have g3 := hitT_set (step := s.step) h
    have hm : s.vals.getD i (false, 0) ∈ s.vals := by rw [List.getD_eq_getElem?_getD, List.getElem?_eq_getElem h]; exact List.getElem_mem h
    have hbb := hb _ hm
    have e := res_r1MulDiv (a := (s.vals.getD i (false, 0)).2) (b := s.step) (c := 1) hbb (by omega) (by omega)
    have ih := ih (i + 1) (by omega) hQ
    generalize s.vals.getD i (false, 0) = v at *
    obtain ⟨b, n⟩ := v
    rw [W_loop (L := r21_Buckets_l1) rfl]
    cases b
    · have e1 : hitV s.step (false, n) = (false, 0) := rfl
      rw [e1] at g3
      rw [← g3] at ih
      cases hm : mdV n s.step 1 with
      | none =>
        rw [hm] at e
        simp only [mdR] at e
        simp (disch := first | assumption | omega | decide | (simp only [List.length_cons, List.length_nil, List.length_append, List.length_replicate, List.length_map, List.length_set, List.length_take, List.length_drop, strs_len, ints_len, bools_len, aggs_len, vpv_len]; done) | (simp only [List.length_cons, List.length_nil, List.length_append, List.length_replicate, List.length_map, List.length_set, List.length_take, List.length_drop, strs_len, ints_len, bools_len, aggs_len, vpv_len]; omega)) only [go_sem, g2, valP, e]
        exact ih
      | some q =>
        rw [hm] at e
        simp only [mdR] at e
        simp (disch := first | assumption | omega | decide | (simp only [List.length_cons, List.length_nil, List.length_append, List.length_replicate, List.length_map, List.length_set, List.length_take, List.length_drop, strs_len, ints_len, bools_len, aggs_len, vpv_len]; done) | (simp only [List.length_cons, List.length_nil, List.length_append, List.length_replicate, List.length_map, List.length_set, List.length_take, List.length_drop, strs_len, ints_len, bools_len, aggs_len, vpv_len]; omega)) only [go_sem, g2, valP, e]
        exact ih
    · cases hm : mdV n s.step 1 with
      | none =>
        have e1 : hitV s.step (true, n) = (false, 0) := by simp [hitV, hm, valV, noV]
        rw [e1] at g3
        rw [← g3] at ih
        rw [hm] at e
        simp only [mdR] at e
        simp (disch := first | assumption | omega | decide | (simp only [List.length_cons, List.length_nil, List.length_append, List.length_replicate, List.length_map, List.length_set, List.length_take, List.length_drop, strs_len, ints_len, bools_len, aggs_len, vpv_len]; done) | (simp only [List.length_cons, List.length_nil, List.length_append, List.length_replicate, List.length_map, List.length_set, List.length_take, List.length_drop, strs_len, ints_len, bools_len, aggs_len, vpv_len]; omega)) only [go_sem, g2, valP, e]
        exact ih
      | some q =>
        have e1 : hitV s.step (true, n) = ofV q := by simp [hitV, hm, valV]
        rw [e1] at g3
        rw [← g3] at ih
        rw [hm] at e
        simp only [mdR] at e
        simp (disch := first | assumption | omega | decide | (simp only [List.length_cons, List.length_nil, List.length_append, List.length_replicate, List.length_map, List.length_set, List.length_take, List.length_drop, strs_len, ints_len, bools_len, aggs_len, vpv_len]; done) | (simp only [List.length_cons, List.length_nil, List.length_append, List.length_replicate, List.length_map, List.length_set, List.length_take, List.length_drop, strs_len, ints_len, bools_len, aggs_len, vpv_len]; omega)) only [go_sem, g2, valP, e]
        exact ih
section
variable {kk : SK} (s : Ser) (iv kind : Int) (hs : isS s = true) (h1 : 1 ≤ iv ∧ iv ≤ 16777216)
include hs h1
theorem rB_sum (hk : 1 ≤ kind ∧ kind ≤ 5) : (nB s iv ≤ 131072 → res Γ 156 [.str nmS, s.pv kk, .int .i64 iv, .int .i64 kind] = some [(buckS nmS s iv kind).pv (fitK (nB s iv)), .bool true]) ∧
    (¬ nB s iv ≤ 131072 → res Γ 156 [.str nmS, s.pv kk, .int .i64 iv, .int .i64 kind] = some [noneS.pv .nil, .bool false]) := by
  have hz := isS_size hs
  unfold sizeS at hz
  have e := res_r18Is (kk := kk) s (by omega)
  have eo := resM_r18Own (kk := kk) s (by omega)
  have hw : (vpv s.vals).length = s.vals.length := vpv_len
  have d := res_r2Digits iv.toNat (by omega)
  rw [Int.toNat_of_nonneg (by omega)] at d
  have ea := res_r5Align (t := s.start) (iv := iv) (by omega) (by omega)
  have al := align_le (t := s.start) (iv := iv) (by omega) (by omega)
  have hx := buckX_is (nm := nmS) (s := s) (kind := kind) hs (.inr hk)
  have elb : res Γ 33 [.str nmS, .sl .any 1 [.str s.name, .str (decB iv.toNat), .str (aggName kind)]] = some [.str (labelL nmS [s.name, decB iv.toNat, aggName kind])] := by
    rw [strs_three]
    exact res_r18LabelL nmS _ (by decide) (by simp) (label_len (kind := kind) hs h1).1
  have hb : buckX nmS s kind = ⟨s.name, s.start, s.step, s.vals, kind⟩ := by unfold buckX; rw [if_neg (by decide)]
  have ht : buckT nmS s iv kind = [s.name, decB iv.toNat, aggName kind] := by unfold buckT; rw [if_neg (by decide)]
  have hS : buckS nmS s iv kind = ⟨labelL nmS [s.name, decB iv.toNat, aggName kind], alignI s.start iv, iv, fitV ⟨s.name, s.start, s.step, s.vals, kind⟩ (alignI s.start iv) iv (nB s iv), s.cons⟩ := by unfold buckS; rw [hb, ht]
  rw [hb] at hx
  by_cases hne : s.vals = []
  · have hn := nB_nil (iv := iv) hne
    have hl0 : s.vals.length = 0 := by rw [hne]; rfl
    have ef : res Γ 162 [(Ser.mk s.name s.start s.step s.vals kind).pv .any, .int .i64 (alignI s.start iv), .int .i64 iv, .int .i64 0] = _ := res_r18Fit (kk := .any) _ hx (alignI s.start iv) iv (by omega) (by omega) (by omega) (by omega) 0 (by omega)
    refine ⟨fun _ => ?_, fun h => absurd h (by omega)⟩
    rw [hS, hn]
    unfold Ser.pv at e eo ef ⊢
    unfold nmS at elb ⊢
    refine res_code (fn := r21_Buckets) rfl rfl ?_
    simp (disch := first | assumption | omega | decide | (simp only [List.length_cons, List.length_nil, List.length_append, List.length_replicate, List.length_map, List.length_set, List.length_take, List.length_drop, strs_len, ints_len, bools_len, aggs_len, vpv_len]; done) | (simp only [List.length_cons, List.length_nil, List.length_append, List.length_replicate, List.length_map, List.length_set, List.length_take, List.length_drop, strs_len, ints_len, bools_len, aggs_len, vpv_len]; omega)) only [go_sem, r21_Buckets, e, hs, d, eo, st34, ea, ef, elb, fitS]
    try rfl
  · obtain ⟨n0, n1, n2⟩ := nB_cast (iv := iv) hs (by omega) hne
    have hpos : 0 < s.vals.length := List.length_pos_iff.2 hne
    have q0 := Int.ediv_nonneg n0 (show 0 ≤ iv by omega)
    have q1 := Int.ediv_le_self iv n0
    have m0 := map_quo (k := .i64) (a := s.start + s.vals.length * s.step - s.step - alignI s.start iv) (b := iv) n0 (by omega) (wrap_i64 (by omega) (by omega))
    have mb := mulb (i := s.vals.length) (step := s.step) (by omega) (by omega) (by omega)
    have em : ((s.vals.length : Int) - 1) * s.step = s.vals.length * s.step - s.step := by rw [Int.sub_mul, Int.one_mul]
    have em2 : s.start + (s.vals.length * s.step - s.step) - alignI s.start iv = s.start + s.vals.length * s.step - s.step - alignI s.start iv := by omega
    refine ⟨fun hn => ?_, fun hn => ?_⟩
    · have ef : res Γ 162 [(Ser.mk s.name s.start s.step s.vals kind).pv .any, .int .i64 (alignI s.start iv), .int .i64 iv, .int .i64 ((nB s iv : Nat) : Int)] = _ := res_r18Fit (kk := .any) _ hx (alignI s.start iv) iv (by omega) (by omega) (by omega) (by omega) (nB s iv) hn
      rw [hS]
      unfold Ser.pv at e eo ef ⊢
      unfold nmS at elb ⊢
      refine res_code (fn := r21_Buckets) rfl rfl ?_
      simp (disch := first | assumption | omega | decide | (simp only [List.length_cons, List.length_nil, List.length_append, List.length_replicate, List.length_map, List.length_set, List.length_take, List.length_drop, strs_len, ints_len, bools_len, aggs_len, vpv_len]; done) | (simp only [List.length_cons, List.length_nil, List.length_append, List.length_replicate, List.length_map, List.length_set, List.length_take, List.length_drop, strs_len, ints_len, bools_len, aggs_len, vpv_len]; omega)) only [go_sem, r21_Buckets, e, hs, d, eo, st34, ea, em, em2, m0, n2, ef, elb, fitS]
      try rfl
    · unfold Ser.pv at e eo ⊢
      unfold noneS nmS
      refine res_code (fn := r21_Buckets) rfl rfl ?_
      simp (disch := first | assumption | omega | decide | (simp only [List.length_cons, List.length_nil, List.length_append, List.length_replicate, List.length_map, List.length_set, List.length_take, List.length_drop, strs_len, ints_len, bools_len, aggs_len, vpv_len]; done) | (simp only [List.length_cons, List.length_nil, List.length_append, List.length_replicate, List.length_map, List.length_set, List.length_take, List.length_drop, strs_len, ints_len, bools_len, aggs_len, vpv_len]; omega)) only [go_sem, r21_Buckets, e, hs, d, eo, st34, ea, em, em2, m0, n2]
theorem rB_hit : (nB s iv ≤ 131072 → res Γ 156 [.str nmH, s.pv kk, .int .i64 iv, .int .i64 kind] = some [(buckS nmH s iv kind).pv (fitK (nB s iv)), .bool true]) ∧
    (¬ nB s iv ≤ 131072 → res Γ 156 [.str nmH, s.pv kk, .int .i64 iv, .int .i64 kind] = some [noneS.pv .nil, .bool false]) := by
  have hz := isS_size hs
  unfold sizeS at hz
  have e := res_r18Is (kk := kk) s (by omega)
  have eo := resM_r18Own (kk := kk) s (by omega)
  have hw : (vpv s.vals).length = s.vals.length := vpv_len
  have hw2 : (vpv (s.vals.map (hitV s.step))).length = s.vals.length := by rw [vpv_len, List.length_map]
  have d := res_r2Digits iv.toNat (by omega)
  rw [Int.toNat_of_nonneg (by omega)] at d
  have ea := res_r5Align (t := s.start) (iv := iv) (by omega) (by omega)
  have al := align_le (t := s.start) (iv := iv) (by omega) (by omega)
  have hx := buckX_is (nm := nmH) (s := s) (kind := kind) hs (.inl rfl)
  have l1 := fun nm iv x B Q => rB_l1_ok (kk := kk) s (isS_size hs) (isS_bound hs) nm iv x B Q s.vals.length 0 (by omega)
  simp only [hitT_zero] at l1
  have elb : res Γ 33 [.str nmH, .sl .tight 1 [.str s.name, .str (decB iv.toNat)]] = some [.str (labelL nmH [s.name, decB iv.toNat])] := by
    rw [strs_two]
    exact res_r18LabelL nmH _ (by decide) (by simp) (label_len (kind := kind) hs h1).2
  have hb : buckX nmH s kind = ⟨s.name, s.start, s.step, s.vals.map (hitV s.step), 2⟩ := by unfold buckX; rw [if_pos rfl]
  have ht : buckT nmH s iv kind = [s.name, decB iv.toNat] := by unfold buckT; rw [if_pos rfl]
  have hS : buckS nmH s iv kind = ⟨labelL nmH [s.name, decB iv.toNat], alignI s.start iv, iv, fitV ⟨s.name, s.start, s.step, s.vals.map (hitV s.step), 2⟩ (alignI s.start iv) iv (nB s iv), s.cons⟩ := by unfold buckS; rw [hb, ht]
  rw [hb] at hx
  by_cases hne : s.vals = []
  · have hn := nB_nil (iv := iv) hne
    have hl0 : s.vals.length = 0 := by rw [hne]; rfl
    have ef : res Γ 162 [(Ser.mk s.name s.start s.step (s.vals.map (hitV s.step)) 2).pv .any, .int .i64 (alignI s.start iv), .int .i64 iv, .int .i64 0] = _ := res_r18Fit (kk := .any) _ hx (alignI s.start iv) iv (by omega) (by omega) (by omega) (by omega) 0 (by omega)
    refine ⟨fun _ => ?_, fun h => absurd h (by omega)⟩
    rw [hS, hn]
    unfold Ser.pv at e eo ef ⊢
    unfold nmH at elb ⊢
    refine res_code (fn := r21_Buckets) rfl rfl ?_
    simp (disch := first | assumption | omega | decide | (simp only [List.length_cons, List.length_nil, List.length_append, List.length_replicate, List.length_map, List.length_set, List.length_take, List.length_drop, strs_len, ints_len, bools_len, aggs_len, vpv_len]; done) | (simp only [List.length_cons, List.length_nil, List.length_append, List.length_replicate, List.length_map, List.length_set, List.length_take, List.length_drop, strs_len, ints_len, bools_len, aggs_len, vpv_len]; omega)) only [go_sem, r21_Buckets, e, hs, d, eo, st34]
    refine l1 _ _ _ _ _ ?_
    simp (disch := first | assumption | omega | decide | (simp only [List.length_cons, List.length_nil, List.length_append, List.length_replicate, List.length_map, List.length_set, List.length_take, List.length_drop, strs_len, ints_len, bools_len, aggs_len, vpv_len]; done) | (simp only [List.length_cons, List.length_nil, List.length_append, List.length_replicate, List.length_map, List.length_set, List.length_take, List.length_drop, strs_len, ints_len, bools_len, aggs_len, vpv_len]; omega)) only [go_sem, ea, ef, elb, fitS]
    try rfl
  · obtain ⟨n0, n1, n2⟩ := nB_cast (iv := iv) hs (by omega) hne
    have hpos : 0 < s.vals.length := List.length_pos_iff.2 hne
    have q0 := Int.ediv_nonneg n0 (show 0 ≤ iv by omega)
    have q1 := Int.ediv_le_self iv n0
    have m0 := map_quo (k := .i64) (a := s.start + s.vals.length * s.step - s.step - alignI s.start iv) (b := iv) n0 (by omega) (wrap_i64 (by omega) (by omega))
    have mb := mulb (i := s.vals.length) (step := s.step) (by omega) (by omega) (by omega)
    have em : ((s.vals.length : Int) - 1) * s.step = s.vals.length * s.step - s.step := by rw [Int.sub_mul, Int.one_mul]
    have em2 : s.start + (s.vals.length * s.step - s.step) - alignI s.start iv = s.start + s.vals.length * s.step - s.step - alignI s.start iv := by omega
    refine ⟨fun hn => ?_, fun hn => ?_⟩
    · have ef : res Γ 162 [(Ser.mk s.name s.start s.step (s.vals.map (hitV s.step)) 2).pv .any, .int .i64 (alignI s.start iv), .int .i64 iv, .int .i64 ((nB s iv : Nat) : Int)] = _ := res_r18Fit (kk := .any) _ hx (alignI s.start iv) iv (by omega) (by omega) (by omega) (by omega) (nB s iv) hn
      rw [hS]
      unfold Ser.pv at e eo ef ⊢
      unfold nmH at elb ⊢
      refine res_code (fn := r21_Buckets) rfl rfl ?_
      simp (disch := first | assumption | omega | decide | (simp only [List.length_cons, List.length_nil, List.length_append, List.length_replicate, List.length_map, List.length_set, List.length_take, List.length_drop, strs_len, ints_len, bools_len, aggs_len, vpv_len]; done) | (simp only [List.length_cons, List.length_nil, List.length_append, List.length_replicate, List.length_map, List.length_set, List.length_take, List.length_drop, strs_len, ints_len, bools_len, aggs_len, vpv_len]; omega)) only [go_sem, r21_Buckets, e, hs, d, eo, st34]
      refine l1 _ _ _ _ _ ?_
      simp (disch := first | assumption | omega | decide | (simp only [List.length_cons, List.length_nil, List.length_append, List.length_replicate, List.length_map, List.length_set, List.length_take, List.length_drop, strs_len, ints_len, bools_len, aggs_len, vpv_len]; done) | (simp only [List.length_cons, List.length_nil, List.length_append, List.length_replicate, List.length_map, List.length_set, List.length_take, List.length_drop, strs_len, ints_len, bools_len, aggs_len, vpv_len]; omega)) only [go_sem, ea, em, em2, m0, n2, ef, elb, fitS]
      try rfl
    · unfold Ser.pv at e eo ⊢
      unfold noneS nmH
      refine res_code (fn := r21_Buckets) rfl rfl ?_
      simp (disch := first | assumption | omega | decide | (simp only [List.length_cons, List.length_nil, List.length_append, List.length_replicate, List.length_map, List.length_set, List.length_take, List.length_drop, strs_len, ints_len, bools_len, aggs_len, vpv_len]; done) | (simp only [List.length_cons, List.length_nil, List.length_append, List.length_replicate, List.length_map, List.length_set, List.length_take, List.length_drop, strs_len, ints_len, bools_len, aggs_len, vpv_len]; omega)) only [go_sem, r21_Buckets, e, hs, d, eo, st34]
      refine l1 _ _ _ _ _ ?_
      simp (disch := first | assumption | omega | decide | (simp only [List.length_cons, List.length_nil, List.length_append, List.length_replicate, List.length_map, List.length_set, List.length_take, List.length_drop, strs_len, ints_len, bools_len, aggs_len, vpv_len]; done) | (simp only [List.length_cons, List.length_nil, List.length_append, List.length_replicate, List.length_map, List.length_set, List.length_take, List.length_drop, strs_len, ints_len, bools_len, aggs_len, vpv_len]; omega)) only [go_sem, ea, em, em2, m0, n2]
end
theorem res_r21Buckets {kk : SK} {nm : List UInt8} (s : Ser) (iv kind : Int) (h : buckOk nm s iv kind) : res Γ 156 [.str nm, s.pv kk, .int .i64 iv, .int .i64 kind] = some [(buckS nm s iv kind).pv (fitK (nB s iv)), .bool true] := by
  obtain ⟨hs, h1, h2, h3, h4⟩ := h
  rcases h3 with ⟨rfl, hk⟩ | rfl
  · exact (rB_sum s iv kind hs ⟨h1, h2⟩ hk).1 h4
  · exact (rB_hit s iv kind hs ⟨h1, h2⟩).1 h4
theorem res_r21Buckets_no {kk : SK} {nm : List UInt8} (s : Ser) (iv kind : Int) (hl : s.vals.length ≤ 9223372036854775807) (h : ¬ buckOk nm s iv kind) : res Γ 156 [.str nm, s.pv kk, .int .i64 iv, .int .i64 kind] = some [noneS.pv .nil, .bool false] := by
  have e := res_r18Is (kk := kk) s hl
  cases hs : isS s
  · unfold Ser.pv at e ⊢
    unfold noneS
    refine res_code (fn := r21_Buckets) rfl rfl ?_
    simp (disch := first | assumption | omega | decide | (simp only [List.length_cons, List.length_nil, List.length_append, List.length_replicate, List.length_map, List.length_set, List.length_take, List.length_drop, strs_len, ints_len, bools_len, aggs_len, vpv_len]; done) | (simp only [List.length_cons, List.length_nil, List.length_append, List.length_replicate, List.length_map, List.length_set, List.length_take, List.length_drop, strs_len, ints_len, bools_len, aggs_len, vpv_len]; omega)) only [go_sem, r21_Buckets, e, hs]
  · have hz := isS_size hs
    unfold sizeS at hz
    have eo := resM_r18Own (kk := kk) s (by omega)
    have hw : (vpv s.vals).length = s.vals.length := vpv_len
    by_cases h1 : 1 ≤ iv ∧ iv ≤ 16777216
    · by_cases hS : nm = nmS
      · subst hS
        by_cases hk : 1 ≤ kind ∧ kind ≤ 5
        · refine (rB_sum s iv kind hs h1 hk).2 (fun hn => h ⟨hs, h1.1, h1.2, .inl ⟨rfl, hk⟩, hn⟩)
        · have d := res_r2Digits iv.toNat (by omega)
          rw [Int.toNat_of_nonneg (by omega)] at d
          unfold Ser.pv at e eo ⊢
          unfold noneS nmS
          refine res_code (fn := r21_Buckets) rfl rfl ?_
          by_cases hk1 : kind < 1
          · simp (disch := first | assumption | omega | decide | (simp only [List.length_cons, List.length_nil, List.length_append, List.length_replicate, List.length_map, List.length_set, List.length_take, List.length_drop, strs_len, ints_len, bools_len, aggs_len, vpv_len]; done) | (simp only [List.length_cons, List.length_nil, List.length_append, List.length_replicate, List.length_map, List.length_set, List.length_take, List.length_drop, strs_len, ints_len, bools_len, aggs_len, vpv_len]; omega)) only [go_sem, r21_Buckets, e, hs, d, eo, st34]
          · simp (disch := first | assumption | omega | decide | (simp only [List.length_cons, List.length_nil, List.length_append, List.length_replicate, List.length_map, List.length_set, List.length_take, List.length_drop, strs_len, ints_len, bools_len, aggs_len, vpv_len]; done) | (simp only [List.length_cons, List.length_nil, List.length_append, List.length_replicate, List.length_map, List.length_set, List.length_take, List.length_drop, strs_len, ints_len, bools_len, aggs_len, vpv_len]; omega)) only [go_sem, r21_Buckets, e, hs, d, eo, st34]
      · by_cases hH : nm = nmH
        · subst hH
          exact (rB_hit s iv kind hs h1).2 (fun hn => h ⟨hs, h1.1, h1.2, .inr rfl, hn⟩)
        · unfold Ser.pv at e ⊢
          unfold noneS
          unfold nmS at hS
          unfold nmH at hH
          refine res_code (fn := r21_Buckets) rfl rfl ?_
          simp (disch := first | assumption | omega | decide | (simp only [List.length_cons, List.length_nil, List.length_append, List.length_replicate, List.length_map, List.length_set, List.length_take, List.length_drop, strs_len, ints_len, bools_len, aggs_len, vpv_len]; done) | (simp only [List.length_cons, List.length_nil, List.length_append, List.length_replicate, List.length_map, List.length_set, List.length_take, List.length_drop, strs_len, ints_len, bools_len, aggs_len, vpv_len]; omega)) only [go_sem, r21_Buckets, e, hs]
    · unfold Ser.pv at e ⊢
      unfold noneS
      refine res_code (fn := r21_Buckets) rfl rfl ?_
      by_cases h2 : iv < 1
      · simp (disch := first | assumption | omega | decide | (simp only [List.length_cons, List.length_nil, List.length_append, List.length_replicate, List.length_map, List.length_set, List.length_take, List.length_drop, strs_len, ints_len, bools_len, aggs_len, vpv_len]; done) | (simp only [List.length_cons, List.length_nil, List.length_append, List.length_replicate, List.length_map, List.length_set, List.length_take, List.length_drop, strs_len, ints_len, bools_len, aggs_len, vpv_len]; omega)) only [go_sem, r21_Buckets, e, hs]
      · simp (disch := first | assumption | omega | decide | (simp only [List.length_cons, List.length_nil, List.length_append, List.length_replicate, List.length_map, List.length_set, List.length_take, List.length_drop, strs_len, ints_len, bools_len, aggs_len, vpv_len]; done) | (simp only [List.length_cons, List.length_nil, List.length_append, List.length_replicate, List.length_map, List.length_set, List.length_take, List.length_drop, strs_len, ints_len, bools_len, aggs_len, vpv_len]; omega)) only [go_sem, r21_Buckets, e, hs]
end Ab
