import Derived.Test.YtgdkafbcchkplaaDoorAbRel
import Derived.Test.YtgdkafbcchkplaaDoorPSer
import Derived.Test.YtgdkafbcchkplaaDoorMMove
import Derived.Test.YtgdkafbcchkplaaDoorLVrow
import Derived.Test.YtgdkafbcchkplaaDoorLAgg
/- Series by other steps: series.Fit. -/
namespace Ab
open Go (IntKind BinOp UnOp)
theorem mulb {i : Nat} {step : Int} (h : i ≤ 131072) (h1 : 0 ≤ step) (h2 : step ≤ 1099511627776) : 0 ≤ (i : Int) * step ∧ (i : Int) * step ≤ 144115188075855872 := by
  refine ⟨Int.mul_nonneg (by omega) h1, ?_⟩
  calc (i : Int) * step ≤ 131072 * 1099511627776 := Int.mul_le_mul (by omega) h2 h1 (by omega)
    _ = 144115188075855872 := by decide
theorem res_within1 {kk : SK} (s : Ser) (hz : sizeS s) (t : Int) (ht : -1000000000000000000 ≤ t ∧ t ≤ 1000000000000000000) :
    res Γ 170 [.int .i64 t, .ptr [.str s.name, .int .i64 s.start, .int .i64 s.step, .sl kk 2 (vpv s.vals), .int .i64 s.cons]] = some [.int .i64 (plcS s t : Nat)] := by
  obtain ⟨_, _, _, _, _, _, _, _⟩ := hz
  refine res_code (fn := series_within_1) rfl rfl ?_
  by_cases h : t ≤ s.start
  · have e : plcS s t = 0 := by unfold plcS; rw [if_pos h]
    simp (disch := first | assumption | omega | decide | (simp only [List.length_cons, List.length_nil, List.length_append, List.length_replicate, List.length_map, List.length_set, List.length_take, List.length_drop, strs_len, ints_len, bools_len, aggs_len, vpv_len]; done) | (simp only [List.length_cons, List.length_nil, List.length_append, List.length_replicate, List.length_map, List.length_set, List.length_take, List.length_drop, strs_len, ints_len, bools_len, aggs_len, vpv_len]; omega)) only [go_sem, series_within_1, e]
    rfl
  · have h0 : 0 ≤ (t - s.start - 1) / s.step := Int.ediv_nonneg (by omega) (by omega)
    have h1 : (t - s.start - 1) / s.step ≤ t - s.start - 1 := Int.ediv_le_self _ (by omega)
    have m0 := map_quo (k := .i64) (a := t - s.start - 1) (b := s.step) (by omega) (by omega) (wrap_i64 (by omega) (by omega))
    have e : ((plcS s t : Nat) : Int) = min (s.vals.length : Int) ((t - s.start - 1) / s.step + 1) := by unfold plcS; rw [if_neg h]; omega
    simp (disch := first | assumption | omega | decide | (simp only [List.length_cons, List.length_nil, List.length_append, List.length_replicate, List.length_map, List.length_set, List.length_take, List.length_drop, strs_len, ints_len, bools_len, aggs_len, vpv_len]; done) | (simp only [List.length_cons, List.length_nil, List.length_append, List.length_replicate, List.length_map, List.length_set, List.length_take, List.length_drop, strs_len, ints_len, bools_len, aggs_len, vpv_len]; omega)) only [go_sem, series_within_1, m0, e]
theorem res_within {kk : SK} (s : Ser) (hz : sizeS s) (t u : Int) (ht : -1000000000000000000 ≤ t ∧ t ≤ u ∧ u ≤ 1000000000000000000) :
    res Γ 166 [s.pv kk, .int .i64 t, .int .i64 u] = some [.sl kk.cut 2 (vpv (withinV s t u))] := by
  have e1 := res_within1 (kk := kk) s hz t (by omega)
  have e2 := res_within1 (kk := kk) s hz u (by omega)
  have g := plcS_mono (s := s) (by have := hz; unfold sizeS at this; omega) (show t ≤ u by omega)
  have g2 := plcS_le s u
  have hw : (vpv s.vals).length = s.vals.length := vpv_len
  unfold Ser.pv
  refine res_code (fn := series_within) rfl rfl ?_
  simp (disch := first | assumption | omega | decide | (simp only [List.length_cons, List.length_nil, List.length_append, List.length_replicate, List.length_map, List.length_set, List.length_take, List.length_drop, strs_len, ints_len, bools_len, aggs_len, vpv_len]; done) | (simp only [List.length_cons, List.length_nil, List.length_append, List.length_replicate, List.length_map, List.length_set, List.length_take, List.length_drop, strs_len, ints_len, bools_len, aggs_len, vpv_len]; omega)) only [go_sem, series_within, e1, e2, withinV]
theorem res_seriesCons {kk : SK} (s : Ser) (hs : isS s = true) (hl : s.vals.length ≤ 9223372036854775807) : res Γ 165 [s.pv kk] = some [.int .i64 (consV s)] := by
  have e := res_seriesIs (kk := kk) s hl
  unfold Ser.pv at e ⊢
  refine res_code (fn := series_Cons) rfl rfl ?_
  by_cases h : s.cons = 0
  · simp (disch := first | assumption | omega | decide | (simp only [List.length_cons, List.length_nil, List.length_append, List.length_replicate, List.length_map, List.length_set, List.length_take, List.length_drop, strs_len, ints_len, bools_len, aggs_len, vpv_len]; done) | (simp only [List.length_cons, List.length_nil, List.length_append, List.length_replicate, List.length_map, List.length_set, List.length_take, List.length_drop, strs_len, ints_len, bools_len, aggs_len, vpv_len]; omega)) only [go_sem, series_Cons, consV]
    rw [if_pos h]
  · simp (disch := first | assumption | omega | decide | (simp only [List.length_cons, List.length_nil, List.length_append, List.length_replicate, List.length_map, List.length_set, List.length_take, List.length_drop, strs_len, ints_len, bools_len, aggs_len, vpv_len]; done) | (simp only [List.length_cons, List.length_nil, List.length_append, List.length_replicate, List.length_map, List.length_set, List.length_take, List.length_drop, strs_len, ints_len, bools_len, aggs_len, vpv_len]; omega)) only [go_sem, series_Cons, e, hs, consV]
    rw [if_neg h]
theorem isS_size {s : Ser} (h : isS s = true) : sizeS s := by
  unfold isS at h
  simp only [Bool.and_eq_true, decide_eq_true_eq] at h
  exact h.1
theorem withinV_len {s : Ser} {t u : Int} (h : s.vals.length ≤ 131072) : (withinV s t u).length ≤ 131072 := by
  unfold withinV
  rw [List.length_drop, List.length_take]; omega
theorem sFit_l1_ok {kk : SK} (s : Ser) (hs : isS s = true) (start step : Int) (h0 : 0 ≤ start) (h1 : start ≤ 4294967295) (g0 : 1 ≤ step) (g1 : step ≤ 1099511627776) (n : Nat) (hn : n ≤ 131072) (B1 : Blk) (Q : Out → Prop) : ∀ (k i : Nat), i + 1 + k = n →
    (Q (.nrm, [(8, .bx 1 0), (9, .bx 2 0)], [.box [.p (.str s.name), .p (.int .i64 s.start), .p (.int .i64 s.step), .p (.sl kk 2 (vpv s.vals)), .p (.int .i64 s.cons)], B1, .box [.p (.str s.name), .p (.int .i64 start), .p (.int .i64 step), .own 3 n, .p (.int .i64 s.cons)], .row false 2 (vpv (fitV s start step n))])) →
    Wp Γ series_Fit_l1 [(1, .p (.int .i64 start)), (2, .p (.int .i64 step)), (4, .bx 0 0), (8, .bx 1 0), (9, .bx 2 0), (48, .p (.int .i64 (n : Int))), (49, .p (.int .i64 ((i + 1 : Nat) : Int)))]
      [.box [.p (.str s.name), .p (.int .i64 s.start), .p (.int .i64 s.step), .p (.sl kk 2 (vpv s.vals)), .p (.int .i64 s.cons)], B1, .box [.p (.str s.name), .p (.int .i64 start), .p (.int .i64 step), .own 3 (i + 1), .p (.int .i64 s.cons)], .row false 2 (vpv (fitV s start step (i + 1)))] (InBlk [8, 9] 0 Q) := by
  have hz := isS_size hs
  have hv : s.vals.length ≤ 131072 := by unfold sizeS at hz; omega
  intro k
  induction k with
  | zero =>
    intro i hi hQ
    have hi : i + 1 = n := by omega
    rw [hi]
    rw [W_loop (L := series_Fit_l1) rfl]
    simp (disch := first | assumption | omega | decide | (simp only [List.length_cons, List.length_nil, List.length_append, List.length_replicate, List.length_map, List.length_set, List.length_take, List.length_drop, strs_len, ints_len, bools_len, aggs_len, vpv_len]; done) | (simp only [List.length_cons, List.length_nil, List.length_append, List.length_replicate, List.length_map, List.length_set, List.length_take, List.length_drop, strs_len, ints_len, bools_len, aggs_len, vpv_len]; omega)) only [go_sem]
    exact hQ
  | succ k ih =>
    intro i hi hQ
    have g := @fitV_len s start step (i + 1)
    have e := @fitV_succ s start step (i + 1)
    obtain ⟨b0, b1⟩ := mulb (i := i + 1) (step := step) (by omega) (by omega) g1
    have a := res_within (kk := kk) s hz (start + ((i + 1 : Nat) : Int) * step) (start + ((i + 1 : Nat) : Int) * step + step) (by omega)
    have hw := withinV_len (s := s) (t := start + ((i + 1 : Nat) : Int) * step) (u := start + ((i + 1 : Nat) : Int) * step + step) hv
    have c := res_aggOfK (kk := kk.cut) (consV s) (withinV s (start + ((i + 1 : Nat) : Int) * step) (start + ((i + 1 : Nat) : Int) * step + step)) (by omega)
    have d := res_seriesCons (kk := kk) s hs (by omega)
    unfold Ser.pv at a d
    rw [W_loop (L := series_Fit_l1) rfl]
    simp (disch := first | assumption | omega | decide | (simp only [List.length_cons, List.length_nil, List.length_append, List.length_replicate, List.length_map, List.length_set, List.length_take, List.length_drop, strs_len, ints_len, bools_len, aggs_len, vpv_len]; done) | (simp only [List.length_cons, List.length_nil, List.length_append, List.length_replicate, List.length_map, List.length_set, List.length_take, List.length_drop, strs_len, ints_len, bools_len, aggs_len, vpv_len]; omega)) only [go_sem, a, c, d]
    rw [← e]
    exact ih (i + 1) (by omega) hQ
theorem sFit_l1_first {kk : SK} (s : Ser) (hs : isS s = true) (start step : Int) (h0 : 0 ≤ start) (h1 : start ≤ 4294967295) (g0 : 1 ≤ step) (g1 : step ≤ 1099511627776) (n : Nat) (hn : n ≤ 131072) (hpos : 0 < n) (B1 : Blk) (Q : Out → Prop) :
    (Q (.nrm, [(8, .bx 1 0), (9, .bx 2 0)], [.box [.p (.str s.name), .p (.int .i64 s.start), .p (.int .i64 s.step), .p (.sl kk 2 (vpv s.vals)), .p (.int .i64 s.cons)], B1, .box [.p (.str s.name), .p (.int .i64 start), .p (.int .i64 step), .own 3 n, .p (.int .i64 s.cons)], .row false 2 (vpv (fitV s start step n))])) →
    Wp Γ series_Fit_l1 [(1, .p (.int .i64 start)), (2, .p (.int .i64 step)), (4, .bx 0 0), (8, .bx 1 0), (9, .bx 2 0), (48, .p (.int .i64 (n : Int))), (49, .p (.int .i64 0))]
      [.box [.p (.str s.name), .p (.int .i64 s.start), .p (.int .i64 s.step), .p (.sl kk 2 (vpv s.vals)), .p (.int .i64 s.cons)], B1, .box [.p (.str s.name), .p (.int .i64 start), .p (.int .i64 step), .p (.sl .nil 2 []), .p (.int .i64 s.cons)]] (InBlk [8, 9] 0 Q) := by
  have hz := isS_size hs
  have hv : s.vals.length ≤ 131072 := by unfold sizeS at hz; omega
  intro hQ
  have e := @fitV_succ s start step 0
  rw [show ((0 : Nat) : Int) = 0 from rfl, Int.zero_mul, Int.add_zero] at e
  have a := res_within (kk := kk) s hz start (start + step) (by omega)
  have hw := withinV_len (s := s) (t := start) (u := start + step) hv
  have c := res_aggOfK (kk := kk.cut) (consV s) (withinV s start (start + step)) (by omega)
  have d := res_seriesCons (kk := kk) s hs (by omega)
  unfold Ser.pv at a d
  rw [W_loop (L := series_Fit_l1) rfl]
  simp (disch := first | assumption | omega | decide | (simp only [List.length_cons, List.length_nil, List.length_append, List.length_replicate, List.length_map, List.length_set, List.length_take, List.length_drop, strs_len, ints_len, bools_len, aggs_len, vpv_len]; done) | (simp only [List.length_cons, List.length_nil, List.length_append, List.length_replicate, List.length_map, List.length_set, List.length_take, List.length_drop, strs_len, ints_len, bools_len, aggs_len, vpv_len]; omega)) only [go_sem, a, c, d, Int.zero_mul]
  have h := sFit_l1_ok (kk := kk) s hs start step h0 h1 g0 g1 n hn B1 Q (n - 1) 0 (by omega) hQ
  rw [e] at h
  exact h
def fitK (n : Nat) : SK := if n = 0 then .nil else .any
theorem res_seriesFit {kk : SK} (s : Ser) (hs : isS s = true) (start step : Int) (h0 : 0 ≤ start) (h1 : start ≤ 4294967295) (g0 : 1 ≤ step) (g1 : step ≤ 1099511627776) (n : Nat) (hn : n ≤ 131072) :
    res Γ 158 [s.pv kk, .int .i64 start, .int .i64 step, .int .i64 (n : Int)] = some [(fitS s start step n).pv (fitK n)] := by
  have hz := isS_size hs
  have hv : s.vals.length ≤ 131072 := by unfold sizeS at hz; omega
  have e := res_seriesIs (kk := kk) s (by omega)
  unfold Ser.pv at e ⊢
  refine res_code (fn := series_Fit) rfl rfl ?_
  simp (disch := first | assumption | omega | decide | (simp only [List.length_cons, List.length_nil, List.length_append, List.length_replicate, List.length_map, List.length_set, List.length_take, List.length_drop, strs_len, ints_len, bools_len, aggs_len, vpv_len]; done) | (simp only [List.length_cons, List.length_nil, List.length_append, List.length_replicate, List.length_map, List.length_set, List.length_take, List.length_drop, strs_len, ints_len, bools_len, aggs_len, vpv_len]; omega)) only [go_sem, series_Fit, e, hs]
  by_cases hne : n = 0
  · subst hne
    rw [W_loop (L := series_Fit_l1) rfl]
    simp (disch := first | assumption | omega | decide | (simp only [List.length_cons, List.length_nil, List.length_append, List.length_replicate, List.length_map, List.length_set, List.length_take, List.length_drop, strs_len, ints_len, bools_len, aggs_len, vpv_len]; done) | (simp only [List.length_cons, List.length_nil, List.length_append, List.length_replicate, List.length_map, List.length_set, List.length_take, List.length_drop, strs_len, ints_len, bools_len, aggs_len, vpv_len]; omega)) only [go_sem, fitS, fitK]
    rfl
  · refine sFit_l1_first s hs start step h0 h1 g0 g1 n hn (by omega) _ _ ?_
    have hw : (vpv (fitV s start step n)).length = n := by rw [vpv_len, fitV_len]
    simp (disch := first | assumption | omega | decide | (simp only [List.length_cons, List.length_nil, List.length_append, List.length_replicate, List.length_map, List.length_set, List.length_take, List.length_drop, strs_len, ints_len, bools_len, aggs_len, vpv_len]; done) | (simp only [List.length_cons, List.length_nil, List.length_append, List.length_replicate, List.length_map, List.length_set, List.length_take, List.length_drop, strs_len, ints_len, bools_len, aggs_len, vpv_len]; omega)) only [go_sem, fitS, fitK]
    rw [if_neg hne]
end Ab
/- Series by other steps: the reference's Fit. -/
namespace Ab
open Go (IntKind BinOp UnOp)
/-- What is collected from a place on. -/
def colV (s : Ser) (f : Int) (j : Nat) : List Val := (s.vals.take j).drop (plcS s f)
theorem colV_lo {s : Ser} {f : Int} {j : Nat} (h : j ≤ plcS s f) : colV s f j = [] := by
  unfold colV
  exact List.drop_eq_nil_of_le (by rw [List.length_take]; omega)
theorem colV_hi {s : Ser} {f : Int} {j : Nat} (h : ¬ j < plcS s f) (hj : j < s.vals.length) : colV s f (j + 1) = colV s f j ++ [s.vals.getD j (false, 0)] := by
  unfold colV
  rw [take_snoc' (false, 0) hj, List.drop_append_of_le_length (by rw [List.length_take]; omega)]
theorem colV_len {s : Ser} {f : Int} {j : Nat} (h : s.vals.length ≤ 131072) : (colV s f j).length ≤ 131072 := by
  unfold colV
  rw [List.length_drop, List.length_take]; omega

end Ab
/- Names with any texts in brackets. -/
namespace Ab
open Go (IntKind BinOp UnOp)
def labelL (nm : List UInt8) (l : List (List UInt8)) : List UInt8 := nm ++ 40 :: (joinB [44] l ++ [41])
theorem joinB_snoc (sep a : List UInt8) : ∀ l : List (List UInt8), l ≠ [] → joinB sep (l ++ [a]) = joinB sep l ++ (sep ++ a)
  | [], h => absurd rfl h
  | [x], _ => by simp [joinB]
  | x :: y :: r, _ => by
    have := joinB_snoc sep a (y :: r) (by simp)
    simp only [List.cons_append] at this ⊢
    simp only [joinB, this, List.append_assoc]
theorem joinB_take_len (sep : List UInt8) (l : List (List UInt8)) (i : Nat) : (joinB sep (l.take i)).length ≤ (joinB sep l).length := by
  induction l generalizing i with
  | nil => simp
  | cons x r ih =>
    cases i with
    | zero => simp [joinB]
    | succ i =>
      rw [List.take_succ_cons]
      have := ih i
      cases r with
      | nil => simp
      | cons y r =>
        cases i with
        | zero => simp only [List.take_zero, joinB, List.length_append]; omega
        | succ i =>
          rw [List.take_succ_cons] at this ⊢
          simp only [joinB, List.length_append] at this ⊢
          omega
theorem joinB_take_succ {l : List (List UInt8)} {i : Nat} (h : i < l.length) (hi : i ≠ 0) : joinB [44] (l.take (i + 1)) = joinB [44] (l.take i) ++ 44 :: l.getD i [] := by
  rw [take_snoc' [] h, joinB_snoc]
  · rfl
  · intro e
    have := congrArg List.length e
    rw [List.length_take, List.length_nil] at this
    omega
theorem joinB_take_one {l : List (List UInt8)} (h : 0 < l.length) : joinB [44] (l.take (0 + 1)) = l.getD 0 [] := by
  rw [take_snoc' [] h]; rfl
theorem res_seriesLabelL {kk : SK} (nm : List UInt8) (l : List (List UInt8)) (h : nm.length ≤ 1000000) (hl : l.length < 1000000000) (hj : (joinB [44] l).length ≤ 1000000000) : res Γ 30 [.str nm, .sl kk 1 (strs l)] = some [.str (labelL nm l)] := by
  have e := res_Join (kk := kk) l [44] hl hj
  refine res_code (fn := series_Label) rfl rfl ?_
  simp (disch := first | assumption | omega | decide | (simp only [List.length_cons, List.length_nil, List.length_append, List.length_replicate, List.length_map, List.length_set, List.length_take, List.length_drop, strs_len, ints_len, bools_len, aggs_len, vpv_len]; done) | (simp only [List.length_cons, List.length_nil, List.length_append, List.length_replicate, List.length_map, List.length_set, List.length_take, List.length_drop, strs_len, ints_len, bools_len, aggs_len, vpv_len]; omega)) only [go_sem, series_Label, e, labelL]
end Ab
/- Rules for calls that share memory, for calls and slices that take what is handed over, for the library's own rows. -/
namespace Ab
open Go (IntKind BinOp UnOp)
/-! ### What a call on memory yields -/
/-- A call on the blocks HL, k of them: results and blocks behind it. -/
def RunM (Γ : Ctx) (k f : Nat) (as : List AV) (HL : Heap) (r : List AV × Heap) : Prop := ∃ n x, callOf Γ (ev Γ n) f as HL = some x ∧ tidy k x = some r
theorem RunM_det {Γ : Ctx} {k f : Nat} {as : List AV} {HL : Heap} {r r' : List AV × Heap} (h : RunM Γ k f as HL r) (h' : RunM Γ k f as HL r') : r = r' := by
  obtain ⟨n, x, h1, h2⟩ := h
  obtain ⟨m, x', h3, h4⟩ := h'
  have e1 := call_le (Nat.le_max_left n m) _ _ _ _ h1
  have e2 := call_le (Nat.le_max_right n m) _ _ _ _ h3
  rw [e1] at e2
  cases e2
  rw [h2] at h4
  cases h4
  rfl
open Classical in
noncomputable def resM (Γ : Ctx) (k f : Nat) (as : List AV) (HL : Heap) : Option (List AV × Heap) := if h : ∃ r, RunM Γ k f as HL r then some h.choose else none
theorem resM_of {Γ k f as HL r} (h : RunM Γ k f as HL r) : resM Γ k f as HL = some r := by
  have h' : ∃ r, RunM Γ k f as HL r := ⟨_, h⟩
  unfold resM
  rw [dif_pos h']
  exact congrArg some (RunM_det h'.choose_spec h)
theorem of_resM {Γ k f as HL r} (h : resM Γ k f as HL = some r) : RunM Γ k f as HL r := by
  unfold resM at h
  split at h
  · rename_i h'
    cases h
    exact h'.choose_spec
  · cases h

section
variable {Γ : Ctx} {env : Env} {H : Heap} {live : List Nat} {Q : Out → Prop} {r : List St} {dst : Option Nat}

/-! Stages of a call that shares memory. -/
def cmD (H : Heap) (L : List Nat) (r : Option (List AV × Heap)) : Option (List AV × Heap) := r.bind fun r => joinBack H L r
noncomputable def cmC (Γ : Ctx) (H : Heap) (f : Nat) (L : List Nat) (b : Bool) (as : Option (List AV)) (HL : Option Heap) : Option (List AV × Heap) :=
  ifB b (as.bind fun as => HL.bind fun HL => cmD H L (resM Γ L.length f as HL))
noncomputable def cmB (Γ : Ctx) (H : Heap) (f : Nat) (as : List AV) (L : List Nat) : Option (List AV × Heap) :=
  cmC Γ H f L (L.isEmpty || stillF Γ f) (mapO (AV.ren (place L) 3) as) (pickB H (place L) L)
noncomputable def cmA (Γ : Ctx) (H : Heap) (args : List AV) (fc : Option (Nat × List AV)) : Option (List AV × Heap) :=
  fc.bind fun fc => cmB Γ H fc.1 (args ++ fc.2) (reach H 64 ((args ++ fc.2).flatMap AV.refs) [])
def resX (x : Option (List AV × Heap)) : Option (AV × Heap) := x.map fun r => (results r.1, r.2)
theorem L_calls {f args} : WpL Γ (⟨dst, none, .inr (.calls f args)⟩ :: r) env H live Q ↔ opX Γ (resX (cmA Γ H (args.map (Arg.ev Γ (look env))) (callee (Arg.ev Γ (look env) f)))) dst r env live Q := by
  rw [L_of]
  unfold opX WpO
  constructor
  · rintro ⟨n, h⟩
    dsimp only at h
    rw [optP_iff] at h ⊢
    obtain ⟨v, h1, h2⟩ := h
    simp only [evX, callS, Option.map_eq_some_iff, Option.bind_eq_some_iff, ifB_some] at h1
    obtain ⟨rr, ⟨fc, hfc, hst, as', has, HL, hp, x, hcr, r', htd, hj⟩, rfl⟩ := h1
    refine ⟨_, ?_, h2⟩
    rw [pick_eq] at hp
    simp only [resX, cmA, cmB, cmC, cmD, hfc, Option.bind_some, hst, has, hp, ifB, resM_of ⟨n, x, hcr, htd⟩, hj, Option.map_some]
  · intro h
    rw [optP_iff] at h
    obtain ⟨v, h1, h2⟩ := h
    simp only [resX, cmA, cmB, cmC, cmD, Option.map_eq_some_iff, Option.bind_eq_some_iff, ifB_some] at h1
    obtain ⟨rr, ⟨fc, hfc, hst, as', has, HL, hp, r', hres, hj⟩, rfl⟩ := h1
    obtain ⟨n, x, hcr, htd⟩ := of_resM hres
    rw [← pick_eq] at hp
    refine ⟨n, ?_⟩
    simp only [evX, callS, hfc, Option.bind_some, hst, has, hp, hcr, htd, hj, Option.map_some, ifB]
    exact h2
theorem cmA_some {args : List AV} {f : Nat} {caps : List AV} : cmA Γ H args (some (f, caps)) = cmB Γ H f (args ++ caps) (reach H 64 ((args ++ caps).flatMap AV.refs) []) := rfl
theorem cmB_eq {as : List AV} {f : Nat} {L : List Nat} : cmB Γ H f as L = cmC Γ H f L (L.isEmpty || stillF Γ f) (mapO (AV.ren (place L) 3) as) (pickB H (place L) L) := rfl
theorem cmC_some {as : List AV} {HL : Heap} {f : Nat} {L : List Nat} : cmC Γ H f L true (some as) (some HL) = cmD H L (resM Γ L.length f as HL) := rfl
def jbB (H : Heap) (L : List Nat) (rs : Option (List AV)) (bs : Option (List Blk)) : Option (List AV × Heap) := rs.bind fun rs => bs.map fun bs => (rs, putBack H L bs ++ bs.drop L.length)
theorem cmD_some {L : List Nat} {rs : List AV} {B : Heap} : cmD H L (some (rs, B)) = jbB H L (mapO (AV.ren (backTo H L) 3) rs) (mapO (Blk.ren (backTo H L)) B) := rfl
theorem jbB_some {L : List Nat} {rs : List AV} {bs : List Blk} : jbB H L (some rs) (some bs) = some (rs, putBack H L bs ++ bs.drop L.length) := rfl
theorem resX_some {rs : List AV} {h : Heap} : resX (some (rs, h)) = some (results rs, h) := rfl
theorem putBack_nil {bs : List Blk} : putBack H [] bs = H := by cases bs <;> rfl
theorem putBack_cons {id : Nat} {L : List Nat} {b : Blk} {bs : List Blk} : putBack H (id :: L) (b :: bs) = putBack (H.set id b) L bs := rfl
def btK (b : Bool) (H : Heap) (L : List Nat) (id : Nat) : Option Nat := match b with | true => L[id]? | false => some (H.length + (id - L.length))
theorem backTo_eq {L : List Nat} {id : Nat} : backTo H L id = btK (decide (id < L.length)) H L id := by
  unfold backTo btK
  by_cases h : id < L.length <;> simp [h]
theorem btK_t {L : List Nat} {id : Nat} : btK true H L id = L[id]? := rfl
theorem btK_f {L : List Nat} {id : Nat} : btK false H L id = some (H.length + (id - L.length)) := rfl

/-! Calls that take what is handed over. -/
def tzB (H : Heap) (L : List Nat) (vs : Option (List AV)) (HL : Option Heap) : Option (List PV × Heap) := vs.bind fun vs => HL.bind fun HL => (mapO (reify HL 4) vs).map fun ps => (ps, kill H L)
def tzA (H : Heap) (vs : List AV) (L : List Nat) : Option (List PV × Heap) := tzB H L (mapO (AV.ren (place L) 3) vs) (pickB H (place L) L)
theorem trees_eq {vs : List AV} : treesOf H vs = tzA H vs (reach H 64 (vs.flatMap AV.refs) []) := by
  unfold treesOf tzA tzB
  simp only [pick_eq]
theorem tzA_eq {vs : List AV} {L : List Nat} : tzA H vs L = tzB H L (mapO (AV.ren (place L) 3) vs) (pickB H (place L) L) := rfl
theorem tzB_some {vs : List AV} {HL : Heap} {L : List Nat} : tzB H L (some vs) (some HL) = (mapO (reify HL 4) vs).map fun ps => (ps, kill H L) := rfl
def killK (H : Heap) (id : Nat) (L : List Nat) (b : Option Blk) : Heap := kill (match b with | some b => H.set id (killB b) | none => H) L
theorem kill_nil : kill H [] = H := rfl
theorem kill_cons {id : Nat} {L : List Nat} : kill H (id :: L) = killK H id L H[id]? := rfl
theorem killK_some {id : Nat} {L : List Nat} {b : Blk} : killK H id L (some b) = kill (H.set id (killB b)) L := rfl
theorem killB_row {f sz xs} : killB (.row f sz xs) = .row true sz xs := rfl
theorem killB_box {cs} : killB (.box cs) = .dead := rfl
theorem killB_dead : killB .dead = .dead := rfl
noncomputable def czC (x : Option (List PV)) (H : Heap) : Option (AV × Heap) := x.map fun rs => (results (rs.map .p), H)
noncomputable def czB (Γ : Ctx) (f : Nat) (q : Option (List PV × Heap)) : Option (AV × Heap) := q.bind fun q => czC (res Γ f q.1) q.2
noncomputable def czA (Γ : Ctx) (H : Heap) (args : List AV) (fc : Option (Nat × List AV)) : Option (AV × Heap) := fc.bind fun fc => czB Γ fc.1 (treesOf H (args ++ fc.2))
theorem L_callz {f args} : WpL Γ (⟨dst, none, .inr (.callz f args)⟩ :: r) env H live Q ↔ opX Γ (czA Γ H (args.map (Arg.ev Γ (look env))) (callee (Arg.ev Γ (look env) f))) dst r env live Q := by
  rw [L_of]
  unfold opX WpO
  constructor
  · rintro ⟨n, h⟩
    dsimp only at h
    rw [optP_iff] at h ⊢
    obtain ⟨v, h1, h2⟩ := h
    simp only [evX, callZ, Option.map_eq_some_iff, Option.bind_eq_some_iff] at h1
    obtain ⟨rr, ⟨fc, hfc, q, hq, x, hcr, rs, hrs, rfl⟩, rfl⟩ := h1
    refine ⟨_, ?_, h2⟩
    simp only [czA, czB, czC, hfc, Option.bind_some, hq, res_of ⟨n, x, hcr, hrs⟩, Option.map_some]
  · intro h
    rw [optP_iff] at h
    obtain ⟨v, h1, h2⟩ := h
    simp only [czA, czB, czC, Option.map_eq_some_iff, Option.bind_eq_some_iff] at h1
    obtain ⟨fc, hfc, q, hq, rs, hres, rfl⟩ := h1
    obtain ⟨n, x, hcr, hrs⟩ := of_res hres
    refine ⟨n, ?_⟩
    simp only [evX, callZ, hfc, Option.bind_some, hq, hcr, hrs, Option.map_some]
    exact h2
theorem czA_some {args : List AV} {f : Nat} {caps : List AV} : czA Γ H args (some (f, caps)) = czB Γ f (treesOf H (args ++ caps)) := rfl
theorem czB_some {f : Nat} {ps : List PV} {h : Heap} : czB Γ f (some (ps, h)) = czC (res Γ f ps) h := rfl
theorem czC_some {rs : List PV} {h : Heap} : czC (some rs) h = some (results (rs.map .p), h) := rfl

theorem L_bslicef {sz ag n zero parts} : WpL Γ (⟨dst, none, .inr (.bslicef sz ag n zero parts)⟩ :: r) env H live Q ↔ opX Γ (bslicefA H sz ag n (fillA (zero.map .p) (parts.map fun q => (q.off, q.sz, Arg.ev Γ (look env) q.arg)))) dst r env live Q := L_of.trans (WpO_x rfl)
def bsfK (sz : Nat) (ag : Bool) (n : Nat) (q : Option (List PV × Heap)) : Option (AV × Heap) := q.bind fun q => ifB (q.1.length == n * sz) (some (.p (.sl .tight sz (chunks sz ag n q.1)), q.2))
theorem L_fbox {x} : WpL Γ (⟨dst, none, .inr (.fbox x)⟩ :: r) env H live Q ↔ opX Γ (fboxA H (Arg.ev Γ (look env) x)) dst r env live Q := L_of.trans (WpO_x rfl)
def fbK (b : Bool) (q : Option (List PV × Heap)) : Option (AV × Heap) := q.bind fun q => ifB (b && !q.1.isEmpty) (some (.p (.ptr q.1), q.2))
theorem fbox_K {v : AV} : fboxA H v = fbK v.ok (treesOf H v.cells) := rfl
theorem fbK_some {b : Bool} {ps : List PV} {h : Heap} : fbK b (some (ps, h)) = ifB (b && !ps.isEmpty) (some (.p (.ptr ps), h)) := rfl
theorem bslf_some {sz ag n} {cs : List AV} : bslicefA H sz ag n (some cs) = bsfK sz ag n (treesOf H cs) := rfl
theorem bsfK_some {sz ag n} {ps : List PV} {h : Heap} : bsfK sz ag n (some (ps, h)) = ifB (ps.length == n * sz) (some (.p (.sl .tight sz (chunks sz ag n ps)), h)) := rfl
end

/-! ### Operations that look at no memory of the call's own -/
section
variable {Γ : Ctx} {env : Env} {H : Heap} {live : List Nat} {Q : Out → Prop} {r : List St} {dst : Option Nat}
def pqR (H : Heap) (v : Option AV) : Option (AV × Heap) := v.map fun v => (v, H)
theorem pqR_some {v : AV} : pqR H (some v) = some (v, H) := rfl
theorem L_pq {q : QOp} (h : q.plain = true) : WpL Γ (⟨dst, none, .inr (.pureq q)⟩ :: r) env H live Q ↔ opX Γ (pqR H (evQ Γ noCall (look env) [] q)) dst r env live Q := by
  rw [L_of]
  unfold opX WpO
  have e : ∀ n, evX Γ (callOf Γ (ev Γ n)) (look env) H (.pureq q) = pqR H (evQ Γ noCall (look env) [] q) := fun n => by
    have : evQ Γ (callOf Γ (ev Γ n)) (look env) [] q = evQ Γ noCall (look env) [] q := by cases q <;> first | rfl | cases h
    simp only [evX, this, pqR]
  simp only [e]
  exact ⟨fun ⟨_, h⟩ => h, fun h => ⟨0, h⟩⟩
theorem L_pq_iaddr {sz x i} : WpL Γ (⟨dst, none, .inr (.pureq (.iaddr sz x i))⟩ :: r) env H live Q ↔ opX Γ (pqR H (iaddrA [] sz (Arg.ev Γ (look env) x) (Arg.ev Γ (look env) i))) dst r env live Q := L_pq rfl
theorem L_pq_load {sz ag x} : WpL Γ (⟨dst, none, .inr (.pureq (.load sz ag x))⟩ :: r) env H live Q ↔ opX Γ (pqR H (loadA [] sz ag (Arg.ev Γ (look env) x))) dst r env live Q := L_pq rfl
theorem L_pq_faddr {off x} : WpL Γ (⟨dst, none, .inr (.pureq (.faddr off x))⟩ :: r) env H live Q ↔ opX Γ (pqR H (faddrA [] off (Arg.ev Γ (look env) x))) dst r env live Q := L_pq rfl
theorem L_pq_len {s x} : WpL Γ (⟨dst, none, .inr (.pureq (.len s x))⟩ :: r) env H live Q ↔ opX Γ (pqR H ((asLen [] s (Arg.ev Γ (look env) x)).map fun (n : Nat) => AV.p (.int .i64 (n : Int)))) dst r env live Q := L_pq rfl
theorem L_pq_call {f args} : WpL Γ (⟨dst, none, .inr (.pureq (.call f args))⟩ :: r) env H live Q ↔ opX Γ (pqR H ((callR Γ [] (Arg.ev Γ (look env) f) (args.map (Arg.ev Γ (look env)))).bind fun rs =>
      ifB (allP (args.map (Arg.ev Γ (look env))) && (Arg.ev Γ (look env) f).isP || rs.all flat) (some (results (rs.map .p))))) dst r env live Q := by
  rw [L_of]
  unfold opX WpO pqR
  constructor
  · rintro ⟨n, h⟩
    dsimp only at h
    rw [optP_iff] at h ⊢
    obtain ⟨v, h1, h2⟩ := h
    simp only [evX, evQ] at h1
    obtain ⟨x, h1', rfl⟩ := Option.map_eq_some_iff.1 h1
    obtain ⟨rs, h3, h4⟩ := Option.bind_eq_some_iff.1 h1'
    exact ⟨_, by rw [callR_of h3, Option.bind_some, h4]; rfl, h2⟩
  · intro h
    rw [optP_iff] at h
    obtain ⟨v, h1, h2⟩ := h
    obtain ⟨x, h1', e⟩ := Option.map_eq_some_iff.1 h1
    obtain ⟨rs, h3, h4⟩ := Option.bind_eq_some_iff.1 h1'
    obtain ⟨n, h5⟩ := callR_spec h3
    refine ⟨n, ?_⟩
    subst e
    simp only [evX, evQ, h5, Option.bind_some, h4, Option.map_some]
    exact h2
attribute [go_sem] pqR_some L_pq_iaddr L_pq_load L_pq_faddr L_pq_len L_pq_call
end

/-! ### Ends of functions that share memory -/
def tdB (_B : Heap) (_L : List Nat) (rs : Option (List AV)) (H : Option Heap) : Option (List AV × Heap) := rs.bind fun rs => H.map fun H => (rs, H)
def tdA (B : Heap) (rs : List AV) (L : List Nat) : Option (List AV × Heap) := tdB B L (mapO (AV.ren (place L) 3) rs) (pickB B (place L) L)
theorem tidy_eq {k : Nat} {rs : List AV} {B : Heap} : tidy k (rs, B) = tdA B rs (reach B 64 (rs.flatMap AV.refs ++ (B.take k).flatMap Blk.refs) (List.range k)) := by
  unfold tidy tdA tdB
  simp only [pick_eq]
theorem tdA_eq {rs : List AV} {B : Heap} {L : List Nat} : tdA B rs L = tdB B L (mapO (AV.ren (place L) 3) rs) (pickB B (place L) L) := rfl
theorem tdB_some {rs : List AV} {B H : Heap} {L : List Nat} : tdB B L (some rs) (some H) = some (rs, H) := rfl
def EndsM (k : Nat) (rvs : List RV) (r : List AV × Heap) : Out → Prop
  | (.ex _, _, _) => False
  | (_, e, h) => optP (mapO (RV.get e h) rvs) fun vs => tidy k (vs, h) = some r
def endM (k : Nat) (vs : Option (List AV)) (h : Heap) (r : List AV × Heap) : Prop := optP vs fun vs => tidy k (vs, h) = some r
theorem endM_some {k vs h r} : endM k (some vs) h r ↔ tidy k (vs, h) = some r := Iff.rfl
theorem EndsM_nrm {k rvs r e h} : EndsM k rvs r (.nrm, e, h) ↔ endM k (mapO (RV.get e h) rvs) h r := Iff.rfl
theorem EndsM_ret {k rvs r e h} : EndsM k rvs r (.ret, e, h) ↔ endM k (mapO (RV.get e h) rvs) h r := Iff.rfl
theorem resM_code {Γ : Ctx} {k f : Nat} {fn : AFn} {args : List AV} {HL : Heap} {r : List AV × Heap} (hf : Γ.fn f = some (.code fn)) (hl : args.length = fn.np)
    (h : Wp Γ fn.body (envFrom 0 args) HL (EndsM k fn.results r)) : resM Γ k f args HL = some r := by
  obtain ⟨n, ⟨x, e, hh⟩, h1, h2⟩ := h
  refine resM_of ⟨n, ?_⟩
  have fin : (x ≠ .ret → x = .nrm) ∧ ∃ vs, mapO (RV.get e hh) fn.results = some vs ∧ tidy k (vs, hh) = some r := by
    cases x
    · rw [EndsM, optP_iff] at h2
      exact ⟨fun _ => rfl, h2⟩
      simp
    · exact h2.elim
    · rw [EndsM, optP_iff] at h2
      exact ⟨fun h => absurd rfl h, h2⟩
      simp
  obtain ⟨hx, vs, h3, h4⟩ := fin
  refine ⟨(vs, hh), ?_, h4⟩
  unfold callOf
  rw [hf, initEnv_eq]
  simp only [hl, if_true, h1]
  cases x
  · simp only [h3]
  · simp at hx
  · simp only [h3]
/-- Ends of a function, whatever is asked of what it leaves. -/
def EndsK (rvs : List RV) (K : List AV → Heap → Prop) : Out → Prop
  | (.ex _, _, _) => False
  | (_, e, h) => optP (mapO (RV.get e h) rvs) fun vs => K vs h
def endKK (vs : Option (List AV)) (h : Heap) (K : List AV → Heap → Prop) : Prop := optP vs fun vs => K vs h
theorem endKK_some {vs h} {K : List AV → Heap → Prop} : endKK (some vs) h K ↔ K vs h := Iff.rfl
theorem EndsK_nrm {rvs e h} {K : List AV → Heap → Prop} : EndsK rvs K (.nrm, e, h) ↔ endKK (mapO (RV.get e h) rvs) h K := Iff.rfl
theorem EndsK_ret {rvs e h} {K : List AV → Heap → Prop} : EndsK rvs K (.ret, e, h) ↔ endKK (mapO (RV.get e h) rvs) h K := Iff.rfl
attribute [go_sem] endKK_some EndsK_nrm EndsK_ret
theorem callK {Γ : Ctx} {f : Nat} {fn : AFn} {args : List AV} {HL : Heap} {K : List AV → Heap → Prop} (hf : Γ.fn f = some (.code fn)) (hl : args.length = fn.np)
    (h : Wp Γ fn.body (envFrom 0 args) HL (EndsK fn.results K)) : ∃ n vs h, callOf Γ (ev Γ n) f args HL = some (vs, h) ∧ K vs h := by
  obtain ⟨n, ⟨x, e, hh⟩, h1, h2⟩ := h
  have fin : (x ≠ .ret → x = .nrm) ∧ ∃ vs, mapO (RV.get e hh) fn.results = some vs ∧ K vs hh := by
    cases x
    · rw [EndsK, optP_iff] at h2
      exact ⟨fun _ => rfl, h2⟩
      simp
    · exact h2.elim
    · rw [EndsK, optP_iff] at h2
      exact ⟨fun h => absurd rfl h, h2⟩
      simp
  obtain ⟨hx, vs, h3, h4⟩ := fin
  refine ⟨n, vs, hh, ?_, h4⟩
  unfold callOf
  rw [hf, initEnv_eq]
  simp only [hl, if_true, h1]
  cases x
  · simp only [h3]
  · simp at hx
  · simp only [h3]
theorem tidy_fresh {sz : Nat} {xs : List PV} : tidy 0 ([.own 0 xs.length], [.row false sz xs]) = some ([.own 0 xs.length], [.row false sz xs]) := rfl
theorem resM_fresh {Γ : Ctx} {f : Nat} {g} {ps : List PV} {sz : Nat} {xs : List PV} (hf : Γ.fn f = some (.fresh g)) (h : g ps = some (sz, xs)) (h0 : 0 < sz) (hl : xs.length ≤ 1073741824) :
    resM Γ 0 f (ps.map .p) [] = some ([.own 0 xs.length], [.row false sz xs]) := by
  refine resM_of ⟨0, ([.own 0 xs.length], [.row false sz xs]), ?_, tidy_fresh⟩
  unfold callOf
  rw [hf]
  simp only [pures_map, h]
  rw [if_pos ⟨h0, by simp only [lim]; exact hl⟩]
  rfl
theorem resM_upd {Γ : Ctx} {f : Nat} {g} {ps : List PV} {sz : Nat} {xs ys : List PV} (hf : Γ.fn f = some (.upd g)) (h : g ps sz xs = some ys) (hl : ys.length = xs.length) :
    resM Γ 1 f (.own 0 xs.length :: ps.map .p) [.row false sz xs] = some ([], [.row false sz ys]) := by
  refine resM_of ⟨0, ([], [.row false sz ys]), ?_, rfl⟩
  unfold callOf
  rw [hf]
  simp only [List.getElem?_cons_zero, if_true, pures_map, h, hl, List.set_cons_zero]
theorem isEmpty_nil {α : Type} : ([] : List α).isEmpty = true := rfl
theorem isEmpty_cons {α : Type} {a : α} {l : List α} : (a :: l).isEmpty = false := rfl
theorem range_0 : List.range 0 = [] := rfl
theorem range_1 : List.range 1 = [0] := rfl
theorem range_2 : List.range 2 = [0, 1] := rfl
theorem range_3 : List.range 3 = [0, 1, 2] := rfl
theorem range_4 : List.range 4 = [0, 1, 2, 3] := rfl
theorem range_5 : List.range 5 = [0, 1, 2, 3, 4] := rfl
theorem range_6 : List.range 6 = [0, 1, 2, 3, 4, 5] := rfl
theorem brefs_row {f sz xs} : Blk.refs (.row f sz xs) = [] := rfl
theorem brefs_dead : Blk.refs .dead = [] := rfl
theorem brefs_map {cs : List PV} : Blk.refs (.box (cs.map .p)) = [] := refsAt_map (cs := cs)
theorem brefs_box {cs : List AV} : Blk.refs (.box cs) = cs.flatMap AV.refs := rfl
theorem refsAt_dead : refsAt (some .dead) = [] := rfl
theorem ren_dead {p} : Blk.ren p .dead = some .dead := rfl
theorem flatMap_nil {α β : Type} {f : α → List β} : [].flatMap f = [] := rfl
attribute [go_sem low] brefs_box
attribute [go_sem] L_calls cmA_some cmB_eq cmC_some cmD_some jbB_some resX_some putBack_nil putBack_cons backTo_eq btK_t btK_f trees_eq tzA_eq tzB_some kill_nil kill_cons killK_some killB_row killB_box killB_dead
  L_fbox fbox_K fbK_some L_callz czA_some czB_some czC_some L_bslicef bslf_some bsfK_some tidy_eq tdA_eq tdB_some EndsM_nrm EndsM_ret endM_some isEmpty_nil isEmpty_cons range_0 range_1 range_2 range_3 range_4 range_5 range_6 brefs_row brefs_dead brefs_map refsAt_dead ren_dead
  List.take_succ_cons List.take_zero List.drop_succ_cons List.drop_zero
end Ab
/- Known values in order of size. -/
namespace Ab
open Go (IntKind BinOp UnOp)
def toV (o : List Int) : List Val := o.map fun n => (true, n)
def nums (l : List Val) : List Int := (knL l).map (·.2)
def sortV (l : List Val) : List Val := toV (sortI (nums l))
theorem toV_len {o} : (toV o).length = o.length := by simp [toV]
theorem nums_len {l : List Val} : (nums l).length = (knL l).length := by simp [nums]
theorem insI_len (n : Int) : ∀ o : List Int, (insI n o).length = o.length + 1
  | [] => rfl
  | m :: r => by
    unfold insI
    split
    · rw [List.length_cons, insI_len n r, List.length_cons]
    · rfl
theorem sortI_snoc (l : List Int) (n : Int) : sortI (l ++ [n]) = insI n (sortI l) := by unfold sortI; rw [List.foldl_append]; rfl
theorem sortI_len' : ∀ l : List Int, (sortI l).length = l.length := by
  have : ∀ (l o : List Int), (l.foldl (fun o n => insI n o) o).length = o.length + l.length := by
    intro l
    induction l with
    | nil => intro o; rfl
    | cons n l ih => intro o; rw [List.foldl_cons, ih, insI_len, List.length_cons]; omega
  intro l
  have := this l []
  simpa [sortI] using this
theorem sortV_len {l : List Val} : (sortV l).length = (knL l).length := by rw [sortV, toV_len, sortI_len', nums_len]
/-- Where a number goes. -/
def posI (n : Int) : List Int → Nat
  | [] => 0
  | m :: r => if m ≤ n then posI n r + 1 else 0
theorem posI_le (n : Int) : ∀ o : List Int, posI n o ≤ o.length
  | [] => Nat.le_refl _
  | m :: r => by
    unfold posI
    split
    · have := posI_le n r; rw [List.length_cons]; omega
    · exact Nat.zero_le _
theorem posI_low (n : Int) : ∀ (o : List Int) (j : Nat), j < posI n o → o.getD j 0 ≤ n
  | [], j, h => by simp [posI] at h
  | m :: r, j, h => by
    unfold posI at h
    split at h
    · rename_i hm
      cases j with
      | zero => exact hm
      | succ j => simpa using posI_low n r j (by omega)
    · omega
theorem posI_high (n : Int) : ∀ o : List Int, posI n o < o.length → n < o.getD (posI n o) 0
  | [], h => by simp [posI] at h
  | m :: r, h => by
    unfold posI at h ⊢
    split
    · rename_i hm
      rw [if_pos hm, List.length_cons] at h
      simpa using posI_high n r (by omega)
    · rename_i hm; simpa using hm
theorem insI_split (n : Int) : ∀ o : List Int, insI n o = o.take (posI n o) ++ n :: o.drop (posI n o)
  | [] => rfl
  | m :: r => by
    unfold insI posI
    split
    · rw [insI_split n r]; rfl
    · rfl
theorem intsIn_vpv : ∀ {k : List Val}, (∀ v ∈ k, knV v = true) → intsIn (vpv k) = some (k.map (·.2))
  | [], _ => rfl
  | (b, n) :: k, h => by
    obtain ⟨rfl, _⟩ := knV_pair (h (b, n) (by simp))
    have ih := intsIn_vpv (k := k) fun v hv => h v (by simp [hv])
    have e : vpv ((true, n) :: k) = .agg [.bool true, .int .i64 n] :: vpv k := rfl
    rw [e, intsIn, ih]; rfl
theorem toV_vpv (o : List Int) : (o.map fun n => PV.agg [.bool true, .int .i64 n]) = vpv (toV o) := by
  simp [vpv, aggs, toV, valP, List.map_map, Function.comp_def]
theorem vpv_flat (l : List Val) : (vpv l).all flat = true := by
  rw [List.all_eq_true]
  intro x hx
  simp only [vpv, aggs, List.mem_map] at hx
  obtain ⟨_, ⟨v, _, rfl⟩, rfl⟩ := hx
  rfl
theorem resM_aggKnown {kk : SK} (l : List Val) (hl : l.length < 1000000000) : resM Γ 0 140 [.p (.sl kk 2 (vpv l))] [] = some ([.own 0 (knL l).length], [.row false 2 (vpv (knL l))]) := by
  have hw : (vpv (knL l)).length = (knL l).length := vpv_len
  refine resM_code (fn := agg_Known) rfl rfl ?_
  simp (disch := first | assumption | omega | decide | (simp only [List.length_cons, List.length_nil, List.length_append, List.length_replicate, List.length_map, List.length_set, List.length_take, List.length_drop, strs_len, ints_len, bools_len, aggs_len, vpv_len]; done) | (simp only [List.length_cons, List.length_nil, List.length_append, List.length_replicate, List.length_map, List.length_set, List.length_take, List.length_drop, strs_len, ints_len, bools_len, aggs_len, vpv_len]; omega)) only [go_sem, agg_Known]
  refine agg_Known_l1_ok l hl _ l.length 0 [] (by omega) (fun T => ?_)
  simp (disch := first | assumption | omega | decide | (simp only [List.length_cons, List.length_nil, List.length_append, List.length_replicate, List.length_map, List.length_set, List.length_take, List.length_drop, strs_len, ints_len, bools_len, aggs_len, vpv_len]; done) | (simp only [List.length_cons, List.length_nil, List.length_append, List.length_replicate, List.length_map, List.length_set, List.length_take, List.length_drop, strs_len, ints_len, bools_len, aggs_len, vpv_len]; omega)) only [go_sem]
theorem resM_sort (l : List Val) : resM Γ 1 182 [.own 0 (knL l).length, .p (.clo 183 [])] [.row false 2 (vpv (knL l))] = some ([], [.row false 2 (vpv (sortV l))]) := by
  have h := resM_upd (Γ := Γ) (f := 182) (g := sortG 183) (ps := [.clo 183 []]) (sz := 2) (xs := vpv (knL l)) (ys := vpv (sortV l)) rfl (by
    show (if 183 = 183 then (intsIn (vpv (knL l))).map _ else none) = _
    rw [if_pos rfl, intsIn_vpv fun v hv => knL_mem hv, Option.map_some, toV_vpv]; rfl) (by rw [vpv_len, vpv_len, sortV_len])
  rw [vpv_len] at h
  exact h
theorem st182 : stillF Γ 182 = true := rfl
theorem res_fwinSorted {kk : SK} (l : List Val) (hl : l.length < 1000000000) : res Γ 177 [.sl kk 2 (vpv l)] = some [.sl .any 2 (vpv (sortV l))] := by
  have e1 := resM_aggKnown (kk := kk) l hl
  have e2 := resM_sort l
  have hw : (vpv (sortV l)).length = (knL l).length := by rw [vpv_len, sortV_len]
  refine res_code (fn := fwin_sorted) rfl rfl ?_
  simp (disch := first | assumption | omega | decide | (simp only [List.length_cons, List.length_nil, List.length_append, List.length_replicate, List.length_map, List.length_set, List.length_take, List.length_drop, strs_len, ints_len, bools_len, aggs_len, vpv_len]; done) | (simp only [List.length_cons, List.length_nil, List.length_append, List.length_replicate, List.length_map, List.length_set, List.length_take, List.length_drop, strs_len, ints_len, bools_len, aggs_len, vpv_len]; omega)) only [go_sem, fwin_sorted, e1, e2, st182]
theorem toV_getD {o : List Int} {j : Nat} (h : j < o.length) : (toV o).getD j (false, 0) = (true, o.getD j 0) := by
  simp only [toV, List.getD_eq_getElem?_getD, List.getElem?_map, List.getElem?_eq_getElem h, Option.map_some, Option.getD_some]
theorem toV_one {o : List Int} {n : Int} : toV (o ++ [n]) = toV o ++ [(true, n)] := by simp [toV]
theorem toV_app {o p : List Int} : toV (o ++ p) = toV o ++ toV p := by simp [toV]
@[go_sem] theorem ifB_dec {α : Type} {c : Prop} [Decidable c] {x : Option α} (h : c) : ifB (decide c) x = x := by rw [decide_eq_true h]; rfl
@[go_sem] theorem loadK_vals {f sz s ag} {l : List Val} {n i off : Nat} (h : l.length = n) (h' : i < n) : loadK (some (.row f sz (vpv l))) s ag n i off = takeP s ag ((valP (l.getD i (false, 0))).drop off) := by
  simp only [loadK, vpv_len, h, if_true, vpv_get (show i < l.length by omega), Option.bind_some, PV.cells]
theorem nums_take {l : List Val} {i : Nat} (h : i < (knL l).length) : ((knL l).take (i + 1)).map (·.2) = ((knL l).take i).map (·.2) ++ [((knL l).getD i (false, 0)).2] := by
  rw [take_snoc' (false, 0) h, List.map_append]; rfl
theorem knL_getD {l : List Val} {i : Nat} (h : i < (knL l).length) : ∃ n, (knL l).getD i (false, 0) = (true, n) := by
  rw [List.getD_eq_getElem?_getD, List.getElem?_eq_getElem h]
  have := knV_iff.1 (knL_mem (List.getElem_mem h))
  exact ⟨((knL l)[i]).2, by rw [Option.getD_some, ← this.1]⟩
def sortK (l : List Val) : SK := if knL l = [] then .nil else .any
end Ab
/- Names of the ways in which values become one. -/
namespace Ab
open Go (IntKind BinOp UnOp)
def aggName (k : Int) : List UInt8 :=
  if k = 1 then [97, 118, 101, 114, 97, 103, 101] else if k = 2 then [115, 117, 109] else if k = 3 then [108, 97, 115, 116] else if k = 4 then [109, 97, 120] else if k = 5 then [109, 105, 110] else []
@[go_sem] theorem res_aggName (k : Int) : res Γ 29 [.int .i64 k] = some [.str (aggName k)] := by
  refine res_code (fn := agg_Name) rfl rfl ?_
  repeat' (first | (simp (disch := first | assumption | omega | decide | (simp only [List.length_cons, List.length_nil, List.length_append, List.length_replicate, List.length_map, List.length_set, List.length_take, List.length_drop, strs_len, ints_len, bools_len, aggs_len, vpv_len]; done) | (simp only [List.length_cons, List.length_nil, List.length_append, List.length_replicate, List.length_map, List.length_set, List.length_take, List.length_drop, strs_len, ints_len, bools_len, aggs_len, vpv_len]; omega)) only [go_sem, agg_Name]) | refine cond_split (fun hc => ?_) (fun hc => ?_) | refine gd_split_f (fun hc => ?_) (fun hc => ?_) | refine gd_split_t (fun hc => ?_) (fun hc => ?_))
  all_goals (simp only [Option.some.injEq, List.cons.injEq, and_true, PV.str.injEq, aggName]; simp [*])
theorem aggName_no {k : Int} (h : ¬ (1 ≤ k ∧ k ≤ 5)) : aggName k = [] := by
  unfold aggName
  rw [if_neg (by omega), if_neg (by omega), if_neg (by omega), if_neg (by omega), if_neg (by omega)]
theorem aggName_yes {k : Int} (h : 1 ≤ k ∧ k ≤ 5) : aggName k ≠ [] ∧ (aggName k).length ≤ 7 := by
  have : k = 1 ∨ k = 2 ∨ k = 3 ∨ k = 4 ∨ k = 5 := by omega
  rcases this with rfl | rfl | rfl | rfl | rfl <;> exact ⟨by decide, by decide⟩
end Ab
/- More rules: structs that hold rows. -/
namespace Ab
open Go (IntKind BinOp UnOp)
def refs2 : AV → List Nat
  | .own id _ | .bx id _ | .el id _ _ _ => [id]
  | .agg cs | .tup cs | .clo _ cs => cs.flatMap fun
    | .own id _ | .bx id _ | .el id _ _ _ => [id]
    | _ => []
  | _ => []
theorem refs_agg {cs : List AV} : AV.refs (.agg cs) = cs.flatMap refs2 := by
  simp only [AV.refs]; rfl
theorem refs_tup {cs : List AV} : AV.refs (.tup cs) = cs.flatMap refs2 := by
  simp only [AV.refs]; rfl
theorem refs_clo {f : Nat} {cs : List AV} : AV.refs (.clo f cs) = cs.flatMap refs2 := by
  simp only [AV.refs]; rfl
theorem refs2_p {v} : refs2 (.p v) = [] := rfl
theorem refs2_own {id n} : refs2 (.own id n) = [id] := rfl
theorem refs2_bx {id n} : refs2 (.bx id n) = [id] := rfl
theorem refs2_el {id n i o} : refs2 (.el id n i o) = [id] := rfl
attribute [go_sem] refs_agg refs_tup refs_clo refs2_p refs2_own refs2_bx refs2_el
theorem app_tight {H sz x xs y ys} (hm : (x :: xs).length + (y :: ys).length ≤ 1073741824) : appendA H sz (.p (.sl .tight sz (x :: xs))) (y :: ys) = some (.own H.length (x :: xs ++ y :: ys).length, H ++ [.row false sz (x :: xs ++ y :: ys)]) := by
  simp only [appendA]
  rw [if_pos ⟨.inr ⟨trivial, trivial⟩, by simp only [List.length_append, lim]; omega⟩]
attribute [go_sem] app_tight vpv_nil
end Ab
/- How much each value is over its step; a series by intervals. -/
namespace Ab
open Go (IntKind BinOp UnOp)
def hitV (step : Int) (v : Val) : Val := if v.1 = true then valV (mdV v.2 step 1) else noV
def hitT (l : List Val) (step : Int) (i : Nat) : List Val := (l.take i).map (hitV step) ++ l.drop i
theorem hitT_len {l : List Val} {step : Int} {i : Nat} : (hitT l step i).length = l.length := by
  unfold hitT
  rw [List.length_append, List.length_map, List.length_take, List.length_drop]; omega
theorem hitT_get {l : List Val} {step : Int} {i : Nat} (h : i < l.length) : (hitT l step i).getD i (false, 0) = l.getD i (false, 0) := by
  unfold hitT
  have e : ((l.take i).map (hitV step)).length = i := by rw [List.length_map, List.length_take]; omega
  rw [List.getD_eq_getElem?_getD, List.getElem?_append_right (by omega), e, Nat.sub_self, List.getElem?_drop, List.getD_eq_getElem?_getD]
  rfl
theorem hitT_set {l : List Val} {step : Int} {i : Nat} (h : i < l.length) : (hitT l step i).set i (hitV step (l.getD i (false, 0))) = hitT l step (i + 1) := by
  unfold hitT
  have e : ((l.take i).map (hitV step)).length = i := by rw [List.length_map, List.length_take]; omega
  rw [List.set_append_right _ _ (by omega), e, Nat.sub_self, take_snoc' (false, 0) h, List.map_append, List.drop_eq_getElem_cons h, List.set_cons_zero, List.append_assoc]
  rfl
theorem hitT_all {l : List Val} {step : Int} : hitT l step l.length = l.map (hitV step) := by
  unfold hitT
  rw [List.take_length, List.drop_length, List.append_nil]
theorem hitT_zero {l : List Val} {step : Int} : hitT l step 0 = l := rfl
@[go_sem] theorem storeK_vals {H : Heap} {sz id n i : Nat} {b : Bool} {m : Int} {l : List Val} (h : l.length = n) (h' : i < n) : storeK H (some (.row false sz (vpv l))) 2 id n i 0 (.p (.agg [.bool b, .int .i64 m])) = some (H.set id (.row false sz (vpv (l.set i (b, m))))) := by
  have e1 : (valP (l.getD i (false, 0))).length = 2 := rfl
  simp only [storeK, vpv_len, h, if_true, vpv_get (show i < l.length by omega), Option.bind_some, AV.cells, PV.cells, pures_map, AV.ok, List.length_cons, List.length_nil, e1]
  rw [if_pos ⟨trivial, by omega, trivial, by omega⟩]
  congr 3
  have : setPart 0 2 [.bool b, .int .i64 m] (.agg (valP (l.getD i (false, 0)))) = .agg (valP (b, m)) := by
    simp [setPart, valP]
  rw [this]
  simp [vpv, aggs, List.map_set]
def hitS (s : Ser) : Ser := ⟨s.name, s.start, s.step, s.vals.map (hitV s.step), s.cons⟩
theorem resM_Clone {kk : SK} (l : List Val) (hl : l.length ≤ 1073741824) : resM Γ 0 49 [.p (.sl kk 2 (vpv l))] [] = some ([.own 0 l.length], [.row false 2 (vpv l)]) := by
  have h := resM_fresh (Γ := Γ) (f := 49) (g := cloneG 2) (ps := [.sl kk 2 (vpv l)]) (sz := 2) (xs := vpv l) rfl (by
    simp only [cloneG]
    rw [if_pos ⟨trivial, by omega, by rw [vpv_len]; exact hl, vpv_flat l⟩]) (by omega) (by rw [vpv_len]; exact hl)
  rw [vpv_len] at h
  exact h
theorem st49 : stillF Γ 49 = true := rfl
theorem resM_seriesOwn {kk : SK} (s : Ser) (hl : s.vals.length ≤ 1073741824) : resM Γ 0 31 [.p (s.pv kk)] [] = some ([.agg [.p (.str s.name), .p (.int .i64 s.start), .p (.int .i64 s.step), .own 0 s.vals.length, .p (.int .i64 s.cons)]], [.row false 2 (vpv s.vals)]) := by
  have e := resM_Clone (kk := kk) s.vals hl
  unfold Ser.pv
  refine resM_code (fn := series_Own) rfl rfl ?_
  simp (disch := first | assumption | omega | decide | (simp only [List.length_cons, List.length_nil, List.length_append, List.length_replicate, List.length_map, List.length_set, List.length_take, List.length_drop, strs_len, ints_len, bools_len, aggs_len, vpv_len]; done) | (simp only [List.length_cons, List.length_nil, List.length_append, List.length_replicate, List.length_map, List.length_set, List.length_take, List.length_drop, strs_len, ints_len, bools_len, aggs_len, vpv_len]; omega)) only [go_sem, series_Own, e, st49]
theorem hits_l1_ok (s : Ser) (hz : sizeS s) (hb : ∀ v ∈ s.vals, -9223372036854775808 ≤ v.2 ∧ v.2 ≤ 9223372036854775807) (_B1 : Blk) (Q : Out → Prop) : ∀ (d i : Nat) (T : Heap), i + d = s.vals.length →
    (∀ T, Q (.nrm, [(1, .bx 0 0), (2, .bx 1 0)], .box [.p (.str s.name), .p (.int .i64 s.start), .p (.int .i64 s.step), .own 2 s.vals.length, .p (.int .i64 s.cons)] :: .box [.p (.str []), .p (.int .i64 0), .p (.int .i64 0), .p (.sl .nil 2 []), .p (.int .i64 0)] :: .row false 2 (vpv (s.vals.map (hitV s.step))) :: T)) →
    Wp Γ fwin_hits_l1 [(1, .bx 0 0), (2, .bx 1 0), (10, .own 2 s.vals.length), (11, .p (.int .i64 (s.vals.length : Int))), (12, .p (.int .i64 (i : Int)))]
      (.box [.p (.str s.name), .p (.int .i64 s.start), .p (.int .i64 s.step), .own 2 s.vals.length, .p (.int .i64 s.cons)] :: .box [.p (.str []), .p (.int .i64 0), .p (.int .i64 0), .p (.sl .nil 2 []), .p (.int .i64 0)] :: .row false 2 (vpv (hitT s.vals s.step i)) :: T) (InBlk [1, 2] 0 Q) := by
  have hv : s.vals.length ≤ 131072 := by unfold sizeS at hz; omega
  have hst : 1 ≤ s.step ∧ s.step ≤ 1099511627776 := by unfold sizeS at hz; omega
  intro d
  induction d with
  | zero =>
    intro i T hi hQ
    obtain rfl : i = s.vals.length := by omega
    rw [W_loop (L := fwin_hits_l1) rfl]
    simp (disch := first | assumption | omega | decide | (simp only [List.length_cons, List.length_nil, List.length_append, List.length_replicate, List.length_map, List.length_set, List.length_take, List.length_drop, strs_len, ints_len, bools_len, aggs_len, vpv_len]; done) | (simp only [List.length_cons, List.length_nil, List.length_append, List.length_replicate, List.length_map, List.length_set, List.length_take, List.length_drop, strs_len, ints_len, bools_len, aggs_len, vpv_len]; omega)) only [go_sem]
    rw [hitT_all]
    exact hQ _
  | succ d ih =>
    intro i T hi hQ
    have h : i < s.vals.length := by omega
    have g1 := @hitT_len s.vals s.step i
    have g2 := hitT_get (step := s.step) h
    have g3 := hitT_set (step := s.step) h
    have hm : s.vals.getD i (false, 0) ∈ s.vals := by rw [List.getD_eq_getElem?_getD, List.getElem?_eq_getElem h]; exact List.getElem_mem h
    have hbb := hb _ hm
    have e := res_fixedMulDiv (a := (s.vals.getD i (false, 0)).2) (b := s.step) (c := 1) hbb (by omega) (by omega)
    have ih := fun T => ih (i + 1) T (by omega) hQ
    generalize s.vals.getD i (false, 0) = v at *
    obtain ⟨b, n⟩ := v
    rw [W_loop (L := fwin_hits_l1) rfl]
    cases b
    · have e1 : hitV s.step (false, n) = (false, 0) := rfl
      rw [e1] at g3
      rw [← g3] at ih
      cases hm : mdV n s.step 1 with
      | none =>
        rw [hm] at e
        simp only [mdR] at e
        simp (disch := first | assumption | omega | decide | (simp only [List.length_cons, List.length_nil, List.length_append, List.length_replicate, List.length_map, List.length_set, List.length_take, List.length_drop, strs_len, ints_len, bools_len, aggs_len, vpv_len]; done) | (simp only [List.length_cons, List.length_nil, List.length_append, List.length_replicate, List.length_map, List.length_set, List.length_take, List.length_drop, strs_len, ints_len, bools_len, aggs_len, vpv_len]; omega)) only [go_sem, g2, valP, e]
        exact ih _
      | some q =>
        rw [hm] at e
        simp only [mdR] at e
        simp (disch := first | assumption | omega | decide | (simp only [List.length_cons, List.length_nil, List.length_append, List.length_replicate, List.length_map, List.length_set, List.length_take, List.length_drop, strs_len, ints_len, bools_len, aggs_len, vpv_len]; done) | (simp only [List.length_cons, List.length_nil, List.length_append, List.length_replicate, List.length_map, List.length_set, List.length_take, List.length_drop, strs_len, ints_len, bools_len, aggs_len, vpv_len]; omega)) only [go_sem, g2, valP, e]
        exact ih _
    · cases hm : mdV n s.step 1 with
      | none =>
        have e1 : hitV s.step (true, n) = (false, 0) := by simp [hitV, hm, valV, noV]
        rw [e1] at g3
        rw [← g3] at ih
        rw [hm] at e
        simp only [mdR] at e
        simp (disch := first | assumption | omega | decide | (simp only [List.length_cons, List.length_nil, List.length_append, List.length_replicate, List.length_map, List.length_set, List.length_take, List.length_drop, strs_len, ints_len, bools_len, aggs_len, vpv_len]; done) | (simp only [List.length_cons, List.length_nil, List.length_append, List.length_replicate, List.length_map, List.length_set, List.length_take, List.length_drop, strs_len, ints_len, bools_len, aggs_len, vpv_len]; omega)) only [go_sem, g2, valP, e]
        exact ih _
      | some q =>
        have e1 : hitV s.step (true, n) = ofV q := by simp [hitV, hm, valV]
        rw [e1] at g3
        rw [← g3] at ih
        rw [hm] at e
        simp only [mdR] at e
        simp (disch := first | assumption | omega | decide | (simp only [List.length_cons, List.length_nil, List.length_append, List.length_replicate, List.length_map, List.length_set, List.length_take, List.length_drop, strs_len, ints_len, bools_len, aggs_len, vpv_len]; done) | (simp only [List.length_cons, List.length_nil, List.length_append, List.length_replicate, List.length_map, List.length_set, List.length_take, List.length_drop, strs_len, ints_len, bools_len, aggs_len, vpv_len]; omega)) only [go_sem, g2, valP, e]
        exact ih _
theorem res_hits {kk : SK} (s : Ser) (hz : sizeS s) (hb : ∀ v ∈ s.vals, -9223372036854775808 ≤ v.2 ∧ v.2 ≤ 9223372036854775807) : res Γ 161 [s.pv kk] = some [(hitS s).pv .any] := by
  have hv : s.vals.length ≤ 131072 := by unfold sizeS at hz; omega
  have e := resM_seriesOwn (kk := kk) s (by omega)
  have hw : (vpv s.vals).length = s.vals.length := vpv_len
  have hw2 : (vpv (s.vals.map (hitV s.step))).length = s.vals.length := by rw [vpv_len, List.length_map]
  have l1 := fun B Q => hits_l1_ok s hz hb B Q s.vals.length 0 [] (by omega)
  simp only [hitT_zero] at l1
  unfold Ser.pv at e ⊢
  refine res_code (fn := fwin_hits) rfl rfl ?_
  simp (disch := first | assumption | omega | decide | (simp only [List.length_cons, List.length_nil, List.length_append, List.length_replicate, List.length_map, List.length_set, List.length_take, List.length_drop, strs_len, ints_len, bools_len, aggs_len, vpv_len]; done) | (simp only [List.length_cons, List.length_nil, List.length_append, List.length_replicate, List.length_map, List.length_set, List.length_take, List.length_drop, strs_len, ints_len, bools_len, aggs_len, vpv_len]; omega)) only [go_sem, fwin_hits, e]
  refine l1 .dead _ (fun T => ?_)
  simp (disch := first | assumption | omega | decide | (simp only [List.length_cons, List.length_nil, List.length_append, List.length_replicate, List.length_map, List.length_set, List.length_take, List.length_drop, strs_len, ints_len, bools_len, aggs_len, vpv_len]; done) | (simp only [List.length_cons, List.length_nil, List.length_append, List.length_replicate, List.length_map, List.length_set, List.length_take, List.length_drop, strs_len, ints_len, bools_len, aggs_len, vpv_len]; omega)) only [go_sem, hitS]
end Ab
