import Derived.Test.YtgdkafbcchkplaaGreatDoorLBuck3
import Derived.Test.YtgdkafbcchkplaaGreatDoorAbRel
import Derived.Test.YtgdkafbcchkplaaGreatDoorPSer
import Derived.Test.YtgdkafbcchkplaaGreatDoorAbY9
import Derived.Test.YtgdkafbcchkplaaGreatDoorAbPrim
import Derived.Shelf.SlSortCmp.NoneTotal
import Derived.Test.YtgdkafbcchkplaaGreatDoorCode
import Derived.Test.YtgdkafbcchkplaaGreatDoorMFwin
/- FwinSummarize, FwinHitcount. -/
namespace Ab
open Go (IntKind BinOp UnOp)
theorem res_buckets {k kx ky : SK} {nm : List UInt8} {x : Ser} {ok : Bool} (s : Ser) (iv kind : Int) (hv : s.vals.length ≤ 9223372036854775807) (hiv : -9223372036854775808 ≤ iv ∧ iv ≤ 9223372036854775807) (hk : res Γ 100 [] = some [.bool true])
    (hP : res Γ 157 [.str nm, s.pv .any, .int .i64 iv, .int .i64 kind] = some [x.pv kx, .bool ok])
    (hR : res Γ 156 [.str nm, s.pv k, .int .i64 iv, .int .i64 kind] = some [x.pv ky, .bool ok]) (hx : x.vals.length ≤ 131072) :
    res Γ 155 [.str nm, s.pv k, .int .i64 iv, .int .i64 kind] = some [.bool true] := by
  have h1 := res_heavy21 (k := k) s hv
  cases hh : heavyS s
  · rw [hh] at h1
    have hs : s.vals.length ≤ 120 := by
      simp [heavyS] at hh; omega
    have e0 := res_r18Is (kk := k) s hv
    have e1 := res_r18Own (kk := k) s (by omega)
    have e2 := res_same21 (k1 := kx) (k2 := ky) x (by omega)
    have e3 := res_same21 (k1 := .any) (k2 := k) s (by omega)
    unfold Ser.pv at h1 hP hR e0 e1 e2 e3 ⊢
    refine res_code (fn := l21_buckets) rfl rfl ?_
    cases his : isS s
    · cases ok <;> simp (disch := first | assumption | omega | decide | (simp only [List.length_cons, List.length_nil, List.length_append, List.length_replicate, List.length_map, List.length_set, List.length_take, List.length_drop, strs_len, ints_len, bools_len, aggs_len, vpv_len]; done) | (simp only [List.length_cons, List.length_nil, List.length_append, List.length_replicate, List.length_map, List.length_set, List.length_take, List.length_drop, strs_len, ints_len, bools_len, aggs_len, vpv_len]; omega)) only [go_sem, l21_buckets, h1, hP, hR, e0, his, e1, e2, e3, hk, eqkA]
    · have hz := isS_size his
      unfold sizeS at hz
      by_cases hp : 0 < iv
      · have q0 : 0 ≤ s.step / iv := Int.ediv_nonneg (by omega) (by omega)
        have q1 : s.step / iv ≤ s.step := Int.ediv_le_self iv (by omega)
        have m0 := map_quo (k := .i64) (a := s.step) (b := iv) (by omega) hp (wrap_i64 (by omega) (by omega))
        have b0 : 0 ≤ (s.vals.length : Int) * (s.step / iv) := Int.mul_nonneg (by omega) q0
        have b1 : (s.vals.length : Int) * (s.step / iv) ≤ 120 * 1099511627776 := Int.mul_le_mul (by omega) (by omega) q0 (by omega)
        by_cases hb : 1000 < (s.vals.length : Int) * (s.step / iv)
        · simp (disch := first | assumption | omega | decide | (simp only [List.length_cons, List.length_nil, List.length_append, List.length_replicate, List.length_map, List.length_set, List.length_take, List.length_drop, strs_len, ints_len, bools_len, aggs_len, vpv_len]; done) | (simp only [List.length_cons, List.length_nil, List.length_append, List.length_replicate, List.length_map, List.length_set, List.length_take, List.length_drop, strs_len, ints_len, bools_len, aggs_len, vpv_len]; omega)) only [go_sem, l21_buckets, h1, e0, his, m0]
        · cases ok <;> simp (disch := first | assumption | omega | decide | (simp only [List.length_cons, List.length_nil, List.length_append, List.length_replicate, List.length_map, List.length_set, List.length_take, List.length_drop, strs_len, ints_len, bools_len, aggs_len, vpv_len]; done) | (simp only [List.length_cons, List.length_nil, List.length_append, List.length_replicate, List.length_map, List.length_set, List.length_take, List.length_drop, strs_len, ints_len, bools_len, aggs_len, vpv_len]; omega)) only [go_sem, l21_buckets, h1, hP, hR, e0, his, m0, e1, e2, e3, hk, eqkA]
      · cases ok <;> simp (disch := first | assumption | omega | decide | (simp only [List.length_cons, List.length_nil, List.length_append, List.length_replicate, List.length_map, List.length_set, List.length_take, List.length_drop, strs_len, ints_len, bools_len, aggs_len, vpv_len]; done) | (simp only [List.length_cons, List.length_nil, List.length_append, List.length_replicate, List.length_map, List.length_set, List.length_take, List.length_drop, strs_len, ints_len, bools_len, aggs_len, vpv_len]; omega)) only [go_sem, l21_buckets, h1, hP, hR, e0, his, e1, e2, e3, hk, eqkA]
  · rw [hh] at h1
    unfold Ser.pv at h1 ⊢
    refine res_code (fn := l21_buckets) rfl rfl ?_
    simp (disch := first | assumption | omega | decide | (simp only [List.length_cons, List.length_nil, List.length_append, List.length_replicate, List.length_map, List.length_set, List.length_take, List.length_drop, strs_len, ints_len, bools_len, aggs_len, vpv_len]; done) | (simp only [List.length_cons, List.length_nil, List.length_append, List.length_replicate, List.length_map, List.length_set, List.length_take, List.length_drop, strs_len, ints_len, bools_len, aggs_len, vpv_len]; omega)) only [go_sem, l21_buckets, h1]
theorem res_bucketsN {k : SK} {nm : List UInt8} (s : Ser) (iv kind : Int) (hv : s.vals.length ≤ 9223372036854775807) (hiv : -9223372036854775808 ≤ iv ∧ iv ≤ 9223372036854775807) (hk : res Γ 100 [] = some [.bool true]) :
    res Γ 155 [.str nm, s.pv k, .int .i64 iv, .int .i64 kind] = some [.bool true] := by
  by_cases h : buckOk nm s iv kind
  · exact res_buckets (x := buckS nm s iv kind) s iv kind hv hiv hk (res_fwinBuckets s iv kind h) (res_r21Buckets s iv kind h) (by
      show (fitV _ _ _ _).length ≤ 131072
      rw [fitV_len]; exact h.2.2.2.2)
  · exact res_buckets (x := noneS) s iv kind hv hiv hk (res_fwinBuckets_no s iv kind hv h) (res_r21Buckets_no s iv kind hv h) (by simp [noneS])
theorem res_FwinSummarizeA {k : SK} (s : Ser) (iv kind : Int) (o : Ser.Ok k s) (h1 : -9223372036854775808 ≤ iv ∧ iv ≤ 9223372036854775807) (_ : -9223372036854775808 ≤ kind ∧ kind ≤ 9223372036854775807) : res Γ 172 [s.pv k, .int .i64 iv, .int .i64 kind] = some [.bool true] := by
  have e := res_bucketsN (k := k) (nm := nmS) s iv kind o.len h1 res_known21
  unfold nmS at e
  unfold Ser.pv at e ⊢
  refine res_code (fn := l21_FwinSummarize) rfl rfl ?_
  simp (disch := first | assumption | omega | decide | (simp only [List.length_cons, List.length_nil, List.length_append, List.length_replicate, List.length_map, List.length_set, List.length_take, List.length_drop, strs_len, ints_len, bools_len, aggs_len, vpv_len]; done) | (simp only [List.length_cons, List.length_nil, List.length_append, List.length_replicate, List.length_map, List.length_set, List.length_take, List.length_drop, strs_len, ints_len, bools_len, aggs_len, vpv_len]; omega)) only [go_sem, l21_FwinSummarize, e]
theorem res_FwinHitcountA {k : SK} (s : Ser) (iv : Int) (o : Ser.Ok k s) (h1 : -9223372036854775808 ≤ iv ∧ iv ≤ 9223372036854775807) : res Γ 173 [s.pv k, .int .i64 iv] = some [.bool true] := by
  have e := res_bucketsN (k := k) (nm := nmH) s iv 0 o.len h1 res_known21
  unfold nmH at e
  unfold Ser.pv at e ⊢
  refine res_code (fn := l21_FwinHitcount) rfl rfl ?_
  simp (disch := first | assumption | omega | decide | (simp only [List.length_cons, List.length_nil, List.length_append, List.length_replicate, List.length_map, List.length_set, List.length_take, List.length_drop, strs_len, ints_len, bools_len, aggs_len, vpv_len]; done) | (simp only [List.length_cons, List.length_nil, List.length_append, List.length_replicate, List.length_map, List.length_set, List.length_take, List.length_drop, strs_len, ints_len, bools_len, aggs_len, vpv_len]; omega)) only [go_sem, l21_FwinHitcount, e]
end Ab
/- FwinOthers. -/
namespace Ab
open Go (IntKind BinOp UnOp)
def sixN : List (List UInt8) := [[109, 111, 118, 105, 110, 103, 65, 118, 101, 114, 97, 103, 101], [109, 111, 118, 105, 110, 103, 77, 105, 110], [109, 111, 118, 105, 110, 103, 77, 97, 120], [109, 111, 118, 105, 110, 103, 83, 117, 109], [109, 111, 118, 105, 110, 103, 77, 101, 100, 105, 97, 110], [115, 116, 100, 101, 118]]
theorem res_doesNo {nm : List UInt8} (h : nm ∉ sixN) : res Γ 112 [.str nm] = some [.nilfn] := by
  simp only [sixN, List.mem_cons, List.not_mem_nil, or_false, not_or] at h
  obtain ⟨h1, h2, h3, h4, h5, h6⟩ := h
  refine res_code (fn := fwin_does) rfl rfl ?_
  simp (disch := first | assumption | omega | decide | (simp only [List.length_cons, List.length_nil, List.length_append, List.length_replicate, List.length_map, List.length_set, List.length_take, List.length_drop, strs_len, ints_len, bools_len, aggs_len, vpv_len]; done) | (simp only [List.length_cons, List.length_nil, List.length_append, List.length_replicate, List.length_map, List.length_set, List.length_take, List.length_drop, strs_len, ints_len, bools_len, aggs_len, vpv_len]; omega)) only [go_sem, fwin_does]
theorem res_windowNo {kk : SK} {nm : List UInt8} (h : nm ∉ sixN) (xs : List PV) : res Γ 106 [.str nm, .sl kk 2 xs] = some [.agg [.bool false, .int .i64 0], .bool false] := by
  simp only [sixN, List.mem_cons, List.not_mem_nil, or_false, not_or] at h
  obtain ⟨h1, h2, h3, h4, h5, h6⟩ := h
  refine res_code (fn := r21_window) rfl rfl ?_
  simp (disch := first | assumption | omega | decide | (simp only [List.length_cons, List.length_nil, List.length_append, List.length_replicate, List.length_map, List.length_set, List.length_take, List.length_drop, strs_len, ints_len, bools_len, aggs_len, vpv_len]; done) | (simp only [List.length_cons, List.length_nil, List.length_append, List.length_replicate, List.length_map, List.length_set, List.length_take, List.length_drop, strs_len, ints_len, bools_len, aggs_len, vpv_len]; omega)) only [go_sem, r21_window]
theorem res_fwinMove_unk {kk : SK} {nm : List UInt8} (s : Ser) (n : Int) (hl : s.vals.length ≤ 9223372036854775807) (h : nm ∉ sixN) : res Γ 102 [.str nm, s.pv kk, .int .i64 n] = some [noneS.pv .nil, .bool false] := by
  have e := res_seriesIs (kk := kk) s hl
  have hd := res_doesNo h
  unfold Ser.pv at e ⊢
  unfold noneS
  refine res_code (fn := fwin_Move) rfl rfl ?_
  cases hs : isS s
  · simp (disch := first | assumption | omega | decide | (simp only [List.length_cons, List.length_nil, List.length_append, List.length_replicate, List.length_map, List.length_set, List.length_take, List.length_drop, strs_len, ints_len, bools_len, aggs_len, vpv_len]; done) | (simp only [List.length_cons, List.length_nil, List.length_append, List.length_replicate, List.length_map, List.length_set, List.length_take, List.length_drop, strs_len, ints_len, bools_len, aggs_len, vpv_len]; omega)) only [go_sem, fwin_Move, hd, e, hs]
  · by_cases h1 : n < 1
    · simp (disch := first | assumption | omega | decide | (simp only [List.length_cons, List.length_nil, List.length_append, List.length_replicate, List.length_map, List.length_set, List.length_take, List.length_drop, strs_len, ints_len, bools_len, aggs_len, vpv_len]; done) | (simp only [List.length_cons, List.length_nil, List.length_append, List.length_replicate, List.length_map, List.length_set, List.length_take, List.length_drop, strs_len, ints_len, bools_len, aggs_len, vpv_len]; omega)) only [go_sem, fwin_Move, hd, e, hs]
    · by_cases h2 : 131072 < n
      · simp (disch := first | assumption | omega | decide | (simp only [List.length_cons, List.length_nil, List.length_append, List.length_replicate, List.length_map, List.length_set, List.length_take, List.length_drop, strs_len, ints_len, bools_len, aggs_len, vpv_len]; done) | (simp only [List.length_cons, List.length_nil, List.length_append, List.length_replicate, List.length_map, List.length_set, List.length_take, List.length_drop, strs_len, ints_len, bools_len, aggs_len, vpv_len]; omega)) only [go_sem, fwin_Move, hd, e, hs]
      · simp (disch := first | assumption | omega | decide | (simp only [List.length_cons, List.length_nil, List.length_append, List.length_replicate, List.length_map, List.length_set, List.length_take, List.length_drop, strs_len, ints_len, bools_len, aggs_len, vpv_len]; done) | (simp only [List.length_cons, List.length_nil, List.length_append, List.length_replicate, List.length_map, List.length_set, List.length_take, List.length_drop, strs_len, ints_len, bools_len, aggs_len, vpv_len]; omega)) only [go_sem, fwin_Move, hd, e, hs]
theorem res_r21Move_unk {kk : SK} {nm : List UInt8} (s : Ser) (n : Int) (h : nm ∉ sixN) : res Γ 101 [.str nm, s.pv kk, .int .i64 n] = some [noneS.pv .nil, .bool false] := by
  have hd := res_windowNo (kk := .nil) h []
  unfold Ser.pv
  unfold noneS
  refine res_code (fn := r21_Move) rfl rfl ?_
  simp (disch := first | assumption | omega | decide | (simp only [List.length_cons, List.length_nil, List.length_append, List.length_replicate, List.length_map, List.length_set, List.length_take, List.length_drop, strs_len, ints_len, bools_len, aggs_len, vpv_len]; done) | (simp only [List.length_cons, List.length_nil, List.length_append, List.length_replicate, List.length_map, List.length_set, List.length_take, List.length_drop, strs_len, ints_len, bools_len, aggs_len, vpv_len]; omega)) only [go_sem, r21_Move, hd]
theorem res_movedAny {k : SK} (nm : List UInt8) (s : Ser) (n : Int) (hv : s.vals.length ≤ 9223372036854775807) (hk : res Γ 100 [] = some [.bool true]) : res Γ 98 [.str nm, s.pv k, .int .i64 n] = some [.bool true] := by
  by_cases h : nm ∈ sixN
  · simp only [sixN, List.mem_cons, List.not_mem_nil, or_false] at h
    rcases h with rfl | rfl | rfl | rfl | rfl | rfl
    · exact res_movedFn (g := aggV 1) s n hv (by decide) hk res_doesAvg (fun k x hx => res_does11 1 x _ (res_aggOf1 x hx)) (fun k x hx => res_windowAvg x hx)
    · exact res_movedFn (g := aggV 5) s n hv (by decide) hk res_doesMin (fun k x hx => res_does11 5 x _ (res_aggOf5 x hx)) (fun k x hx => res_windowMin x hx)
    · exact res_movedFn (g := aggV 4) s n hv (by decide) hk res_doesMax (fun k x hx => res_does11 4 x _ (res_aggOf4 x hx)) (fun k x hx => res_windowMax x hx)
    · exact res_movedFn (g := aggV 2) s n hv (by decide) hk res_doesSum (fun k x hx => res_does11 2 x _ (res_aggOf2 x hx)) (fun k x hx => res_windowSum x hx)
    · exact res_movedFn s n hv (by decide) hk res_doesMed (fun k x hx => res_fwinMedian x hx) (fun k x hx => res_windowMed x hx)
    · exact res_movedFn s n hv (by decide) hk res_doesStd (fun k x hx => res_fwinDeviation x hx) (fun k x hx => res_windowStd x hx)
  · exact res_moved (x := noneS) (kx := .nil) (ky := .nil) (ok := false) s n hv hk (fun _ => res_fwinMove_unk s n (by
      have := hv; exact hv) h) (fun _ => res_r21Move_unk s n h) (by simp [noneS])
theorem Others_l1_ok {k1 k2 : SK} (l : List (List UInt8)) (hl : l.length < 1000) (a b c : AV) (B : Blk) (_hB : ∃ cs : List PV, B = .box (cs.map .p)) (Q : Out → Prop) : ∀ (d i : Nat), i + d = l.length →
    Q (.nrm, [(0, a), (2, b), (3, c), (5, .bx 0 0)], [B]) →
    Wp Γ l21_FwinOthers_l1 [(0, a), (2, b), (3, c), (5, .bx 0 0), (9, .p (.sl k1 1 (strs l))), (10, .p (.sl k2 1 (strs l))), (11, .p (.int .i64 (i : Int)))] [B] (InBlk [0, 2, 3, 5] 0 Q) := by
  intro d
  induction d with
  | zero =>
    intro i hi hQ
    obtain rfl : i = l.length := by omega
    rw [W_loop (L := l21_FwinOthers_l1) rfl]
    simp (disch := first | assumption | omega | decide | (simp only [List.length_cons, List.length_nil, List.length_append, List.length_replicate, List.length_map, List.length_set, List.length_take, List.length_drop, strs_len, ints_len, bools_len, aggs_len, vpv_len]; done) | (simp only [List.length_cons, List.length_nil, List.length_append, List.length_replicate, List.length_map, List.length_set, List.length_take, List.length_drop, strs_len, ints_len, bools_len, aggs_len, vpv_len]; omega)) only [go_sem]
    exact hQ
  | succ d ih =>
    intro i hi hQ
    rw [W_loop (L := l21_FwinOthers_l1) rfl]
    simp (disch := first | assumption | omega | decide | (simp only [List.length_cons, List.length_nil, List.length_append, List.length_replicate, List.length_map, List.length_set, List.length_take, List.length_drop, strs_len, ints_len, bools_len, aggs_len, vpv_len]; done) | (simp only [List.length_cons, List.length_nil, List.length_append, List.length_replicate, List.length_map, List.length_set, List.length_take, List.length_drop, strs_len, ints_len, bools_len, aggs_len, vpv_len]; omega)) only [go_sem, ne_eq, not_true_eq_false]
    exact ih (i + 1) (by omega) hQ
def nameL : List (List UInt8) := [[104, 105, 116, 99, 111, 117, 110, 116], [109, 111, 118, 105, 110, 103, 65, 118, 101, 114, 97, 103, 101], [109, 111, 118, 105, 110, 103, 77, 97, 120], [109, 111, 118, 105, 110, 103, 77, 101, 100, 105, 97, 110], [109, 111, 118, 105, 110, 103, 77, 105, 110], [109, 111, 118, 105, 110, 103, 83, 117, 109], [115, 116, 100, 101, 118], [115, 117, 109, 109, 97, 114, 105, 122, 101]]
theorem res_fwinNames : res Γ 206 [] = some [.sl .tight 1 (strs nameL)] := by
  refine res_code (fn := fwin_Names) rfl rfl ?_
  simp (disch := first | assumption | omega | decide | (simp only [List.length_cons, List.length_nil, List.length_append, List.length_replicate, List.length_map, List.length_set, List.length_take, List.length_drop, strs_len, ints_len, bools_len, aggs_len, vpv_len]; done) | (simp only [List.length_cons, List.length_nil, List.length_append, List.length_replicate, List.length_map, List.length_set, List.length_take, List.length_drop, strs_len, ints_len, bools_len, aggs_len, vpv_len]; omega)) only [go_sem, fwin_Names, List.replicate_succ, List.replicate_zero]
  rfl
theorem res_r21Names : res Γ 207 [] = some [.sl .tight 1 (strs nameL)] := by
  refine res_code (fn := r21_Names) rfl rfl ?_
  simp (disch := first | assumption | omega | decide | (simp only [List.length_cons, List.length_nil, List.length_append, List.length_replicate, List.length_map, List.length_set, List.length_take, List.length_drop, strs_len, ints_len, bools_len, aggs_len, vpv_len]; done) | (simp only [List.length_cons, List.length_nil, List.length_append, List.length_replicate, List.length_map, List.length_set, List.length_take, List.length_drop, strs_len, ints_len, bools_len, aggs_len, vpv_len]; omega)) only [go_sem, r21_Names, List.replicate_succ, List.replicate_zero]
  rfl
theorem res_FwinOthersA {k : SK} (nm : List UInt8) (s : Ser) (n kind : Int) (o : Ser.Ok k s) (h1 : -9223372036854775808 ≤ n ∧ n ≤ 9223372036854775807) (_ : -9223372036854775808 ≤ kind ∧ kind ≤ 9223372036854775807) :
    res Γ 210 [.str nm, s.pv k, .int .i64 n, .int .i64 kind] = some [.bool true] := by
  have e1 := res_movedAny (k := k) nm s n o.len res_known21
  have e2 := res_bucketsN (k := k) (nm := nm) s n kind o.len h1 res_known21
  have e3 := res_known21
  have e4 := res_fwinNames
  have e5 := res_r21Names
  have hl : nameL.length = 8 := rfl
  generalize nameL = l at *
  unfold Ser.pv at e1 e2 ⊢
  refine res_code (fn := l21_FwinOthers) rfl rfl ?_
  by_cases h : 300 < nm.length
  · simp (disch := first | assumption | omega | decide | (simp only [List.length_cons, List.length_nil, List.length_append, List.length_replicate, List.length_map, List.length_set, List.length_take, List.length_drop, strs_len, ints_len, bools_len, aggs_len, vpv_len]; done) | (simp only [List.length_cons, List.length_nil, List.length_append, List.length_replicate, List.length_map, List.length_set, List.length_take, List.length_drop, strs_len, ints_len, bools_len, aggs_len, vpv_len]; omega)) only [go_sem, l21_FwinOthers]
  · simp (disch := first | assumption | omega | decide | (simp only [List.length_cons, List.length_nil, List.length_append, List.length_replicate, List.length_map, List.length_set, List.length_take, List.length_drop, strs_len, ints_len, bools_len, aggs_len, vpv_len]; done) | (simp only [List.length_cons, List.length_nil, List.length_append, List.length_replicate, List.length_map, List.length_set, List.length_take, List.length_drop, strs_len, ints_len, bools_len, aggs_len, vpv_len]; omega)) only [go_sem, l21_FwinOthers, e4, e5, ne_eq, not_true_eq_false]
    refine Others_l1_ok l (by omega) _ _ _ _ ⟨[_, _, _, _, _], rfl⟩ _ l.length 0 (by omega) ?_
    simp (disch := first | assumption | omega | decide | (simp only [List.length_cons, List.length_nil, List.length_append, List.length_replicate, List.length_map, List.length_set, List.length_take, List.length_drop, strs_len, ints_len, bools_len, aggs_len, vpv_len]; done) | (simp only [List.length_cons, List.length_nil, List.length_append, List.length_replicate, List.length_map, List.length_set, List.length_take, List.length_drop, strs_len, ints_len, bools_len, aggs_len, vpv_len]; omega)) only [go_sem, e1, e2, e3]
end Ab
/- Functions of the library that make a row or change one: slices.Clone, slices.SortFunc. -/
namespace Ab
open Go (IntKind BinOp UnOp World Value Addr Obj undef maxLen Program TypeId Oper Op Operand Act Sem Next Result execOp Builtin Calls Ending Exit)
open Go.Sort Go.RowKit Go.Proofs

/-! ### Numbers in order -/
theorem insI_perm (n : Int) : ∀ l : List Int, (insI n l).Perm (n :: l)
  | [] => .refl _
  | m :: r => by
    unfold insI
    split
    · exact ((insI_perm n r).cons m).trans (.swap n m r)
    · exact .refl _
theorem sortI_perm_go : ∀ (l o : List Int), (l.foldl (fun o n => insI n o) o).Perm (l ++ o)
  | [], o => .refl _
  | n :: l, o => by
    rw [List.foldl_cons]
    refine (sortI_perm_go l _).trans ?_
    refine ((insI_perm n o).append_left l).trans ?_
    simp only [List.cons_append]
    exact List.perm_middle
theorem sortI_perm (l : List Int) : (sortI l).Perm l := by
  have := sortI_perm_go l []
  rwa [List.append_nil] at this
theorem insI_sorted {n : Int} : ∀ {l : List Int}, l.Pairwise (· ≤ ·) → (insI n l).Pairwise (· ≤ ·)
  | [], _ => by simp [insI]
  | m :: r, h => by
    obtain ⟨h1, h2⟩ := List.pairwise_cons.1 h
    unfold insI
    split
    · rename_i hle
      refine List.pairwise_cons.2 ⟨fun x hx => ?_, insI_sorted h2⟩
      rcases List.mem_cons.1 ((insI_perm n r).mem_iff.1 hx) with rfl | hx
      · exact hle
      · exact h1 x hx
    · rename_i hle
      refine List.pairwise_cons.2 ⟨fun x hx => ?_, h⟩
      rcases List.mem_cons.1 hx with rfl | hx
      · omega
      · have := h1 x hx; omega
theorem sortI_sorted (l : List Int) : (sortI l).Pairwise (· ≤ ·) := by
  have : ∀ (l o : List Int), o.Pairwise (· ≤ ·) → (l.foldl (fun o n => insI n o) o).Pairwise (· ≤ ·) := by
    intro l
    induction l with
    | nil => exact fun _ h => h
    | cons n l ih => exact fun o h => ih _ (insI_sorted h)
  exact this l [] .nil
theorem sortI_len (l : List Int) : (sortI l).length = l.length := (sortI_perm l).length_eq
theorem ltI (x y : Int) : ltOf (fun x y : Int => Go.Lib.compareInt x y) x y = decide (x < y) := by
  unfold ltOf Go.Lib.compareInt
  by_cases h1 : x < y
  · simp [h1]
  · by_cases h2 : y < x <;> simp [h1, h2]
theorem swoI : SWO (ltOf fun x y : Int => Go.Lib.compareInt x y) where
  irrefl x := by rw [ltI]; simp
  trans x y z h1 h2 := by rw [ltI] at *; simp at *; omega
  ntrans x y z h1 h2 := by rw [ltI] at *; simp at *; omega
theorem sortI_eq (l : List Int) : (l.mergeSort fun x y => !(ltOf fun x y : Int => Go.Lib.compareInt x y) y x) = sortI l := by
  have e : (fun x y => !(ltOf fun x y : Int => Go.Lib.compareInt x y) y x) = fun x y : Int => decide (x ≤ y) := by
    funext x y
    rw [ltI, Bool.eq_iff_iff]
    simp
  rw [e]
  have h1 : (l.mergeSort fun x y : Int => decide (x ≤ y)).Pairwise (· ≤ ·) := by
    have := List.pairwise_mergeSort (le := fun x y : Int => decide (x ≤ y)) (fun a b c h1 h2 => by simp at *; omega) (fun a b => by simp; omega) l
    exact this.imp fun h => by simpa using h
  refine List.Perm.eq_of_pairwise (le := (· ≤ ·)) (fun a b _ _ h1 h2 => by omega) h1 (sortI_sorted l) ?_
  exact (List.mergeSort_perm l _).trans (sortI_perm l).symm

theorem intsIn_spec : ∀ {xs : List PV} {ns}, intsIn xs = some ns → xs = ns.map fun n => .agg [.bool true, .int .i64 n]
  | [], ns, h => by simp only [intsIn, Option.some.injEq] at h; subst h; rfl
  | x :: xs, ns, h => by
    unfold intsIn at h
    split at h
    · rename_i e; cases e
    · rename_i n r e
      cases e
      obtain ⟨ms, h1, rfl⟩ := Option.map_eq_some_iff.1 h
      rw [intsIn_spec h1]; rfl
    · cases h

theorem relb {ν : Nat → Nat} {w : World} {S : Nat → Prop} {b : Bool} {u : Value} (h : RelP ν w S (.bool b) u) : u = .bool b := by cases h; rfl
theorem reli {ν : Nat → Nat} {w : World} {S : Nat → Prop} {k : IntKind} {n : Int} {u : Value} (h : RelP ν w S (.int k n) u) : u = .int k n := by cases h; rfl
theorem relf {ν : Nat → Nat} {w : World} {S S' : Nat → Prop} {x c : PV} {j : Nat} {u : Value} (hf : flat x = true) (hc : x.cells[j]? = some c) (h : RelP ν w S c u) : RelP ν w S' c u := by
  refine flat1_rel ?_ h
  cases x with
  | agg cs => exact List.all_eq_true.1 hf c (List.mem_of_getElem? hc)
  | _ =>
    cases j with
    | zero => simp only [PV.cells, List.getElem?_cons_zero, Option.some.injEq] at hc; subst hc; exact hf
    | succ j => simp [PV.cells] at hc
/-! ### slices.SortFunc -/
def encV (n : Int) : List Value := [.bool true, .int .i64 n]
structure SortOk (P : Program) (f c : Nat) : Prop where
  enters : Enters P f
  none : ∀ p cap fv w, Calls P f #[.slice p 0 cap, fv] w fun e w' => e = .returned (.tuple #[]) ∧ w' = w
  some : ∀ (blk cap : Nat) (d : Array Int) (w : World), HoldsK encV 2 w blk 0 d → blk < w.heap.size → d.size < 4611686018427387904 →
    Calls P f #[.slice (some ⟨blk, 0, Option.none⟩) d.size cap, .func (.func c) #[] #[]] w fun e w' => e = .returned (.tuple #[]) ∧ ∃ n os, w' = sortWorldK encV 2 w blk 0 n (d.toList.mergeSort fun x y => !(ltOf fun x y : Int => Go.Lib.compareInt x y) y x).toArray os

theorem toArray_size2 (l : List Int) : l.toArray.size = l.length := by simp
theorem flat_get (l : List Int) {t : Nat} (h : t < l.length * 2) : (flatK encV 2 l.toArray)[t]! = if t % 2 = 0 then .bool true else .int .i64 (l.getD (t / 2) 0) := by
  rw [get_flatK encV 2 l.toArray t (by simpa using h)]
  have hd : t / 2 < l.length := by omega
  have e : l.toArray[t / 2]! = l.getD (t / 2) 0 := by
    rw [getElem!_pos _ _ (by simpa using hd)]
    simp [List.getElem?_eq_getElem hd]
  rw [e]
  have : t % 2 = 0 ∨ t % 2 = 1 := by omega
  rcases this with h | h <;> simp [h, encV]

section
variable {Γ : Ctx} {N : Names} {P : Program} {f c : Nat}
theorem upd_sort (h : SortOk P (N.fn f) (N.fn c)) : UpdOk Γ N P f (sortG c) := by
  intro ps sz xs ys hg hyl hlim w S u us cells hS hgl hrow hfl hsep ha
  have lim_eq : lim = 1073741824 := rfl
  unfold sortG at hg
  split at hg
  rotate_left
  · cases hg
  rename_i xs k
  split at hg
  rotate_left
  · cases hg
  rename_i hk
  subst hk
  obtain ⟨ns, hns, rfl⟩ := Option.map_eq_some_iff.1 hg
  have hxs := intsIn_spec hns
  subst hxs
  match us, ha with
  | [v], ⟨hv, _⟩ =>
  have ev : v = .func (.func (N.fn k)) #[] #[] := by
    cases hv with
    | clo _ _ us h1 h2 h3 =>
      have : us = #[] := Array.eq_empty_of_size_eq_zero (by simpa using h1)
      rw [this]
  subst ev
  -- the cells
  have hcell : ∀ t, t < ns.length * 2 → cells.getD t undef = if t % 2 = 0 then .bool true else .int .i64 (ns.getD (t / 2) 0) := by
    intro t ht
    have hd : t / 2 < ns.length := by omega
    have hx : (ns.map fun n => PV.agg [.bool true, .int .i64 n])[t / 2]? = some (.agg [.bool true, .int .i64 (ns.getD (t / 2) 0)]) := by
      simp [List.getElem?_eq_getElem hd]
    have h01 : t % 2 = 0 ∨ t % 2 = 1 := by omega
    have et : t / 2 * 2 + t % 2 = t := by omega
    rcases h01 with h0 | h0
    · have := hfl.2 (t / 2) _ 0 (.bool true) hx rfl
      rw [show t / 2 * 2 + 0 = t by omega] at this
      rw [if_pos h0]; exact relb this
    · have := hfl.2 (t / 2) _ 1 (.int .i64 (ns.getD (t / 2) 0)) hx rfl
      rw [show t / 2 * 2 + 1 = t by omega] at this
      rw [if_neg (by omega)]; exact reli this
  simp only [List.length_map] at hrow hlim hyl
  obtain ⟨hcl, hrow⟩ := hrow
  by_cases hz : ns = []
  · subst hz
    have hu : ∃ p cap, u = .slice p 0 cap := by
      rcases hrow with ⟨_, a, rfl⟩ | ⟨g, cap, cur, e, rfl, _⟩
      · exact ⟨a, 0, rfl⟩
      · exact ⟨_, cap, rfl⟩
    obtain ⟨p, cap, rfl⟩ := hu
    refine .inl ⟨h.enters _ _, (h.none p cap _ w).mono ?_⟩
    rintro e w' ⟨rfl, rfl⟩
    exact ⟨_, rfl, rfl, rfl, rfl, rfl, Nat.le_refl _, fun _ _ _ => rfl, cells, ⟨hcl, hrow⟩, hfl⟩
  · have hpos : 0 < ns.length := List.length_pos_iff.2 hz
    obtain ⟨g, cap, cur, e, rfl, hc0, hgx, hnc, hcm, hcs, htk⟩ : ∃ g cap cur e, u = .slice (some ⟨g, 0, Option.none⟩) ns.length cap ∧ 0 < cap ∧ w.heap[g]? = some (.cells cur e (0, 0)) ∧ ns.length ≤ cap ∧ cap ≤ maxLen ∧ cur.size = cap * 2 ∧ cur.toList.take (ns.length * 2) = cells := by
      rcases hrow with ⟨h0, _⟩ | h
      · omega
      · exact h
    have hgl' : g < w.heap.size := (Array.getElem?_eq_some_iff.1 hgx).1
    have hcur : ∀ t, t < ns.length * 2 → cur[t]? = some (if t % 2 = 0 then .bool true else .int .i64 (ns.getD (t / 2) 0)) := fun t ht => by
      have h1 := hcell t ht
      rw [← htk, List.getD_eq_getElem?_getD, List.getElem?_take, if_pos ht] at h1
      have hlt : t < cur.size := by omega
      have e2 : cur.toList[t]? = cur[t]? := by simp
      rw [e2, Array.getElem?_eq_getElem hlt, Option.getD_some] at h1
      rw [Array.getElem?_eq_getElem hlt, h1]
    have hH : HoldsK encV 2 w g 0 ns.toArray := by
      intro j hj
      have hj : j < ns.length * 2 := by simpa using hj
      rw [flat_get ns hj, Nat.zero_add]
      refine ⟨?_, by simp [World.frozen?, hgx]⟩
      simp only [World.cell?, hgx, Option.isSome_none, Bool.false_eq_true, if_false, id]
      exact hcur j hj
    have hcon := h.some g cap ns.toArray w hH hgl' (by simp; omega)
    rw [toArray_size2] at hcon
    refine .inl ⟨h.enters _ _, hcon.mono ?_⟩
    rintro e' w' ⟨rfl, n, os, rfl⟩
    rw [List.toList_toArray, sortI_eq]
    have hblk : ∀ b, b < w.heap.size → (sortWorldK encV 2 w g 0 n (sortI ns).toArray os).heap[b]? = (w.heap.modify g (onCells (putCells id 0 (flatK encV 2 (sortI ns).toArray))))[b]? := fun b hb => by
      simp only [sortWorldK, grow, putRowK, putRow, mapBlock, Go.Sort.ahead]
      rw [Array.getElem?_append_left (by simpa using hb)]
    refine ⟨_, rfl, rfl, rfl, rfl, rfl, ?_, fun b hb hne => ?_, ?_⟩
    · simp [sortWorldK, grow, putRowK, putRow, mapBlock, Go.Sort.ahead]
    · have hne' : g ≠ b := fun e => hne (by subst e; simp only [blkOf]; rw [if_neg (by omega)])
      rw [hblk b hb, Array.getElem?_modify, if_neg hne']
    · have hg' : (sortWorldK encV 2 w g 0 n (sortI ns).toArray os).heap[g]? = some (.cells (putCells id 0 (flatK encV 2 (sortI ns).toArray) cur) e (0, 0)) := by
        rw [hblk g hgl', Array.getElem?_modify, if_pos rfl, hgx]; rfl
      have hlen : (sortI ns).length = ns.length := sortI_len ns
      have hput : ∀ t, t < ns.length * 2 → (putCells id 0 (flatK encV 2 (sortI ns).toArray) cur)[t]? = some (if t % 2 = 0 then .bool true else .int .i64 ((sortI ns).getD (t / 2) 0)) := fun t ht => by
        have hlt : t < cur.size := by omega
        simp only [putCells, Array.getElem?_mapIdx, Array.getElem?_eq_getElem hlt, Option.map_some]
        rw [if_pos ⟨Nat.zero_le _, by simp; omega⟩, Nat.sub_zero, flat_get _ (by omega)]; rfl
      have hget : ∀ t, t < ns.length * 2 → ((putCells id 0 (flatK encV 2 (sortI ns).toArray) cur).toList.take (ns.length * 2)).getD t undef = if t % 2 = 0 then .bool true else .int .i64 ((sortI ns).getD (t / 2) 0) := fun t ht => by
        rw [List.getD_eq_getElem?_getD, List.getElem?_take, if_pos ht]
        have e2 : (putCells id 0 (flatK encV 2 (sortI ns).toArray) cur).toList[t]? = (putCells id 0 (flatK encV 2 (sortI ns).toArray) cur)[t]? := by simp
        rw [e2, hput t ht, Option.getD_some]
      have hsz : (putCells id 0 (flatK encV 2 (sortI ns).toArray) cur).size = cur.size := by simp [putCells]
      refine ⟨(putCells id 0 (flatK encV 2 (sortI ns).toArray) cur).toList.take (ns.length * 2), ⟨by simp only [List.length_map, List.length_take, Array.length_toList]; omega, .inr ⟨g, cap, _, e, by simp [hlen], hc0, hg', by simp; omega, hcm, by omega, by simp [hlen]⟩⟩, fun x hx => ?_, fun i x j cc hx hc => ?_⟩
      · obtain ⟨m, _, rfl⟩ := List.mem_map.1 hx
        exact ⟨rfl, by simp [PV.cells, PV.one]⟩
      · rw [List.getElem?_map, Option.map_eq_some_iff] at hx
        obtain ⟨m, hm, rfl⟩ := hx
        have hi : i < ns.length := by rw [← hlen]; exact (List.getElem?_eq_some_iff.1 hm).1
        have hmd : (sortI ns).getD i 0 = m := by rw [List.getD_eq_getElem?_getD, hm]; rfl
        match j with
        | 0 =>
          simp only [PV.cells, List.getElem?_cons_zero, Option.some.injEq] at hc; subst hc
          rw [hget _ (by omega), if_pos (by omega)]; exact .bool _
        | 1 =>
          simp only [PV.cells, List.getElem?_cons_succ, List.getElem?_cons_zero, Option.some.injEq] at hc; subst hc
          rw [hget _ (by omega), if_neg (by omega), show (i * 2 + 1) / 2 = i by omega, hmd]; exact .int _ _
        | j + 2 => simp [PV.cells] at hc

/-! ### slices.Clone -/
/-- The abstract program of one function alone. -/
def onlyΓ (f : Nat) (fn : AFn) : Ctx := ⟨fun k => if k = f then some (.code fn) else none, fun _ => none⟩
theorem known_only {fn : AFn} (hm : P.follows .mixedOrders = true) {g : Go.Func} (hg : P.funcs[N.fn f]? = some g) (hc : chkF P N g fn = true) : Known (onlyΓ f fn) N P where
  mixed := hm
  code k fn' h := by
    simp only [onlyΓ] at h
    split at h
    · rename_i e; subst e; simp only [Option.some.injEq, Fn.code.injEq] at h; subst h; exact ⟨g, hg, hc⟩
    · cases h
  prim k g h := by simp only [onlyΓ] at h; split at h <;> cases h
  fresh k g h := by simp only [onlyΓ] at h; split at h <;> cases h
  upd k g h := by simp only [onlyΓ] at h; split at h <;> cases h
/-- A function that copies a slice's elements: what its code answers at nil and at what is not nil. -/
structure CloneOk (P : Program) (N : Names) (f n : Nat) (fn : AFn) : Prop where
  mixed : P.follows .mixedOrders = true
  chk : ∃ g, P.funcs[N.fn f]? = some g ∧ chkF P N g fn = true
  pos : 0 < n
  nil : ∃ m h, callOf (onlyΓ f fn) (ev (onlyΓ f fn) m) f [.p (.sl .nil n [])] [] = some ([.p (.sl .nil n [])], h)
  mem : ∀ xs : List PV, xs.length ≤ lim → ∃ m h, callOf (onlyΓ f fn) (ev (onlyΓ f fn) m) f [.p (.sl .mem n xs)] [] = some ([.own 0 xs.length], h) ∧ h[0]? = some (.row false n xs)
theorem fresh_clone {n : Nat} {fn : AFn} (h : CloneOk P N f n fn) : FreshOk Γ N P f (cloneG n) := by
  intro ps r hg w S us hS hgl ha
  obtain ⟨g, hg1, hg2⟩ := h.chk
  have K := known_only (f := f) h.mixed hg1 hg2
  have hgl0 : GlRel (onlyΓ f fn) N w S := ⟨(fun k cs hk => by cases hk), (fun k cs hk => by cases hk)⟩
  unfold cloneG at hg
  split at hg
  rotate_left
  · cases hg
  rename_i k sz xs
  simp only [Option.ite_none_right_eq_some, Option.some.injEq] at hg
  obtain ⟨⟨rfl, h0, hlim, hflat⟩, rfl⟩ := hg
  match us, ha with
  | [u], ⟨hu, _⟩ =>
  have no : ∀ g, ¬ alive (fun _ => undef) [] g := fun g h => by obtain ⟨id, h1, h2⟩ := h; simp at h2
  have hu2 := hu
  generalize hxs : xs = xs' at hu2
  cases hu2 with
  | sl _ _ _ a cap ws k1 k2 k3 k4 k5 k6 k7 k8 =>
  subst hxs
  by_cases ha : a = none
  · subst ha
    obtain ⟨e1, _, e3⟩ := k4 (.inr rfl)
    subst e1 e3
    obtain ⟨m, hh, hc⟩ := h.nil
    have hn : RelP N.fn w S (.sl .nil sz []) (.slice none 0 0) := .sl .nil sz [] none 0 (fun _ _ => undef) (Nat.le_refl _) (Nat.zero_le _) (by simp) (by simp) (by simp) (by simp) (by simp) (by simp)
    refine (all_ok K m f _ _ _ _ hc w S (fun _ => undef) [.slice none 0 0] (rel_nil hS) hgl0 ⟨.p _ _ hn, trivial⟩).mono ?_
    rintro v w' ⟨vs, S', μ', rfl, hrun, _, hvs⟩
    match vs, hvs with
    | [v], ⟨hv, _⟩ =>
    have hv := hv.p_inv
    have ev : v = .slice none 0 0 := by
      generalize hz : ([] : List PV) = zs at hv
      cases hv with
      | sl _ _ _ a cap _ _ _ _ q4 _ _ _ _ => subst hz; obtain ⟨_, rfl, rfl⟩ := q4 (.inl rfl); rfl
    subst ev
    exact ⟨[], ⟨hrun.ext.os, hrun.ext.tape, hrun.ext.output, hrun.ext.size, fun g hg => hrun.ext.keep g hg (no g)⟩, ⟨by simp, .inl ⟨rfl, none, rfl⟩⟩, rfl, ⟨by simp, by simp⟩, fun g hg => by simp [resVal, blkOf] at hg⟩
  · obtain ⟨m, hh, hc, hrow⟩ := h.mem xs hlim
    have hm : RelP N.fn w S (.sl .mem sz xs) (.slice a xs.length cap) := .sl .mem sz xs a cap ws k1 k2 k3 (fun h => by rcases h with h | h; cases h; exact absurd h ha) (fun _ => ⟨by cases a <;> simp_all, fun h => by cases h⟩) k6 k7 k8
    refine (all_ok K m f _ _ _ _ hc w S (fun _ => undef) [.slice a xs.length cap] (rel_nil hS) hgl0 ⟨.p _ _ hm, trivial⟩).mono ?_
    rintro v w' ⟨vs, S', μ', rfl, hrun, _, hvs⟩
    match vs, hvs with
    | [v], ⟨hv, _⟩ =>
    have hv1 := hv.one rfl
    cases hv with
    | own _ _ _ _ q1 q2 =>
    have ev : v = μ' 0 := (q1 _ _ _ hrow).2 rfl
    obtain ⟨_, _, cells, b1, b2, b3, _⟩ := hrun.rel.blk 0 _ hrow
    subst ev
    refine ⟨cells, ⟨hrun.ext.os, hrun.ext.tape, hrun.ext.output, hrun.ext.size, fun g hg => hrun.ext.keep g hg (no g)⟩, b1, hv1, ⟨b2, fun i x j c hx hc => ?_⟩, fun g hg => ?_⟩
    · exact relf (List.all_eq_true.1 hflat x (List.mem_of_getElem? hx)) hc (b3 i x j c hx hc)
    · rcases Nat.lt_or_ge g w.heap.size with hl | hl
      · exact absurd (hrun.ext.own g ⟨0, hg, .inr ⟨sz, xs, hrow⟩⟩ hl) (no g)
      · exact hl
end
end Ab
/- slices.Clone: its code's answers at nil and at what is not nil. -/
namespace Ab
theorem clone_nil {f : Nat} : ∃ m h, callOf (onlyΓ f slices_Clone_api_Val_api_Val) (ev (onlyΓ f slices_Clone_api_Val_api_Val) m) f [.p (.sl .nil 2 [])] [] = some ([.p (.sl .nil 2 [])], h) := by
  obtain ⟨n, vs, h, h1, h2⟩ := callK (Γ := onlyΓ f slices_Clone_api_Val_api_Val) (f := f) (fn := slices_Clone_api_Val_api_Val) (args := [.p (.sl .nil 2 [])]) (HL := []) (K := fun vs _ => vs = [.p (.sl .nil 2 [])]) (by simp [onlyΓ]) rfl (by
    simp (disch := first | assumption | omega | decide | (simp only [List.length_cons, List.length_nil, List.length_append, List.length_replicate, List.length_map, List.length_set, List.length_take, List.length_drop, strs_len, ints_len, bools_len, aggs_len, vpv_len]; done) | (simp only [List.length_cons, List.length_nil, List.length_append, List.length_replicate, List.length_map, List.length_set, List.length_take, List.length_drop, strs_len, ints_len, bools_len, aggs_len, vpv_len]; omega)) only [go_sem, slices_Clone_api_Val_api_Val])
  exact ⟨n, h, by rw [h1, h2]⟩
theorem clone_mem {f : Nat} (xs : List PV) (hx : xs.length ≤ lim) : ∃ m h, callOf (onlyΓ f slices_Clone_api_Val_api_Val) (ev (onlyΓ f slices_Clone_api_Val_api_Val) m) f [.p (.sl .mem 2 xs)] [] = some ([.own 0 xs.length], h) ∧ h[0]? = some (.row false 2 xs) := by
  have hx : xs.length ≤ 1073741824 := hx
  obtain ⟨n, vs, h, h1, h2, h3⟩ := callK (Γ := onlyΓ f slices_Clone_api_Val_api_Val) (f := f) (fn := slices_Clone_api_Val_api_Val) (args := [.p (.sl .mem 2 xs)]) (HL := []) (K := fun vs h => vs = [.own 0 xs.length] ∧ h[0]? = some (.row false 2 xs)) (by simp [onlyΓ]) rfl (by
    simp (disch := first | assumption | omega | decide | (simp only [List.length_cons, List.length_nil, List.length_append, List.length_replicate, List.length_map, List.length_set, List.length_take, List.length_drop, strs_len, ints_len, bools_len, aggs_len, vpv_len]; done) | (simp only [List.length_cons, List.length_nil, List.length_append, List.length_replicate, List.length_map, List.length_set, List.length_take, List.length_drop, strs_len, ints_len, bools_len, aggs_len, vpv_len]; omega)) only [go_sem, slices_Clone_api_Val_api_Val])
  exact ⟨n, h, by rw [h1, h2], h3⟩
end Ab
