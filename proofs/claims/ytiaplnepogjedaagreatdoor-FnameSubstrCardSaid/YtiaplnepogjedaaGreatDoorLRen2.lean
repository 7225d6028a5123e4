import Derived.Test.YtiaplnepogjedaaGreatDoorAbMem2
import Derived.Test.YtiaplnepogjedaaGreatDoorAbTS
namespace Ab
open Go (IntKind BinOp UnOp)
theorem vpv_flatR (l : List Val) : (vpv l).all flat = true := by
  rw [List.all_eq_true]
  intro x hx
  simp only [vpv, aggs, List.mem_map] at hx
  obtain ⟨_, ⟨v, _, rfl⟩, rfl⟩ := hx
  rfl
theorem resM_CloneR {kk : SK} (l : List Val) (hl : l.length ≤ 1073741824) : resM Γ 0 49 [.p (.sl kk 2 (vpv l))] [] = some ([.own 0 l.length], [.row false 2 (vpv l)]) := by
  have h := resM_fresh (Γ := Γ) (f := 49) (g := cloneG 2) (ps := [.sl kk 2 (vpv l)]) (sz := 2) (xs := vpv l) rfl (by
    simp only [cloneG]
    rw [if_pos ⟨trivial, by omega, by rw [vpv_len]; exact hl, vpv_flatR l⟩]) (by omega) (by rw [vpv_len]; exact hl)
  rw [vpv_len] at h
  exact h
theorem st49R : stillF Γ 0 49 = true := rfl
theorem res_seriesOwnR {kk : SK} (s : Ser) (hl : s.vals.length ≤ 1073741824) : res Γ 31 [s.pv kk] = some [s.pv .any] := by
  have e := resM_CloneR (kk := kk) s.vals hl
  have hw : (vpv s.vals).length = s.vals.length := vpv_len
  unfold Ser.pv
  refine res_code (fn := series_Own) rfl rfl ?_
  simp (disch := first | assumption | omega | decide | (simp only [List.length_cons, List.length_nil, List.length_append, List.length_replicate, List.length_map, List.length_set, List.length_take, List.length_drop, strs_len, ints_len, bools_len, aggs_len, vpv_len]; done) | (simp only [List.length_cons, List.length_nil, List.length_append, List.length_replicate, List.length_map, List.length_set, List.length_take, List.length_drop, strs_len, ints_len, bools_len, aggs_len, vpv_len]; omega)) only [go_sem, series_Own, e, st49R]
theorem res_r18OwnR {kk : SK} (s : Ser) (h : s.vals.length ≤ 1073741824) : res Γ 34 [s.pv kk] = some [s.pv .any] := by
  have hv : (vpv s.vals).length ≤ 1073741824 := by rw [vpv_len]; exact h
  have hw : (vpv s.vals).length = s.vals.length := vpv_len
  unfold Ser.pv
  refine res_code (fn := r18_Own) rfl rfl ?_
  simp (disch := first | assumption | omega | decide | (simp only [List.length_cons, List.length_nil, List.length_append, List.length_replicate, List.length_map, List.length_set, List.length_take, List.length_drop, strs_len, ints_len, bools_len, aggs_len, vpv_len]; done) | (simp only [List.length_cons, List.length_nil, List.length_append, List.length_replicate, List.length_map, List.length_set, List.length_take, List.length_drop, strs_len, ints_len, bools_len, aggs_len, vpv_len]; omega)) only [go_sem, r18_Own]
theorem r18_SameR_l1_ok {k1 k2 : SK} (a : Ser) (hv : a.vals.length ≤ 1073741824) (Q : Out → Prop) : ∀ (k i : Nat), i + k = a.vals.length →
    (∀ H, Q (.nrm, [], H)) →
    Wp Γ r18_Same_l1 [(2, .bx 0 0), (3, .bx 1 0), (5, .p (.int .i64 (i : Int)))] [.box [.p (.str a.name), .p (.int .i64 a.start), .p (.int .i64 a.step), .p (.sl k1 2 (vpv a.vals)), .p (.int .i64 a.cons)], .box [.p (.str a.name), .p (.int .i64 a.start), .p (.int .i64 a.step), .p (.sl k2 2 (vpv a.vals)), .p (.int .i64 a.cons)]] (InBlk [] 0 Q) := by
  intro k
  induction k with
  | zero =>
    intro i hi hQ
    obtain rfl : i = a.vals.length := by omega
    rw [W_loop (L := r18_Same_l1) rfl]
    simp (disch := first | assumption | omega | decide | (simp only [List.length_cons, List.length_nil, List.length_append, List.length_replicate, List.length_map, List.length_set, List.length_take, List.length_drop, strs_len, ints_len, bools_len, aggs_len, vpv_len]; done) | (simp only [List.length_cons, List.length_nil, List.length_append, List.length_replicate, List.length_map, List.length_set, List.length_take, List.length_drop, strs_len, ints_len, bools_len, aggs_len, vpv_len]; omega)) only [go_sem]
    exact hQ _
  | succ k ih =>
    intro i hi hQ
    rw [W_loop (L := r18_Same_l1) rfl]
    simp (disch := first | assumption | omega | decide | (simp only [List.length_cons, List.length_nil, List.length_append, List.length_replicate, List.length_map, List.length_set, List.length_take, List.length_drop, strs_len, ints_len, bools_len, aggs_len, vpv_len]; done) | (simp only [List.length_cons, List.length_nil, List.length_append, List.length_replicate, List.length_map, List.length_set, List.length_take, List.length_drop, strs_len, ints_len, bools_len, aggs_len, vpv_len]; omega)) only [go_sem, valP]
    exact ih (i + 1) (by omega) hQ
theorem res_SameR {k1 k2 : SK} (s : Ser) (hv : s.vals.length ≤ 1073741824) : res Γ 28 [s.pv k1, s.pv k2] = some [.bool true] := by
  unfold Ser.pv
  refine res_code (fn := r18_Same) rfl rfl ?_
  simp (disch := first | assumption | omega | decide | (simp only [List.length_cons, List.length_nil, List.length_append, List.length_replicate, List.length_map, List.length_set, List.length_take, List.length_drop, strs_len, ints_len, bools_len, aggs_len, vpv_len]; done) | (simp only [List.length_cons, List.length_nil, List.length_append, List.length_replicate, List.length_map, List.length_set, List.length_take, List.length_drop, strs_len, ints_len, bools_len, aggs_len, vpv_len]; omega)) only [go_sem, r18_Same, ne_eq, not_true_eq_false]
  refine r18_SameR_l1_ok s hv _ s.vals.length 0 (by omega) (fun H => ?_)
  simp (disch := first | assumption | omega | decide | (simp only [List.length_cons, List.length_nil, List.length_append, List.length_replicate, List.length_map, List.length_set, List.length_take, List.length_drop, strs_len, ints_len, bools_len, aggs_len, vpv_len]; done) | (simp only [List.length_cons, List.length_nil, List.length_append, List.length_replicate, List.length_map, List.length_set, List.length_take, List.length_drop, strs_len, ints_len, bools_len, aggs_len, vpv_len]; omega)) only [go_sem]
theorem res_same24R {k1 k2 : SK} (s : Ser) (hv : s.vals.length ≤ 1073741824) : res Γ 11 [s.pv k1, s.pv k2] = some [.bool true] := by
  have e := res_SameR (k1 := k1) (k2 := k2) s hv
  unfold Ser.pv at e ⊢
  refine res_code (fn := l24_same) rfl rfl ?_
  simp (disch := first | assumption | omega | decide | (simp only [List.length_cons, List.length_nil, List.length_append, List.length_replicate, List.length_map, List.length_set, List.length_take, List.length_drop, strs_len, ints_len, bools_len, aggs_len, vpv_len]; done) | (simp only [List.length_cons, List.length_nil, List.length_append, List.length_replicate, List.length_map, List.length_set, List.length_take, List.length_drop, strs_len, ints_len, bools_len, aggs_len, vpv_len]; omega)) only [go_sem, l24_same, e]
def heavyR (s : Ser) : Bool := decide (120 < s.vals.length) || decide (300 < s.name.length)
theorem res_heavyR {k : SK} (s : Ser) (hv : s.vals.length ≤ 9223372036854775807) : res Γ 12 [.sl .tight 5 [s.pv k]] = some [.bool (heavyR s)] := by
  unfold Ser.pv
  refine res_code (fn := l24_heavy) rfl rfl ?_
  simp (disch := first | assumption | omega | decide | (simp only [List.length_cons, List.length_nil, List.length_append, List.length_replicate, List.length_map, List.length_set, List.length_take, List.length_drop, strs_len, ints_len, bools_len, aggs_len, vpv_len]; done) | (simp only [List.length_cons, List.length_nil, List.length_append, List.length_replicate, List.length_map, List.length_set, List.length_take, List.length_drop, strs_len, ints_len, bools_len, aggs_len, vpv_len]; omega)) only [go_sem, l24_heavy]
  rw [W_loop (L := l24_heavy_l1) rfl]
  repeat' (first | (simp (disch := first | assumption | omega | decide | (simp only [List.length_cons, List.length_nil, List.length_append, List.length_replicate, List.length_map, List.length_set, List.length_take, List.length_drop, strs_len, ints_len, bools_len, aggs_len, vpv_len]; done) | (simp only [List.length_cons, List.length_nil, List.length_append, List.length_replicate, List.length_map, List.length_set, List.length_take, List.length_drop, strs_len, ints_len, bools_len, aggs_len, vpv_len]; omega)) only [go_sem]) | refine cond_split (fun hc => ?_) (fun hc => ?_) | refine gd_split_f (fun hc => ?_) (fun hc => ?_) | refine gd_split_t (fun hc => ?_) (fun hc => ?_))
  · have e : heavyR s = true := by simp [heavyR]; omega
    rw [e]
  · have e : heavyR s = false := by simp [heavyR]; omega
    rw [W_loop (L := l24_heavy_l1) rfl]
    simp (disch := first | assumption | omega | decide | (simp only [List.length_cons, List.length_nil, List.length_append, List.length_replicate, List.length_map, List.length_set, List.length_take, List.length_drop, strs_len, ints_len, bools_len, aggs_len, vpv_len]; done) | (simp only [List.length_cons, List.length_nil, List.length_append, List.length_replicate, List.length_map, List.length_set, List.length_take, List.length_drop, strs_len, ints_len, bools_len, aggs_len, vpv_len]; omega)) only [go_sem, e]
    rw [decide_eq_false (by omega)]
  · have e : heavyR s = true := by simp [heavyR]; omega
    rw [e]
def rAlias : List UInt8 := [97, 108, 105, 97, 115]
def rNode : List UInt8 := [97, 108, 105, 97, 115, 66, 121, 78, 111, 100, 101]
def rCut : List UInt8 := [115, 117, 98, 115, 116, 114]
def renS (s : Ser) (n : List UInt8) : Ser := ⟨n, s.start, s.step, s.vals, s.cons⟩
def zeroS : PV := .agg [.str [], .int .i64 0, .int .i64 0, .sl .nil 2 [], .int .i64 0]
def renR (s : Ser) (n : List UInt8) : List PV := if isS s = true ∧ isS (renS s n) = true then [(renS s n).pv .any, .int .i64 0] else [zeroS, .int .i64 1]
theorem res_alias {k : SK} (s : Ser) (n : List UInt8) (r : PV) {kt : SK} : res Γ 311 [.agg [.str s.name, .int .i64 s.start, .int .i64 s.step, .sl k 2 (vpv s.vals), .int .i64 s.cons, .sl kt 1 (strs [n]), r]] = some [.str n, .int .i64 0] := by
  refine res_code (fn := fname_renaming_alias) rfl rfl ?_
  simp (disch := first | assumption | omega | decide | (simp only [List.length_cons, List.length_nil, List.length_append, List.length_replicate, List.length_map, List.length_set, List.length_take, List.length_drop, strs_len, ints_len, bools_len, aggs_len, vpv_len]; done) | (simp only [List.length_cons, List.length_nil, List.length_append, List.length_replicate, List.length_map, List.length_set, List.length_take, List.length_drop, strs_len, ints_len, bools_len, aggs_len, vpv_len]; omega)) only [go_sem, fname_renaming_alias]
theorem res_byNode {k kn : SK} (s : Ser) (t : PV) (ns : List Int) (hs : s.name.length ≤ 100000) (hn : ns.length ≤ 1000) (hr : ∀ n ∈ ns, -9223372036854775808 ≤ n ∧ n ≤ 9223372036854775807) :
    res Γ 312 [.agg [.str s.name, .int .i64 s.start, .int .i64 s.step, .sl k 2 (vpv s.vals), .int .i64 s.cons, t, .sl kn 1 (ints .i64 ns)]] = some [.str (joinB [46] (keyB s.name ns)), .int .i64 0] := by
  refine res_code (fn := fname_renaming_byNode) rfl rfl ?_
  simp (disch := first | assumption | omega | decide | (simp only [List.length_cons, List.length_nil, List.length_append, List.length_replicate, List.length_map, List.length_set, List.length_take, List.length_drop, strs_len, ints_len, bools_len, aggs_len, vpv_len]; done) | (simp only [List.length_cons, List.length_nil, List.length_append, List.length_replicate, List.length_map, List.length_set, List.length_take, List.length_drop, strs_len, ints_len, bools_len, aggs_len, vpv_len]; omega)) only [go_sem, fname_renaming_byNode]
def placeI (i n : Int) : Int := min (if i < 0 then max i (-n) + n else i) n
theorem placeI_bounds {i n : Int} (h : 0 ≤ n) : 0 ≤ placeI i n ∧ placeI i n ≤ n := by
  unfold placeI
  split <;> omega
theorem res_place (i n : Int) (h0 : -9223372036854775808 ≤ i) (h1 : i ≤ 9223372036854775807) (hn : 0 ≤ n) (hn1 : n ≤ 1000000000) : res Γ 324 [.int .i64 i, .int .i64 n] = some [.int .i64 (placeI i n)] := by
  unfold placeI
  by_cases h : i < 0
  · refine res_code (fn := fname_place) rfl rfl ?_
    simp (disch := first | assumption | omega | decide | (simp only [List.length_cons, List.length_nil, List.length_append, List.length_replicate, List.length_map, List.length_set, List.length_take, List.length_drop, strs_len, ints_len, bools_len, aggs_len, vpv_len]; done) | (simp only [List.length_cons, List.length_nil, List.length_append, List.length_replicate, List.length_map, List.length_set, List.length_take, List.length_drop, strs_len, ints_len, bools_len, aggs_len, vpv_len]; omega)) only [go_sem, fname_place]
    rw [if_pos h, Int.zero_sub]
  · refine res_code (fn := fname_place) rfl rfl ?_
    simp (disch := first | assumption | omega | decide | (simp only [List.length_cons, List.length_nil, List.length_append, List.length_replicate, List.length_map, List.length_set, List.length_take, List.length_drop, strs_len, ints_len, bools_len, aggs_len, vpv_len]; done) | (simp only [List.length_cons, List.length_nil, List.length_append, List.length_replicate, List.length_map, List.length_set, List.length_take, List.length_drop, strs_len, ints_len, bools_len, aggs_len, vpv_len]; omega)) only [go_sem, fname_place]
    rw [if_neg h]
theorem res_held (i n : Int) (h0 : -9223372036854775808 ≤ i) (h1 : i ≤ 9223372036854775807) (hn : 0 ≤ n) (hn1 : n ≤ 1000000000) : res Γ 321 [.int .i64 i, .int .i64 n] = some [.int .i64 (placeI i n)] := by
  unfold placeI
  by_cases h : i < 0
  · refine res_code (fn := r24_held) rfl rfl ?_
    simp (disch := first | assumption | omega | decide | (simp only [List.length_cons, List.length_nil, List.length_append, List.length_replicate, List.length_map, List.length_set, List.length_take, List.length_drop, strs_len, ints_len, bools_len, aggs_len, vpv_len]; done) | (simp only [List.length_cons, List.length_nil, List.length_append, List.length_replicate, List.length_map, List.length_set, List.length_take, List.length_drop, strs_len, ints_len, bools_len, aggs_len, vpv_len]; omega)) only [go_sem, r24_held]
    rw [if_pos h, Int.zero_sub]
  · refine res_code (fn := r24_held) rfl rfl ?_
    simp (disch := first | assumption | omega | decide | (simp only [List.length_cons, List.length_nil, List.length_append, List.length_replicate, List.length_map, List.length_set, List.length_take, List.length_drop, strs_len, ints_len, bools_len, aggs_len, vpv_len]; done) | (simp only [List.length_cons, List.length_nil, List.length_append, List.length_replicate, List.length_map, List.length_set, List.length_take, List.length_drop, strs_len, ints_len, bools_len, aggs_len, vpv_len]; omega)) only [go_sem, r24_held]
    rw [if_neg h]
def cutB (s : List UInt8) (ns : List Int) : List (List UInt8) :=
  let l := splitB 46 (baseB s)
  let a := placeI (ns.getD 0 0) l.length
  let b := if 1 < ns.length ∧ ns.getD 1 0 ≠ 0 then placeI (ns.getD 1 0) l.length else l.length
  (l.take (max a b).toNat).drop a.toNat
theorem joinB_leR {sep : List UInt8} {B : Nat} : ∀ {l : List (List UInt8)}, (∀ x ∈ l, x.length ≤ B) → (joinB sep l).length ≤ l.length * (B + sep.length)
  | [], _ => by simp [joinB]
  | [s], h => by have := h s (by simp); simp [joinB]; omega
  | s :: t :: r, h => by
    have ih := joinB_leR (sep := sep) (B := B) (l := t :: r) fun x hx => h x (by simp only [List.mem_cons] at hx ⊢; exact .inr hx)
    have h1 := h s (by simp)
    have e : joinB sep (s :: t :: r) = s ++ sep ++ joinB sep (t :: r) := rfl
    have e2 : (s :: t :: r).length * (B + sep.length) = (B + sep.length) + (t :: r).length * (B + sep.length) := by
      rw [List.length_cons, Nat.add_mul, Nat.one_mul, Nat.add_comm]
    rw [e, e2, List.length_append, List.length_append]
    omega
theorem cut_join {s : List UInt8} (hs : s.length ≤ 10000) {a b : Nat} : (joinB [46] (((splitB 46 (baseB s)).take a).drop b)).length ≤ 1000000000 ∧ (((splitB 46 (baseB s)).take a).drop b).length < 1000000000 := by
  have h1 := splitB_len 46 (baseB s)
  have h2 : List.count 46 (baseB s) ≤ (baseB s).length := List.count_le_length
  have h3 := baseB_len s
  have h4 : (((splitB 46 (baseB s)).take a).drop b).length ≤ 10001 := by
    rw [List.length_drop, List.length_take]; omega
  refine ⟨?_, by omega⟩
  have h5 := joinB_leR (sep := [46]) (B := 10000) (l := ((splitB 46 (baseB s)).take a).drop b) fun x hx => by
    have := splitB_mem 46 (baseB s) x (List.mem_of_mem_take (List.mem_of_mem_drop hx))
    omega
  have h6 : (((splitB 46 (baseB s)).take a).drop b).length * (10000 + [46].length) ≤ 10001 * 10001 := Nat.mul_le_mul h4 (by simp)
  omega
theorem res_substr {k kn : SK} (s : Ser) (t : PV) (ns : List Int) (hs : s.name.length ≤ 10000) (hn : ns.length ≤ 1000) (h0 : ns ≠ []) (hr : ∀ n ∈ ns, -9223372036854775808 ≤ n ∧ n ≤ 9223372036854775807) :
    res Γ 314 [.agg [.str s.name, .int .i64 s.start, .int .i64 s.step, .sl k 2 (vpv s.vals), .int .i64 s.cons, t, .sl kn 1 (ints .i64 ns)]] = some [.str (joinB [46] (cutB s.name ns)), .int .i64 0] := by
  have h3 := baseB_len s.name
  have h1 := splitB_len 46 (baseB s.name)
  have h2 : List.count 46 (baseB s.name) ≤ (baseB s.name).length := List.count_le_length
  have hj := fun a b => @cut_join s.name hs a b
  unfold cutB
  obtain ⟨l, hl⟩ : ∃ l, splitB 46 (baseB s.name) = l := ⟨_, rfl⟩
  have eP := res_nameParts (baseB s.name) (by omega)
  rw [hl] at h1 eP hj ⊢
  have hpos : 0 < ns.length := List.length_pos_iff.2 h0
  have m0 : ns.getD 0 0 ∈ ns := by rw [List.getD_eq_getElem?_getD, List.getElem?_eq_getElem hpos]; exact List.getElem_mem hpos
  have p0 := res_place (ns.getD 0 0) l.length (hr _ m0).1 (hr _ m0).2 (by omega) (by omega)
  have b0 := placeI_bounds (i := ns.getD 0 0) (n := l.length) (by omega)
  dsimp only
  by_cases c1 : 1 < ns.length
  · have m1 : ns.getD 1 0 ∈ ns := by rw [List.getD_eq_getElem?_getD, List.getElem?_eq_getElem c1]; exact List.getElem_mem c1
    have p1 := res_place (ns.getD 1 0) l.length (hr _ m1).1 (hr _ m1).2 (by omega) (by omega)
    have b1 := placeI_bounds (i := ns.getD 1 0) (n := l.length) (by omega)
    by_cases c2 : ns.getD 1 0 = 0
    · rw [if_neg (fun h => h.2 c2)]
      generalize placeI (ns.getD 0 0) l.length = a at *
      have e : (max a (l.length : Int)).toNat = l.length := by omega
      obtain ⟨j1, j2⟩ := hj l.length a.toNat
      rw [e]
      refine res_code (fn := fname_renaming_substr) rfl rfl ?_
      simp (disch := first | assumption | omega | decide | (simp only [List.length_cons, List.length_nil, List.length_append, List.length_replicate, List.length_map, List.length_set, List.length_take, List.length_drop, strs_len, ints_len, bools_len, aggs_len, vpv_len]; done) | (simp only [List.length_cons, List.length_nil, List.length_append, List.length_replicate, List.length_map, List.length_set, List.length_take, List.length_drop, strs_len, ints_len, bools_len, aggs_len, vpv_len]; omega)) only [go_sem, fname_renaming_substr, eP, p0, c2, ne_eq, not_true_eq_false]
    · rw [if_pos ⟨c1, c2⟩]
      generalize placeI (ns.getD 0 0) l.length = a at *
      generalize placeI (ns.getD 1 0) l.length = b at *
      obtain ⟨j1, j2⟩ := hj (max a b).toNat a.toNat
      refine res_code (fn := fname_renaming_substr) rfl rfl ?_
      simp (disch := first | assumption | omega | decide | (simp only [List.length_cons, List.length_nil, List.length_append, List.length_replicate, List.length_map, List.length_set, List.length_take, List.length_drop, strs_len, ints_len, bools_len, aggs_len, vpv_len]; done) | (simp only [List.length_cons, List.length_nil, List.length_append, List.length_replicate, List.length_map, List.length_set, List.length_take, List.length_drop, strs_len, ints_len, bools_len, aggs_len, vpv_len]; omega)) only [go_sem, fname_renaming_substr, eP, p0, p1, c2, ne_eq]
  · rw [if_neg (fun h => c1 h.1)]
    generalize placeI (ns.getD 0 0) l.length = a at *
    have e : (max a (l.length : Int)).toNat = l.length := by omega
    obtain ⟨j1, j2⟩ := hj l.length a.toNat
    rw [e]
    refine res_code (fn := fname_renaming_substr) rfl rfl ?_
    simp (disch := first | assumption | omega | decide | (simp only [List.length_cons, List.length_nil, List.length_append, List.length_replicate, List.length_map, List.length_set, List.length_take, List.length_drop, strs_len, ints_len, bools_len, aggs_len, vpv_len]; done) | (simp only [List.length_cons, List.length_nil, List.length_append, List.length_replicate, List.length_map, List.length_set, List.length_take, List.length_drop, strs_len, ints_len, bools_len, aggs_len, vpv_len]; omega)) only [go_sem, fname_renaming_substr, eP, p0]
theorem res_RenameA {kt kn : SK} (s : Ser) (n : List UInt8) (hs : s.vals.length ≤ 1000000) : res Γ 299 [.str rAlias, s.pv .any, .sl kt 1 (strs [n]), .sl kn 1 (ints .i64 [])] = some (renR s n) := by
  have e1 : res Γ 306 [.str rAlias] = some [.clo 311 [], .int .i64 1, .int .i64 0] := by
    unfold rAlias
    refine res_code (fn := fname_does) rfl rfl ?_
    simp (disch := first | assumption | omega | decide | (simp only [List.length_cons, List.length_nil, List.length_append, List.length_replicate, List.length_map, List.length_set, List.length_take, List.length_drop, strs_len, ints_len, bools_len, aggs_len, vpv_len]; done) | (simp only [List.length_cons, List.length_nil, List.length_append, List.length_replicate, List.length_map, List.length_set, List.length_take, List.length_drop, strs_len, ints_len, bools_len, aggs_len, vpv_len]; omega)) only [go_sem, fname_does]
  have e2 := res_alias (k := .any) (kt := kt) s n (.sl kn 1 (ints .i64 []))
  have e3 := res_seriesIs (kk := .any) s (by omega)
  have e4 := res_seriesIs (kk := .any) (renS s n) (show s.vals.length ≤ _ by omega)
  have e5 := res_seriesOwnR (kk := .any) s (by omega)
  unfold renR
  generalize isS s = i1 at *
  generalize isS (renS s n) = i2 at *
  unfold renS Ser.pv at *
  unfold rAlias zeroS at *
  cases i1 <;> cases i2 <;>
  · refine res_code (fn := fname_Rename) rfl rfl ?_
    simp (disch := first | assumption | omega | decide | (simp only [List.length_cons, List.length_nil, List.length_append, List.length_replicate, List.length_map, List.length_set, List.length_take, List.length_drop, strs_len, ints_len, bools_len, aggs_len, vpv_len]; done) | (simp only [List.length_cons, List.length_nil, List.length_append, List.length_replicate, List.length_map, List.length_set, List.length_take, List.length_drop, strs_len, ints_len, bools_len, aggs_len, vpv_len]; omega)) only [go_sem, fname_Rename, e1, e2, e3, e4, e5, ne_eq, not_true_eq_false]
theorem res_RenameN {kt kn : SK} (s : Ser) (ns : List Int) (hs : s.vals.length ≤ 1000000) (hsn : s.name.length ≤ 10000) (hn : ns.length ≤ 1000) (hpos : 0 < ns.length) (hr : ∀ n ∈ ns, -9223372036854775808 ≤ n ∧ n ≤ 9223372036854775807) : res Γ 299 [.str rNode, s.pv .any, .sl kt 1 (strs []), .sl kn 1 (ints .i64 ns)] = some (renR s (joinB [46] (keyB s.name ns))) := by
  have e1 : res Γ 306 [.str rNode] = some [.clo 312 [], .int .i64 0, .int .i64 1] := by
    unfold rNode
    refine res_code (fn := fname_does) rfl rfl ?_
    simp (disch := first | assumption | omega | decide | (simp only [List.length_cons, List.length_nil, List.length_append, List.length_replicate, List.length_map, List.length_set, List.length_take, List.length_drop, strs_len, ints_len, bools_len, aggs_len, vpv_len]; done) | (simp only [List.length_cons, List.length_nil, List.length_append, List.length_replicate, List.length_map, List.length_set, List.length_take, List.length_drop, strs_len, ints_len, bools_len, aggs_len, vpv_len]; omega)) only [go_sem, fname_does]
  have e2 := res_byNode (k := .any) (kn := kn) s (.sl kt 1 (strs [])) ns (by omega) hn hr
  have e3 := res_seriesIs (kk := .any) s (by omega)
  have e4 := res_seriesIs (kk := .any) (renS s (joinB [46] (keyB s.name ns))) (show s.vals.length ≤ _ by omega)
  have e5 := res_seriesOwnR (kk := .any) s (by omega)
  unfold renR
  generalize isS s = i1 at *
  generalize isS (renS s (joinB [46] (keyB s.name ns))) = i2 at *
  generalize (joinB [46] (keyB s.name ns)) = nn at *
  unfold renS Ser.pv at *
  unfold rNode zeroS at *
  cases i1 <;> cases i2 <;>
  · refine res_code (fn := fname_Rename) rfl rfl ?_
    simp (disch := first | assumption | omega | decide | (simp only [List.length_cons, List.length_nil, List.length_append, List.length_replicate, List.length_map, List.length_set, List.length_take, List.length_drop, strs_len, ints_len, bools_len, aggs_len, vpv_len]; done) | (simp only [List.length_cons, List.length_nil, List.length_append, List.length_replicate, List.length_map, List.length_set, List.length_take, List.length_drop, strs_len, ints_len, bools_len, aggs_len, vpv_len]; omega)) only [go_sem, fname_Rename, e1, e2, e3, e4, e5, ne_eq, not_true_eq_false]
theorem res_RenameC {kt kn : SK} (s : Ser) (ns : List Int) (hs : s.vals.length ≤ 1000000) (hsn : s.name.length ≤ 10000) (hn : ns.length ≤ 1000) (hpos : 0 < ns.length) (hr : ∀ n ∈ ns, -9223372036854775808 ≤ n ∧ n ≤ 9223372036854775807) : res Γ 299 [.str rCut, s.pv .any, .sl kt 1 (strs []), .sl kn 1 (ints .i64 ns)] = some (renR s (joinB [46] (cutB s.name ns))) := by
  have e1 : res Γ 306 [.str rCut] = some [.clo 314 [], .int .i64 0, .int .i64 1] := by
    unfold rCut
    refine res_code (fn := fname_does) rfl rfl ?_
    simp (disch := first | assumption | omega | decide | (simp only [List.length_cons, List.length_nil, List.length_append, List.length_replicate, List.length_map, List.length_set, List.length_take, List.length_drop, strs_len, ints_len, bools_len, aggs_len, vpv_len]; done) | (simp only [List.length_cons, List.length_nil, List.length_append, List.length_replicate, List.length_map, List.length_set, List.length_take, List.length_drop, strs_len, ints_len, bools_len, aggs_len, vpv_len]; omega)) only [go_sem, fname_does]
  have e2 := res_substr (k := .any) (kn := kn) s (.sl kt 1 (strs [])) ns hsn hn (List.length_pos_iff.1 hpos) hr
  have e3 := res_seriesIs (kk := .any) s (by omega)
  have e4 := res_seriesIs (kk := .any) (renS s (joinB [46] (cutB s.name ns))) (show s.vals.length ≤ _ by omega)
  have e5 := res_seriesOwnR (kk := .any) s (by omega)
  unfold renR
  generalize isS s = i1 at *
  generalize isS (renS s (joinB [46] (cutB s.name ns))) = i2 at *
  generalize (joinB [46] (cutB s.name ns)) = nn at *
  unfold renS Ser.pv at *
  unfold rCut zeroS at *
  cases i1 <;> cases i2 <;>
  · refine res_code (fn := fname_Rename) rfl rfl ?_
    simp (disch := first | assumption | omega | decide | (simp only [List.length_cons, List.length_nil, List.length_append, List.length_replicate, List.length_map, List.length_set, List.length_take, List.length_drop, strs_len, ints_len, bools_len, aggs_len, vpv_len]; done) | (simp only [List.length_cons, List.length_nil, List.length_append, List.length_replicate, List.length_map, List.length_set, List.length_take, List.length_drop, strs_len, ints_len, bools_len, aggs_len, vpv_len]; omega)) only [go_sem, fname_Rename, e1, e2, e3, e4, e5, ne_eq, not_true_eq_false]
theorem res_RenameN0 {kt kn : SK} (s : Ser) : res Γ 299 [.str rNode, s.pv .any, .sl kt 1 (strs []), .sl kn 1 (ints .i64 [])] = some [zeroS, .int .i64 1] := by
  have e1 : res Γ 306 [.str rNode] = some [.clo 312 [], .int .i64 0, .int .i64 1] := by
    unfold rNode
    refine res_code (fn := fname_does) rfl rfl ?_
    simp (disch := first | assumption | omega | decide | (simp only [List.length_cons, List.length_nil, List.length_append, List.length_replicate, List.length_map, List.length_set, List.length_take, List.length_drop, strs_len, ints_len, bools_len, aggs_len, vpv_len]; done) | (simp only [List.length_cons, List.length_nil, List.length_append, List.length_replicate, List.length_map, List.length_set, List.length_take, List.length_drop, strs_len, ints_len, bools_len, aggs_len, vpv_len]; omega)) only [go_sem, fname_does]
  unfold Ser.pv at *
  unfold rNode zeroS at *
  refine res_code (fn := fname_Rename) rfl rfl ?_
  simp (disch := first | assumption | omega | decide | (simp only [List.length_cons, List.length_nil, List.length_append, List.length_replicate, List.length_map, List.length_set, List.length_take, List.length_drop, strs_len, ints_len, bools_len, aggs_len, vpv_len]; done) | (simp only [List.length_cons, List.length_nil, List.length_append, List.length_replicate, List.length_map, List.length_set, List.length_take, List.length_drop, strs_len, ints_len, bools_len, aggs_len, vpv_len]; omega)) only [go_sem, fname_Rename, e1]
theorem res_r24cut {k kn : SK} (s : Ser) (ns : List Int) (hs : s.name.length ≤ 10000) (hn : ns.length ≤ 1000) (h0 : ns ≠ []) (hr : ∀ n ∈ ns, -9223372036854775808 ≤ n ∧ n ≤ 9223372036854775807) :
    res Γ 307 [s.pv k, .sl kn 1 (ints .i64 ns)] = some [.str (joinB [46] (cutB s.name ns))] := by
  have h3 := baseB_len s.name
  have h1 := splitB_len 46 (baseB s.name)
  have h2 : List.count 46 (baseB s.name) ≤ (baseB s.name).length := List.count_le_length
  have hj := fun a b => @cut_join s.name hs a b
  unfold cutB
  obtain ⟨l, hl⟩ : ∃ l, splitB 46 (baseB s.name) = l := ⟨_, rfl⟩
  have eP := res_r8Parts (baseB s.name) (by omega)
  rw [hl] at h1 eP hj ⊢
  have hpos : 0 < ns.length := List.length_pos_iff.2 h0
  have m0 : ns.getD 0 0 ∈ ns := by rw [List.getD_eq_getElem?_getD, List.getElem?_eq_getElem hpos]; exact List.getElem_mem hpos
  have p0 := res_held (ns.getD 0 0) l.length (hr _ m0).1 (hr _ m0).2 (by omega) (by omega)
  have b0 := placeI_bounds (i := ns.getD 0 0) (n := l.length) (by omega)
  dsimp only
  unfold Ser.pv
  by_cases c1 : 1 < ns.length
  · have m1 : ns.getD 1 0 ∈ ns := by rw [List.getD_eq_getElem?_getD, List.getElem?_eq_getElem c1]; exact List.getElem_mem c1
    have p1 := res_held (ns.getD 1 0) l.length (hr _ m1).1 (hr _ m1).2 (by omega) (by omega)
    have b1 := placeI_bounds (i := ns.getD 1 0) (n := l.length) (by omega)
    by_cases c2 : ns.getD 1 0 = 0
    · rw [if_neg (fun h => h.2 c2)]
      generalize placeI (ns.getD 0 0) l.length = a at *
      have e : (max a (l.length : Int)).toNat = l.length := by omega
      obtain ⟨j1, j2⟩ := hj l.length a.toNat
      rw [e]
      refine res_code (fn := r24_cut) rfl rfl ?_
      simp (disch := first | assumption | omega | decide | (simp only [List.length_cons, List.length_nil, List.length_append, List.length_replicate, List.length_map, List.length_set, List.length_take, List.length_drop, strs_len, ints_len, bools_len, aggs_len, vpv_len]; done) | (simp only [List.length_cons, List.length_nil, List.length_append, List.length_replicate, List.length_map, List.length_set, List.length_take, List.length_drop, strs_len, ints_len, bools_len, aggs_len, vpv_len]; omega)) only [go_sem, r24_cut, eP, p0, c2, ne_eq, not_true_eq_false]
    · rw [if_pos ⟨c1, c2⟩]
      generalize placeI (ns.getD 0 0) l.length = a at *
      generalize placeI (ns.getD 1 0) l.length = b at *
      obtain ⟨j1, j2⟩ := hj (max a b).toNat a.toNat
      by_cases c3 : b < a
      · have e : max a b = a := by omega
        rw [e] at j1 j2 ⊢
        refine res_code (fn := r24_cut) rfl rfl ?_
        simp (disch := first | assumption | omega | decide | (simp only [List.length_cons, List.length_nil, List.length_append, List.length_replicate, List.length_map, List.length_set, List.length_take, List.length_drop, strs_len, ints_len, bools_len, aggs_len, vpv_len]; done) | (simp only [List.length_cons, List.length_nil, List.length_append, List.length_replicate, List.length_map, List.length_set, List.length_take, List.length_drop, strs_len, ints_len, bools_len, aggs_len, vpv_len]; omega)) only [go_sem, r24_cut, eP, p0, p1, c2, ne_eq]
      · have e : max a b = b := by omega
        rw [e] at j1 j2 ⊢
        refine res_code (fn := r24_cut) rfl rfl ?_
        simp (disch := first | assumption | omega | decide | (simp only [List.length_cons, List.length_nil, List.length_append, List.length_replicate, List.length_map, List.length_set, List.length_take, List.length_drop, strs_len, ints_len, bools_len, aggs_len, vpv_len]; done) | (simp only [List.length_cons, List.length_nil, List.length_append, List.length_replicate, List.length_map, List.length_set, List.length_take, List.length_drop, strs_len, ints_len, bools_len, aggs_len, vpv_len]; omega)) only [go_sem, r24_cut, eP, p0, p1, c2, ne_eq]
  · rw [if_neg (fun h => c1 h.1)]
    generalize placeI (ns.getD 0 0) l.length = a at *
    have e : (max a (l.length : Int)).toNat = l.length := by omega
    obtain ⟨j1, j2⟩ := hj l.length a.toNat
    rw [e]
    refine res_code (fn := r24_cut) rfl rfl ?_
    simp (disch := first | assumption | omega | decide | (simp only [List.length_cons, List.length_nil, List.length_append, List.length_replicate, List.length_map, List.length_set, List.length_take, List.length_drop, strs_len, ints_len, bools_len, aggs_len, vpv_len]; done) | (simp only [List.length_cons, List.length_nil, List.length_append, List.length_replicate, List.length_map, List.length_set, List.length_take, List.length_drop, strs_len, ints_len, bools_len, aggs_len, vpv_len]; omega)) only [go_sem, r24_cut, eP, p0]
theorem res_rRenameA {k kt kn : SK} (s : Ser) (n : List UInt8) (hs : s.vals.length ≤ 1000000) : res Γ 298 [.str rAlias, s.pv k, .sl kt 1 (strs [n]), .sl kn 1 (ints .i64 [])] = some (renR s n) := by
  have e1 : res Γ 310 [.str rAlias] = some [.int .i64 1, .int .i64 0, .bool true] := by
    unfold rAlias
    refine res_code (fn := r24_few) rfl rfl ?_
    simp (disch := first | assumption | omega | decide | (simp only [List.length_cons, List.length_nil, List.length_append, List.length_replicate, List.length_map, List.length_set, List.length_take, List.length_drop, strs_len, ints_len, bools_len, aggs_len, vpv_len]; done) | (simp only [List.length_cons, List.length_nil, List.length_append, List.length_replicate, List.length_map, List.length_set, List.length_take, List.length_drop, strs_len, ints_len, bools_len, aggs_len, vpv_len]; omega)) only [go_sem, r24_few]
  have e3 := res_r18Is (kk := k) s (by omega)
  have e4 := res_r18Is (kk := .any) (renS s n) (show s.vals.length ≤ _ by omega)
  have e5 := res_r18OwnR (kk := k) s (by omega)
  unfold renR
  generalize isS s = i1 at *
  generalize isS (renS s n) = i2 at *
  generalize n = nn at *
  unfold renS Ser.pv at *
  unfold rAlias zeroS at *
  cases i1 <;> cases i2 <;>
  · refine res_code (fn := r24_Rename) rfl rfl ?_
    simp (disch := first | assumption | omega | decide | (simp only [List.length_cons, List.length_nil, List.length_append, List.length_replicate, List.length_map, List.length_set, List.length_take, List.length_drop, strs_len, ints_len, bools_len, aggs_len, vpv_len]; done) | (simp only [List.length_cons, List.length_nil, List.length_append, List.length_replicate, List.length_map, List.length_set, List.length_take, List.length_drop, strs_len, ints_len, bools_len, aggs_len, vpv_len]; omega)) only [go_sem, r24_Rename, e1, e3, e4, e5]
theorem res_rRenameN {k kt kn : SK} (s : Ser) (ns : List Int) (hs : s.vals.length ≤ 1000000) (hsn : s.name.length ≤ 10000) (hn : ns.length ≤ 1000) (hpos : 0 < ns.length) (hr : ∀ n ∈ ns, -9223372036854775808 ≤ n ∧ n ≤ 9223372036854775807) : res Γ 298 [.str rNode, s.pv k, .sl kt 1 (strs []), .sl kn 1 (ints .i64 ns)] = some (renR s (joinB [46] (keyB s.name ns))) := by
  have e1 : res Γ 310 [.str rNode] = some [.int .i64 0, .int .i64 1, .bool true] := by
    unfold rNode
    refine res_code (fn := r24_few) rfl rfl ?_
    simp (disch := first | assumption | omega | decide | (simp only [List.length_cons, List.length_nil, List.length_append, List.length_replicate, List.length_map, List.length_set, List.length_take, List.length_drop, strs_len, ints_len, bools_len, aggs_len, vpv_len]; done) | (simp only [List.length_cons, List.length_nil, List.length_append, List.length_replicate, List.length_map, List.length_set, List.length_take, List.length_drop, strs_len, ints_len, bools_len, aggs_len, vpv_len]; omega)) only [go_sem, r24_few]
  have e2 := res_r24Key (kk := kn) s.name (.int .i64 s.start) (.int .i64 s.step) (.sl k 2 (vpv s.vals)) (.int .i64 s.cons) ns (by omega) hn hr
  have e3 := res_r18Is (kk := k) s (by omega)
  have e4 := res_r18Is (kk := .any) (renS s (joinB [46] (keyB s.name ns))) (show s.vals.length ≤ _ by omega)
  have e5 := res_r18OwnR (kk := k) s (by omega)
  unfold renR
  generalize isS s = i1 at *
  generalize isS (renS s (joinB [46] (keyB s.name ns))) = i2 at *
  generalize (joinB [46] (keyB s.name ns)) = nn at *
  unfold renS Ser.pv at *
  unfold rNode zeroS at *
  cases i1 <;> cases i2 <;>
  · refine res_code (fn := r24_Rename) rfl rfl ?_
    simp (disch := first | assumption | omega | decide | (simp only [List.length_cons, List.length_nil, List.length_append, List.length_replicate, List.length_map, List.length_set, List.length_take, List.length_drop, strs_len, ints_len, bools_len, aggs_len, vpv_len]; done) | (simp only [List.length_cons, List.length_nil, List.length_append, List.length_replicate, List.length_map, List.length_set, List.length_take, List.length_drop, strs_len, ints_len, bools_len, aggs_len, vpv_len]; omega)) only [go_sem, r24_Rename, e1, e2, e3, e4, e5]
theorem res_rRenameC {k kt kn : SK} (s : Ser) (ns : List Int) (hs : s.vals.length ≤ 1000000) (hsn : s.name.length ≤ 10000) (hn : ns.length ≤ 1000) (hpos : 0 < ns.length) (hr : ∀ n ∈ ns, -9223372036854775808 ≤ n ∧ n ≤ 9223372036854775807) : res Γ 298 [.str rCut, s.pv k, .sl kt 1 (strs []), .sl kn 1 (ints .i64 ns)] = some (renR s (joinB [46] (cutB s.name ns))) := by
  have e1 : res Γ 310 [.str rCut] = some [.int .i64 0, .int .i64 1, .bool true] := by
    unfold rCut
    refine res_code (fn := r24_few) rfl rfl ?_
    simp (disch := first | assumption | omega | decide | (simp only [List.length_cons, List.length_nil, List.length_append, List.length_replicate, List.length_map, List.length_set, List.length_take, List.length_drop, strs_len, ints_len, bools_len, aggs_len, vpv_len]; done) | (simp only [List.length_cons, List.length_nil, List.length_append, List.length_replicate, List.length_map, List.length_set, List.length_take, List.length_drop, strs_len, ints_len, bools_len, aggs_len, vpv_len]; omega)) only [go_sem, r24_few]
  have e2 := res_r24cut (k := k) (kn := kn) s ns hsn hn (List.length_pos_iff.1 hpos) hr
  have e3 := res_r18Is (kk := k) s (by omega)
  have e4 := res_r18Is (kk := .any) (renS s (joinB [46] (cutB s.name ns))) (show s.vals.length ≤ _ by omega)
  have e5 := res_r18OwnR (kk := k) s (by omega)
  unfold renR
  generalize isS s = i1 at *
  generalize isS (renS s (joinB [46] (cutB s.name ns))) = i2 at *
  generalize (joinB [46] (cutB s.name ns)) = nn at *
  unfold renS Ser.pv at *
  unfold rCut zeroS at *
  cases i1 <;> cases i2 <;>
  · refine res_code (fn := r24_Rename) rfl rfl ?_
    simp (disch := first | assumption | omega | decide | (simp only [List.length_cons, List.length_nil, List.length_append, List.length_replicate, List.length_map, List.length_set, List.length_take, List.length_drop, strs_len, ints_len, bools_len, aggs_len, vpv_len]; done) | (simp only [List.length_cons, List.length_nil, List.length_append, List.length_replicate, List.length_map, List.length_set, List.length_take, List.length_drop, strs_len, ints_len, bools_len, aggs_len, vpv_len]; omega)) only [go_sem, r24_Rename, e1, e2, e3, e4, e5]
theorem res_rRenameN0 {k kt kn : SK} (s : Ser) : res Γ 298 [.str rNode, s.pv k, .sl kt 1 (strs []), .sl kn 1 (ints .i64 [])] = some [zeroS, .int .i64 1] := by
  have e1 : res Γ 310 [.str rNode] = some [.int .i64 0, .int .i64 1, .bool true] := by
    unfold rNode
    refine res_code (fn := r24_few) rfl rfl ?_
    simp (disch := first | assumption | omega | decide | (simp only [List.length_cons, List.length_nil, List.length_append, List.length_replicate, List.length_map, List.length_set, List.length_take, List.length_drop, strs_len, ints_len, bools_len, aggs_len, vpv_len]; done) | (simp only [List.length_cons, List.length_nil, List.length_append, List.length_replicate, List.length_map, List.length_set, List.length_take, List.length_drop, strs_len, ints_len, bools_len, aggs_len, vpv_len]; omega)) only [go_sem, r24_few]
  unfold Ser.pv at *
  unfold rNode zeroS at *
  refine res_code (fn := r24_Rename) rfl rfl ?_
  simp (disch := first | assumption | omega | decide | (simp only [List.length_cons, List.length_nil, List.length_append, List.length_replicate, List.length_map, List.length_set, List.length_take, List.length_drop, strs_len, ints_len, bools_len, aggs_len, vpv_len]; done) | (simp only [List.length_cons, List.length_nil, List.length_append, List.length_replicate, List.length_map, List.length_set, List.length_take, List.length_drop, strs_len, ints_len, bools_len, aggs_len, vpv_len]; omega)) only [go_sem, r24_Rename, e1]
end Ab
namespace Ab
open Go (IntKind BinOp UnOp)
theorem res_small1 {kn : SK} (n : List UInt8) : res Γ 305 [.sl .tight 1 [.str n], .sl kn 1 []] = some [.bool (decide (n.length ≤ 100))] := by
  by_cases h : 100 < n.length
  · rw [decide_eq_false (by omega)]
    refine res_code (fn := l24_small) rfl rfl ?_
    simp (disch := first | assumption | omega | decide | (simp only [List.length_cons, List.length_nil, List.length_append, List.length_replicate, List.length_map, List.length_set, List.length_take, List.length_drop, strs_len, ints_len, bools_len, aggs_len, vpv_len]; done) | (simp only [List.length_cons, List.length_nil, List.length_append, List.length_replicate, List.length_map, List.length_set, List.length_take, List.length_drop, strs_len, ints_len, bools_len, aggs_len, vpv_len]; omega)) only [go_sem, l24_small]
    rw [W_loop (L := l24_small_l1) rfl]
    simp (disch := first | assumption | omega | decide | (simp only [List.length_cons, List.length_nil, List.length_append, List.length_replicate, List.length_map, List.length_set, List.length_take, List.length_drop, strs_len, ints_len, bools_len, aggs_len, vpv_len]; done) | (simp only [List.length_cons, List.length_nil, List.length_append, List.length_replicate, List.length_map, List.length_set, List.length_take, List.length_drop, strs_len, ints_len, bools_len, aggs_len, vpv_len]; omega)) only [go_sem]
  · rw [decide_eq_true (by omega)]
    refine res_code (fn := l24_small) rfl rfl ?_
    simp (disch := first | assumption | omega | decide | (simp only [List.length_cons, List.length_nil, List.length_append, List.length_replicate, List.length_map, List.length_set, List.length_take, List.length_drop, strs_len, ints_len, bools_len, aggs_len, vpv_len]; done) | (simp only [List.length_cons, List.length_nil, List.length_append, List.length_replicate, List.length_map, List.length_set, List.length_take, List.length_drop, strs_len, ints_len, bools_len, aggs_len, vpv_len]; omega)) only [go_sem, l24_small]
    rw [W_loop (L := l24_small_l1) rfl]
    simp (disch := first | assumption | omega | decide | (simp only [List.length_cons, List.length_nil, List.length_append, List.length_replicate, List.length_map, List.length_set, List.length_take, List.length_drop, strs_len, ints_len, bools_len, aggs_len, vpv_len]; done) | (simp only [List.length_cons, List.length_nil, List.length_append, List.length_replicate, List.length_map, List.length_set, List.length_take, List.length_drop, strs_len, ints_len, bools_len, aggs_len, vpv_len]; omega)) only [go_sem]
    rw [W_loop (L := l24_small_l1) rfl]
    simp (disch := first | assumption | omega | decide | (simp only [List.length_cons, List.length_nil, List.length_append, List.length_replicate, List.length_map, List.length_set, List.length_take, List.length_drop, strs_len, ints_len, bools_len, aggs_len, vpv_len]; done) | (simp only [List.length_cons, List.length_nil, List.length_append, List.length_replicate, List.length_map, List.length_set, List.length_take, List.length_drop, strs_len, ints_len, bools_len, aggs_len, vpv_len]; omega)) only [go_sem]
theorem res_small0 {kt kn : SK} (ns : List Int) : res Γ 305 [.sl kt 1 [], .sl kn 1 (ints .i64 ns)] = some [.bool (decide (ns.length ≤ 20))] := by
  by_cases h : 20 < ns.length
  · rw [decide_eq_false (by omega)]
    refine res_code (fn := l24_small) rfl rfl ?_
    simp (disch := first | assumption | omega | decide | (simp only [List.length_cons, List.length_nil, List.length_append, List.length_replicate, List.length_map, List.length_set, List.length_take, List.length_drop, strs_len, ints_len, bools_len, aggs_len, vpv_len]; done) | (simp only [List.length_cons, List.length_nil, List.length_append, List.length_replicate, List.length_map, List.length_set, List.length_take, List.length_drop, strs_len, ints_len, bools_len, aggs_len, vpv_len]; omega)) only [go_sem, l24_small]
  · rw [decide_eq_true (by omega)]
    refine res_code (fn := l24_small) rfl rfl ?_
    simp (disch := first | assumption | omega | decide | (simp only [List.length_cons, List.length_nil, List.length_append, List.length_replicate, List.length_map, List.length_set, List.length_take, List.length_drop, strs_len, ints_len, bools_len, aggs_len, vpv_len]; done) | (simp only [List.length_cons, List.length_nil, List.length_append, List.length_replicate, List.length_map, List.length_set, List.length_take, List.length_drop, strs_len, ints_len, bools_len, aggs_len, vpv_len]; omega)) only [go_sem, l24_small]
    rw [W_loop (L := l24_small_l1) rfl]
    simp (disch := first | assumption | omega | decide | (simp only [List.length_cons, List.length_nil, List.length_append, List.length_replicate, List.length_map, List.length_set, List.length_take, List.length_drop, strs_len, ints_len, bools_len, aggs_len, vpv_len]; done) | (simp only [List.length_cons, List.length_nil, List.length_append, List.length_replicate, List.length_map, List.length_set, List.length_take, List.length_drop, strs_len, ints_len, bools_len, aggs_len, vpv_len]; omega)) only [go_sem]
theorem heavyR_no {s : Ser} (h : heavyR s = false) : s.vals.length ≤ 120 ∧ s.name.length ≤ 300 := by
  simp [heavyR] at h
  omega
theorem res_renamedOf {k kt kn : SK} (how : List UInt8) (texts : List (List UInt8)) (ns : List Int) (s : Ser) (b : Bool) (hv : s.vals.length ≤ 9223372036854775807) (hsm : res Γ 305 [.sl kt 1 (strs texts), .sl kn 1 (ints .i64 ns)] = some [.bool b])
    (hX : b = true → heavyR s = false → texts.length ≤ 1000000 ∧ ns.length ≤ 1000000 ∧ ∃ r : List PV, (r = [zeroS, .int .i64 1] ∨ ∃ n, r = renR s n) ∧
      res Γ 299 [.str how, s.pv .any, .sl .any 1 (strs texts), .sl .any 1 (ints .i64 ns)] = some r ∧ res Γ 298 [.str how, s.pv k, .sl kt 1 (strs texts), .sl kn 1 (ints .i64 ns)] = some r) :
    res Γ 295 [.str how, s.pv k, .sl kt 1 (strs texts), .sl kn 1 (ints .i64 ns)] = some [.bool true] := by
  have h1 := res_heavyR (k := k) s hv
  have hk := res_known24
  cases hh : heavyR s
  · rw [hh] at h1
    obtain ⟨g1, g2⟩ := heavyR_no hh
    cases b
    · unfold Ser.pv at *
      refine res_code (fn := l24_renamed) rfl rfl ?_
      simp (disch := first | assumption | omega | decide | (simp only [List.length_cons, List.length_nil, List.length_append, List.length_replicate, List.length_map, List.length_set, List.length_take, List.length_drop, strs_len, ints_len, bools_len, aggs_len, vpv_len]; done) | (simp only [List.length_cons, List.length_nil, List.length_append, List.length_replicate, List.length_map, List.length_set, List.length_take, List.length_drop, strs_len, ints_len, bools_len, aggs_len, vpv_len]; omega)) only [go_sem, l24_renamed, h1, hsm]
    · obtain ⟨t1, t2, r, hr, e1, e2⟩ := hX rfl hh
      have e3 := res_r18OwnR (kk := k) s (by omega)
      have e4 := res_same24R (k1 := .any) (k2 := k) s (by omega)
      have e0 : res Γ 11 [zeroS, zeroS] = some [.bool true] := res_same24R (k1 := .nil) (k2 := .nil) ⟨[], 0, 0, [], 0⟩ (by simp)
      have l1 : (strs texts).length ≤ 1073741824 := by rw [strs_len]; omega
      have l2 : (ints .i64 ns).length ≤ 1073741824 := by rw [ints_len]; omega
      have hcase : r = [zeroS, .int .i64 1] ∨ ∃ n, r = [(renS s n).pv .any, .int .i64 0] := by
        rcases hr with h | ⟨n, h⟩
        · exact .inl h
        · unfold renR at h
          split at h
          · exact .inr ⟨n, h⟩
          · exact .inl h
      rcases hcase with rfl | ⟨n, rfl⟩
      · clear hr hX
        unfold zeroS at *
        unfold Ser.pv at *
        refine res_code (fn := l24_renamed) rfl rfl ?_
        simp (disch := first | assumption | omega | decide | (simp only [List.length_cons, List.length_nil, List.length_append, List.length_replicate, List.length_map, List.length_set, List.length_take, List.length_drop, strs_len, ints_len, bools_len, aggs_len, vpv_len]; done) | (simp only [List.length_cons, List.length_nil, List.length_append, List.length_replicate, List.length_map, List.length_set, List.length_take, List.length_drop, strs_len, ints_len, bools_len, aggs_len, vpv_len]; omega)) only [go_sem, l24_renamed, h1, hsm, e1, e2, e3, e4, e0, hk]
      · have e5 := res_same24R (k1 := .any) (k2 := .any) (renS s n) (show s.vals.length ≤ _ by omega)
        clear hr hX e0
        unfold renS at *
        unfold Ser.pv at *
        refine res_code (fn := l24_renamed) rfl rfl ?_
        simp (disch := first | assumption | omega | decide | (simp only [List.length_cons, List.length_nil, List.length_append, List.length_replicate, List.length_map, List.length_set, List.length_take, List.length_drop, strs_len, ints_len, bools_len, aggs_len, vpv_len]; done) | (simp only [List.length_cons, List.length_nil, List.length_append, List.length_replicate, List.length_map, List.length_set, List.length_take, List.length_drop, strs_len, ints_len, bools_len, aggs_len, vpv_len]; omega)) only [go_sem, l24_renamed, h1, hsm, e1, e2, e3, e4, e5, hk]
  · rw [hh] at h1
    unfold Ser.pv at *
    refine res_code (fn := l24_renamed) rfl rfl ?_
    simp (disch := first | assumption | omega | decide | (simp only [List.length_cons, List.length_nil, List.length_append, List.length_replicate, List.length_map, List.length_set, List.length_take, List.length_drop, strs_len, ints_len, bools_len, aggs_len, vpv_len]; done) | (simp only [List.length_cons, List.length_nil, List.length_append, List.length_replicate, List.length_map, List.length_set, List.length_take, List.length_drop, strs_len, ints_len, bools_len, aggs_len, vpv_len]; omega)) only [go_sem, l24_renamed, h1]
theorem res_FnameAliasA {k : SK} (s : Ser) (n : List UInt8) (o : Ser.Ok k s) : res Γ 300 [s.pv k, .str n] = some [.bool true] := by
  have e : res Γ 295 [.str rAlias, s.pv k, .sl .tight 1 [.str n], .sl .nil 1 []] = some [.bool true] := res_renamedOf (k := k) (kt := .tight) (kn := .nil) rAlias [n] [] s (decide (n.length ≤ 100)) o.len (res_small1 n) (fun _ hh => by
    have := heavyR_no hh
    exact ⟨by simp, by simp, _, .inr ⟨n, rfl⟩, res_RenameA s n (by omega), res_rRenameA s n (by omega)⟩)
  unfold Ser.pv rAlias at *
  refine res_code (fn := l24_FnameAlias) rfl rfl ?_
  simp (disch := first | assumption | omega | decide | (simp only [List.length_cons, List.length_nil, List.length_append, List.length_replicate, List.length_map, List.length_set, List.length_take, List.length_drop, strs_len, ints_len, bools_len, aggs_len, vpv_len]; done) | (simp only [List.length_cons, List.length_nil, List.length_append, List.length_replicate, List.length_map, List.length_set, List.length_take, List.length_drop, strs_len, ints_len, bools_len, aggs_len, vpv_len]; omega)) only [go_sem, l24_FnameAlias, e]
theorem res_FnameByNodeA {k kn : SK} (s : Ser) (ns : List Int) (o : Ser.Ok k s) (hr : ∀ n ∈ ns, -9223372036854775808 ≤ n ∧ n ≤ 9223372036854775807) : res Γ 301 [s.pv k, .sl kn 1 (ints .i64 ns)] = some [.bool true] := by
  have e : res Γ 295 [.str rNode, s.pv k, .sl .nil 1 [], .sl kn 1 (ints .i64 ns)] = some [.bool true] := res_renamedOf (k := k) (kt := .nil) (kn := kn) rNode [] ns s (decide (ns.length ≤ 20)) o.len (res_small0 ns) (fun hb hh => by
    have := heavyR_no hh
    have hl : ns.length ≤ 20 := of_decide_eq_true hb
    refine ⟨by simp, by omega, ?_⟩
    by_cases h0 : ns.length = 0
    · obtain rfl : ns = [] := List.eq_nil_of_length_eq_zero h0
      exact ⟨_, .inl rfl, res_RenameN0 s, res_rRenameN0 s⟩
    · exact ⟨_, .inr ⟨_, rfl⟩, res_RenameN s ns (by omega) (by omega) (by omega) (by omega) hr, res_rRenameN s ns (by omega) (by omega) (by omega) (by omega) hr⟩)
  unfold Ser.pv rNode at *
  refine res_code (fn := l24_FnameByNode) rfl rfl ?_
  simp (disch := first | assumption | omega | decide | (simp only [List.length_cons, List.length_nil, List.length_append, List.length_replicate, List.length_map, List.length_set, List.length_take, List.length_drop, strs_len, ints_len, bools_len, aggs_len, vpv_len]; done) | (simp only [List.length_cons, List.length_nil, List.length_append, List.length_replicate, List.length_map, List.length_set, List.length_take, List.length_drop, strs_len, ints_len, bools_len, aggs_len, vpv_len]; omega)) only [go_sem, l24_FnameByNode, e]
theorem res_FnameSubstrA {k : SK} (s : Ser) (a b : Int) (o : Ser.Ok k s) (ha : -9223372036854775808 ≤ a ∧ a ≤ 9223372036854775807) (hb : -9223372036854775808 ≤ b ∧ b ≤ 9223372036854775807) : res Γ 302 [s.pv k, .int .i64 a, .int .i64 b] = some [.bool true] := by
  have key : ∀ ns : List Int, ns ≠ [] → ns.length ≤ 20 → (∀ n ∈ ns, -9223372036854775808 ≤ n ∧ n ≤ 9223372036854775807) → res Γ 295 [.str rCut, s.pv k, .sl .nil 1 [], .sl .tight 1 (ints .i64 ns)] = some [.bool true] := fun ns h0 hl hr =>
    res_renamedOf (k := k) (kt := .nil) (kn := .tight) rCut [] ns s (decide (ns.length ≤ 20)) o.len (res_small0 ns) (fun _ hh => by
      have := heavyR_no hh
      have hpos : 0 < ns.length := List.length_pos_iff.2 h0
      exact ⟨by simp, by omega, _, .inr ⟨_, rfl⟩, res_RenameC s ns (by omega) (by omega) (by omega) (by omega) hr, res_rRenameC s ns (by omega) (by omega) (by omega) (by omega) hr⟩)
  have e1 : res Γ 295 [.str rCut, s.pv k, .sl .nil 1 [], .sl .tight 1 [.int .i64 a]] = some [.bool true] := key [a] (by simp) (by simp) (by simpa using ha)
  have e2 : res Γ 295 [.str rCut, s.pv k, .sl .nil 1 [], .sl .tight 1 [.int .i64 a, .int .i64 b]] = some [.bool true] := key [a, b] (by simp) (by simp) (by simpa using ⟨ha, hb⟩)
  unfold Ser.pv rCut at *
  refine res_code (fn := l24_FnameSubstr) rfl rfl ?_
  simp (disch := first | assumption | omega | decide | (simp only [List.length_cons, List.length_nil, List.length_append, List.length_replicate, List.length_map, List.length_set, List.length_take, List.length_drop, strs_len, ints_len, bools_len, aggs_len, vpv_len]; done) | (simp only [List.length_cons, List.length_nil, List.length_append, List.length_replicate, List.length_map, List.length_set, List.length_take, List.length_drop, strs_len, ints_len, bools_len, aggs_len, vpv_len]; omega)) only [go_sem, l24_FnameSubstr, e1, e2]
end Ab
