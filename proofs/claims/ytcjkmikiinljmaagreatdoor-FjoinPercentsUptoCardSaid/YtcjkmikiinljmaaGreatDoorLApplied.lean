import Derived.Test.YtcjkmikiinljmaaGreatDoorLApply3
import Derived.Test.YtcjkmikiinljmaaGreatDoorLKnown22
import Derived.Test.YtcjkmikiinljmaaGreatDoorLIs
namespace Ab
open Go (IntKind BinOp UnOp)
theorem res_r18OwnJ {kk : SK} (s : Ser) (h : s.vals.length ≤ 1073741824) : res Γ 34 [s.pv kk] = some [s.pv .any] := by
  have hv : (vpv s.vals).length ≤ 1073741824 := by rw [vpv_len]; exact h
  have hw : (vpv s.vals).length = s.vals.length := vpv_len
  unfold Ser.pv
  refine res_code (fn := r18_Own) rfl rfl ?_
  simp (disch := first | assumption | omega | decide | (simp only [List.length_cons, List.length_nil, List.length_append, List.length_replicate, List.length_map, List.length_set, List.length_take, List.length_drop, strs_len, ints_len, bools_len, aggs_len, vpv_len]; done) | (simp only [List.length_cons, List.length_nil, List.length_append, List.length_replicate, List.length_map, List.length_set, List.length_take, List.length_drop, strs_len, ints_len, bools_len, aggs_len, vpv_len]; omega)) only [go_sem, r18_Own]
theorem r18_SameJ_l1_ok {k1 k2 : SK} (a : Ser) (hv : a.vals.length ≤ 1073741824) (Q : Out → Prop) : ∀ (k i : Nat), i + k = a.vals.length →
    (∀ H, Q (.nrm, [], H)) →
    Wp Γ r18_Same_l1 [(2, .bx 0 0), (3, .bx 1 0), (5, .p (.int .i64 (i : Int)))] [.box [.p (.str a.name), .p (.int .i64 a.start), .p (.int .i64 a.step), .p (.sl k1 2 (vpv a.vals)), .p (.int .i64 a.cons)], .box [.p (.str a.name), .p (.int .i64 a.start), .p (.int .i64 a.step), .p (.sl k2 2 (vpv a.vals)), .p (.int .i64 a.cons)]] (InBlk [] 0 Q) := by
  intro k
  induction k with
  | zero =>
    intro i hi hQ
    obtain rfl : i = a.vals.length := by omega
    rw [W_loop (L := r18_Same_l1) rfl]
    simp (disch := first | assumption | omega | decide | (simp only [List.length_cons, List.length_nil, List.length_append, List.length_replicate, List.length_map, List.length_set, List.length_take, List.length_drop, strs_len, ints_len, bools_len, aggs_len, vpv_len]; done) | (simp only [List.length_cons, List.length_nil, List.length_append, List.length_replicate, List.length_map, List.length_set, List.length_take, List.length_drop, strs_len, ints_len, bools_len, aggs_len, vpv_len]; omega)) only [go_sem]
    exact hQ _
  | succ k ih =>
    intro i hi hQ
    rw [W_loop (L := r18_Same_l1) rfl]
    simp (disch := first | assumption | omega | decide | (simp only [List.length_cons, List.length_nil, List.length_append, List.length_replicate, List.length_map, List.length_set, List.length_take, List.length_drop, strs_len, ints_len, bools_len, aggs_len, vpv_len]; done) | (simp only [List.length_cons, List.length_nil, List.length_append, List.length_replicate, List.length_map, List.length_set, List.length_take, List.length_drop, strs_len, ints_len, bools_len, aggs_len, vpv_len]; omega)) only [go_sem, valP]
    exact ih (i + 1) (by omega) hQ
theorem res_SameJ {k1 k2 : SK} (s : Ser) (hv : s.vals.length ≤ 1073741824) : res Γ 28 [s.pv k1, s.pv k2] = some [.bool true] := by
  unfold Ser.pv
  refine res_code (fn := r18_Same) rfl rfl ?_
  simp (disch := first | assumption | omega | decide | (simp only [List.length_cons, List.length_nil, List.length_append, List.length_replicate, List.length_map, List.length_set, List.length_take, List.length_drop, strs_len, ints_len, bools_len, aggs_len, vpv_len]; done) | (simp only [List.length_cons, List.length_nil, List.length_append, List.length_replicate, List.length_map, List.length_set, List.length_take, List.length_drop, strs_len, ints_len, bools_len, aggs_len, vpv_len]; omega)) only [go_sem, r18_Same, ne_eq, not_true_eq_false]
  refine r18_SameJ_l1_ok s hv _ s.vals.length 0 (by omega) (fun H => ?_)
  simp (disch := first | assumption | omega | decide | (simp only [List.length_cons, List.length_nil, List.length_append, List.length_replicate, List.length_map, List.length_set, List.length_take, List.length_drop, strs_len, ints_len, bools_len, aggs_len, vpv_len]; done) | (simp only [List.length_cons, List.length_nil, List.length_append, List.length_replicate, List.length_map, List.length_set, List.length_take, List.length_drop, strs_len, ints_len, bools_len, aggs_len, vpv_len]; omega)) only [go_sem]
theorem res_same22 {k1 k2 : SK} (s : Ser) (hv : s.vals.length ≤ 1073741824) : res Γ 234 [s.pv k1, s.pv k2] = some [.bool true] := by
  have e := res_SameJ (k1 := k1) (k2 := k2) s hv
  unfold Ser.pv at e ⊢
  refine res_code (fn := l22_same) rfl rfl ?_
  simp (disch := first | assumption | omega | decide | (simp only [List.length_cons, List.length_nil, List.length_append, List.length_replicate, List.length_map, List.length_set, List.length_take, List.length_drop, strs_len, ints_len, bools_len, aggs_len, vpv_len]; done) | (simp only [List.length_cons, List.length_nil, List.length_append, List.length_replicate, List.length_map, List.length_set, List.length_take, List.length_drop, strs_len, ints_len, bools_len, aggs_len, vpv_len]; omega)) only [go_sem, l22_same, e]
def ownL (l : List (SK × Ser)) : List (SK × Ser) := l.map fun x => (.any, x.2)
theorem ownL_of {l : List (SK × Ser)} : sersOf (ownL l) = sersOf l := by
  unfold sersOf ownL
  rw [List.map_map]; rfl
theorem ownL_len {l : List (SK × Ser)} : (ownL l).length = l.length := by simp [ownL]
theorem ownL_snoc {l : List (SK × Ser)} {i : Nat} (h : i < l.length) : ownL (l.take (i + 1)) = ownL (l.take i) ++ [(.any, (l.getD i noSer).2)] := by
  unfold ownL
  rw [take_snoc' noSer h, List.map_append]; rfl
theorem own_l1_ok {k2 : SK} (l : List (SK × Ser)) (hl : l.length ≤ 1000000) (hv : ∀ x ∈ l, x.2.vals.length ≤ 1000000) (Q : Out → Prop) (hQ : Q (.nrm, [(3, .own 0 l.length)], [.row false 5 (sers (ownL l))])) : ∀ (n i : Nat), i + n = l.length →
    Wp Γ l22_own_l1 [(0, .p (.sl k2 5 (sers l))), (3, .own 0 i), (4, .p (.int .i64 (i : Int)))] [.row false 5 (sers (ownL (l.take i)))] (InBlk [3] 0 Q) := by
  intro n
  induction n with
  | zero =>
    intro i hi
    obtain rfl : i = l.length := by omega
    rw [List.take_length]
    rw [W_loop (L := l22_own_l1) rfl]
    simp (disch := first | assumption | omega | decide | (simp only [List.length_cons, List.length_nil, List.length_append, List.length_replicate, List.length_map, List.length_set, List.length_take, List.length_drop, strs_len, ints_len, bools_len, aggs_len, vpv_len]; done) | (simp only [List.length_cons, List.length_nil, List.length_append, List.length_replicate, List.length_map, List.length_set, List.length_take, List.length_drop, strs_len, ints_len, bools_len, aggs_len, vpv_len]; omega)) only [go_sem]
    exact hQ
  | succ n ih =>
    intro i hi
    have hlt : i < l.length := by omega
    have hmem := ser_mem hlt
    have ih := ih (i + 1) (by omega)
    rw [ownL_snoc hlt] at ih
    obtain ⟨x, hx⟩ : ∃ x, l.getD i noSer = x := ⟨_, rfl⟩
    rw [hx] at ih hmem
    have e := res_r18OwnJ (kk := x.1) x.2 (by have := hv x hmem; omega)
    have hlen : (sers (ownL (l.take i))).length = i := by rw [sers_len, ownL_len, List.length_take]; omega
    unfold Ser.pv at e
    rw [W_loop (L := l22_own_l1) rfl]
    simp (disch := first | assumption | omega | decide | (simp only [List.length_cons, List.length_nil, List.length_append, List.length_replicate, List.length_map, List.length_set, List.length_take, List.length_drop, strs_len, ints_len, bools_len, aggs_len, vpv_len]; done) | (simp only [List.length_cons, List.length_nil, List.length_append, List.length_replicate, List.length_map, List.length_set, List.length_take, List.length_drop, strs_len, ints_len, bools_len, aggs_len, vpv_len]; omega)) only [go_sem, hx, serC, e]
    exact ih
theorem res_own22 {kk : SK} (l : List (SK × Ser)) (hl : l.length ≤ 1000000) (hv : ∀ x ∈ l, x.2.vals.length ≤ 1000000) : res Γ 225 [.sl kk 5 (sers l)] = some [.sl .any 5 (sers (ownL l))] := by
  have hlen : (sers (ownL l)).length = l.length := by rw [sers_len, ownL_len]
  refine res_code (fn := l22_own) rfl rfl ?_
  simp (disch := first | assumption | omega | decide | (simp only [List.length_cons, List.length_nil, List.length_append, List.length_replicate, List.length_map, List.length_set, List.length_take, List.length_drop, strs_len, ints_len, bools_len, aggs_len, vpv_len]; done) | (simp only [List.length_cons, List.length_nil, List.length_append, List.length_replicate, List.length_map, List.length_set, List.length_take, List.length_drop, strs_len, ints_len, bools_len, aggs_len, vpv_len]; omega)) only [go_sem, l22_own]
  refine own_l1_ok l hl hv _ ?_ l.length 0 (by omega)
  simp (disch := first | assumption | omega | decide | (simp only [List.length_cons, List.length_nil, List.length_append, List.length_replicate, List.length_map, List.length_set, List.length_take, List.length_drop, strs_len, ints_len, bools_len, aggs_len, vpv_len]; done) | (simp only [List.length_cons, List.length_nil, List.length_append, List.length_replicate, List.length_map, List.length_set, List.length_take, List.length_drop, strs_len, ints_len, bools_len, aggs_len, vpv_len]; omega)) only [go_sem]
theorem all_l1_ok22 {k1 k2 : SK} (l m : List (SK × Ser)) (h : sersOf l = sersOf m) (hl : l.length ≤ 1000000) (hv : ∀ x ∈ l, x.2.vals.length ≤ 1000000) (Q : Out → Prop) (hQ : Q (.nrm, [], [])) : ∀ (n i : Nat), i + n = l.length →
    Wp Γ l22_all_l1 [(0, .p (.sl k1 5 (sers l))), (1, .p (.sl k2 5 (sers m))), (5, .p (.int .i64 (i : Int)))] [] (InBlk [] 0 Q) := by
  have hlm : m.length = l.length := by have := congrArg List.length h; simp only [sersOf, List.length_map] at this; exact this.symm
  intro n
  induction n with
  | zero =>
    intro i hi
    obtain rfl : i = l.length := by omega
    rw [W_loop (L := l22_all_l1) rfl]
    simp (disch := first | assumption | omega | decide | (simp only [List.length_cons, List.length_nil, List.length_append, List.length_replicate, List.length_map, List.length_set, List.length_take, List.length_drop, strs_len, ints_len, bools_len, aggs_len, vpv_len]; done) | (simp only [List.length_cons, List.length_nil, List.length_append, List.length_replicate, List.length_map, List.length_set, List.length_take, List.length_drop, strs_len, ints_len, bools_len, aggs_len, vpv_len]; omega)) only [go_sem]
    exact hQ
  | succ n ih =>
    intro i hi
    have hlt : i < l.length := by omega
    have hmem := ser_mem hlt
    have ih := ih (i + 1) (by omega)
    have hs : (m.getD i noSer).2 = (l.getD i noSer).2 := by
      have h1 := congrArg (fun z => z[i]?) h
      simp only [sersOf, List.getElem?_map, List.getElem?_eq_getElem hlt, List.getElem?_eq_getElem (show i < m.length by omega), Option.map_some, Option.some.injEq] at h1
      rw [List.getD_eq_getElem?_getD, List.getElem?_eq_getElem (show i < m.length by omega), List.getD_eq_getElem?_getD, List.getElem?_eq_getElem hlt]
      exact h1.symm
    obtain ⟨x, hx⟩ : ∃ x, l.getD i noSer = x := ⟨_, rfl⟩
    obtain ⟨y, hy⟩ : ∃ y, m.getD i noSer = y := ⟨_, rfl⟩
    rw [hx, hy] at hs
    rw [hx] at hmem
    have e := res_same22 (k1 := x.1) (k2 := y.1) x.2 (by have := hv x hmem; omega)
    unfold Ser.pv at e
    rw [W_loop (L := l22_all_l1) rfl]
    simp (disch := first | assumption | omega | decide | (simp only [List.length_cons, List.length_nil, List.length_append, List.length_replicate, List.length_map, List.length_set, List.length_take, List.length_drop, strs_len, ints_len, bools_len, aggs_len, vpv_len]; done) | (simp only [List.length_cons, List.length_nil, List.length_append, List.length_replicate, List.length_map, List.length_set, List.length_take, List.length_drop, strs_len, ints_len, bools_len, aggs_len, vpv_len]; omega)) only [go_sem, hx, hy, serC, hs, e]
    exact ih
theorem res_all22 {k1 k2 : SK} (l m : List (SK × Ser)) (h : sersOf l = sersOf m) (hl : l.length ≤ 1000000) (hv : ∀ x ∈ l, x.2.vals.length ≤ 1000000) : res Γ 223 [.sl k1 5 (sers l), .sl k2 5 (sers m)] = some [.bool true] := by
  have hlm : m.length = l.length := by have := congrArg List.length h; simp only [sersOf, List.length_map] at this; exact this.symm
  refine res_code (fn := l22_all) rfl rfl ?_
  simp (disch := first | assumption | omega | decide | (simp only [List.length_cons, List.length_nil, List.length_append, List.length_replicate, List.length_map, List.length_set, List.length_take, List.length_drop, strs_len, ints_len, bools_len, aggs_len, vpv_len]; done) | (simp only [List.length_cons, List.length_nil, List.length_append, List.length_replicate, List.length_map, List.length_set, List.length_take, List.length_drop, strs_len, ints_len, bools_len, aggs_len, vpv_len]; omega)) only [go_sem, l22_all, hlm, ne_eq, not_true_eq_false]
  refine all_l1_ok22 l m h hl hv _ ?_ l.length 0 (by omega)
  simp (disch := first | assumption | omega | decide | (simp only [List.length_cons, List.length_nil, List.length_append, List.length_replicate, List.length_map, List.length_set, List.length_take, List.length_drop, strs_len, ints_len, bools_len, aggs_len, vpv_len]; done) | (simp only [List.length_cons, List.length_nil, List.length_append, List.length_replicate, List.length_map, List.length_set, List.length_take, List.length_drop, strs_len, ints_len, bools_len, aggs_len, vpv_len]; omega)) only [go_sem]
def bigS (s : Ser) : Bool := decide (120 < s.vals.length) || decide (300 < s.name.length)
def sumLen (l : List (SK × Ser)) : Nat := (l.map fun x => x.2.vals.length).sum
def heavyJ (l : List (SK × Ser)) : Bool := decide (20 < l.length) || (l.any fun x => bigS x.2) || decide (400 < sumLen l)
theorem sumLen_snoc {l : List (SK × Ser)} {i : Nat} (h : i < l.length) : sumLen (l.take (i + 1)) = sumLen (l.take i) + (l.getD i noSer).2.vals.length := by
  unfold sumLen
  rw [take_snoc' noSer h, List.map_append, List.sum_append]
  simp
theorem heavyJ_no {l : List (SK × Ser)} (h : heavyJ l = false) : l.length ≤ 20 ∧ ∀ x ∈ l, x.2.vals.length ≤ 120 ∧ x.2.name.length ≤ 300 := by
  unfold heavyJ at h
  rw [Bool.or_eq_false_iff, Bool.or_eq_false_iff, decide_eq_false_iff_not] at h
  obtain ⟨⟨h1, h2⟩, _⟩ := h
  refine ⟨by omega, fun x hx => ?_⟩
  have := List.any_eq_false.1 h2 x hx
  unfold bigS at this
  simp only [Bool.or_eq_true, decide_eq_true_eq, not_or] at this
  omega
theorem heavy_l1_ok {k1 : SK} (l : List (SK × Ser)) (hl : l.length ≤ 20) (hv : ∀ x ∈ l, x.2.vals.length ≤ 9223372036854775807) (Q : Out → Prop) (h1 : (l.any fun x => bigS x.2) = true → Q (.ret, [(2, .p (.bool true))], []))
    (h2 : (l.any fun x => bigS x.2) = false → Q (.nrm, [(3, .p (.int .i64 (sumLen l : Nat)))], [])) : ∀ (n i : Nat), i + n = l.length → ((l.take i).any fun x => bigS x.2) = false → sumLen (l.take i) ≤ 120 * i →
    Wp Γ l22_heavy_l1 [(0, .p (.sl k1 5 (sers l))), (3, .p (.int .i64 (sumLen (l.take i) : Nat))), (4, .p (.int .i64 (i : Int)))] [] (InBlk [3] 0 Q) := by
  intro n
  induction n with
  | zero =>
    intro i hi ha _
    obtain rfl : i = l.length := by omega
    rw [List.take_length] at ha ⊢
    rw [W_loop (L := l22_heavy_l1) rfl]
    simp (disch := first | assumption | omega | decide | (simp only [List.length_cons, List.length_nil, List.length_append, List.length_replicate, List.length_map, List.length_set, List.length_take, List.length_drop, strs_len, ints_len, bools_len, aggs_len, vpv_len]; done) | (simp only [List.length_cons, List.length_nil, List.length_append, List.length_replicate, List.length_map, List.length_set, List.length_take, List.length_drop, strs_len, ints_len, bools_len, aggs_len, vpv_len]; omega)) only [go_sem]
    exact h2 ha
  | succ n ih =>
    intro i hi ha hsum
    have hlt : i < l.length := by omega
    have hmem := ser_mem hlt
    have ih := ih (i + 1) (by omega)
    rw [sumLen_snoc hlt, take_snoc' noSer hlt, List.any_append, ha] at ih
    obtain ⟨x, hx⟩ : ∃ x, l.getD i noSer = x := ⟨_, rfl⟩
    rw [hx] at ih hmem
    have hvx := hv x hmem
    have big : bigS x.2 = true → (l.any fun x => bigS x.2) = true := fun h => List.any_eq_true.2 ⟨x, hmem, h⟩
    unfold bigS at big
    by_cases c1 : 120 < x.2.vals.length
    · rw [W_loop (L := l22_heavy_l1) rfl]
      simp (disch := first | assumption | omega | decide | (simp only [List.length_cons, List.length_nil, List.length_append, List.length_replicate, List.length_map, List.length_set, List.length_take, List.length_drop, strs_len, ints_len, bools_len, aggs_len, vpv_len]; done) | (simp only [List.length_cons, List.length_nil, List.length_append, List.length_replicate, List.length_map, List.length_set, List.length_take, List.length_drop, strs_len, ints_len, bools_len, aggs_len, vpv_len]; omega)) only [go_sem, hx, serC]
      exact h1 (big (by simp [c1]))
    · by_cases c2 : 300 < x.2.name.length
      · rw [W_loop (L := l22_heavy_l1) rfl]
        simp (disch := first | assumption | omega | decide | (simp only [List.length_cons, List.length_nil, List.length_append, List.length_replicate, List.length_map, List.length_set, List.length_take, List.length_drop, strs_len, ints_len, bools_len, aggs_len, vpv_len]; done) | (simp only [List.length_cons, List.length_nil, List.length_append, List.length_replicate, List.length_map, List.length_set, List.length_take, List.length_drop, strs_len, ints_len, bools_len, aggs_len, vpv_len]; omega)) only [go_sem, hx, serC]
        exact h1 (big (by simp [c2]))
      · rw [W_loop (L := l22_heavy_l1) rfl]
        simp (disch := first | assumption | omega | decide | (simp only [List.length_cons, List.length_nil, List.length_append, List.length_replicate, List.length_map, List.length_set, List.length_take, List.length_drop, strs_len, ints_len, bools_len, aggs_len, vpv_len]; done) | (simp only [List.length_cons, List.length_nil, List.length_append, List.length_replicate, List.length_map, List.length_set, List.length_take, List.length_drop, strs_len, ints_len, bools_len, aggs_len, vpv_len]; omega)) only [go_sem, hx, serC]
        refine ih ?_ (by omega)
        simp only [List.any_cons, List.any_nil, Bool.or_false, Bool.false_or, bigS]
        simp [c1, c2]
theorem res_heavy22 {k1 : SK} (l : List (SK × Ser)) (hl : l.length ≤ 9223372036854775807) (hv : ∀ x ∈ l, x.2.vals.length ≤ 9223372036854775807) : res Γ 218 [.sl k1 5 (sers l)] = some [.bool (heavyJ l)] := by
  unfold heavyJ
  by_cases h : 20 < l.length
  · rw [decide_eq_true h]
    refine res_code (fn := l22_heavy) rfl rfl ?_
    simp (disch := first | assumption | omega | decide | (simp only [List.length_cons, List.length_nil, List.length_append, List.length_replicate, List.length_map, List.length_set, List.length_take, List.length_drop, strs_len, ints_len, bools_len, aggs_len, vpv_len]; done) | (simp only [List.length_cons, List.length_nil, List.length_append, List.length_replicate, List.length_map, List.length_set, List.length_take, List.length_drop, strs_len, ints_len, bools_len, aggs_len, vpv_len]; omega)) only [go_sem, l22_heavy]
  · rw [decide_eq_false h]
    refine res_code (fn := l22_heavy) rfl rfl ?_
    simp (disch := first | assumption | omega | decide | (simp only [List.length_cons, List.length_nil, List.length_append, List.length_replicate, List.length_map, List.length_set, List.length_take, List.length_drop, strs_len, ints_len, bools_len, aggs_len, vpv_len]; done) | (simp only [List.length_cons, List.length_nil, List.length_append, List.length_replicate, List.length_map, List.length_set, List.length_take, List.length_drop, strs_len, ints_len, bools_len, aggs_len, vpv_len]; omega)) only [go_sem, l22_heavy]
    refine heavy_l1_ok l (by omega) hv _ (fun ha => ?_) (fun ha => ?_) l.length 0 (by omega) rfl (by simp [sumLen])
    · rw [ha]
      simp (disch := first | assumption | omega | decide | (simp only [List.length_cons, List.length_nil, List.length_append, List.length_replicate, List.length_map, List.length_set, List.length_take, List.length_drop, strs_len, ints_len, bools_len, aggs_len, vpv_len]; done) | (simp only [List.length_cons, List.length_nil, List.length_append, List.length_replicate, List.length_map, List.length_set, List.length_take, List.length_drop, strs_len, ints_len, bools_len, aggs_len, vpv_len]; omega)) only [go_sem]
    · rw [ha]
      simp (disch := first | assumption | omega | decide | (simp only [List.length_cons, List.length_nil, List.length_append, List.length_replicate, List.length_map, List.length_set, List.length_take, List.length_drop, strs_len, ints_len, bools_len, aggs_len, vpv_len]; done) | (simp only [List.length_cons, List.length_nil, List.length_append, List.length_replicate, List.length_map, List.length_set, List.length_take, List.length_drop, strs_len, ints_len, bools_len, aggs_len, vpv_len]; omega)) only [go_sem]
      have : decide ((400 : Int) < ((sumLen l : Nat) : Int)) = decide (400 < sumLen l) := by rw [decide_eq_decide]; omega
      rw [this]
def longJ (l : List (SK × Ser)) : Bool := decide (errJ (sersOf l) = 0) && decide (l ≠ []) && decide (500 < nJ l)
theorem res_long22 {k1 : SK} (l : List (SK × Ser)) (hl : l.length ≤ 1000000) (hv : ∀ x ∈ l, x.2.vals.length ≤ 1000000) : res Γ 219 [.sl k1 5 (sers l)] = some [.bool (longJ l)] := by
  have eJ := res_r18Join (kk := k1) l hl hv
  unfold joinR at eJ
  unfold longJ
  by_cases he : errJ (sersOf l) = 0
  · rw [if_pos he] at eJ
    rw [decide_eq_true he]
    by_cases h0 : l = []
    · subst h0
      have eJ : res Γ 231 [.sl k1 5 []] = some [.sl .nil 5 [], .int .i64 0] := eJ
      rw [sers_nil]
      refine res_code (fn := l22_long) rfl rfl ?_
      simp (disch := first | assumption | omega | decide | (simp only [List.length_cons, List.length_nil, List.length_append, List.length_replicate, List.length_map, List.length_set, List.length_take, List.length_drop, strs_len, ints_len, bools_len, aggs_len, vpv_len]; done) | (simp only [List.length_cons, List.length_nil, List.length_append, List.length_replicate, List.length_map, List.length_set, List.length_take, List.length_drop, strs_len, ints_len, bools_len, aggs_len, vpv_len]; omega)) only [go_sem, l22_long, eJ]
      try rfl
    · rw [if_neg h0, joinJ_eq] at eJ
      have hpos : 0 < l.length := List.length_pos_iff.2 h0
      have hjl := @joinW_len l (begJ (sersOf l)) (stepJ (sersOf l)) (manyJ (sersOf l)).toNat
      have hjg := joinW_get (b := begJ (sersOf l)) (st := stepJ (sersOf l)) (n := (manyJ (sersOf l)).toNat) hpos
      have hml : ((joinW l (begJ (sersOf l)) (stepJ (sersOf l)) (manyJ (sersOf l)).toNat).getD 0 noSer).2.vals.length = nJ l := by rw [hjg]; exact fitV_len
      rw [decide_eq_true (show l ≠ [] from h0)]
      obtain ⟨x, hx⟩ : ∃ x, (joinW l (begJ (sersOf l)) (stepJ (sersOf l)) (manyJ (sersOf l)).toNat).getD 0 noSer = x := ⟨_, rfl⟩
      rw [hx] at hml
      generalize joinW l (begJ (sersOf l)) (stepJ (sersOf l)) (manyJ (sersOf l)).toNat = m at *
      refine res_code (fn := l22_long) rfl rfl ?_
      simp (disch := first | assumption | omega | decide | (simp only [List.length_cons, List.length_nil, List.length_append, List.length_replicate, List.length_map, List.length_set, List.length_take, List.length_drop, strs_len, ints_len, bools_len, aggs_len, vpv_len]; done) | (simp only [List.length_cons, List.length_nil, List.length_append, List.length_replicate, List.length_map, List.length_set, List.length_take, List.length_drop, strs_len, ints_len, bools_len, aggs_len, vpv_len]; omega)) only [go_sem, l22_long, eJ, hx, serC, hml]
      rw [show decide ((500 : Int) < ((nJ l : Nat) : Int)) = decide (500 < nJ l) by rw [decide_eq_decide]; omega]
  · rw [if_neg he] at eJ
    rw [decide_eq_false he]
    refine res_code (fn := l22_long) rfl rfl ?_
    simp (disch := first | assumption | omega | decide | (simp only [List.length_cons, List.length_nil, List.length_append, List.length_replicate, List.length_map, List.length_set, List.length_take, List.length_drop, strs_len, ints_len, bools_len, aggs_len, vpv_len]; done) | (simp only [List.length_cons, List.length_nil, List.length_append, List.length_replicate, List.length_map, List.length_set, List.length_take, List.length_drop, strs_len, ints_len, bools_len, aggs_len, vpv_len]; omega)) only [go_sem, l22_long, eJ]
end Ab
