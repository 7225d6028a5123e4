import Derived.Test.YtmggokdhhbaphaaDoorPExp2
/- Each of a row with each of another one: (*glob.reader).times, by the four kinds of its arguments. -/
namespace Ab
open Go (IntKind BinOp UnOp)
/-- The reader's cells. -/
abbrev rdC (s : List UInt8) (at_ : Int) (ov : Bool) : List PV := [.str s, .int .i64 at_, .bool ov]
abbrev rdB (s : List UInt8) (at_ : Int) (ov : Bool) : Blk := .box [.p (.str s), .p (.int .i64 at_), .p (.bool ov)]
theorem map_drop1 {B : List (List UInt8)} {j : Nat} {x : List UInt8} (h : j < B.length) : (B.drop j).map (x ++ ·) = (x ++ B.getD j []) :: (B.drop (j + 1)).map (x ++ ·) := by
  rw [List.drop_eq_getElem_cons h, List.map_cons]
  simp [List.getElem?_eq_getElem h]
theorem prod_boundG {a b : Nat} (ha : a ≤ 512) (hb : b ≤ 2000) : (0 : Int) ≤ (a : Int) * (b : Int) ∧ (a : Int) * (b : Int) ≤ 1024000 := by
  have := Nat.mul_le_mul ha hb
  constructor
  · exact Int.mul_nonneg (by omega) (by omega)
  · have : ((a * b : Nat) : Int) ≤ ((512 * 2000 : Nat) : Int) := by omega
    rw [Int.natCast_mul] at this
    exact this
theorem prod_cast {a b : Nat} {c : Int} (h : ((a * b : Nat) : Int) ≤ c) : (a : Int) * (b : Int) ≤ c := by rw [Int.natCast_mul] at h; exact h
theorem prod_cast2 {a b : Nat} {c : Int} (h : c < ((a * b : Nat) : Int)) : c < (a : Int) * (b : Int) := by rw [Int.natCast_mul] at h; exact h


set_option maxRecDepth 10000 in
theorem times_l1_PP {kA : SK} {kB : SK} (s : List UInt8) (at_ : Int) (ov : Bool) (A B : List (List UInt8)) (hB : B.length ≤ 2000) (x : List UInt8) (hx : x.length ≤ 1000000) (hy : ∀ y ∈ B, y.length ≤ 1000000) (i : Int) (Q : Out → Prop) : ∀ (n j : Nat) (D : List (List UInt8)), j + n = B.length → D.length + n ≤ 1000000 →
    Q (.nrm, [(2, .p (.sl kB 1 (strs B))), (7, .own 1 (D ++ (B.drop j).map (x ++ ·)).length), (27, .p (.sl kA 1 (strs A))), (28, .p (.int .i64 (A.length : Int))), (29, .p (.int .i64 i))], [rdB s at_ ov, .row false 1 (strs (D ++ (B.drop j).map (x ++ ·)))]) →
    Wp Γ glob_reader_times_l1 [(2, .p (.sl kB 1 (strs B))), (7, .own 1 D.length), (9, .p (.str x)), (27, .p (.sl kA 1 (strs A))), (28, .p (.int .i64 (A.length : Int))), (29, .p (.int .i64 i)), (33, .p (.sl kB 1 (strs B))), (34, .p (.int .i64 (B.length : Int))), (35, .p (.int .i64 (j : Int)))] [rdB s at_ ov, .row false 1 (strs D)] (InBlk [2, 7, 27, 28, 29] 2 Q) := by
  intro n
  induction n with
  | zero =>
    intro j D hj hD hQ
    obtain rfl : j = B.length := by omega
    rw [List.drop_length, List.map_nil, List.append_nil] at hQ
    rw [W_loop (L := glob_reader_times_l1) rfl]
    simp (disch := first | assumption | omega | decide | (simp only [List.length_cons, List.length_nil, List.length_append, List.length_replicate, List.length_map, List.length_set, List.length_take, List.length_drop, strs_len, ints_len, bools_len, aggs_len, vpv_len]; done) | (simp only [List.length_cons, List.length_nil, List.length_append, List.length_replicate, List.length_map, List.length_set, List.length_take, List.length_drop, strs_len, ints_len, bools_len, aggs_len, vpv_len]; omega)) only [go_sem]
    exact hQ
  | succ n ih =>
    intro j D hj hD hQ
    have hlt : j < B.length := by omega
    have hyj := hy _ (getD_mem hlt)
    have ih := ih (j + 1) (D ++ [x ++ B.getD j []]) (by omega) (by simp; omega) (by
      rw [map_drop1 hlt] at hQ
      rw [List.append_assoc]
      exact hQ)
    rw [List.length_append] at ih
    rw [W_loop (L := glob_reader_times_l1) rfl]
    simp (disch := first | assumption | omega | decide | (simp only [List.length_cons, List.length_nil, List.length_append, List.length_replicate, List.length_map, List.length_set, List.length_take, List.length_drop, strs_len, ints_len, bools_len, aggs_len, vpv_len]; done) | (simp only [List.length_cons, List.length_nil, List.length_append, List.length_replicate, List.length_map, List.length_set, List.length_take, List.length_drop, strs_len, ints_len, bools_len, aggs_len, vpv_len]; omega)) only [go_sem]
    exact ih
set_option maxRecDepth 10000 in
theorem times_l2_PP {kA : SK} {kB : SK} (s : List UInt8) (at_ : Int) (ov : Bool) (A B : List (List UInt8)) (hA : A.length ≤ 512) (hB : B.length ≤ 2000) (hx : ∀ x ∈ A, x.length ≤ 1000000) (hy : ∀ y ∈ B, y.length ≤ 1000000) (Q : Out → Prop) : ∀ (n i : Nat) (D : List (List UInt8)), i + n = A.length → D.length + (prodL (A.drop i) B).length ≤ 512 →
    Q (.nrm, [(7, .own 1 (D ++ prodL (A.drop i) B).length)], [rdB s at_ ov, .row false 1 (strs (D ++ prodL (A.drop i) B))]) →
    Wp Γ glob_reader_times_l2 [(2, .p (.sl kB 1 (strs B))), (7, .own 1 D.length), (27, .p (.sl kA 1 (strs A))), (28, .p (.int .i64 (A.length : Int))), (29, .p (.int .i64 (i : Int)))] [rdB s at_ ov, .row false 1 (strs D)] (InBlk [7] 0 Q) := by
  intro n
  induction n with
  | zero =>
    intro i D hi hD hQ
    obtain rfl : i = A.length := by omega
    rw [prodL_end, List.append_nil] at hQ
    rw [W_loop (L := glob_reader_times_l2) rfl]
    simp (disch := first | assumption | omega | decide | (simp only [List.length_cons, List.length_nil, List.length_append, List.length_replicate, List.length_map, List.length_set, List.length_take, List.length_drop, strs_len, ints_len, bools_len, aggs_len, vpv_len]; done) | (simp only [List.length_cons, List.length_nil, List.length_append, List.length_replicate, List.length_map, List.length_set, List.length_take, List.length_drop, strs_len, ints_len, bools_len, aggs_len, vpv_len]; omega)) only [go_sem]
    exact hQ
  | succ n ih =>
    intro i D hi hD hQ
    have hlt : i < A.length := by omega
    have hxi := hx _ (getD_mem hlt)
    rw [prodL_drop hlt, List.length_append, List.length_map] at hD
    have ih := ih (i + 1) (D ++ B.map (A.getD i [] ++ ·)) (by omega) (by rw [List.length_append, List.length_map]; omega) (by
      rw [prodL_drop hlt] at hQ
      rw [List.append_assoc]
      exact hQ)
    rw [W_loop (L := glob_reader_times_l2) rfl]
    simp (disch := first | assumption | omega | decide | (simp only [List.length_cons, List.length_nil, List.length_append, List.length_replicate, List.length_map, List.length_set, List.length_take, List.length_drop, strs_len, ints_len, bools_len, aggs_len, vpv_len]; done) | (simp only [List.length_cons, List.length_nil, List.length_append, List.length_replicate, List.length_map, List.length_set, List.length_take, List.length_drop, strs_len, ints_len, bools_len, aggs_len, vpv_len]; omega)) only [go_sem]
    refine times_l1_PP s at_ ov A B hB (A.getD i []) hxi hy i _ B.length 0 D (by omega) (by omega) ?_
    rw [List.drop_zero]
    simp (disch := first | assumption | omega | decide | (simp only [List.length_cons, List.length_nil, List.length_append, List.length_replicate, List.length_map, List.length_set, List.length_take, List.length_drop, strs_len, ints_len, bools_len, aggs_len, vpv_len]; done) | (simp only [List.length_cons, List.length_nil, List.length_append, List.length_replicate, List.length_map, List.length_set, List.length_take, List.length_drop, strs_len, ints_len, bools_len, aggs_len, vpv_len]; omega)) only [go_sem]
    exact ih
set_option maxRecDepth 10000 in
theorem resM_times_PP {kA : SK} {kB : SK} (s : List UInt8) (at_ : Int) (A B : List (List UInt8)) (hA : A.length ≤ 512) (hB : B.length ≤ 2000) (hAB : A.length * B.length ≤ 512) (hx : ∀ x ∈ A, x.length ≤ 1000000) (hy : ∀ y ∈ B, y.length ≤ 1000000) :
    resM Γ 1 51 [.bx 0 0, .p (.sl kA 1 (strs A)), .p (.sl kB 1 (strs B))] [rdB s at_ false] = some ([.own 1 (prodL A B).length], [rdB s at_ false, .row false 1 (strs (prodL A B))]) := by
  obtain ⟨hp0, hp1⟩ := prod_boundG hA hB
  have hp2 : (A.length : Int) * (B.length : Int) ≤ 512 := prod_cast (by omega)
  refine resM_code (fn := glob_reader_times) rfl rfl ?_
  simp (disch := first | assumption | omega | decide | (simp only [List.length_cons, List.length_nil, List.length_append, List.length_replicate, List.length_map, List.length_set, List.length_take, List.length_drop, strs_len, ints_len, bools_len, aggs_len, vpv_len]; done) | (simp only [List.length_cons, List.length_nil, List.length_append, List.length_replicate, List.length_map, List.length_set, List.length_take, List.length_drop, strs_len, ints_len, bools_len, aggs_len, vpv_len]; omega)) only [go_sem, glob_reader_times]
  refine times_l2_PP s at_ false A B hA hB hx hy _ A.length 0 [] (by omega) (by rw [List.drop_zero, prodL_len]; simpa using hAB) ?_
  rw [List.drop_zero, List.nil_append]
  simp (disch := first | assumption | omega | decide | (simp only [List.length_cons, List.length_nil, List.length_append, List.length_replicate, List.length_map, List.length_set, List.length_take, List.length_drop, strs_len, ints_len, bools_len, aggs_len, vpv_len]; done) | (simp only [List.length_cons, List.length_nil, List.length_append, List.length_replicate, List.length_map, List.length_set, List.length_take, List.length_drop, strs_len, ints_len, bools_len, aggs_len, vpv_len]; omega)) only [go_sem]
set_option maxRecDepth 10000 in
theorem resM_timesO_PP {kA : SK} {kB : SK} (s : List UInt8) (at_ : Int) (A B : List (List UInt8)) (hA : A.length ≤ 512) (hB : B.length ≤ 2000) {ov : Bool} (h : ov = true ∨ 512 < A.length * B.length) :
    resM Γ 1 51 [.bx 0 0, .p (.sl kA 1 (strs A)), .p (.sl kB 1 (strs B))] [rdB s at_ ov] = some ([.p (.sl .nil 1 [])], [rdB s at_ true]) := by
  obtain ⟨hp0, hp1⟩ := prod_boundG hA hB
  refine resM_code (fn := glob_reader_times) rfl rfl ?_
  cases ov
  · have hp2 : 512 < (A.length : Int) * (B.length : Int) := by
      rcases h with h | h
      · cases h
      · exact prod_cast2 (by omega)
    simp (disch := first | assumption | omega | decide | (simp only [List.length_cons, List.length_nil, List.length_append, List.length_replicate, List.length_map, List.length_set, List.length_take, List.length_drop, strs_len, ints_len, bools_len, aggs_len, vpv_len]; done) | (simp only [List.length_cons, List.length_nil, List.length_append, List.length_replicate, List.length_map, List.length_set, List.length_take, List.length_drop, strs_len, ints_len, bools_len, aggs_len, vpv_len]; omega)) only [go_sem, glob_reader_times]
  · simp (disch := first | assumption | omega | decide | (simp only [List.length_cons, List.length_nil, List.length_append, List.length_replicate, List.length_map, List.length_set, List.length_take, List.length_drop, strs_len, ints_len, bools_len, aggs_len, vpv_len]; done) | (simp only [List.length_cons, List.length_nil, List.length_append, List.length_replicate, List.length_map, List.length_set, List.length_take, List.length_drop, strs_len, ints_len, bools_len, aggs_len, vpv_len]; omega)) only [go_sem, glob_reader_times]


set_option maxRecDepth 10000 in
theorem times_l1_OP {fA : Bool} {kB : SK} (s : List UInt8) (at_ : Int) (ov : Bool) (A B : List (List UInt8)) (hB : B.length ≤ 2000) (x : List UInt8) (hx : x.length ≤ 1000000) (hy : ∀ y ∈ B, y.length ≤ 1000000) (i : Int) (Q : Out → Prop) : ∀ (n j : Nat) (D : List (List UInt8)), j + n = B.length → D.length + n ≤ 1000000 →
    Q (.nrm, [(2, .p (.sl kB 1 (strs B))), (7, .own 2 (D ++ (B.drop j).map (x ++ ·)).length), (27, .own 1 A.length), (28, .p (.int .i64 (A.length : Int))), (29, .p (.int .i64 i))], [rdB s at_ ov, .row fA 1 (strs A), .row false 1 (strs (D ++ (B.drop j).map (x ++ ·)))]) →
    Wp Γ glob_reader_times_l1 [(2, .p (.sl kB 1 (strs B))), (7, .own 2 D.length), (9, .p (.str x)), (27, .own 1 A.length), (28, .p (.int .i64 (A.length : Int))), (29, .p (.int .i64 i)), (33, .p (.sl kB 1 (strs B))), (34, .p (.int .i64 (B.length : Int))), (35, .p (.int .i64 (j : Int)))] [rdB s at_ ov, .row fA 1 (strs A), .row false 1 (strs D)] (InBlk [2, 7, 27, 28, 29] 2 Q) := by
  intro n
  induction n with
  | zero =>
    intro j D hj hD hQ
    obtain rfl : j = B.length := by omega
    rw [List.drop_length, List.map_nil, List.append_nil] at hQ
    rw [W_loop (L := glob_reader_times_l1) rfl]
    simp (disch := first | assumption | omega | decide | (simp only [List.length_cons, List.length_nil, List.length_append, List.length_replicate, List.length_map, List.length_set, List.length_take, List.length_drop, strs_len, ints_len, bools_len, aggs_len, vpv_len]; done) | (simp only [List.length_cons, List.length_nil, List.length_append, List.length_replicate, List.length_map, List.length_set, List.length_take, List.length_drop, strs_len, ints_len, bools_len, aggs_len, vpv_len]; omega)) only [go_sem]
    exact hQ
  | succ n ih =>
    intro j D hj hD hQ
    have hlt : j < B.length := by omega
    have hyj := hy _ (getD_mem hlt)
    have ih := ih (j + 1) (D ++ [x ++ B.getD j []]) (by omega) (by simp; omega) (by
      rw [map_drop1 hlt] at hQ
      rw [List.append_assoc]
      exact hQ)
    rw [List.length_append] at ih
    rw [W_loop (L := glob_reader_times_l1) rfl]
    simp (disch := first | assumption | omega | decide | (simp only [List.length_cons, List.length_nil, List.length_append, List.length_replicate, List.length_map, List.length_set, List.length_take, List.length_drop, strs_len, ints_len, bools_len, aggs_len, vpv_len]; done) | (simp only [List.length_cons, List.length_nil, List.length_append, List.length_replicate, List.length_map, List.length_set, List.length_take, List.length_drop, strs_len, ints_len, bools_len, aggs_len, vpv_len]; omega)) only [go_sem]
    exact ih
set_option maxRecDepth 10000 in
theorem times_l2_OP {fA : Bool} {kB : SK} (s : List UInt8) (at_ : Int) (ov : Bool) (A B : List (List UInt8)) (hA : A.length ≤ 512) (hB : B.length ≤ 2000) (hx : ∀ x ∈ A, x.length ≤ 1000000) (hy : ∀ y ∈ B, y.length ≤ 1000000) (Q : Out → Prop) : ∀ (n i : Nat) (D : List (List UInt8)), i + n = A.length → D.length + (prodL (A.drop i) B).length ≤ 512 →
    Q (.nrm, [(7, .own 2 (D ++ prodL (A.drop i) B).length)], [rdB s at_ ov, .row fA 1 (strs A), .row false 1 (strs (D ++ prodL (A.drop i) B))]) →
    Wp Γ glob_reader_times_l2 [(2, .p (.sl kB 1 (strs B))), (7, .own 2 D.length), (27, .own 1 A.length), (28, .p (.int .i64 (A.length : Int))), (29, .p (.int .i64 (i : Int)))] [rdB s at_ ov, .row fA 1 (strs A), .row false 1 (strs D)] (InBlk [7] 0 Q) := by
  intro n
  induction n with
  | zero =>
    intro i D hi hD hQ
    obtain rfl : i = A.length := by omega
    rw [prodL_end, List.append_nil] at hQ
    rw [W_loop (L := glob_reader_times_l2) rfl]
    simp (disch := first | assumption | omega | decide | (simp only [List.length_cons, List.length_nil, List.length_append, List.length_replicate, List.length_map, List.length_set, List.length_take, List.length_drop, strs_len, ints_len, bools_len, aggs_len, vpv_len]; done) | (simp only [List.length_cons, List.length_nil, List.length_append, List.length_replicate, List.length_map, List.length_set, List.length_take, List.length_drop, strs_len, ints_len, bools_len, aggs_len, vpv_len]; omega)) only [go_sem]
    exact hQ
  | succ n ih =>
    intro i D hi hD hQ
    have hlt : i < A.length := by omega
    have hxi := hx _ (getD_mem hlt)
    rw [prodL_drop hlt, List.length_append, List.length_map] at hD
    have ih := ih (i + 1) (D ++ B.map (A.getD i [] ++ ·)) (by omega) (by rw [List.length_append, List.length_map]; omega) (by
      rw [prodL_drop hlt] at hQ
      rw [List.append_assoc]
      exact hQ)
    rw [W_loop (L := glob_reader_times_l2) rfl]
    simp (disch := first | assumption | omega | decide | (simp only [List.length_cons, List.length_nil, List.length_append, List.length_replicate, List.length_map, List.length_set, List.length_take, List.length_drop, strs_len, ints_len, bools_len, aggs_len, vpv_len]; done) | (simp only [List.length_cons, List.length_nil, List.length_append, List.length_replicate, List.length_map, List.length_set, List.length_take, List.length_drop, strs_len, ints_len, bools_len, aggs_len, vpv_len]; omega)) only [go_sem]
    refine times_l1_OP s at_ ov A B hB (A.getD i []) hxi hy i _ B.length 0 D (by omega) (by omega) ?_
    rw [List.drop_zero]
    simp (disch := first | assumption | omega | decide | (simp only [List.length_cons, List.length_nil, List.length_append, List.length_replicate, List.length_map, List.length_set, List.length_take, List.length_drop, strs_len, ints_len, bools_len, aggs_len, vpv_len]; done) | (simp only [List.length_cons, List.length_nil, List.length_append, List.length_replicate, List.length_map, List.length_set, List.length_take, List.length_drop, strs_len, ints_len, bools_len, aggs_len, vpv_len]; omega)) only [go_sem]
    exact ih
set_option maxRecDepth 10000 in
theorem resM_times_OP {fA : Bool} {kB : SK} (s : List UInt8) (at_ : Int) (A B : List (List UInt8)) (hA : A.length ≤ 512) (hB : B.length ≤ 2000) (hAB : A.length * B.length ≤ 512) (hx : ∀ x ∈ A, x.length ≤ 1000000) (hy : ∀ y ∈ B, y.length ≤ 1000000) :
    resM Γ 2 51 [.bx 0 0, .own 1 A.length, .p (.sl kB 1 (strs B))] [rdB s at_ false, .row fA 1 (strs A)] = some ([.own 2 (prodL A B).length], [rdB s at_ false, .row fA 1 (strs A), .row false 1 (strs (prodL A B))]) := by
  obtain ⟨hp0, hp1⟩ := prod_boundG hA hB
  have hp2 : (A.length : Int) * (B.length : Int) ≤ 512 := prod_cast (by omega)
  refine resM_code (fn := glob_reader_times) rfl rfl ?_
  simp (disch := first | assumption | omega | decide | (simp only [List.length_cons, List.length_nil, List.length_append, List.length_replicate, List.length_map, List.length_set, List.length_take, List.length_drop, strs_len, ints_len, bools_len, aggs_len, vpv_len]; done) | (simp only [List.length_cons, List.length_nil, List.length_append, List.length_replicate, List.length_map, List.length_set, List.length_take, List.length_drop, strs_len, ints_len, bools_len, aggs_len, vpv_len]; omega)) only [go_sem, glob_reader_times]
  refine times_l2_OP s at_ false A B hA hB hx hy _ A.length 0 [] (by omega) (by rw [List.drop_zero, prodL_len]; simpa using hAB) ?_
  rw [List.drop_zero, List.nil_append]
  simp (disch := first | assumption | omega | decide | (simp only [List.length_cons, List.length_nil, List.length_append, List.length_replicate, List.length_map, List.length_set, List.length_take, List.length_drop, strs_len, ints_len, bools_len, aggs_len, vpv_len]; done) | (simp only [List.length_cons, List.length_nil, List.length_append, List.length_replicate, List.length_map, List.length_set, List.length_take, List.length_drop, strs_len, ints_len, bools_len, aggs_len, vpv_len]; omega)) only [go_sem]
set_option maxRecDepth 10000 in
theorem resM_timesO_OP {fA : Bool} {kB : SK} (s : List UInt8) (at_ : Int) (A B : List (List UInt8)) (hA : A.length ≤ 512) (hB : B.length ≤ 2000) {ov : Bool} (h : ov = true ∨ 512 < A.length * B.length) :
    resM Γ 2 51 [.bx 0 0, .own 1 A.length, .p (.sl kB 1 (strs B))] [rdB s at_ ov, .row fA 1 (strs A)] = some ([.p (.sl .nil 1 [])], [rdB s at_ true, .row fA 1 (strs A)]) := by
  obtain ⟨hp0, hp1⟩ := prod_boundG hA hB
  refine resM_code (fn := glob_reader_times) rfl rfl ?_
  cases ov
  · have hp2 : 512 < (A.length : Int) * (B.length : Int) := by
      rcases h with h | h
      · cases h
      · exact prod_cast2 (by omega)
    simp (disch := first | assumption | omega | decide | (simp only [List.length_cons, List.length_nil, List.length_append, List.length_replicate, List.length_map, List.length_set, List.length_take, List.length_drop, strs_len, ints_len, bools_len, aggs_len, vpv_len]; done) | (simp only [List.length_cons, List.length_nil, List.length_append, List.length_replicate, List.length_map, List.length_set, List.length_take, List.length_drop, strs_len, ints_len, bools_len, aggs_len, vpv_len]; omega)) only [go_sem, glob_reader_times]
  · simp (disch := first | assumption | omega | decide | (simp only [List.length_cons, List.length_nil, List.length_append, List.length_replicate, List.length_map, List.length_set, List.length_take, List.length_drop, strs_len, ints_len, bools_len, aggs_len, vpv_len]; done) | (simp only [List.length_cons, List.length_nil, List.length_append, List.length_replicate, List.length_map, List.length_set, List.length_take, List.length_drop, strs_len, ints_len, bools_len, aggs_len, vpv_len]; omega)) only [go_sem, glob_reader_times]


set_option maxRecDepth 10000 in
theorem times_l1_PO {kA : SK} {fB : Bool} (s : List UInt8) (at_ : Int) (ov : Bool) (A B : List (List UInt8)) (hB : B.length ≤ 2000) (x : List UInt8) (hx : x.length ≤ 1000000) (hy : ∀ y ∈ B, y.length ≤ 1000000) (i : Int) (Q : Out → Prop) : ∀ (n j : Nat) (D : List (List UInt8)), j + n = B.length → D.length + n ≤ 1000000 →
    Q (.nrm, [(2, .own 1 B.length), (7, .own 2 (D ++ (B.drop j).map (x ++ ·)).length), (27, .p (.sl kA 1 (strs A))), (28, .p (.int .i64 (A.length : Int))), (29, .p (.int .i64 i))], [rdB s at_ ov, .row fB 1 (strs B), .row false 1 (strs (D ++ (B.drop j).map (x ++ ·)))]) →
    Wp Γ glob_reader_times_l1 [(2, .own 1 B.length), (7, .own 2 D.length), (9, .p (.str x)), (27, .p (.sl kA 1 (strs A))), (28, .p (.int .i64 (A.length : Int))), (29, .p (.int .i64 i)), (33, .own 1 B.length), (34, .p (.int .i64 (B.length : Int))), (35, .p (.int .i64 (j : Int)))] [rdB s at_ ov, .row fB 1 (strs B), .row false 1 (strs D)] (InBlk [2, 7, 27, 28, 29] 2 Q) := by
  intro n
  induction n with
  | zero =>
    intro j D hj hD hQ
    obtain rfl : j = B.length := by omega
    rw [List.drop_length, List.map_nil, List.append_nil] at hQ
    rw [W_loop (L := glob_reader_times_l1) rfl]
    simp (disch := first | assumption | omega | decide | (simp only [List.length_cons, List.length_nil, List.length_append, List.length_replicate, List.length_map, List.length_set, List.length_take, List.length_drop, strs_len, ints_len, bools_len, aggs_len, vpv_len]; done) | (simp only [List.length_cons, List.length_nil, List.length_append, List.length_replicate, List.length_map, List.length_set, List.length_take, List.length_drop, strs_len, ints_len, bools_len, aggs_len, vpv_len]; omega)) only [go_sem]
    exact hQ
  | succ n ih =>
    intro j D hj hD hQ
    have hlt : j < B.length := by omega
    have hyj := hy _ (getD_mem hlt)
    have ih := ih (j + 1) (D ++ [x ++ B.getD j []]) (by omega) (by simp; omega) (by
      rw [map_drop1 hlt] at hQ
      rw [List.append_assoc]
      exact hQ)
    rw [List.length_append] at ih
    rw [W_loop (L := glob_reader_times_l1) rfl]
    simp (disch := first | assumption | omega | decide | (simp only [List.length_cons, List.length_nil, List.length_append, List.length_replicate, List.length_map, List.length_set, List.length_take, List.length_drop, strs_len, ints_len, bools_len, aggs_len, vpv_len]; done) | (simp only [List.length_cons, List.length_nil, List.length_append, List.length_replicate, List.length_map, List.length_set, List.length_take, List.length_drop, strs_len, ints_len, bools_len, aggs_len, vpv_len]; omega)) only [go_sem]
    exact ih
set_option maxRecDepth 10000 in
theorem times_l2_PO {kA : SK} {fB : Bool} (s : List UInt8) (at_ : Int) (ov : Bool) (A B : List (List UInt8)) (hA : A.length ≤ 512) (hB : B.length ≤ 2000) (hx : ∀ x ∈ A, x.length ≤ 1000000) (hy : ∀ y ∈ B, y.length ≤ 1000000) (Q : Out → Prop) : ∀ (n i : Nat) (D : List (List UInt8)), i + n = A.length → D.length + (prodL (A.drop i) B).length ≤ 512 →
    Q (.nrm, [(7, .own 2 (D ++ prodL (A.drop i) B).length)], [rdB s at_ ov, .row fB 1 (strs B), .row false 1 (strs (D ++ prodL (A.drop i) B))]) →
    Wp Γ glob_reader_times_l2 [(2, .own 1 B.length), (7, .own 2 D.length), (27, .p (.sl kA 1 (strs A))), (28, .p (.int .i64 (A.length : Int))), (29, .p (.int .i64 (i : Int)))] [rdB s at_ ov, .row fB 1 (strs B), .row false 1 (strs D)] (InBlk [7] 0 Q) := by
  intro n
  induction n with
  | zero =>
    intro i D hi hD hQ
    obtain rfl : i = A.length := by omega
    rw [prodL_end, List.append_nil] at hQ
    rw [W_loop (L := glob_reader_times_l2) rfl]
    simp (disch := first | assumption | omega | decide | (simp only [List.length_cons, List.length_nil, List.length_append, List.length_replicate, List.length_map, List.length_set, List.length_take, List.length_drop, strs_len, ints_len, bools_len, aggs_len, vpv_len]; done) | (simp only [List.length_cons, List.length_nil, List.length_append, List.length_replicate, List.length_map, List.length_set, List.length_take, List.length_drop, strs_len, ints_len, bools_len, aggs_len, vpv_len]; omega)) only [go_sem]
    exact hQ
  | succ n ih =>
    intro i D hi hD hQ
    have hlt : i < A.length := by omega
    have hxi := hx _ (getD_mem hlt)
    rw [prodL_drop hlt, List.length_append, List.length_map] at hD
    have ih := ih (i + 1) (D ++ B.map (A.getD i [] ++ ·)) (by omega) (by rw [List.length_append, List.length_map]; omega) (by
      rw [prodL_drop hlt] at hQ
      rw [List.append_assoc]
      exact hQ)
    rw [W_loop (L := glob_reader_times_l2) rfl]
    simp (disch := first | assumption | omega | decide | (simp only [List.length_cons, List.length_nil, List.length_append, List.length_replicate, List.length_map, List.length_set, List.length_take, List.length_drop, strs_len, ints_len, bools_len, aggs_len, vpv_len]; done) | (simp only [List.length_cons, List.length_nil, List.length_append, List.length_replicate, List.length_map, List.length_set, List.length_take, List.length_drop, strs_len, ints_len, bools_len, aggs_len, vpv_len]; omega)) only [go_sem]
    refine times_l1_PO s at_ ov A B hB (A.getD i []) hxi hy i _ B.length 0 D (by omega) (by omega) ?_
    rw [List.drop_zero]
    simp (disch := first | assumption | omega | decide | (simp only [List.length_cons, List.length_nil, List.length_append, List.length_replicate, List.length_map, List.length_set, List.length_take, List.length_drop, strs_len, ints_len, bools_len, aggs_len, vpv_len]; done) | (simp only [List.length_cons, List.length_nil, List.length_append, List.length_replicate, List.length_map, List.length_set, List.length_take, List.length_drop, strs_len, ints_len, bools_len, aggs_len, vpv_len]; omega)) only [go_sem]
    exact ih
set_option maxRecDepth 10000 in
theorem resM_times_PO {kA : SK} {fB : Bool} (s : List UInt8) (at_ : Int) (A B : List (List UInt8)) (hA : A.length ≤ 512) (hB : B.length ≤ 2000) (hAB : A.length * B.length ≤ 512) (hx : ∀ x ∈ A, x.length ≤ 1000000) (hy : ∀ y ∈ B, y.length ≤ 1000000) :
    resM Γ 2 51 [.bx 0 0, .p (.sl kA 1 (strs A)), .own 1 B.length] [rdB s at_ false, .row fB 1 (strs B)] = some ([.own 2 (prodL A B).length], [rdB s at_ false, .row fB 1 (strs B), .row false 1 (strs (prodL A B))]) := by
  obtain ⟨hp0, hp1⟩ := prod_boundG hA hB
  have hp2 : (A.length : Int) * (B.length : Int) ≤ 512 := prod_cast (by omega)
  refine resM_code (fn := glob_reader_times) rfl rfl ?_
  simp (disch := first | assumption | omega | decide | (simp only [List.length_cons, List.length_nil, List.length_append, List.length_replicate, List.length_map, List.length_set, List.length_take, List.length_drop, strs_len, ints_len, bools_len, aggs_len, vpv_len]; done) | (simp only [List.length_cons, List.length_nil, List.length_append, List.length_replicate, List.length_map, List.length_set, List.length_take, List.length_drop, strs_len, ints_len, bools_len, aggs_len, vpv_len]; omega)) only [go_sem, glob_reader_times]
  refine times_l2_PO s at_ false A B hA hB hx hy _ A.length 0 [] (by omega) (by rw [List.drop_zero, prodL_len]; simpa using hAB) ?_
  rw [List.drop_zero, List.nil_append]
  simp (disch := first | assumption | omega | decide | (simp only [List.length_cons, List.length_nil, List.length_append, List.length_replicate, List.length_map, List.length_set, List.length_take, List.length_drop, strs_len, ints_len, bools_len, aggs_len, vpv_len]; done) | (simp only [List.length_cons, List.length_nil, List.length_append, List.length_replicate, List.length_map, List.length_set, List.length_take, List.length_drop, strs_len, ints_len, bools_len, aggs_len, vpv_len]; omega)) only [go_sem]
set_option maxRecDepth 10000 in
theorem resM_timesO_PO {kA : SK} {fB : Bool} (s : List UInt8) (at_ : Int) (A B : List (List UInt8)) (hA : A.length ≤ 512) (hB : B.length ≤ 2000) {ov : Bool} (h : ov = true ∨ 512 < A.length * B.length) :
    resM Γ 2 51 [.bx 0 0, .p (.sl kA 1 (strs A)), .own 1 B.length] [rdB s at_ ov, .row fB 1 (strs B)] = some ([.p (.sl .nil 1 [])], [rdB s at_ true, .row fB 1 (strs B)]) := by
  obtain ⟨hp0, hp1⟩ := prod_boundG hA hB
  refine resM_code (fn := glob_reader_times) rfl rfl ?_
  cases ov
  · have hp2 : 512 < (A.length : Int) * (B.length : Int) := by
      rcases h with h | h
      · cases h
      · exact prod_cast2 (by omega)
    simp (disch := first | assumption | omega | decide | (simp only [List.length_cons, List.length_nil, List.length_append, List.length_replicate, List.length_map, List.length_set, List.length_take, List.length_drop, strs_len, ints_len, bools_len, aggs_len, vpv_len]; done) | (simp only [List.length_cons, List.length_nil, List.length_append, List.length_replicate, List.length_map, List.length_set, List.length_take, List.length_drop, strs_len, ints_len, bools_len, aggs_len, vpv_len]; omega)) only [go_sem, glob_reader_times]
  · simp (disch := first | assumption | omega | decide | (simp only [List.length_cons, List.length_nil, List.length_append, List.length_replicate, List.length_map, List.length_set, List.length_take, List.length_drop, strs_len, ints_len, bools_len, aggs_len, vpv_len]; done) | (simp only [List.length_cons, List.length_nil, List.length_append, List.length_replicate, List.length_map, List.length_set, List.length_take, List.length_drop, strs_len, ints_len, bools_len, aggs_len, vpv_len]; omega)) only [go_sem, glob_reader_times]


set_option maxRecDepth 10000 in
theorem times_l1_OO {fA : Bool} {fB : Bool} (s : List UInt8) (at_ : Int) (ov : Bool) (A B : List (List UInt8)) (hB : B.length ≤ 2000) (x : List UInt8) (hx : x.length ≤ 1000000) (hy : ∀ y ∈ B, y.length ≤ 1000000) (i : Int) (Q : Out → Prop) : ∀ (n j : Nat) (D : List (List UInt8)), j + n = B.length → D.length + n ≤ 1000000 →
    Q (.nrm, [(2, .own 2 B.length), (7, .own 3 (D ++ (B.drop j).map (x ++ ·)).length), (27, .own 1 A.length), (28, .p (.int .i64 (A.length : Int))), (29, .p (.int .i64 i))], [rdB s at_ ov, .row fA 1 (strs A), .row fB 1 (strs B), .row false 1 (strs (D ++ (B.drop j).map (x ++ ·)))]) →
    Wp Γ glob_reader_times_l1 [(2, .own 2 B.length), (7, .own 3 D.length), (9, .p (.str x)), (27, .own 1 A.length), (28, .p (.int .i64 (A.length : Int))), (29, .p (.int .i64 i)), (33, .own 2 B.length), (34, .p (.int .i64 (B.length : Int))), (35, .p (.int .i64 (j : Int)))] [rdB s at_ ov, .row fA 1 (strs A), .row fB 1 (strs B), .row false 1 (strs D)] (InBlk [2, 7, 27, 28, 29] 2 Q) := by
  intro n
  induction n with
  | zero =>
    intro j D hj hD hQ
    obtain rfl : j = B.length := by omega
    rw [List.drop_length, List.map_nil, List.append_nil] at hQ
    rw [W_loop (L := glob_reader_times_l1) rfl]
    simp (disch := first | assumption | omega | decide | (simp only [List.length_cons, List.length_nil, List.length_append, List.length_replicate, List.length_map, List.length_set, List.length_take, List.length_drop, strs_len, ints_len, bools_len, aggs_len, vpv_len]; done) | (simp only [List.length_cons, List.length_nil, List.length_append, List.length_replicate, List.length_map, List.length_set, List.length_take, List.length_drop, strs_len, ints_len, bools_len, aggs_len, vpv_len]; omega)) only [go_sem]
    exact hQ
  | succ n ih =>
    intro j D hj hD hQ
    have hlt : j < B.length := by omega
    have hyj := hy _ (getD_mem hlt)
    have ih := ih (j + 1) (D ++ [x ++ B.getD j []]) (by omega) (by simp; omega) (by
      rw [map_drop1 hlt] at hQ
      rw [List.append_assoc]
      exact hQ)
    rw [List.length_append] at ih
    rw [W_loop (L := glob_reader_times_l1) rfl]
    simp (disch := first | assumption | omega | decide | (simp only [List.length_cons, List.length_nil, List.length_append, List.length_replicate, List.length_map, List.length_set, List.length_take, List.length_drop, strs_len, ints_len, bools_len, aggs_len, vpv_len]; done) | (simp only [List.length_cons, List.length_nil, List.length_append, List.length_replicate, List.length_map, List.length_set, List.length_take, List.length_drop, strs_len, ints_len, bools_len, aggs_len, vpv_len]; omega)) only [go_sem]
    exact ih
set_option maxRecDepth 10000 in
theorem times_l2_OO {fA : Bool} {fB : Bool} (s : List UInt8) (at_ : Int) (ov : Bool) (A B : List (List UInt8)) (hA : A.length ≤ 512) (hB : B.length ≤ 2000) (hx : ∀ x ∈ A, x.length ≤ 1000000) (hy : ∀ y ∈ B, y.length ≤ 1000000) (Q : Out → Prop) : ∀ (n i : Nat) (D : List (List UInt8)), i + n = A.length → D.length + (prodL (A.drop i) B).length ≤ 512 →
    Q (.nrm, [(7, .own 3 (D ++ prodL (A.drop i) B).length)], [rdB s at_ ov, .row fA 1 (strs A), .row fB 1 (strs B), .row false 1 (strs (D ++ prodL (A.drop i) B))]) →
    Wp Γ glob_reader_times_l2 [(2, .own 2 B.length), (7, .own 3 D.length), (27, .own 1 A.length), (28, .p (.int .i64 (A.length : Int))), (29, .p (.int .i64 (i : Int)))] [rdB s at_ ov, .row fA 1 (strs A), .row fB 1 (strs B), .row false 1 (strs D)] (InBlk [7] 0 Q) := by
  intro n
  induction n with
  | zero =>
    intro i D hi hD hQ
    obtain rfl : i = A.length := by omega
    rw [prodL_end, List.append_nil] at hQ
    rw [W_loop (L := glob_reader_times_l2) rfl]
    simp (disch := first | assumption | omega | decide | (simp only [List.length_cons, List.length_nil, List.length_append, List.length_replicate, List.length_map, List.length_set, List.length_take, List.length_drop, strs_len, ints_len, bools_len, aggs_len, vpv_len]; done) | (simp only [List.length_cons, List.length_nil, List.length_append, List.length_replicate, List.length_map, List.length_set, List.length_take, List.length_drop, strs_len, ints_len, bools_len, aggs_len, vpv_len]; omega)) only [go_sem]
    exact hQ
  | succ n ih =>
    intro i D hi hD hQ
    have hlt : i < A.length := by omega
    have hxi := hx _ (getD_mem hlt)
    rw [prodL_drop hlt, List.length_append, List.length_map] at hD
    have ih := ih (i + 1) (D ++ B.map (A.getD i [] ++ ·)) (by omega) (by rw [List.length_append, List.length_map]; omega) (by
      rw [prodL_drop hlt] at hQ
      rw [List.append_assoc]
      exact hQ)
    rw [W_loop (L := glob_reader_times_l2) rfl]
    simp (disch := first | assumption | omega | decide | (simp only [List.length_cons, List.length_nil, List.length_append, List.length_replicate, List.length_map, List.length_set, List.length_take, List.length_drop, strs_len, ints_len, bools_len, aggs_len, vpv_len]; done) | (simp only [List.length_cons, List.length_nil, List.length_append, List.length_replicate, List.length_map, List.length_set, List.length_take, List.length_drop, strs_len, ints_len, bools_len, aggs_len, vpv_len]; omega)) only [go_sem]
    refine times_l1_OO s at_ ov A B hB (A.getD i []) hxi hy i _ B.length 0 D (by omega) (by omega) ?_
    rw [List.drop_zero]
    simp (disch := first | assumption | omega | decide | (simp only [List.length_cons, List.length_nil, List.length_append, List.length_replicate, List.length_map, List.length_set, List.length_take, List.length_drop, strs_len, ints_len, bools_len, aggs_len, vpv_len]; done) | (simp only [List.length_cons, List.length_nil, List.length_append, List.length_replicate, List.length_map, List.length_set, List.length_take, List.length_drop, strs_len, ints_len, bools_len, aggs_len, vpv_len]; omega)) only [go_sem]
    exact ih
set_option maxRecDepth 10000 in
theorem resM_times_OO {fA : Bool} {fB : Bool} (s : List UInt8) (at_ : Int) (A B : List (List UInt8)) (hA : A.length ≤ 512) (hB : B.length ≤ 2000) (hAB : A.length * B.length ≤ 512) (hx : ∀ x ∈ A, x.length ≤ 1000000) (hy : ∀ y ∈ B, y.length ≤ 1000000) :
    resM Γ 3 51 [.bx 0 0, .own 1 A.length, .own 2 B.length] [rdB s at_ false, .row fA 1 (strs A), .row fB 1 (strs B)] = some ([.own 3 (prodL A B).length], [rdB s at_ false, .row fA 1 (strs A), .row fB 1 (strs B), .row false 1 (strs (prodL A B))]) := by
  obtain ⟨hp0, hp1⟩ := prod_boundG hA hB
  have hp2 : (A.length : Int) * (B.length : Int) ≤ 512 := prod_cast (by omega)
  refine resM_code (fn := glob_reader_times) rfl rfl ?_
  simp (disch := first | assumption | omega | decide | (simp only [List.length_cons, List.length_nil, List.length_append, List.length_replicate, List.length_map, List.length_set, List.length_take, List.length_drop, strs_len, ints_len, bools_len, aggs_len, vpv_len]; done) | (simp only [List.length_cons, List.length_nil, List.length_append, List.length_replicate, List.length_map, List.length_set, List.length_take, List.length_drop, strs_len, ints_len, bools_len, aggs_len, vpv_len]; omega)) only [go_sem, glob_reader_times]
  refine times_l2_OO s at_ false A B hA hB hx hy _ A.length 0 [] (by omega) (by rw [List.drop_zero, prodL_len]; simpa using hAB) ?_
  rw [List.drop_zero, List.nil_append]
  simp (disch := first | assumption | omega | decide | (simp only [List.length_cons, List.length_nil, List.length_append, List.length_replicate, List.length_map, List.length_set, List.length_take, List.length_drop, strs_len, ints_len, bools_len, aggs_len, vpv_len]; done) | (simp only [List.length_cons, List.length_nil, List.length_append, List.length_replicate, List.length_map, List.length_set, List.length_take, List.length_drop, strs_len, ints_len, bools_len, aggs_len, vpv_len]; omega)) only [go_sem]
set_option maxRecDepth 10000 in
theorem resM_timesO_OO {fA : Bool} {fB : Bool} (s : List UInt8) (at_ : Int) (A B : List (List UInt8)) (hA : A.length ≤ 512) (hB : B.length ≤ 2000) {ov : Bool} (h : ov = true ∨ 512 < A.length * B.length) :
    resM Γ 3 51 [.bx 0 0, .own 1 A.length, .own 2 B.length] [rdB s at_ ov, .row fA 1 (strs A), .row fB 1 (strs B)] = some ([.p (.sl .nil 1 [])], [rdB s at_ true, .row fA 1 (strs A), .row fB 1 (strs B)]) := by
  obtain ⟨hp0, hp1⟩ := prod_boundG hA hB
  refine resM_code (fn := glob_reader_times) rfl rfl ?_
  cases ov
  · have hp2 : 512 < (A.length : Int) * (B.length : Int) := by
      rcases h with h | h
      · cases h
      · exact prod_cast2 (by omega)
    simp (disch := first | assumption | omega | decide | (simp only [List.length_cons, List.length_nil, List.length_append, List.length_replicate, List.length_map, List.length_set, List.length_take, List.length_drop, strs_len, ints_len, bools_len, aggs_len, vpv_len]; done) | (simp only [List.length_cons, List.length_nil, List.length_append, List.length_replicate, List.length_map, List.length_set, List.length_take, List.length_drop, strs_len, ints_len, bools_len, aggs_len, vpv_len]; omega)) only [go_sem, glob_reader_times]
  · simp (disch := first | assumption | omega | decide | (simp only [List.length_cons, List.length_nil, List.length_append, List.length_replicate, List.length_map, List.length_set, List.length_take, List.length_drop, strs_len, ints_len, bools_len, aggs_len, vpv_len]; done) | (simp only [List.length_cons, List.length_nil, List.length_append, List.length_replicate, List.length_map, List.length_set, List.length_take, List.length_drop, strs_len, ints_len, bools_len, aggs_len, vpv_len]; omega)) only [go_sem, glob_reader_times]

end Ab
