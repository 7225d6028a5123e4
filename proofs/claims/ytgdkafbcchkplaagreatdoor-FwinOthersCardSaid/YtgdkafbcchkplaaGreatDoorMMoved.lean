import Derived.Test.YtgdkafbcchkplaaGreatDoorLMulDiv1
import Derived.Test.YtgdkafbcchkplaaGreatDoorLDig
import Derived.Test.YtgdkafbcchkplaaGreatDoorLLen
/- graticuleref1.MulDiv, whole; Div. -/
namespace Ab
open Go (IntKind BinOp UnOp)
theorem mul_low {x y : Int} (hx : 0 ≤ x ∧ x < 18446744073709551616) (hy : 0 ≤ y ∧ y < 18446744073709551616) :
    ((x / 4294967296 * (y % 4294967296) + x % 4294967296 * (y % 4294967296) / 4294967296) % 4294967296 + x % 4294967296 * (y / 4294967296)) % 4294967296 * 4294967296 + x % 4294967296 * (y % 4294967296) % 4294967296 = x * y % 18446744073709551616 := by
  obtain ⟨b1, b2, b3, b4, _, _⟩ := mul_halves hx hy
  have ex : x = 4294967296 * (x / 4294967296) + x % 4294967296 := by omega
  have ey : y = 4294967296 * (y / 4294967296) + y % 4294967296 := by omega
  have e : x * y = 18446744073709551616 * (x / 4294967296 * (y / 4294967296)) + 4294967296 * (x / 4294967296 * (y % 4294967296)) + 4294967296 * (x % 4294967296 * (y / 4294967296)) + x % 4294967296 * (y % 4294967296) := by
    generalize x / 4294967296 = x1 at *
    generalize x % 4294967296 = x0 at *
    generalize y / 4294967296 = y1 at *
    generalize y % 4294967296 = y0 at *
    rw [ex, ey, Int.add_mul, Int.mul_add, Int.mul_add, Int.mul_assoc, Int.mul_left_comm x1, ← Int.mul_assoc 4294967296, Int.mul_assoc 4294967296 x1 y0, Int.mul_left_comm x0 4294967296]
    omega
  rw [e]
  omega
theorem res_times {A B : Nat} (hA : A < 18446744073709551616) (hB : B < 18446744073709551616) : res Γ 168 [.int .u64 (A : Int), .int .u64 (B : Int)] = some [.int .u64 ((A * B / 18446744073709551616 : Nat) : Int), .int .u64 ((A * B % 18446744073709551616 : Nat) : Int)] := by
  obtain ⟨b1, b2, b3, b4, e, b5⟩ := mul_halves (x := (A : Int)) (y := (B : Int)) (by omega) (by omega)
  have lo := mul_low (x := (A : Int)) (y := (B : Int)) (by omega) (by omega)
  have c1 : ((A * B / 18446744073709551616 : Nat) : Int) = (A : Int) * B / 18446744073709551616 := by simp
  have c2 : ((A * B % 18446744073709551616 : Nat) : Int) = (A : Int) * B % 18446744073709551616 := by simp
  rw [← e] at b5 c1
  rw [← lo] at c2
  rw [c1, c2]
  generalize hw : ((A : Int) / 4294967296 * ((B : Int) % 4294967296) + (A : Int) % 4294967296 * ((B : Int) % 4294967296) / 4294967296) % 4294967296 + (A : Int) % 4294967296 * ((B : Int) / 4294967296) = w at *
  have hw2 : (A : Int) % 4294967296 * ((B : Int) / 4294967296) + ((A : Int) / 4294967296 * ((B : Int) % 4294967296) + (A : Int) % 4294967296 * ((B : Int) % 4294967296) / 4294967296) % 4294967296 = w := by omega
  have hw3 : 0 ≤ w ∧ w ≤ 18446744073709551615 := by omega
  have sh : ∀ x : Int, binAV .shl (.p (.int .u64 x)) (.p (.int .u64 32)) = some (.p (.int .u64 (IntKind.u64.wrap (x * 4294967296)))) := fun x => by rw [map_shl (by decide) (by decide)]; rfl
  have e1 : IntKind.u64.wrap (w * 4294967296) = ((4294967296 * (w % 4294967296).toNat : Nat) : Int) := by rw [wrap_u64m]; omega
  obtain ⟨z, hz⟩ : ∃ z : Nat, (z : Int) = (A : Int) % 4294967296 * ((B : Int) % 4294967296) % 4294967296 := ⟨((A : Int) % 4294967296 * ((B : Int) % 4294967296) % 4294967296).toNat, by omega⟩
  have orr := map_orN (H := 4294967296 * (w % 4294967296).toNat) (L := z) (by omega) (Nat.two_pow_add_eq_or_of_lt (i := 32) (b := z) (by omega) _).symm
  have e2 : w % 4294967296 * 4294967296 + (A : Int) % 4294967296 * ((B : Int) % 4294967296) % 4294967296 = ((4294967296 * (w % 4294967296).toNat + z : Nat) : Int) := by omega
  rw [e2]
  refine res_code (fn := r1_times) rfl rfl ?_
  simp (disch := first | assumption | omega | decide | (simp only [List.length_cons, List.length_nil, List.length_append, List.length_replicate, List.length_map, List.length_set, List.length_take, List.length_drop, strs_len, ints_len, bools_len, aggs_len, vpv_len]; done) | (simp only [List.length_cons, List.length_nil, List.length_append, List.length_replicate, List.length_map, List.length_set, List.length_take, List.length_drop, strs_len, ints_len, bools_len, aggs_len, vpv_len]; omega)) only [go_sem, r1_times, map_shr32, map_and32, sh, hw2, e1, ← hz, orr]
theorem res_r1MulDiv {a b c : Int} (ha : -9223372036854775808 ≤ a ∧ a ≤ 9223372036854775807) (hb : -9223372036854775808 ≤ b ∧ b ≤ 9223372036854775807) (hc : -9223372036854775808 ≤ c ∧ c ≤ 9223372036854775807) :
    res Γ 164 [.int .i64 a, .int .i64 b, .int .i64 c] = some (mdR (mdV a b c)) := by
  refine res_code (fn := r1_MulDiv) rfl rfl ?_
  by_cases hc0 : c = 0
  · rw [mdV_zero hc0]
    simp (disch := first | assumption | omega | decide | (simp only [List.length_cons, List.length_nil, List.length_append, List.length_replicate, List.length_map, List.length_set, List.length_take, List.length_drop, strs_len, ints_len, bools_len, aggs_len, vpv_len]; done) | (simp only [List.length_cons, List.length_nil, List.length_append, List.length_replicate, List.length_map, List.length_set, List.length_take, List.length_drop, strs_len, ints_len, bools_len, aggs_len, vpv_len]; omega)) only [go_sem, r1_MulDiv, mdR]
  have s1 := res_r1size ha
  have s2 := res_r1size hb
  have s3 := res_r1size hc
  have no := @mdV_no a b c hc0
  have yes := @mdV_yes a b c hc0
  obtain ⟨A, hA⟩ : ∃ A, A = a.natAbs := ⟨_, rfl⟩
  obtain ⟨B, hB⟩ : ∃ B, B = b.natAbs := ⟨_, rfl⟩
  obtain ⟨C, hC⟩ : ∃ C, C = c.natAbs := ⟨_, rfl⟩
  rw [← hA] at s1 no yes
  rw [← hB] at s2 no yes
  rw [← hC] at s3 no yes
  obtain ⟨P, hP⟩ : ∃ P, P = A * B := ⟨_, rfl⟩
  have m := res_times (A := A) (B := B) (by omega) (by omega)
  rw [← hP] at m no yes
  have hCpos : 0 < C := by omega
  have rl := Nat.mod_lt P hCpos
  have hP2 : P < 2 ^ 128 := by
    rw [hP]
    exact Nat.lt_of_le_of_lt (Nat.mul_le_mul (show A ≤ 9223372036854775808 by omega) (show B ≤ 9223372036854775808 by omega)) (by decide)
  have P0 : P / 2 ^ 128 = 0 := Nat.div_eq_of_lt hP2
  have loop := md_l1_ok (a := .int .i64 a) (b := .int .i64 b) (c := .int .i64 c) (h := P / 18446744073709551616) (l := P % 18446744073709551616) (d := C) (P := P) (by omega) (Nat.mod_lt _ (by decide)) (Nat.div_add_mod' P _).symm (by omega) 128
  rw [P0, Nat.zero_div, Nat.zero_mod, Nat.zero_mod] at loop
  simp (disch := first | assumption | omega | decide | (simp only [List.length_cons, List.length_nil, List.length_append, List.length_replicate, List.length_map, List.length_set, List.length_take, List.length_drop, strs_len, ints_len, bools_len, aggs_len, vpv_len]; done) | (simp only [List.length_cons, List.length_nil, List.length_append, List.length_replicate, List.length_map, List.length_set, List.length_take, List.length_drop, strs_len, ints_len, bools_len, aggs_len, vpv_len]; omega)) only [go_sem, r1_MulDiv, s1, s2, s3, m]
  refine loop _ (by decide) ?_
  by_cases hO : 9223372036854775808 ≤ P / C
  · have eo : decide (9223372036854775808 ≤ P / C) = true := decide_eq_true hO
    rw [no (by unfold mdQ; split <;> omega)]
    by_cases hr : C - P % C ≤ P % C
    · simp (disch := first | assumption | omega | decide | (simp only [List.length_cons, List.length_nil, List.length_append, List.length_replicate, List.length_map, List.length_set, List.length_take, List.length_drop, strs_len, ints_len, bools_len, aggs_len, vpv_len]; done) | (simp only [List.length_cons, List.length_nil, List.length_append, List.length_replicate, List.length_map, List.length_set, List.length_take, List.length_drop, strs_len, ints_len, bools_len, aggs_len, vpv_len]; omega)) only [go_sem, mdR, eo]
    · simp (disch := first | assumption | omega | decide | (simp only [List.length_cons, List.length_nil, List.length_append, List.length_replicate, List.length_map, List.length_set, List.length_take, List.length_drop, strs_len, ints_len, bools_len, aggs_len, vpv_len]; done) | (simp only [List.length_cons, List.length_nil, List.length_append, List.length_replicate, List.length_map, List.length_set, List.length_take, List.length_drop, strs_len, ints_len, bools_len, aggs_len, vpv_len]; omega)) only [go_sem, mdR, eo]
  have eo : decide (9223372036854775808 ≤ P / C) = false := decide_eq_false hO
  have em : P / C % 18446744073709551616 = P / C := Nat.mod_eq_of_lt (by omega)
  rw [em]
  by_cases hr : C - P % C ≤ P % C
  · have e : mdQ P C = P / C + 1 := by unfold mdQ; rw [if_pos hr]
    rw [e] at yes no
    by_cases hq2 : 4611686018427387904 < P / C + 1
    · rw [no hq2]
      simp (disch := first | assumption | omega | decide | (simp only [List.length_cons, List.length_nil, List.length_append, List.length_replicate, List.length_map, List.length_set, List.length_take, List.length_drop, strs_len, ints_len, bools_len, aggs_len, vpv_len]; done) | (simp only [List.length_cons, List.length_nil, List.length_append, List.length_replicate, List.length_map, List.length_set, List.length_take, List.length_drop, strs_len, ints_len, bools_len, aggs_len, vpv_len]; omega)) only [go_sem, mdR, eo]
    · rw [yes (by omega)]
      cases ea : decide (a < 0) <;> cases eb : decide (b < 0) <;> cases ec : decide (c < 0) <;> simp (disch := first | assumption | omega | decide | (simp only [List.length_cons, List.length_nil, List.length_append, List.length_replicate, List.length_map, List.length_set, List.length_take, List.length_drop, strs_len, ints_len, bools_len, aggs_len, vpv_len]; done) | (simp only [List.length_cons, List.length_nil, List.length_append, List.length_replicate, List.length_map, List.length_set, List.length_take, List.length_drop, strs_len, ints_len, bools_len, aggs_len, vpv_len]; omega)) only [go_sem, mdR, eo, ea, eb, ec] <;> simp
  · have e : mdQ P C = P / C := by unfold mdQ; rw [if_neg hr]
    rw [e] at yes no
    by_cases hq2 : 4611686018427387904 < P / C
    · rw [no hq2]
      simp (disch := first | assumption | omega | decide | (simp only [List.length_cons, List.length_nil, List.length_append, List.length_replicate, List.length_map, List.length_set, List.length_take, List.length_drop, strs_len, ints_len, bools_len, aggs_len, vpv_len]; done) | (simp only [List.length_cons, List.length_nil, List.length_append, List.length_replicate, List.length_map, List.length_set, List.length_take, List.length_drop, strs_len, ints_len, bools_len, aggs_len, vpv_len]; omega)) only [go_sem, mdR, eo]
    · rw [yes (by omega)]
      cases ea : decide (a < 0) <;> cases eb : decide (b < 0) <;> cases ec : decide (c < 0) <;> simp (disch := first | assumption | omega | decide | (simp only [List.length_cons, List.length_nil, List.length_append, List.length_replicate, List.length_map, List.length_set, List.length_take, List.length_drop, strs_len, ints_len, bools_len, aggs_len, vpv_len]; done) | (simp only [List.length_cons, List.length_nil, List.length_append, List.length_replicate, List.length_map, List.length_set, List.length_take, List.length_drop, strs_len, ints_len, bools_len, aggs_len, vpv_len]; omega)) only [go_sem, mdR, eo, ea, eb, ec] <;> simp
end Ab
/- Quotients of values; the mean of many. -/
namespace Ab
open Go (IntKind BinOp UnOp)
theorem divV_no1 {a b : Val} (h : knV a = false) : divV a b = (false, 0) := by unfold divV; rw [if_neg (by rw [h]; simp)]; rfl
theorem divV_no2 {a b : Val} (h : knV b = false) : divV a b = (false, 0) := by unfold divV; rw [if_neg (by rw [h]; simp)]; rfl
theorem divV_yes {a b : Val} (h : knV a = true) (h' : knV b = true) : divV a b = valV (mdV a.2 1000000 b.2) := by unfold divV; rw [if_pos ⟨h, h'⟩]
theorem res_valNo {n : Int} : res Γ 145 [.int .i64 n, .bool false] = some [.agg [.bool false, .int .i64 0]] := by
  refine res_code (fn := fixed_val) rfl rfl ?_
  simp (disch := first | assumption | omega | decide | (simp only [List.length_cons, List.length_nil, List.length_append, List.length_replicate, List.length_map, List.length_set, List.length_take, List.length_drop, strs_len, ints_len, bools_len, aggs_len, vpv_len]; done) | (simp only [List.length_cons, List.length_nil, List.length_append, List.length_replicate, List.length_map, List.length_set, List.length_take, List.length_drop, strs_len, ints_len, bools_len, aggs_len, vpv_len]; omega)) only [go_sem, fixed_val]
theorem res_valYes {n : Int} : res Γ 145 [.int .i64 n, .bool true] = some [.agg [.bool (ofV n).1, .int .i64 (ofV n).2]] := by
  refine res_code (fn := fixed_val) rfl rfl ?_
  simp (disch := first | assumption | omega | decide | (simp only [List.length_cons, List.length_nil, List.length_append, List.length_replicate, List.length_map, List.length_set, List.length_take, List.length_drop, strs_len, ints_len, bools_len, aggs_len, vpv_len]; done) | (simp only [List.length_cons, List.length_nil, List.length_append, List.length_replicate, List.length_map, List.length_set, List.length_take, List.length_drop, strs_len, ints_len, bools_len, aggs_len, vpv_len]; omega)) only [go_sem, fixed_val]
theorem res_fixedDiv (b : Bool) (n : Int) (c : Bool) (m : Int) : res Γ 138 [.agg [.bool b, .int .i64 n], .agg [.bool c, .int .i64 m]] = some [.agg [.bool (divV (b, n) (c, m)).1, .int .i64 (divV (b, n) (c, m)).2]] := by
  refine res_code (fn := fixed_Div) rfl rfl ?_
  cases h : knV (b, n)
  · simp (disch := first | assumption | omega | decide | (simp only [List.length_cons, List.length_nil, List.length_append, List.length_replicate, List.length_map, List.length_set, List.length_take, List.length_drop, strs_len, ints_len, bools_len, aggs_len, vpv_len]; done) | (simp only [List.length_cons, List.length_nil, List.length_append, List.length_replicate, List.length_map, List.length_set, List.length_take, List.length_drop, strs_len, ints_len, bools_len, aggs_len, vpv_len]; omega)) only [go_sem, fixed_Div, h, divV_no1 h]
  · cases h' : knV (c, m)
    · simp (disch := first | assumption | omega | decide | (simp only [List.length_cons, List.length_nil, List.length_append, List.length_replicate, List.length_map, List.length_set, List.length_take, List.length_drop, strs_len, ints_len, bools_len, aggs_len, vpv_len]; done) | (simp only [List.length_cons, List.length_nil, List.length_append, List.length_replicate, List.length_map, List.length_set, List.length_take, List.length_drop, strs_len, ints_len, bools_len, aggs_len, vpv_len]; omega)) only [go_sem, fixed_Div, h, h', divV_no2 h']
    · obtain ⟨_, g1, g2⟩ := knV_pair h
      obtain ⟨_, g3, g4⟩ := knV_pair h'
      have e := res_fixedMulDiv (a := n) (b := 1000000) (c := m) (by omega) (by decide) (by omega)
      rw [divV_yes h h']
      cases hm : mdV n 1000000 m with
      | none =>
        rw [hm] at e
        simp only [mdR] at e
        simp (disch := first | assumption | omega | decide | (simp only [List.length_cons, List.length_nil, List.length_append, List.length_replicate, List.length_map, List.length_set, List.length_take, List.length_drop, strs_len, ints_len, bools_len, aggs_len, vpv_len]; done) | (simp only [List.length_cons, List.length_nil, List.length_append, List.length_replicate, List.length_map, List.length_set, List.length_take, List.length_drop, strs_len, ints_len, bools_len, aggs_len, vpv_len]; omega)) only [go_sem, fixed_Div, h, h', e, res_valNo, valV, noV]
      | some q =>
        rw [hm] at e
        simp only [mdR] at e
        simp (disch := first | assumption | omega | decide | (simp only [List.length_cons, List.length_nil, List.length_append, List.length_replicate, List.length_map, List.length_set, List.length_take, List.length_drop, strs_len, ints_len, bools_len, aggs_len, vpv_len]; done) | (simp only [List.length_cons, List.length_nil, List.length_append, List.length_replicate, List.length_map, List.length_set, List.length_take, List.length_drop, strs_len, ints_len, bools_len, aggs_len, vpv_len]; omega)) only [go_sem, fixed_Div, h, h', e, res_valYes, valV]
theorem res_r1Div (b : Bool) (n : Int) (c : Bool) (m : Int) : res Γ 130 [.agg [.bool b, .int .i64 n], .agg [.bool c, .int .i64 m]] = some [.agg [.bool (divV (b, n) (c, m)).1, .int .i64 (divV (b, n) (c, m)).2]] := by
  refine res_code (fn := r1_Div) rfl rfl ?_
  cases h : knV (b, n)
  · simp (disch := first | assumption | omega | decide | (simp only [List.length_cons, List.length_nil, List.length_append, List.length_replicate, List.length_map, List.length_set, List.length_take, List.length_drop, strs_len, ints_len, bools_len, aggs_len, vpv_len]; done) | (simp only [List.length_cons, List.length_nil, List.length_append, List.length_replicate, List.length_map, List.length_set, List.length_take, List.length_drop, strs_len, ints_len, bools_len, aggs_len, vpv_len]; omega)) only [go_sem, r1_Div, h, divV_no1 h, Bool.false_and]
  · cases h' : knV (c, m)
    · simp (disch := first | assumption | omega | decide | (simp only [List.length_cons, List.length_nil, List.length_append, List.length_replicate, List.length_map, List.length_set, List.length_take, List.length_drop, strs_len, ints_len, bools_len, aggs_len, vpv_len]; done) | (simp only [List.length_cons, List.length_nil, List.length_append, List.length_replicate, List.length_map, List.length_set, List.length_take, List.length_drop, strs_len, ints_len, bools_len, aggs_len, vpv_len]; omega)) only [go_sem, r1_Div, h, h', divV_no2 h', Bool.and_false]
    · obtain ⟨_, g1, g2⟩ := knV_pair h
      obtain ⟨_, g3, g4⟩ := knV_pair h'
      have e := res_r1MulDiv (a := n) (b := 1000000) (c := m) (by omega) (by decide) (by omega)
      rw [divV_yes h h']
      cases hm : mdV n 1000000 m with
      | none =>
        rw [hm] at e
        simp only [mdR] at e
        simp (disch := first | assumption | omega | decide | (simp only [List.length_cons, List.length_nil, List.length_append, List.length_replicate, List.length_map, List.length_set, List.length_take, List.length_drop, strs_len, ints_len, bools_len, aggs_len, vpv_len]; done) | (simp only [List.length_cons, List.length_nil, List.length_append, List.length_replicate, List.length_map, List.length_set, List.length_take, List.length_drop, strs_len, ints_len, bools_len, aggs_len, vpv_len]; omega)) only [go_sem, r1_Div, h, h', e, valV, noV, Bool.and_true]
      | some q =>
        rw [hm] at e
        simp only [mdR] at e
        simp (disch := first | assumption | omega | decide | (simp only [List.length_cons, List.length_nil, List.length_append, List.length_replicate, List.length_map, List.length_set, List.length_take, List.length_drop, strs_len, ints_len, bools_len, aggs_len, vpv_len]; done) | (simp only [List.length_cons, List.length_nil, List.length_append, List.length_replicate, List.length_map, List.length_set, List.length_take, List.length_drop, strs_len, ints_len, bools_len, aggs_len, vpv_len]; omega)) only [go_sem, r1_Div, h, h', e, valV, Bool.and_true]
theorem res_fixedDivV (x y : Val) : res Γ 138 [.agg [.bool x.1, .int .i64 x.2], .agg [.bool y.1, .int .i64 y.2]] = some [.agg [.bool (divV x y).1, .int .i64 (divV x y).2]] := by
  obtain ⟨b, n⟩ := x; obtain ⟨c, m⟩ := y; exact res_fixedDiv b n c m
theorem res_r1DivV (x y : Val) : res Γ 130 [.agg [.bool x.1, .int .i64 x.2], .agg [.bool y.1, .int .i64 y.2]] = some [.agg [.bool (divV x y).1, .int .i64 (divV x y).2]] := by
  obtain ⟨b, n⟩ := x; obtain ⟨c, m⟩ := y; exact res_r1Div b n c m
theorem intV_small {n : Int} (h : 0 ≤ n ∧ n ≤ 1000000000) : intV n = (true, n * 1000000) := by unfold intV maxN; rw [if_pos (by omega)]
theorem res_fixedInt {n : Int} (h : 0 ≤ n ∧ n ≤ 1000000000) : res Γ 137 [.int .i64 n] = some [.agg [.bool (intV n).1, .int .i64 (intV n).2]] := by
  rw [intV_small h]
  refine res_code (fn := fixed_Int) rfl rfl ?_
  simp (disch := first | assumption | omega | decide | (simp only [List.length_cons, List.length_nil, List.length_append, List.length_replicate, List.length_map, List.length_set, List.length_take, List.length_drop, strs_len, ints_len, bools_len, aggs_len, vpv_len]; done) | (simp only [List.length_cons, List.length_nil, List.length_append, List.length_replicate, List.length_map, List.length_set, List.length_take, List.length_drop, strs_len, ints_len, bools_len, aggs_len, vpv_len]; omega)) only [go_sem, fixed_Int, ofV_in]
theorem res_r1Int {n : Int} (h : 0 ≤ n ∧ n ≤ 1000000000) : res Γ 129 [.int .i64 n] = some [.agg [.bool (intV n).1, .int .i64 (intV n).2]] := by
  rw [intV_small h]
  refine res_code (fn := r1_Int) rfl rfl ?_
  simp (disch := first | assumption | omega | decide | (simp only [List.length_cons, List.length_nil, List.length_append, List.length_replicate, List.length_map, List.length_set, List.length_take, List.length_drop, strs_len, ints_len, bools_len, aggs_len, vpv_len]; done) | (simp only [List.length_cons, List.length_nil, List.length_append, List.length_replicate, List.length_map, List.length_set, List.length_take, List.length_drop, strs_len, ints_len, bools_len, aggs_len, vpv_len]; omega)) only [go_sem, r1_Int, ofV_in]
theorem agg1_cons {l : List Val} {b : Val} {k : List Val} (h : knL l = b :: k) : aggV 1 l = divV (addV (b :: k)) (intV ((b :: k).length : Nat)) := by unfold aggV; rw [h]; exact if_pos rfl
theorem res_aggOf1 {kk : SK} (l : List Val) (hl : l.length < 1000000000) : res Γ 132 [.int .i64 1, .sl kk 2 (vpv l)] = some [.agg [.bool (aggV 1 l).1, .int .i64 (aggV 1 l).2]] := by
  have hk := knL_len l
  refine res_code (fn := agg_Of) rfl rfl ?_
  simp (disch := first | assumption | omega | decide | (simp only [List.length_cons, List.length_nil, List.length_append, List.length_replicate, List.length_map, List.length_set, List.length_take, List.length_drop, strs_len, ints_len, bools_len, aggs_len, vpv_len]; done) | (simp only [List.length_cons, List.length_nil, List.length_append, List.length_replicate, List.length_map, List.length_set, List.length_take, List.length_drop, strs_len, ints_len, bools_len, aggs_len, vpv_len]; omega)) only [go_sem, agg_Of]
  cases h : knL l with
  | nil =>
    simp (disch := first | assumption | omega | decide | (simp only [List.length_cons, List.length_nil, List.length_append, List.length_replicate, List.length_map, List.length_set, List.length_take, List.length_drop, strs_len, ints_len, bools_len, aggs_len, vpv_len]; done) | (simp only [List.length_cons, List.length_nil, List.length_append, List.length_replicate, List.length_map, List.length_set, List.length_take, List.length_drop, strs_len, ints_len, bools_len, aggs_len, vpv_len]; omega)) only [go_sem, agg2_nil h]
  | cons b k =>
    have e := agg1_cons h
    rw [h] at hk
    have ei := res_fixedInt (n := ((b :: k).length : Nat)) (by simp only [List.length_cons] at hk ⊢; omega)
    have ed := res_fixedDivV (addV (b :: k)) (intV ((b :: k).length : Nat))
    simp only [List.length_cons] at hk e ei ed
    simp (disch := first | assumption | omega | decide | (simp only [List.length_cons, List.length_nil, List.length_append, List.length_replicate, List.length_map, List.length_set, List.length_take, List.length_drop, strs_len, ints_len, bools_len, aggs_len, vpv_len]; done) | (simp only [List.length_cons, List.length_nil, List.length_append, List.length_replicate, List.length_map, List.length_set, List.length_take, List.length_drop, strs_len, ints_len, bools_len, aggs_len, vpv_len]; omega)) only [go_sem, e, valP, ei, ed]
theorem res_r6Of1 {kk : SK} (l : List Val) (hl : l.length < 1000000000) : res Γ 122 [.int .i64 1, .sl kk 2 (vpv l)] = some [.agg [.bool (aggV 1 l).1, .int .i64 (aggV 1 l).2]] := by
  have hk := knL_len l
  refine res_code (fn := r6_Of) rfl rfl ?_
  simp (disch := first | assumption | omega | decide | (simp only [List.length_cons, List.length_nil, List.length_append, List.length_replicate, List.length_map, List.length_set, List.length_take, List.length_drop, strs_len, ints_len, bools_len, aggs_len, vpv_len]; done) | (simp only [List.length_cons, List.length_nil, List.length_append, List.length_replicate, List.length_map, List.length_set, List.length_take, List.length_drop, strs_len, ints_len, bools_len, aggs_len, vpv_len]; omega)) only [go_sem, r6_Of]
  cases h : knL l with
  | nil =>
    simp (disch := first | assumption | omega | decide | (simp only [List.length_cons, List.length_nil, List.length_append, List.length_replicate, List.length_map, List.length_set, List.length_take, List.length_drop, strs_len, ints_len, bools_len, aggs_len, vpv_len]; done) | (simp only [List.length_cons, List.length_nil, List.length_append, List.length_replicate, List.length_map, List.length_set, List.length_take, List.length_drop, strs_len, ints_len, bools_len, aggs_len, vpv_len]; omega)) only [go_sem, agg2_nil h]
  | cons b k =>
    have e := agg1_cons h
    rw [h] at hk
    have ei := res_r1Int (n := ((b :: k).length : Nat)) (by simp only [List.length_cons] at hk ⊢; omega)
    have ed := res_r1DivV (addV (b :: k)) (intV ((b :: k).length : Nat))
    simp only [List.length_cons] at hk e ei ed
    simp (disch := first | assumption | omega | decide | (simp only [List.length_cons, List.length_nil, List.length_append, List.length_replicate, List.length_map, List.length_set, List.length_take, List.length_drop, strs_len, ints_len, bools_len, aggs_len, vpv_len]; done) | (simp only [List.length_cons, List.length_nil, List.length_append, List.length_replicate, List.length_map, List.length_set, List.length_take, List.length_drop, strs_len, ints_len, bools_len, aggs_len, vpv_len]; omega)) only [go_sem, valP]
    refine r6_Of_l1_ok 1 b k (by omega) _ _ k.length 0 (by omega) ?_
    simp (disch := first | assumption | omega | decide | (simp only [List.length_cons, List.length_nil, List.length_append, List.length_replicate, List.length_map, List.length_set, List.length_take, List.length_drop, strs_len, ints_len, bools_len, aggs_len, vpv_len]; done) | (simp only [List.length_cons, List.length_nil, List.length_append, List.length_replicate, List.length_map, List.length_set, List.length_take, List.length_drop, strs_len, ints_len, bools_len, aggs_len, vpv_len]; omega)) only [go_sem, e, ei, ed]
end Ab
/- What windows are by their names. -/
namespace Ab
open Go (IntKind BinOp UnOp)
theorem res_windowMin {kk : SK} (l : List Val) (hl : l.length < 1000000000) : res Γ 106 [.str [109, 111, 118, 105, 110, 103, 77, 105, 110], .sl kk 2 (vpv l)] = some [.agg [.bool (aggV 5 l).1, .int .i64 (aggV 5 l).2], .bool true] := by
  have e := res_r6Of (kk := kk) 5 (by omega) l hl
  refine res_code (fn := r21_window) rfl rfl ?_
  simp (disch := first | assumption | omega | decide | (simp only [List.length_cons, List.length_nil, List.length_append, List.length_replicate, List.length_map, List.length_set, List.length_take, List.length_drop, strs_len, ints_len, bools_len, aggs_len, vpv_len]; done) | (simp only [List.length_cons, List.length_nil, List.length_append, List.length_replicate, List.length_map, List.length_set, List.length_take, List.length_drop, strs_len, ints_len, bools_len, aggs_len, vpv_len]; omega)) only [go_sem, r21_window, e]
theorem res_windowMax {kk : SK} (l : List Val) (hl : l.length < 1000000000) : res Γ 106 [.str [109, 111, 118, 105, 110, 103, 77, 97, 120], .sl kk 2 (vpv l)] = some [.agg [.bool (aggV 4 l).1, .int .i64 (aggV 4 l).2], .bool true] := by
  have e := res_r6Of (kk := kk) 4 (by omega) l hl
  refine res_code (fn := r21_window) rfl rfl ?_
  simp (disch := first | assumption | omega | decide | (simp only [List.length_cons, List.length_nil, List.length_append, List.length_replicate, List.length_map, List.length_set, List.length_take, List.length_drop, strs_len, ints_len, bools_len, aggs_len, vpv_len]; done) | (simp only [List.length_cons, List.length_nil, List.length_append, List.length_replicate, List.length_map, List.length_set, List.length_take, List.length_drop, strs_len, ints_len, bools_len, aggs_len, vpv_len]; omega)) only [go_sem, r21_window, e]
theorem res_windowSum {kk : SK} (l : List Val) (hl : l.length < 1000000000) : res Γ 106 [.str [109, 111, 118, 105, 110, 103, 83, 117, 109], .sl kk 2 (vpv l)] = some [.agg [.bool (aggV 2 l).1, .int .i64 (aggV 2 l).2], .bool true] := by
  have e := res_r6Of (kk := kk) 2 (by omega) l hl
  refine res_code (fn := r21_window) rfl rfl ?_
  simp (disch := first | assumption | omega | decide | (simp only [List.length_cons, List.length_nil, List.length_append, List.length_replicate, List.length_map, List.length_set, List.length_take, List.length_drop, strs_len, ints_len, bools_len, aggs_len, vpv_len]; done) | (simp only [List.length_cons, List.length_nil, List.length_append, List.length_replicate, List.length_map, List.length_set, List.length_take, List.length_drop, strs_len, ints_len, bools_len, aggs_len, vpv_len]; omega)) only [go_sem, r21_window, e]
theorem res_windowAvg {kk : SK} (l : List Val) (hl : l.length < 1000000000) : res Γ 106 [.str [109, 111, 118, 105, 110, 103, 65, 118, 101, 114, 97, 103, 101], .sl kk 2 (vpv l)] = some [.agg [.bool (aggV 1 l).1, .int .i64 (aggV 1 l).2], .bool true] := by
  have e := res_r6Of1 (kk := kk) l hl
  refine res_code (fn := r21_window) rfl rfl ?_
  simp (disch := first | assumption | omega | decide | (simp only [List.length_cons, List.length_nil, List.length_append, List.length_replicate, List.length_map, List.length_set, List.length_take, List.length_drop, strs_len, ints_len, bools_len, aggs_len, vpv_len]; done) | (simp only [List.length_cons, List.length_nil, List.length_append, List.length_replicate, List.length_map, List.length_set, List.length_take, List.length_drop, strs_len, ints_len, bools_len, aggs_len, vpv_len]; omega)) only [go_sem, r21_window, e]
theorem res_doesAvg : res Γ 112 [.str [109, 111, 118, 105, 110, 103, 65, 118, 101, 114, 97, 103, 101]] = some [.clo 125 [.ptr [.int .i64 1]]] := by
  refine res_code (fn := fwin_does) rfl rfl ?_
  simp (disch := first | assumption | omega | decide | (simp only [List.length_cons, List.length_nil, List.length_append, List.length_replicate, List.length_map, List.length_set, List.length_take, List.length_drop, strs_len, ints_len, bools_len, aggs_len, vpv_len]; done) | (simp only [List.length_cons, List.length_nil, List.length_append, List.length_replicate, List.length_map, List.length_set, List.length_take, List.length_drop, strs_len, ints_len, bools_len, aggs_len, vpv_len]; omega)) only [go_sem, fwin_does]
end Ab
/- Laws on windows: what they have in common. -/
namespace Ab
open Go (IntKind BinOp UnOp)
theorem res_r18Own {kk : SK} (s : Ser) (h : s.vals.length ≤ 1073741824) : res Γ 34 [s.pv kk] = some [s.pv .any] := by
  have hv : (vpv s.vals).length ≤ 1073741824 := by rw [vpv_len]; exact h
  have hw : (vpv s.vals).length = s.vals.length := vpv_len
  unfold Ser.pv
  refine res_code (fn := r18_Own) rfl rfl ?_
  simp (disch := first | assumption | omega | decide | (simp only [List.length_cons, List.length_nil, List.length_append, List.length_replicate, List.length_map, List.length_set, List.length_take, List.length_drop, strs_len, ints_len, bools_len, aggs_len, vpv_len]; done) | (simp only [List.length_cons, List.length_nil, List.length_append, List.length_replicate, List.length_map, List.length_set, List.length_take, List.length_drop, strs_len, ints_len, bools_len, aggs_len, vpv_len]; omega)) only [go_sem, r18_Own]
theorem r18_Same_l1_ok {k1 k2 : SK} (a : Ser) (hv : a.vals.length ≤ 1073741824) (Q : Out → Prop) : ∀ (k i : Nat), i + k = a.vals.length →
    (∀ H, Q (.nrm, [], H)) →
    Wp Γ r18_Same_l1 [(2, .bx 0 0), (3, .bx 1 0), (5, .p (.int .i64 (i : Int)))] [.box [.p (.str a.name), .p (.int .i64 a.start), .p (.int .i64 a.step), .p (.sl k1 2 (vpv a.vals)), .p (.int .i64 a.cons)], .box [.p (.str a.name), .p (.int .i64 a.start), .p (.int .i64 a.step), .p (.sl k2 2 (vpv a.vals)), .p (.int .i64 a.cons)]] (InBlk [] 0 Q) := by
  intro k
  induction k with
  | zero =>
    intro i hi hQ
    obtain rfl : i = a.vals.length := by omega
    rw [W_loop (L := r18_Same_l1) rfl]
    simp (disch := first | assumption | omega | decide | (simp only [List.length_cons, List.length_nil, List.length_append, List.length_replicate, List.length_map, List.length_set, List.length_take, List.length_drop, strs_len, ints_len, bools_len, aggs_len, vpv_len]; done) | (simp only [List.length_cons, List.length_nil, List.length_append, List.length_replicate, List.length_map, List.length_set, List.length_take, List.length_drop, strs_len, ints_len, bools_len, aggs_len, vpv_len]; omega)) only [go_sem]
    exact hQ _
  | succ k ih =>
    intro i hi hQ
    rw [W_loop (L := r18_Same_l1) rfl]
    simp (disch := first | assumption | omega | decide | (simp only [List.length_cons, List.length_nil, List.length_append, List.length_replicate, List.length_map, List.length_set, List.length_take, List.length_drop, strs_len, ints_len, bools_len, aggs_len, vpv_len]; done) | (simp only [List.length_cons, List.length_nil, List.length_append, List.length_replicate, List.length_map, List.length_set, List.length_take, List.length_drop, strs_len, ints_len, bools_len, aggs_len, vpv_len]; omega)) only [go_sem, valP]
    exact ih (i + 1) (by omega) hQ
theorem res_Same_self {k1 k2 : SK} (s : Ser) (hv : s.vals.length ≤ 1073741824) : res Γ 28 [s.pv k1, s.pv k2] = some [.bool true] := by
  unfold Ser.pv
  refine res_code (fn := r18_Same) rfl rfl ?_
  simp (disch := first | assumption | omega | decide | (simp only [List.length_cons, List.length_nil, List.length_append, List.length_replicate, List.length_map, List.length_set, List.length_take, List.length_drop, strs_len, ints_len, bools_len, aggs_len, vpv_len]; done) | (simp only [List.length_cons, List.length_nil, List.length_append, List.length_replicate, List.length_map, List.length_set, List.length_take, List.length_drop, strs_len, ints_len, bools_len, aggs_len, vpv_len]; omega)) only [go_sem, r18_Same, ne_eq, not_true_eq_false]
  refine r18_Same_l1_ok s hv _ s.vals.length 0 (by omega) (fun H => ?_)
  simp (disch := first | assumption | omega | decide | (simp only [List.length_cons, List.length_nil, List.length_append, List.length_replicate, List.length_map, List.length_set, List.length_take, List.length_drop, strs_len, ints_len, bools_len, aggs_len, vpv_len]; done) | (simp only [List.length_cons, List.length_nil, List.length_append, List.length_replicate, List.length_map, List.length_set, List.length_take, List.length_drop, strs_len, ints_len, bools_len, aggs_len, vpv_len]; omega)) only [go_sem]
theorem res_same21 {k1 k2 : SK} (s : Ser) (hv : s.vals.length ≤ 1073741824) : res Γ 99 [s.pv k1, s.pv k2] = some [.bool true] := by
  have e := res_Same_self (k1 := k1) (k2 := k2) s hv
  unfold Ser.pv at e ⊢
  refine res_code (fn := l21_same) rfl rfl ?_
  simp (disch := first | assumption | omega | decide | (simp only [List.length_cons, List.length_nil, List.length_append, List.length_replicate, List.length_map, List.length_set, List.length_take, List.length_drop, strs_len, ints_len, bools_len, aggs_len, vpv_len]; done) | (simp only [List.length_cons, List.length_nil, List.length_append, List.length_replicate, List.length_map, List.length_set, List.length_take, List.length_drop, strs_len, ints_len, bools_len, aggs_len, vpv_len]; omega)) only [go_sem, l21_same, e]
def heavyS (s : Ser) : Bool := decide (120 < s.vals.length) || decide (300 < s.name.length)
theorem res_heavy21 {k : SK} (s : Ser) (hv : s.vals.length ≤ 9223372036854775807) : res Γ 103 [.sl .tight 5 [s.pv k]] = some [.bool (heavyS s)] := by
  unfold Ser.pv
  refine res_code (fn := l21_heavy) rfl rfl ?_
  simp (disch := first | assumption | omega | decide | (simp only [List.length_cons, List.length_nil, List.length_append, List.length_replicate, List.length_map, List.length_set, List.length_take, List.length_drop, strs_len, ints_len, bools_len, aggs_len, vpv_len]; done) | (simp only [List.length_cons, List.length_nil, List.length_append, List.length_replicate, List.length_map, List.length_set, List.length_take, List.length_drop, strs_len, ints_len, bools_len, aggs_len, vpv_len]; omega)) only [go_sem, l21_heavy]
  rw [W_loop (L := l21_heavy_l1) rfl]
  repeat' (first | (simp (disch := first | assumption | omega | decide | (simp only [List.length_cons, List.length_nil, List.length_append, List.length_replicate, List.length_map, List.length_set, List.length_take, List.length_drop, strs_len, ints_len, bools_len, aggs_len, vpv_len]; done) | (simp only [List.length_cons, List.length_nil, List.length_append, List.length_replicate, List.length_map, List.length_set, List.length_take, List.length_drop, strs_len, ints_len, bools_len, aggs_len, vpv_len]; omega)) only [go_sem]) | refine cond_split (fun hc => ?_) (fun hc => ?_) | refine gd_split_f (fun hc => ?_) (fun hc => ?_) | refine gd_split_t (fun hc => ?_) (fun hc => ?_))
  · have e : heavyS s = true := by simp [heavyS]; omega
    rw [e]
  · have e : heavyS s = false := by simp [heavyS]; omega
    rw [W_loop (L := l21_heavy_l1) rfl]
    simp (disch := first | assumption | omega | decide | (simp only [List.length_cons, List.length_nil, List.length_append, List.length_replicate, List.length_map, List.length_set, List.length_take, List.length_drop, strs_len, ints_len, bools_len, aggs_len, vpv_len]; done) | (simp only [List.length_cons, List.length_nil, List.length_append, List.length_replicate, List.length_map, List.length_set, List.length_take, List.length_drop, strs_len, ints_len, bools_len, aggs_len, vpv_len]; omega)) only [go_sem, e]
    rw [decide_eq_false (by omega)]
  · have e : heavyS s = true := by simp [heavyS]; omega
    rw [e]
theorem res_moved {k kx ky : SK} {nm : List UInt8} {x : Ser} {ok : Bool} (s : Ser) (n : Int) (hv : s.vals.length ≤ 9223372036854775807) (hk : res Γ 100 [] = some [.bool true])
    (hP : heavyS s = false → res Γ 102 [.str nm, s.pv .any, .int .i64 n] = some [x.pv kx, .bool ok])
    (hR : heavyS s = false → res Γ 101 [.str nm, s.pv k, .int .i64 n] = some [x.pv ky, .bool ok]) (hx : x.vals.length ≤ s.vals.length) :
    res Γ 98 [.str nm, s.pv k, .int .i64 n] = some [.bool true] := by
  have h1 := res_heavy21 (k := k) s hv
  cases hh : heavyS s
  · rw [hh] at h1
    have hs : s.vals.length ≤ 120 := by
      simp [heavyS] at hh; omega
    have hP := hP hh
    have hR := hR hh
    have e1 := res_r18Own (kk := k) s (by omega)
    have e2 := res_same21 (k1 := kx) (k2 := ky) x (by omega)
    have e3 := res_same21 (k1 := .any) (k2 := k) s (by omega)
    unfold Ser.pv at h1 hP hR e1 e2 e3 ⊢
    refine res_code (fn := l21_moved) rfl rfl ?_
    cases ok <;> simp (disch := first | assumption | omega | decide | (simp only [List.length_cons, List.length_nil, List.length_append, List.length_replicate, List.length_map, List.length_set, List.length_take, List.length_drop, strs_len, ints_len, bools_len, aggs_len, vpv_len]; done) | (simp only [List.length_cons, List.length_nil, List.length_append, List.length_replicate, List.length_map, List.length_set, List.length_take, List.length_drop, strs_len, ints_len, bools_len, aggs_len, vpv_len]; omega)) only [go_sem, l21_moved, h1, hP, hR, e1, e2, e3, hk, eqkA]
  · rw [hh] at h1
    unfold Ser.pv at h1 ⊢
    refine res_code (fn := l21_moved) rfl rfl ?_
    simp (disch := first | assumption | omega | decide | (simp only [List.length_cons, List.length_nil, List.length_append, List.length_replicate, List.length_map, List.length_set, List.length_take, List.length_drop, strs_len, ints_len, bools_len, aggs_len, vpv_len]; done) | (simp only [List.length_cons, List.length_nil, List.length_append, List.length_replicate, List.length_map, List.length_set, List.length_take, List.length_drop, strs_len, ints_len, bools_len, aggs_len, vpv_len]; omega)) only [go_sem, l21_moved, h1]
end Ab
