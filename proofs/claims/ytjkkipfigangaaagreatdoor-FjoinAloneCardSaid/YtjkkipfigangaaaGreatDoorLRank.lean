import Derived.Test.YtjkkipfigangaaaGreatDoorLLen
namespace Ab
open Go (IntKind BinOp UnOp)
theorem div_l2_ok {Y s n1 n0 U u u0 D : Int} (hY : Y = n1 * 4294967296 + n0) (h1 : 2147483648 ≤ n1 ∧ n1 < 4294967296) (hn : 0 ≤ n0 ∧ n0 < 4294967296) (hU : 0 ≤ U ∧ U < Y) (hu : 0 ≤ u ∧ u < 4294967296)
    (hD0 : 0 ≤ D) (hD : D * Y ≤ U * 4294967296 + u) (hD' : U * 4294967296 + u < (D + 1) * Y) : ∀ (n : Nat) (q r : Int) (Q : Out → Prop), U = q * n1 + r → 0 ≤ r → r < 4294967296 → D ≤ q → q ≤ 8589934592 → 4294967296 ≤ r + n * 2147483648 →
    Q (.nrm, [(2, .p (.int .u64 Y)), (8, .p (.int .u64 s)), (9, .p (.int .u64 n1)), (10, .p (.int .u64 n0)), (11, .p (.int .u64 U)), (13, .p (.int .u64 u)), (14, .p (.int .u64 u0)), (15, .p (.int .u64 D))], []) →
    Wp Γ math_bits_Div64_l2 [(2, .p (.int .u64 Y)), (8, .p (.int .u64 s)), (9, .p (.int .u64 n1)), (10, .p (.int .u64 n0)), (11, .p (.int .u64 U)), (13, .p (.int .u64 u)), (14, .p (.int .u64 u0)), (15, .p (.int .u64 q)), (16, .p (.int .u64 r))] [] (InBlk [2, 8, 9, 10, 11, 13, 14, 15] 0 Q) := by
  have hpos : 0 < Y := by omega
  intro n
  induction n with
  | zero => intro q r Q _ _ h _ _ h'; omega
  | succ n ih =>
    intro q r Q e r0 r1 hq hq2 hm hQ
    have eU : U = (q - 1) * n1 + (r + n1) := by rw [Int.sub_mul]; omega
    rw [W_loop (L := math_bits_Div64_l2) rfl]
    by_cases hc : 4294967296 ≤ q
    · have hd : D ≤ q - 1 := by have := dig_lt hU.2 hu.2 hD hpos; omega
      simp (disch := first | assumption | omega | decide | (simp only [List.length_cons, List.length_nil, List.length_append, List.length_replicate, List.length_map, List.length_set, List.length_take, List.length_drop, strs_len, ints_len, bools_len, aggs_len, vpv_len]; done) | (simp only [List.length_cons, List.length_nil, List.length_append, List.length_replicate, List.length_map, List.length_set, List.length_take, List.length_drop, strs_len, ints_len, bools_len, aggs_len, vpv_len]; omega)) only [go_sem]
      refine cond_split (fun hc => ?_) (fun hc => ?_)
      · have := dig_break (q := q - 1) (r := r + n1) hY (by omega) hn.2 hn.1 eU (by omega) hU.2 hu.1 hD' hd (by omega)
        obtain ⟨rfl, _⟩ := this
        simp (disch := first | assumption | omega | decide | (simp only [List.length_cons, List.length_nil, List.length_append, List.length_replicate, List.length_map, List.length_set, List.length_take, List.length_drop, strs_len, ints_len, bools_len, aggs_len, vpv_len]; done) | (simp only [List.length_cons, List.length_nil, List.length_append, List.length_replicate, List.length_map, List.length_set, List.length_take, List.length_drop, strs_len, ints_len, bools_len, aggs_len, vpv_len]; omega)) only [go_sem]
        exact hQ
      · simp (disch := first | assumption | omega | decide | (simp only [List.length_cons, List.length_nil, List.length_append, List.length_replicate, List.length_map, List.length_set, List.length_take, List.length_drop, strs_len, ints_len, bools_len, aggs_len, vpv_len]; done) | (simp only [List.length_cons, List.length_nil, List.length_append, List.length_replicate, List.length_map, List.length_set, List.length_take, List.length_drop, strs_len, ints_len, bools_len, aggs_len, vpv_len]; omega)) only [go_sem]
        exact ih (q - 1) (r + n1) Q eU (by omega) (by omega) hd (by omega) (by omega) hQ
    · have b : 0 ≤ q * n0 ∧ q * n0 ≤ 18446744065119617025 := ⟨Int.mul_nonneg (by omega) hn.1, Int.le_trans (Int.mul_le_mul (show q ≤ 4294967295 by omega) (show n0 ≤ 4294967295 by omega) hn.1 (by decide)) (by decide)⟩
      simp (disch := first | assumption | omega | decide | (simp only [List.length_cons, List.length_nil, List.length_append, List.length_replicate, List.length_map, List.length_set, List.length_take, List.length_drop, strs_len, ints_len, bools_len, aggs_len, vpv_len]; done) | (simp only [List.length_cons, List.length_nil, List.length_append, List.length_replicate, List.length_map, List.length_set, List.length_take, List.length_drop, strs_len, ints_len, bools_len, aggs_len, vpv_len]; omega)) only [go_sem]
      refine cond_split (fun hc => ?_) (fun hc => ?_)
      · have hd := dig_down hY e (by simpa using hc) hD hpos
        simp (disch := first | assumption | omega | decide | (simp only [List.length_cons, List.length_nil, List.length_append, List.length_replicate, List.length_map, List.length_set, List.length_take, List.length_drop, strs_len, ints_len, bools_len, aggs_len, vpv_len]; done) | (simp only [List.length_cons, List.length_nil, List.length_append, List.length_replicate, List.length_map, List.length_set, List.length_take, List.length_drop, strs_len, ints_len, bools_len, aggs_len, vpv_len]; omega)) only [go_sem]
        refine cond_split (fun hc => ?_) (fun hc => ?_)
        · have := dig_break (q := q - 1) (r := r + n1) hY (by omega) hn.2 hn.1 eU (by omega) hU.2 hu.1 hD' hd (by omega)
          obtain ⟨rfl, _⟩ := this
          simp (disch := first | assumption | omega | decide | (simp only [List.length_cons, List.length_nil, List.length_append, List.length_replicate, List.length_map, List.length_set, List.length_take, List.length_drop, strs_len, ints_len, bools_len, aggs_len, vpv_len]; done) | (simp only [List.length_cons, List.length_nil, List.length_append, List.length_replicate, List.length_map, List.length_set, List.length_take, List.length_drop, strs_len, ints_len, bools_len, aggs_len, vpv_len]; omega)) only [go_sem]
          exact hQ
        · simp (disch := first | assumption | omega | decide | (simp only [List.length_cons, List.length_nil, List.length_append, List.length_replicate, List.length_map, List.length_set, List.length_take, List.length_drop, strs_len, ints_len, bools_len, aggs_len, vpv_len]; done) | (simp only [List.length_cons, List.length_nil, List.length_append, List.length_replicate, List.length_map, List.length_set, List.length_take, List.length_drop, strs_len, ints_len, bools_len, aggs_len, vpv_len]; omega)) only [go_sem]
          exact ih (q - 1) (r + n1) Q eU (by omega) (by omega) hd (by omega) (by omega) hQ
      · have := dig_exit hY e (by omega) hD' hq hpos
        subst this
        simp (disch := first | assumption | omega | decide | (simp only [List.length_cons, List.length_nil, List.length_append, List.length_replicate, List.length_map, List.length_set, List.length_take, List.length_drop, strs_len, ints_len, bools_len, aggs_len, vpv_len]; done) | (simp only [List.length_cons, List.length_nil, List.length_append, List.length_replicate, List.length_map, List.length_set, List.length_take, List.length_drop, strs_len, ints_len, bools_len, aggs_len, vpv_len]; omega)) only [go_sem]
        exact hQ
theorem div_l1_ok {Y s n1 n0 U u q1 D : Int} (hY : Y = n1 * 4294967296 + n0) (h1 : 2147483648 ≤ n1 ∧ n1 < 4294967296) (hn : 0 ≤ n0 ∧ n0 < 4294967296) (hU : 0 ≤ U ∧ U < Y) (hu : 0 ≤ u ∧ u < 4294967296)
    (hD0 : 0 ≤ D) (hD : D * Y ≤ U * 4294967296 + u) (hD' : U * 4294967296 + u < (D + 1) * Y) : ∀ (n : Nat) (q r : Int) (Q : Out → Prop), U = q * n1 + r → 0 ≤ r → r < 4294967296 → D ≤ q → q ≤ 8589934592 → 4294967296 ≤ r + n * 2147483648 →
    Q (.nrm, [(2, .p (.int .u64 Y)), (8, .p (.int .u64 s)), (14, .p (.int .u64 u)), (15, .p (.int .u64 q1)), (17, .p (.int .u64 U)), (18, .p (.int .u64 D))], []) →
    Wp Γ math_bits_Div64_l1 [(2, .p (.int .u64 Y)), (8, .p (.int .u64 s)), (9, .p (.int .u64 n1)), (10, .p (.int .u64 n0)), (14, .p (.int .u64 u)), (15, .p (.int .u64 q1)), (16, .p (.int .u64 r)), (17, .p (.int .u64 U)), (18, .p (.int .u64 q))] [] (InBlk [2, 8, 14, 15, 17, 18] 2 Q) := by
  have hpos : 0 < Y := by omega
  intro n
  induction n with
  | zero => intro q r Q _ _ h _ _ h'; omega
  | succ n ih =>
    intro q r Q e r0 r1 hq hq2 hm hQ
    have eU : U = (q - 1) * n1 + (r + n1) := by rw [Int.sub_mul]; omega
    rw [W_loop (L := math_bits_Div64_l1) rfl]
    by_cases hc : 4294967296 ≤ q
    · have hd : D ≤ q - 1 := by have := dig_lt hU.2 hu.2 hD hpos; omega
      simp (disch := first | assumption | omega | decide | (simp only [List.length_cons, List.length_nil, List.length_append, List.length_replicate, List.length_map, List.length_set, List.length_take, List.length_drop, strs_len, ints_len, bools_len, aggs_len, vpv_len]; done) | (simp only [List.length_cons, List.length_nil, List.length_append, List.length_replicate, List.length_map, List.length_set, List.length_take, List.length_drop, strs_len, ints_len, bools_len, aggs_len, vpv_len]; omega)) only [go_sem]
      refine cond_split (fun hc => ?_) (fun hc => ?_)
      · have := dig_break (q := q - 1) (r := r + n1) hY (by omega) hn.2 hn.1 eU (by omega) hU.2 hu.1 hD' hd (by omega)
        obtain ⟨rfl, _⟩ := this
        simp (disch := first | assumption | omega | decide | (simp only [List.length_cons, List.length_nil, List.length_append, List.length_replicate, List.length_map, List.length_set, List.length_take, List.length_drop, strs_len, ints_len, bools_len, aggs_len, vpv_len]; done) | (simp only [List.length_cons, List.length_nil, List.length_append, List.length_replicate, List.length_map, List.length_set, List.length_take, List.length_drop, strs_len, ints_len, bools_len, aggs_len, vpv_len]; omega)) only [go_sem]
        exact hQ
      · simp (disch := first | assumption | omega | decide | (simp only [List.length_cons, List.length_nil, List.length_append, List.length_replicate, List.length_map, List.length_set, List.length_take, List.length_drop, strs_len, ints_len, bools_len, aggs_len, vpv_len]; done) | (simp only [List.length_cons, List.length_nil, List.length_append, List.length_replicate, List.length_map, List.length_set, List.length_take, List.length_drop, strs_len, ints_len, bools_len, aggs_len, vpv_len]; omega)) only [go_sem]
        exact ih (q - 1) (r + n1) Q eU (by omega) (by omega) hd (by omega) (by omega) hQ
    · have b : 0 ≤ q * n0 ∧ q * n0 ≤ 18446744065119617025 := ⟨Int.mul_nonneg (by omega) hn.1, Int.le_trans (Int.mul_le_mul (show q ≤ 4294967295 by omega) (show n0 ≤ 4294967295 by omega) hn.1 (by decide)) (by decide)⟩
      simp (disch := first | assumption | omega | decide | (simp only [List.length_cons, List.length_nil, List.length_append, List.length_replicate, List.length_map, List.length_set, List.length_take, List.length_drop, strs_len, ints_len, bools_len, aggs_len, vpv_len]; done) | (simp only [List.length_cons, List.length_nil, List.length_append, List.length_replicate, List.length_map, List.length_set, List.length_take, List.length_drop, strs_len, ints_len, bools_len, aggs_len, vpv_len]; omega)) only [go_sem]
      refine cond_split (fun hc => ?_) (fun hc => ?_)
      · have hd := dig_down hY e (by simpa using hc) hD hpos
        simp (disch := first | assumption | omega | decide | (simp only [List.length_cons, List.length_nil, List.length_append, List.length_replicate, List.length_map, List.length_set, List.length_take, List.length_drop, strs_len, ints_len, bools_len, aggs_len, vpv_len]; done) | (simp only [List.length_cons, List.length_nil, List.length_append, List.length_replicate, List.length_map, List.length_set, List.length_take, List.length_drop, strs_len, ints_len, bools_len, aggs_len, vpv_len]; omega)) only [go_sem]
        refine cond_split (fun hc => ?_) (fun hc => ?_)
        · have := dig_break (q := q - 1) (r := r + n1) hY (by omega) hn.2 hn.1 eU (by omega) hU.2 hu.1 hD' hd (by omega)
          obtain ⟨rfl, _⟩ := this
          simp (disch := first | assumption | omega | decide | (simp only [List.length_cons, List.length_nil, List.length_append, List.length_replicate, List.length_map, List.length_set, List.length_take, List.length_drop, strs_len, ints_len, bools_len, aggs_len, vpv_len]; done) | (simp only [List.length_cons, List.length_nil, List.length_append, List.length_replicate, List.length_map, List.length_set, List.length_take, List.length_drop, strs_len, ints_len, bools_len, aggs_len, vpv_len]; omega)) only [go_sem]
          exact hQ
        · simp (disch := first | assumption | omega | decide | (simp only [List.length_cons, List.length_nil, List.length_append, List.length_replicate, List.length_map, List.length_set, List.length_take, List.length_drop, strs_len, ints_len, bools_len, aggs_len, vpv_len]; done) | (simp only [List.length_cons, List.length_nil, List.length_append, List.length_replicate, List.length_map, List.length_set, List.length_take, List.length_drop, strs_len, ints_len, bools_len, aggs_len, vpv_len]; omega)) only [go_sem]
          exact ih (q - 1) (r + n1) Q eU (by omega) (by omega) hd (by omega) (by omega) hQ
      · have := dig_exit hY e (by omega) hD' hq hpos
        subst this
        simp (disch := first | assumption | omega | decide | (simp only [List.length_cons, List.length_nil, List.length_append, List.length_replicate, List.length_map, List.length_set, List.length_take, List.length_drop, strs_len, ints_len, bools_len, aggs_len, vpv_len]; done) | (simp only [List.length_cons, List.length_nil, List.length_append, List.length_replicate, List.length_map, List.length_set, List.length_take, List.length_drop, strs_len, ints_len, bools_len, aggs_len, vpv_len]; omega)) only [go_sem]
        exact hQ
end Ab
namespace Ab
theorem knuth {N hi lo y s Y U T : Nat} (hs : s ≤ 63) (hh : hi < y) (hl : lo < 18446744073709551616) (hN : N = hi * 18446744073709551616 + lo) (hY : Y = y * 2 ^ s) (hU : U = hi * 2 ^ s + lo / 2 ^ (64 - s)) (hT : T = lo * 2 ^ s % 18446744073709551616) :
    U < Y ∧ lo / 2 ^ (64 - s) < 2 ^ s ∧ hi * 2 ^ s < Y ∧
    ∀ D V E R : Nat, D = (U * 4294967296 + T / 4294967296) / Y → V = (U * 4294967296 + T / 4294967296) % Y → E = (V * 4294967296 + T % 4294967296) / Y → R = (V * 4294967296 + T % 4294967296) % Y → D * 4294967296 + E = N / y ∧ R / 2 ^ s = N % y := by
  have p : 0 < 2 ^ s := Nat.pow_pos (by decide)
  have eM : 2 ^ (64 - s) * 2 ^ s = 18446744073709551616 := by rw [← Nat.pow_add, show 64 - s + s = 64 by omega]
  have e1 : lo * 2 ^ s / 18446744073709551616 = lo / 2 ^ (64 - s) := by rw [← eM, Nat.mul_div_mul_right _ _ p]
  have e2 : lo * 2 ^ s = 18446744073709551616 * (lo / 2 ^ (64 - s)) + T := by rw [hT, ← e1]; exact (Nat.div_add_mod _ _).symm
  have hT2 : T < 18446744073709551616 := by rw [hT]; exact Nat.mod_lt _ (by decide)
  have e3 : U * 18446744073709551616 + T = N * 2 ^ s := by
    rw [hU, hN, Nat.add_mul, Nat.add_mul, e2, Nat.mul_right_comm]
    omega
  have l1 : lo / 2 ^ (64 - s) < 2 ^ s := Nat.div_lt_of_lt_mul (by rw [eM]; exact hl)
  have l2 : (hi + 1) * 2 ^ s ≤ Y := by rw [hY]; exact Nat.mul_le_mul_right _ hh
  rw [Nat.add_mul, Nat.one_mul] at l2
  have hY0 : 0 < Y := by omega
  refine ⟨by omega, l1, by omega, ?_⟩
  intro D V E R hD hV hE hR
  have a1 := Nat.div_add_mod (U * 4294967296 + T / 4294967296) Y
  have a2 := Nat.div_add_mod (V * 4294967296 + T % 4294967296) Y
  rw [← hD, ← hV] at a1
  rw [← hE, ← hR] at a2
  have b : R < Y := by rw [hR]; exact Nat.mod_lt _ hY0
  have e4 : N * 2 ^ s = Y * (D * 4294967296 + E) + R := by
    rw [Nat.mul_add, ← Nat.mul_assoc, ← e3]
    omega
  have c1 : N * 2 ^ s / Y = D * 4294967296 + E := by
    rw [e4, Nat.mul_add_div hY0, Nat.div_eq_of_lt b, Nat.add_zero]
  have c2 : N * 2 ^ s % Y = R := by rw [e4, Nat.mul_add_mod, Nat.mod_eq_of_lt b]
  rw [hY, Nat.mul_div_mul_right _ _ p] at c1
  rw [hY, Nat.mul_mod_mul_right] at c2
  exact ⟨c1.symm, by rw [← c2, Nat.mul_div_cancel _ p]⟩
end Ab
namespace Ab
open Go (IntKind BinOp UnOp)
theorem map_orN {H L : Nat} (h : H + L < 18446744073709551616) (e : H ||| L = H + L) : binAV .or (.p (.int .u64 (H : Int))) (.p (.int .u64 (L : Int))) = some (.p (.int .u64 ((H + L : Nat) : Int))) := by
  have e0 : ∀ n : Nat, n < 18446744073709551616 → (BitVec.ofInt IntKind.u64.bits (n : Int)).toNat = n := by
    intro n hn
    rw [BitVec.toNat_ofInt]
    have e3 : ((2 ^ IntKind.u64.bits : Nat) : Int) = 18446744073709551616 := by decide
    rw [e3]; omega
  have key : ((BitVec.ofInt IntKind.u64.bits (H : Int) ||| BitVec.ofInt IntKind.u64.bits (L : Int)).toNat : Int) = ((H + L : Nat) : Int) := by
    rw [BitVec.toNat_or, e0 H (by omega), e0 L (by omega), e]
  simp only [binAV, binPV, binInt, true_or, if_true, Option.map_some, key]
  rw [wrap_u64 (by omega) (by omega)]
theorem res_Div64_0 {lo y : Nat} (hy : 0 < y) (hy2 : y < 18446744073709551616) (hl : lo < 18446744073709551616) : res Γ 147 [.int .u64 ((0 : Nat) : Int), .int .u64 (lo : Int), .int .u64 (y : Int)] = some [.int .u64 ((lo / y : Nat) : Int), .int .u64 ((lo % y : Nat) : Int)] := by
  refine res_code (fn := math_bits_Div64) rfl rfl ?_
  simp (disch := first | assumption | omega | decide | (simp only [List.length_cons, List.length_nil, List.length_append, List.length_replicate, List.length_map, List.length_set, List.length_take, List.length_drop, strs_len, ints_len, bools_len, aggs_len, vpv_len]; done) | (simp only [List.length_cons, List.length_nil, List.length_append, List.length_replicate, List.length_map, List.length_set, List.length_take, List.length_drop, strs_len, ints_len, bools_len, aggs_len, vpv_len]; omega)) only [go_sem, math_bits_Div64, map_quo64]
  simp
theorem res_Div64_pos {hi lo y : Nat} (h0 : 0 < hi) (h : hi < y) (hy : y < 18446744073709551616) (hl : lo < 18446744073709551616) :
    res Γ 147 [.int .u64 (hi : Int), .int .u64 (lo : Int), .int .u64 (y : Int)] = some [.int .u64 (((hi * 18446744073709551616 + lo) / y : Nat) : Int), .int .u64 (((hi * 18446744073709551616 + lo) % y : Nat) : Int)] := by
  obtain ⟨s, ez, hs, hs1, hs2⟩ := res_LZ (y := y) (by omega)
  obtain ⟨Y, hY⟩ : ∃ Y, Y = y * 2 ^ s := ⟨_, rfl⟩
  obtain ⟨T, hT⟩ : ∃ T, T = lo * 2 ^ s % 18446744073709551616 := ⟨_, rfl⟩
  obtain ⟨U, hU⟩ : ∃ U, U = hi * 2 ^ s + lo / 2 ^ (64 - s) := ⟨_, rfl⟩
  obtain ⟨k1, k2, k3, k4⟩ := knuth (N := hi * 18446744073709551616 + lo) hs h hl rfl hY hU hT
  obtain ⟨D, hD⟩ : ∃ D, D = (U * 4294967296 + T / 4294967296) / Y := ⟨_, rfl⟩
  obtain ⟨V, hV⟩ : ∃ V, V = (U * 4294967296 + T / 4294967296) % Y := ⟨_, rfl⟩
  obtain ⟨E, hE⟩ : ∃ E, E = (V * 4294967296 + T % 4294967296) / Y := ⟨_, rfl⟩
  obtain ⟨R, hR⟩ : ∃ R, R = (V * 4294967296 + T % 4294967296) % Y := ⟨_, rfl⟩
  obtain ⟨f1, f2⟩ := k4 D V E R hD hV hE hR
  have hT2 : T < 18446744073709551616 := by rw [hT]; exact Nat.mod_lt _ (by decide)
  rw [← hY] at hs1 hs2
  have hV2 : V < Y := by rw [hV]; exact Nat.mod_lt _ (by omega)
  have hR2 : R < Y := by rw [hR]; exact Nat.mod_lt _ (by omega)
  have d1 := Nat.div_add_mod (U * 4294967296 + T / 4294967296) Y
  have d2 := Nat.div_add_mod (V * 4294967296 + T % 4294967296) Y
  rw [← hD, ← hV] at d1
  rw [← hE, ← hR] at d2
  have m1 : D * Y ≤ U * 4294967296 + T / 4294967296 := by rw [Nat.mul_comm]; omega
  have m2 : E * Y ≤ V * 4294967296 + T % 4294967296 := by rw [Nat.mul_comm]; omega
  have m1' : U * 4294967296 + T / 4294967296 < (D + 1) * Y := by rw [Nat.add_mul D 1 Y, Nat.mul_comm D Y, Nat.one_mul Y, ← d1]; exact Nat.add_lt_add_left hV2 _
  have m2' : V * 4294967296 + T % 4294967296 < (E + 1) * Y := by rw [Nat.add_mul E 1 Y, Nat.mul_comm E Y, Nat.one_mul Y, ← d2]; exact Nat.add_lt_add_left hR2 _
  have lD : D < 4294967296 := Nat.lt_of_mul_lt_mul_right (a := Y) (by omega)
  have lE : E < 4294967296 := Nat.lt_of_mul_lt_mul_right (a := Y) (by omega)
  obtain ⟨H, hH⟩ : ∃ H, H = hi * 2 ^ s := ⟨_, rfl⟩
  obtain ⟨L, hL⟩ : ∃ L, L = lo / 2 ^ (64 - s) := ⟨_, rfl⟩
  have eor : H ||| L = H + L := by rw [hH, Nat.mul_comm]; rw [← hL] at k2; exact (Nat.two_pow_add_eq_or_of_lt k2 hi).symm
  rw [← hH, ← hL] at hU
  rw [← hH] at k3
  have eY : (y : Int) * 2 ^ s = (Y : Int) := by rw [hY]; simp
  have eH : (hi : Int) * 2 ^ s = (H : Int) := by rw [hH]; simp
  have eT : IntKind.u64.wrap ((lo : Int) * 2 ^ s) = (T : Int) := by rw [hT, wrap_u64m]; simp
  have eL : (lo : Int) / 2 ^ (64 - s) = (L : Int) := by rw [hL]; simp
  have e64 : ((64 : Int) - (s : Int)).toNat = 64 - s := by omega
  have eU := map_orN (H := H) (L := L) (by omega) eor
  rw [← hU] at eU
  have i1 : (D : Int) * (Y : Int) ≤ (U : Int) * 4294967296 + (T : Int) / 4294967296 := by omega
  have i1' : (U : Int) * 4294967296 + (T : Int) / 4294967296 < ((D : Int) + 1) * (Y : Int) := by rw [Nat.add_mul, Nat.one_mul] at m1'; rw [Int.add_mul, Int.one_mul]; omega
  have i2 : (E : Int) * (Y : Int) ≤ (V : Int) * 4294967296 + (T : Int) % 4294967296 := by omega
  have i2' : (V : Int) * 4294967296 + (T : Int) % 4294967296 < ((E : Int) + 1) * (Y : Int) := by rw [Nat.add_mul, Nat.one_mul] at m2'; rw [Int.add_mul, Int.one_mul]; omega
  have g1 : (Y : Int) * (D : Int) + (V : Int) = (U : Int) * 4294967296 + (T : Int) / 4294967296 := by omega
  have g2 : (Y : Int) * (E : Int) + (R : Int) = (V : Int) * 4294967296 + (T : Int) % 4294967296 := by omega
  have eV : IntKind.u64.wrap (IntKind.u64.wrap (IntKind.u64.wrap ((U : Int) * 4294967296) + (T : Int) / 4294967296) - IntKind.u64.wrap ((D : Int) * (Y : Int))) = (V : Int) := by
    rw [Int.mul_comm] at g1
    simp only [wrap_u64m]; omega
  have eR : IntKind.u64.wrap (IntKind.u64.wrap (IntKind.u64.wrap ((V : Int) * 4294967296) + (T : Int) % 4294967296) - IntKind.u64.wrap ((E : Int) * (Y : Int))) = (R : Int) := by
    rw [Int.mul_comm] at g2
    simp only [wrap_u64m]; omega
  have eQ : (R : Int) / 2 ^ s = ((R / 2 ^ s : Nat) : Int) := by simp
  have n1 : (0 : Int) < (Y : Int) / 4294967296 := by omega
  have q1a := dig_first (Y := (Y : Int)) (n1 := (Y : Int) / 4294967296) (n0 := (Y : Int) % 4294967296) (U := U) (u := (T : Int) / 4294967296) (Q := D) (by omega) (by omega) (by omega) (by omega) (by omega) i1
  have q2a := dig_first (Y := (Y : Int)) (n1 := (Y : Int) / 4294967296) (n0 := (Y : Int) % 4294967296) (U := V) (u := (T : Int) % 4294967296) (Q := E) (by omega) (by omega) (by omega) (by omega) (by omega) i2
  have up : ∀ x : Int, 0 ≤ x → x < 18446744073709551616 → x / ((Y : Int) / 4294967296) ≤ 8589934592 ∧ x = x / ((Y : Int) / 4294967296) * ((Y : Int) / 4294967296) + x % ((Y : Int) / 4294967296) ∧ 0 ≤ x % ((Y : Int) / 4294967296) ∧ x % ((Y : Int) / 4294967296) < (Y : Int) / 4294967296 := by
    intro x h0 h1
    have r0 := Int.emod_nonneg x (Int.ne_of_gt n1)
    have r1 := Int.emod_lt_of_pos x n1
    have e := Int.mul_ediv_add_emod x ((Y : Int) / 4294967296)
    rw [Int.mul_comm] at e
    refine ⟨?_, by omega, r0, r1⟩
    have hle : x / ((Y : Int) / 4294967296) * 2147483648 ≤ x / ((Y : Int) / 4294967296) * ((Y : Int) / 4294967296) := Int.mul_le_mul_of_nonneg_left (by omega) (Int.ediv_nonneg h0 (by omega))
    omega
  have a1 : 0 ≤ (U : Int) / ((Y : Int) / 4294967296) * ((Y : Int) / 4294967296) := Int.mul_nonneg (Int.ediv_nonneg (by omega) (by omega)) (by omega)
  have a2 : 0 ≤ (V : Int) / ((Y : Int) / 4294967296) * ((Y : Int) / 4294967296) := Int.mul_nonneg (Int.ediv_nonneg (by omega) (by omega)) (by omega)
  obtain ⟨x1, x2, x3, x4⟩ := up U (by omega) (by omega)
  obtain ⟨z1, z2, z3, z4⟩ := up V (by omega) (by omega)
  have w1 : (U : Int) - (U : Int) / ((Y : Int) / 4294967296) * ((Y : Int) / 4294967296) = (U : Int) % ((Y : Int) / 4294967296) := by omega
  have w2 : (V : Int) - (V : Int) / ((Y : Int) / 4294967296) * ((Y : Int) / 4294967296) = (V : Int) % ((Y : Int) / 4294967296) := by omega
  have r1 : ∀ x : Int, binAV .shr (.p (.int .u64 x)) (.p (.int .u64 (s : Int))) = some (.p (.int .u64 (x / 2 ^ s))) := fun x => by rw [map_shr (by omega) (by omega), toNat_cast]
  have r2 : ∀ x : Int, binAV .shr (.p (.int .u64 x)) (.p (.int .u64 (64 - (s : Int)))) = some (.p (.int .u64 (x / 2 ^ (64 - s)))) := fun x => by rw [map_shr (by omega) (by omega), e64]
  have r3 : ∀ x : Int, binAV .shl (.p (.int .u64 x)) (.p (.int .u64 (s : Int))) = some (.p (.int .u64 (IntKind.u64.wrap (x * 2 ^ s)))) := fun x => by rw [map_shl (by omega) (by omega), toNat_cast]
  rw [← f1, ← f2]
  refine res_code (fn := math_bits_Div64) rfl rfl ?_
  simp (disch := first | assumption | omega | decide | (simp only [List.length_cons, List.length_nil, List.length_append, List.length_replicate, List.length_map, List.length_set, List.length_take, List.length_drop, strs_len, ints_len, bools_len, aggs_len, vpv_len]; done) | (simp only [List.length_cons, List.length_nil, List.length_append, List.length_replicate, List.length_map, List.length_set, List.length_take, List.length_drop, strs_len, ints_len, bools_len, aggs_len, vpv_len]; omega)) only [go_sem, math_bits_Div64, ez, r2, r3, map_shr32, map_and32, map_quo64, eY, eH, eT, eL, eU, w1]
  refine div_l2_ok (Y := Y) (n1 := (Y : Int) / 4294967296) (n0 := (Y : Int) % 4294967296) (D := D) (by omega) (by omega) (by omega) (by omega) (by omega) (by omega) i1 i1' 2 _ _ _ x2 x3 (by omega) q1a x1 (by omega) ?_
  simp (disch := first | assumption | omega | decide | (simp only [List.length_cons, List.length_nil, List.length_append, List.length_replicate, List.length_map, List.length_set, List.length_take, List.length_drop, strs_len, ints_len, bools_len, aggs_len, vpv_len]; done) | (simp only [List.length_cons, List.length_nil, List.length_append, List.length_replicate, List.length_map, List.length_set, List.length_take, List.length_drop, strs_len, ints_len, bools_len, aggs_len, vpv_len]; omega)) only [go_sem, eV, map_quo64, w2]
  refine div_l1_ok (Y := Y) (n1 := (Y : Int) / 4294967296) (n0 := (Y : Int) % 4294967296) (D := E) (by omega) (by omega) (by omega) (by omega) (by omega) (by omega) i2 i2' 2 _ _ _ z2 z3 (by omega) q2a z1 (by omega) ?_
  simp (disch := first | assumption | omega | decide | (simp only [List.length_cons, List.length_nil, List.length_append, List.length_replicate, List.length_map, List.length_set, List.length_take, List.length_drop, strs_len, ints_len, bools_len, aggs_len, vpv_len]; done) | (simp only [List.length_cons, List.length_nil, List.length_append, List.length_replicate, List.length_map, List.length_set, List.length_take, List.length_drop, strs_len, ints_len, bools_len, aggs_len, vpv_len]; omega)) only [go_sem, eR, r1, eQ]
  simp
end Ab
namespace Ab
open Go (IntKind BinOp UnOp)
def mdR : Option Int → List PV
  | some n => [.int .i64 n, .bool true]
  | none => [.int .i64 0, .bool false]
theorem mdV_zero {a b c : Int} (h : c = 0) : mdV a b c = none := by unfold mdV; rw [if_pos h]
def mdQ (P C : Nat) : Nat := if C - P % C ≤ P % C then P / C + 1 else P / C
theorem mdV_no {a b c : Int} (h : c ≠ 0) (hq : 4611686018427387904 < mdQ (a.natAbs * b.natAbs) c.natAbs) : mdV a b c = none := by
  unfold mdV maxN
  unfold mdQ at hq
  rw [if_neg h]
  dsimp only
  rw [if_neg (by omega)]
theorem mdV_yes {a b c : Int} (h : c ≠ 0) (hq : mdQ (a.natAbs * b.natAbs) c.natAbs ≤ 4611686018427387904) :
    mdV a b c = some (if ((decide (a < 0) != decide (b < 0)) != decide (c < 0)) = true then -((mdQ (a.natAbs * b.natAbs) c.natAbs : Nat) : Int) else ((mdQ (a.natAbs * b.natAbs) c.natAbs : Nat) : Int)) := by
  unfold mdV maxN
  unfold mdQ at hq ⊢
  rw [if_neg h]
  dsimp only
  rw [if_pos (by omega)]
theorem res_size {a : Int} (h : -9223372036854775808 ≤ a ∧ a ≤ 9223372036854775807) : res Γ 148 [.int .i64 a] = some [.int .u64 (a.natAbs : Int)] := by
  refine res_code (fn := fixed_size) rfl rfl ?_
  by_cases hn : a < 0
  · have e1 : IntKind.u64.wrap a = a + 18446744073709551616 := by rw [wrap_u64m]; omega
    have e2 : IntKind.u64.wrap (0 - (a + 18446744073709551616)) = (a.natAbs : Int) := by rw [wrap_u64m]; omega
    simp (disch := first | assumption | omega | decide | (simp only [List.length_cons, List.length_nil, List.length_append, List.length_replicate, List.length_map, List.length_set, List.length_take, List.length_drop, strs_len, ints_len, bools_len, aggs_len, vpv_len]; done) | (simp only [List.length_cons, List.length_nil, List.length_append, List.length_replicate, List.length_map, List.length_set, List.length_take, List.length_drop, strs_len, ints_len, bools_len, aggs_len, vpv_len]; omega)) only [go_sem, fixed_size, e1, e2]
  · have e1 : IntKind.u64.wrap a = (a.natAbs : Int) := by rw [wrap_u64m]; omega
    simp (disch := first | assumption | omega | decide | (simp only [List.length_cons, List.length_nil, List.length_append, List.length_replicate, List.length_map, List.length_set, List.length_take, List.length_drop, strs_len, ints_len, bools_len, aggs_len, vpv_len]; done) | (simp only [List.length_cons, List.length_nil, List.length_append, List.length_replicate, List.length_map, List.length_set, List.length_take, List.length_drop, strs_len, ints_len, bools_len, aggs_len, vpv_len]; omega)) only [go_sem, fixed_size, e1]
theorem res_Mul64N {A B : Nat} (hA : A < 18446744073709551616) (hB : B < 18446744073709551616) : res Γ 149 [.int .u64 (A : Int), .int .u64 (B : Int)] = some [.int .u64 ((A * B / 18446744073709551616 : Nat) : Int), .int .u64 ((A * B % 18446744073709551616 : Nat) : Int)] := by
  rw [res_Mul64 (by omega) (by omega)]
  simp
theorem res_Div64 {P C : Nat} (hC : C < 18446744073709551616) (h : P / 18446744073709551616 < C) :
    res Γ 147 [.int .u64 ((P / 18446744073709551616 : Nat) : Int), .int .u64 ((P % 18446744073709551616 : Nat) : Int), .int .u64 (C : Int)] = some [.int .u64 ((P / C : Nat) : Int), .int .u64 ((P % C : Nat) : Int)] := by
  have hl : P % 18446744073709551616 < 18446744073709551616 := Nat.mod_lt _ (by decide)
  have e : P / 18446744073709551616 * 18446744073709551616 + P % 18446744073709551616 = P := Nat.div_add_mod' P _
  by_cases h0 : P / 18446744073709551616 = 0
  · have e2 : P % 18446744073709551616 = P := by omega
    rw [h0, e2, res_Div64_0 (by omega) hC (by omega)]
  · have := res_Div64_pos (by omega) h hC hl
    rw [e] at this
    exact this
theorem res_fixedMulDiv {a b c : Int} (ha : -9223372036854775808 ≤ a ∧ a ≤ 9223372036854775807) (hb : -9223372036854775808 ≤ b ∧ b ≤ 9223372036854775807) (hc : -9223372036854775808 ≤ c ∧ c ≤ 9223372036854775807) :
    res Γ 144 [.int .i64 a, .int .i64 b, .int .i64 c] = some (mdR (mdV a b c)) := by
  refine res_code (fn := fixed_MulDiv) rfl rfl ?_
  by_cases hc0 : c = 0
  · rw [mdV_zero hc0]
    simp (disch := first | assumption | omega | decide | (simp only [List.length_cons, List.length_nil, List.length_append, List.length_replicate, List.length_map, List.length_set, List.length_take, List.length_drop, strs_len, ints_len, bools_len, aggs_len, vpv_len]; done) | (simp only [List.length_cons, List.length_nil, List.length_append, List.length_replicate, List.length_map, List.length_set, List.length_take, List.length_drop, strs_len, ints_len, bools_len, aggs_len, vpv_len]; omega)) only [go_sem, fixed_MulDiv, mdR]
  have s1 := res_size ha
  have s2 := res_size hb
  have s3 := res_size hc
  have no := @mdV_no a b c hc0
  have yes := @mdV_yes a b c hc0
  obtain ⟨A, hA⟩ : ∃ A, A = a.natAbs := ⟨_, rfl⟩
  obtain ⟨B, hB⟩ : ∃ B, B = b.natAbs := ⟨_, rfl⟩
  obtain ⟨C, hC⟩ : ∃ C, C = c.natAbs := ⟨_, rfl⟩
  rw [← hA] at s1 no yes
  rw [← hB] at s2 no yes
  rw [← hC] at s3 no yes
  obtain ⟨P, hP⟩ : ∃ P, P = A * B := ⟨_, rfl⟩
  have m := res_Mul64N (A := A) (B := B) (by omega) (by omega)
  rw [← hP] at m no yes
  have hCpos : 0 < C := by omega
  have dm := Nat.div_add_mod P C
  have rl := Nat.mod_lt P hCpos
  by_cases hh : C ≤ P / 18446744073709551616
  · have : 18446744073709551616 ≤ P / C := (Nat.le_div_iff_mul_le hCpos).2 (by omega)
    rw [no (by unfold mdQ; split <;> omega)]
    simp (disch := first | assumption | omega | decide | (simp only [List.length_cons, List.length_nil, List.length_append, List.length_replicate, List.length_map, List.length_set, List.length_take, List.length_drop, strs_len, ints_len, bools_len, aggs_len, vpv_len]; done) | (simp only [List.length_cons, List.length_nil, List.length_append, List.length_replicate, List.length_map, List.length_set, List.length_take, List.length_drop, strs_len, ints_len, bools_len, aggs_len, vpv_len]; omega)) only [go_sem, fixed_MulDiv, mdR, s1, s2, s3, m]
  have d := res_Div64 (P := P) (C := C) (by omega) (by omega)
  by_cases hq : 4611686018427387904 < P / C
  · rw [no (by unfold mdQ; split <;> omega)]
    simp (disch := first | assumption | omega | decide | (simp only [List.length_cons, List.length_nil, List.length_append, List.length_replicate, List.length_map, List.length_set, List.length_take, List.length_drop, strs_len, ints_len, bools_len, aggs_len, vpv_len]; done) | (simp only [List.length_cons, List.length_nil, List.length_append, List.length_replicate, List.length_map, List.length_set, List.length_take, List.length_drop, strs_len, ints_len, bools_len, aggs_len, vpv_len]; omega)) only [go_sem, fixed_MulDiv, mdR, s1, s2, s3, m, d]
  by_cases hr : C - P % C ≤ P % C
  · by_cases hq2 : 4611686018427387904 < P / C + 1
    · rw [no (by unfold mdQ; rw [if_pos hr]; exact hq2)]
      simp (disch := first | assumption | omega | decide | (simp only [List.length_cons, List.length_nil, List.length_append, List.length_replicate, List.length_map, List.length_set, List.length_take, List.length_drop, strs_len, ints_len, bools_len, aggs_len, vpv_len]; done) | (simp only [List.length_cons, List.length_nil, List.length_append, List.length_replicate, List.length_map, List.length_set, List.length_take, List.length_drop, strs_len, ints_len, bools_len, aggs_len, vpv_len]; omega)) only [go_sem, fixed_MulDiv, mdR, s1, s2, s3, m, d]
    · have e : mdQ P C = P / C + 1 := by unfold mdQ; rw [if_pos hr]
      rw [e] at yes
      rw [yes (by omega)]
      cases ea : decide (a < 0) <;> cases eb : decide (b < 0) <;> cases ec : decide (c < 0) <;> simp (disch := first | assumption | omega | decide | (simp only [List.length_cons, List.length_nil, List.length_append, List.length_replicate, List.length_map, List.length_set, List.length_take, List.length_drop, strs_len, ints_len, bools_len, aggs_len, vpv_len]; done) | (simp only [List.length_cons, List.length_nil, List.length_append, List.length_replicate, List.length_map, List.length_set, List.length_take, List.length_drop, strs_len, ints_len, bools_len, aggs_len, vpv_len]; omega)) only [go_sem, fixed_MulDiv, mdR, s1, s2, s3, m, d, ea, eb, ec] <;> simp
  · have e : mdQ P C = P / C := by unfold mdQ; rw [if_neg hr]
    rw [e] at yes
    rw [yes (by omega)]
    cases ea : decide (a < 0) <;> cases eb : decide (b < 0) <;> cases ec : decide (c < 0) <;> simp (disch := first | assumption | omega | decide | (simp only [List.length_cons, List.length_nil, List.length_append, List.length_replicate, List.length_map, List.length_set, List.length_take, List.length_drop, strs_len, ints_len, bools_len, aggs_len, vpv_len]; done) | (simp only [List.length_cons, List.length_nil, List.length_append, List.length_replicate, List.length_map, List.length_set, List.length_take, List.length_drop, strs_len, ints_len, bools_len, aggs_len, vpv_len]; omega)) only [go_sem, fixed_MulDiv, mdR, s1, s2, s3, m, d, ea, eb, ec] <;> simp
end Ab
namespace Ab
open Go (IntKind BinOp UnOp)
end Ab
namespace Ab
open Go (IntKind BinOp UnOp)
end Ab
namespace Ab
open Go (IntKind BinOp UnOp)
theorem divV_no1 {a b : Val} (h : knV a = false) : divV a b = (false, 0) := by unfold divV; rw [if_neg (by rw [h]; simp)]; rfl
theorem divV_no2 {a b : Val} (h : knV b = false) : divV a b = (false, 0) := by unfold divV; rw [if_neg (by rw [h]; simp)]; rfl
theorem divV_yes {a b : Val} (h : knV a = true) (h' : knV b = true) : divV a b = valV (mdV a.2 1000000 b.2) := by unfold divV; rw [if_pos ⟨h, h'⟩]
theorem res_valNo {n : Int} : res Γ 145 [.int .i64 n, .bool false] = some [.agg [.bool false, .int .i64 0]] := by
  refine res_code (fn := fixed_val) rfl rfl ?_
  simp (disch := first | assumption | omega | decide | (simp only [List.length_cons, List.length_nil, List.length_append, List.length_replicate, List.length_map, List.length_set, List.length_take, List.length_drop, strs_len, ints_len, bools_len, aggs_len, vpv_len]; done) | (simp only [List.length_cons, List.length_nil, List.length_append, List.length_replicate, List.length_map, List.length_set, List.length_take, List.length_drop, strs_len, ints_len, bools_len, aggs_len, vpv_len]; omega)) only [go_sem, fixed_val]
theorem res_valYes {n : Int} : res Γ 145 [.int .i64 n, .bool true] = some [.agg [.bool (ofV n).1, .int .i64 (ofV n).2]] := by
  refine res_code (fn := fixed_val) rfl rfl ?_
  simp (disch := first | assumption | omega | decide | (simp only [List.length_cons, List.length_nil, List.length_append, List.length_replicate, List.length_map, List.length_set, List.length_take, List.length_drop, strs_len, ints_len, bools_len, aggs_len, vpv_len]; done) | (simp only [List.length_cons, List.length_nil, List.length_append, List.length_replicate, List.length_map, List.length_set, List.length_take, List.length_drop, strs_len, ints_len, bools_len, aggs_len, vpv_len]; omega)) only [go_sem, fixed_val]
theorem res_fixedDiv (b : Bool) (n : Int) (c : Bool) (m : Int) : res Γ 138 [.agg [.bool b, .int .i64 n], .agg [.bool c, .int .i64 m]] = some [.agg [.bool (divV (b, n) (c, m)).1, .int .i64 (divV (b, n) (c, m)).2]] := by
  refine res_code (fn := fixed_Div) rfl rfl ?_
  cases h : knV (b, n)
  · simp (disch := first | assumption | omega | decide | (simp only [List.length_cons, List.length_nil, List.length_append, List.length_replicate, List.length_map, List.length_set, List.length_take, List.length_drop, strs_len, ints_len, bools_len, aggs_len, vpv_len]; done) | (simp only [List.length_cons, List.length_nil, List.length_append, List.length_replicate, List.length_map, List.length_set, List.length_take, List.length_drop, strs_len, ints_len, bools_len, aggs_len, vpv_len]; omega)) only [go_sem, fixed_Div, h, divV_no1 h]
  · cases h' : knV (c, m)
    · simp (disch := first | assumption | omega | decide | (simp only [List.length_cons, List.length_nil, List.length_append, List.length_replicate, List.length_map, List.length_set, List.length_take, List.length_drop, strs_len, ints_len, bools_len, aggs_len, vpv_len]; done) | (simp only [List.length_cons, List.length_nil, List.length_append, List.length_replicate, List.length_map, List.length_set, List.length_take, List.length_drop, strs_len, ints_len, bools_len, aggs_len, vpv_len]; omega)) only [go_sem, fixed_Div, h, h', divV_no2 h']
    · obtain ⟨_, g1, g2⟩ := knV_pair h
      obtain ⟨_, g3, g4⟩ := knV_pair h'
      have e := res_fixedMulDiv (a := n) (b := 1000000) (c := m) (by omega) (by decide) (by omega)
      rw [divV_yes h h']
      cases hm : mdV n 1000000 m with
      | none =>
        rw [hm] at e
        simp only [mdR] at e
        simp (disch := first | assumption | omega | decide | (simp only [List.length_cons, List.length_nil, List.length_append, List.length_replicate, List.length_map, List.length_set, List.length_take, List.length_drop, strs_len, ints_len, bools_len, aggs_len, vpv_len]; done) | (simp only [List.length_cons, List.length_nil, List.length_append, List.length_replicate, List.length_map, List.length_set, List.length_take, List.length_drop, strs_len, ints_len, bools_len, aggs_len, vpv_len]; omega)) only [go_sem, fixed_Div, h, h', e, res_valNo, valV, noV]
      | some q =>
        rw [hm] at e
        simp only [mdR] at e
        simp (disch := first | assumption | omega | decide | (simp only [List.length_cons, List.length_nil, List.length_append, List.length_replicate, List.length_map, List.length_set, List.length_take, List.length_drop, strs_len, ints_len, bools_len, aggs_len, vpv_len]; done) | (simp only [List.length_cons, List.length_nil, List.length_append, List.length_replicate, List.length_map, List.length_set, List.length_take, List.length_drop, strs_len, ints_len, bools_len, aggs_len, vpv_len]; omega)) only [go_sem, fixed_Div, h, h', e, res_valYes, valV]
theorem res_fixedDivV (x y : Val) : res Γ 138 [.agg [.bool x.1, .int .i64 x.2], .agg [.bool y.1, .int .i64 y.2]] = some [.agg [.bool (divV x y).1, .int .i64 (divV x y).2]] := by
  obtain ⟨b, n⟩ := x; obtain ⟨c, m⟩ := y; exact res_fixedDiv b n c m
theorem intV_small {n : Int} (h : 0 ≤ n ∧ n ≤ 1000000000) : intV n = (true, n * 1000000) := by unfold intV maxN; rw [if_pos (by omega)]
theorem res_fixedInt {n : Int} (h : 0 ≤ n ∧ n ≤ 1000000000) : res Γ 137 [.int .i64 n] = some [.agg [.bool (intV n).1, .int .i64 (intV n).2]] := by
  rw [intV_small h]
  refine res_code (fn := fixed_Int) rfl rfl ?_
  simp (disch := first | assumption | omega | decide | (simp only [List.length_cons, List.length_nil, List.length_append, List.length_replicate, List.length_map, List.length_set, List.length_take, List.length_drop, strs_len, ints_len, bools_len, aggs_len, vpv_len]; done) | (simp only [List.length_cons, List.length_nil, List.length_append, List.length_replicate, List.length_map, List.length_set, List.length_take, List.length_drop, strs_len, ints_len, bools_len, aggs_len, vpv_len]; omega)) only [go_sem, fixed_Int, ofV_in]
theorem agg1_cons {l : List Val} {b : Val} {k : List Val} (h : knL l = b :: k) : aggV 1 l = divV (addV (b :: k)) (intV ((b :: k).length : Nat)) := by unfold aggV; rw [h]; exact if_pos rfl
theorem res_aggOf1 {kk : SK} (l : List Val) (hl : l.length < 1000000000) : res Γ 132 [.int .i64 1, .sl kk 2 (vpv l)] = some [.agg [.bool (aggV 1 l).1, .int .i64 (aggV 1 l).2]] := by
  have hk := knL_len l
  refine res_code (fn := agg_Of) rfl rfl ?_
  simp (disch := first | assumption | omega | decide | (simp only [List.length_cons, List.length_nil, List.length_append, List.length_replicate, List.length_map, List.length_set, List.length_take, List.length_drop, strs_len, ints_len, bools_len, aggs_len, vpv_len]; done) | (simp only [List.length_cons, List.length_nil, List.length_append, List.length_replicate, List.length_map, List.length_set, List.length_take, List.length_drop, strs_len, ints_len, bools_len, aggs_len, vpv_len]; omega)) only [go_sem, agg_Of]
  cases h : knL l with
  | nil =>
    simp (disch := first | assumption | omega | decide | (simp only [List.length_cons, List.length_nil, List.length_append, List.length_replicate, List.length_map, List.length_set, List.length_take, List.length_drop, strs_len, ints_len, bools_len, aggs_len, vpv_len]; done) | (simp only [List.length_cons, List.length_nil, List.length_append, List.length_replicate, List.length_map, List.length_set, List.length_take, List.length_drop, strs_len, ints_len, bools_len, aggs_len, vpv_len]; omega)) only [go_sem, agg2_nil h]
  | cons b k =>
    have e := agg1_cons h
    rw [h] at hk
    have ei := res_fixedInt (n := ((b :: k).length : Nat)) (by simp only [List.length_cons] at hk ⊢; omega)
    have ed := res_fixedDivV (addV (b :: k)) (intV ((b :: k).length : Nat))
    simp only [List.length_cons] at hk e ei ed
    simp (disch := first | assumption | omega | decide | (simp only [List.length_cons, List.length_nil, List.length_append, List.length_replicate, List.length_map, List.length_set, List.length_take, List.length_drop, strs_len, ints_len, bools_len, aggs_len, vpv_len]; done) | (simp only [List.length_cons, List.length_nil, List.length_append, List.length_replicate, List.length_map, List.length_set, List.length_take, List.length_drop, strs_len, ints_len, bools_len, aggs_len, vpv_len]; omega)) only [go_sem, e, valP, ei, ed]
end Ab
namespace Ab
open Go (IntKind BinOp UnOp)
def medV (l : List Val) : Val :=
  let o := sortI (nums l)
  if o.length = 0 then noV else if o.length % 2 = 1 then (true, o.getD (o.length / 2) 0)
  else divV (addV [(true, o.getD (o.length / 2 - 1) 0), (true, o.getD (o.length / 2) 0)]) (intV 2)
theorem sortO_len {l : List Val} : (sortI (nums l)).length = (knL l).length := by rw [sortI_len', nums_len]
theorem two_vpv (a b : Int) : ([.agg [.bool true, .int .i64 a], .agg [.bool true, .int .i64 b]] : List PV) = vpv [(true, a), (true, b)] := rfl
theorem toNat_half (n : Nat) : ((n : Int) / 2).toNat = n / 2 := by omega
theorem toNat_half1 (n : Nat) : ((n : Int) / 2 - 1).toNat = n / 2 - 1 := by omega
theorem res_fwinMedian {kk : SK} (l : List Val) (hl : l.length < 1000000000) : res Γ 115 [.sl kk 2 (vpv l)] = some [.agg [.bool (medV l).1, .int .i64 (medV l).2]] := by
  have hk := knL_len l
  have hs := @sortO_len l
  have e := res_fwinSorted (kk := kk) l hl
  have hw : (sortV l).length = (sortI (nums l)).length := toV_len
  have eg : ∀ j, j < (sortI (nums l)).length → (sortV l).getD j (false, 0) = (true, (sortI (nums l)).getD j 0) := fun j h => toV_getD h
  have q : (medV l) = if (sortI (nums l)).length = 0 then noV else if (sortI (nums l)).length % 2 = 1 then (true, (sortI (nums l)).getD ((sortI (nums l)).length / 2) 0)
    else divV (addV [(true, (sortI (nums l)).getD ((sortI (nums l)).length / 2 - 1) 0), (true, (sortI (nums l)).getD ((sortI (nums l)).length / 2) 0)]) (intV 2) := rfl
  rw [q]
  generalize sortI (nums l) = o at *
  refine res_code (fn := fwin_Median) rfl rfl ?_
  by_cases h0 : o.length = 0
  · rw [if_pos h0]
    simp (disch := first | assumption | omega | decide | (simp only [List.length_cons, List.length_nil, List.length_append, List.length_replicate, List.length_map, List.length_set, List.length_take, List.length_drop, strs_len, ints_len, bools_len, aggs_len, vpv_len]; done) | (simp only [List.length_cons, List.length_nil, List.length_append, List.length_replicate, List.length_map, List.length_set, List.length_take, List.length_drop, strs_len, ints_len, bools_len, aggs_len, vpv_len]; omega)) only [go_sem, fwin_Median, e, hw, noV]
  · rw [if_neg h0]
    have g0 : ((o.length : Int) / 2).toNat < o.length := by omega
    have g1 : ((o.length : Int) / 2 - 1).toNat < o.length := by omega
    have e0 := eg _ g0
    have e1 := eg _ g1
    have w0 := wrap_i64 (x := (o.length : Int) / 2) (by omega) (by omega)
    have m0 := map_quo (k := .i64) (a := (o.length : Int)) (b := 2) (by omega) (by omega) w0
    rw [toNat_half] at e0 g0
    rw [toNat_half1] at e1 g1
    by_cases h1 : o.length % 2 = 1
    · rw [if_pos h1]
      have h1' : (o.length : Int) % 2 = 1 := by omega
      simp (disch := first | assumption | omega | decide | (simp only [List.length_cons, List.length_nil, List.length_append, List.length_replicate, List.length_map, List.length_set, List.length_take, List.length_drop, strs_len, ints_len, bools_len, aggs_len, vpv_len]; done) | (simp only [List.length_cons, List.length_nil, List.length_append, List.length_replicate, List.length_map, List.length_set, List.length_take, List.length_drop, strs_len, ints_len, bools_len, aggs_len, vpv_len]; omega)) only [go_sem, fwin_Median, e, hw, m0, toNat_half, e0, valP]
    · rw [if_neg h1]
      have h1' : ¬ (o.length : Int) % 2 = 1 := by omega
      have a := res_fixedAdd (kk := .tight) [(true, o.getD (o.length / 2 - 1) 0), (true, o.getD (o.length / 2) 0)] (by simp)
      rw [← two_vpv] at a
      have b := res_fixedInt (n := 2) (by omega)
      have c := res_fixedDivV (addV [(true, o.getD (o.length / 2 - 1) 0), (true, o.getD (o.length / 2) 0)]) (intV 2)
      simp (disch := first | assumption | omega | decide | (simp only [List.length_cons, List.length_nil, List.length_append, List.length_replicate, List.length_map, List.length_set, List.length_take, List.length_drop, strs_len, ints_len, bools_len, aggs_len, vpv_len]; done) | (simp only [List.length_cons, List.length_nil, List.length_append, List.length_replicate, List.length_map, List.length_set, List.length_take, List.length_drop, strs_len, ints_len, bools_len, aggs_len, vpv_len]; omega)) only [go_sem, fwin_Median, e, hw, m0, toNat_half, toNat_half1, e0, e1, valP, a, b, c]
end Ab
namespace Ab
open Go (IntKind BinOp UnOp)
def rankV (p : Val) (l : List Val) : Val :=
  let o := sortI (nums l)
  if p.1 = true ∧ 0 ≤ p.2 ∧ p.2 ≤ 100000000 ∧ o.length ≠ 0 then (true, o.getD (max 1 ((p.2 * o.length + 100000000 - 1) / 100000000) - 1).toNat 0) else noV
theorem rank_lt {p : Int} {n : Nat} (h0 : 0 ≤ p) (h1 : p ≤ 100000000) (hn : n ≠ 0) : 0 ≤ p * n ∧ p * n ≤ 100000000 * n ∧ (max 1 ((p * n + 100000000 - 1) / 100000000) - 1).toNat < n := by
  have a : 0 ≤ p * n := Int.mul_nonneg h0 (by omega)
  have b : p * n ≤ 100000000 * n := Int.mul_le_mul_of_nonneg_right h1 (by omega)
  generalize p * n = q at *
  omega
theorem res_fwinRank {kk : SK} (p : Val) (l : List Val) (hl : l.length < 1000000000) : res Γ 204 [.agg [.bool p.1, .int .i64 p.2], .sl kk 2 (vpv l)] = some [.agg [.bool (rankV p l).1, .int .i64 (rankV p l).2]] := by
  have hk := knL_len l
  have hs := @sortO_len l
  have e := res_fwinSorted (kk := kk) l hl
  have hw : (sortV l).length = (sortI (nums l)).length := toV_len
  have eg : ∀ j, j < (sortI (nums l)).length → (sortV l).getD j (false, 0) = (true, (sortI (nums l)).getD j 0) := fun j h => toV_getD h
  have q : rankV p l = if p.1 = true ∧ 0 ≤ p.2 ∧ p.2 ≤ 100000000 ∧ (sortI (nums l)).length ≠ 0 then (true, (sortI (nums l)).getD (max 1 ((p.2 * (sortI (nums l)).length + 100000000 - 1) / 100000000) - 1).toNat 0) else noV := rfl
  have ei : res Γ 137 [.int .i64 100] = some [.agg [.bool true, .int .i64 100000000]] := res_fixedInt (n := 100) (by omega)
  rw [q]
  obtain ⟨b, n⟩ := p
  generalize sortI (nums l) = o at *
  refine res_code (fn := fwin_Rank) rfl rfl ?_
  by_cases h : b = true ∧ 0 ≤ n ∧ n ≤ 100000000 ∧ o.length ≠ 0
  · rw [if_pos h]
    obtain ⟨rfl, h0, h1, h2⟩ := h
    obtain ⟨r1, r2, r3⟩ := rank_lt h0 h1 h2
    have e0 := eg _ r3
    have r4 : 0 ≤ max 1 ((n * (o.length : Int) + 100000000 - 1) / 100000000) - 1 := by omega
    have w0 := wrap_i64 (x := (n * (o.length : Int) + 100000000 - 1) / 100000000) (by omega) (by omega)
    have m0 := map_quo (k := .i64) (a := n * (o.length : Int) + 100000000 - 1) (b := 100000000) (by omega) (by omega) w0
    have r5 : max 1 ((n * (o.length : Int) + 100000000 - 1) / 100000000) - 1 < (o.length : Int) := by omega
    have r6 : 1 ≤ max 1 ((n * (o.length : Int) + 100000000 - 1) / 100000000) := by omega
    generalize hm : max 1 ((n * (o.length : Int) + 100000000 - 1) / 100000000) = m at *
    simp (disch := first | assumption | omega | decide | (simp only [List.length_cons, List.length_nil, List.length_append, List.length_replicate, List.length_map, List.length_set, List.length_take, List.length_drop, strs_len, ints_len, bools_len, aggs_len, vpv_len]; done) | (simp only [List.length_cons, List.length_nil, List.length_append, List.length_replicate, List.length_map, List.length_set, List.length_take, List.length_drop, strs_len, ints_len, bools_len, aggs_len, vpv_len]; omega)) only [go_sem, fwin_Rank, ei, e, hw, m0, hm, e0, valP]
  · rw [if_neg h]
    cases b
    · simp (disch := first | assumption | omega | decide | (simp only [List.length_cons, List.length_nil, List.length_append, List.length_replicate, List.length_map, List.length_set, List.length_take, List.length_drop, strs_len, ints_len, bools_len, aggs_len, vpv_len]; done) | (simp only [List.length_cons, List.length_nil, List.length_append, List.length_replicate, List.length_map, List.length_set, List.length_take, List.length_drop, strs_len, ints_len, bools_len, aggs_len, vpv_len]; omega)) only [go_sem, fwin_Rank, ei, e, hw, noV]
    · simp only [true_and] at h
      repeat' (first | (simp (disch := first | assumption | omega | decide | (simp only [List.length_cons, List.length_nil, List.length_append, List.length_replicate, List.length_map, List.length_set, List.length_take, List.length_drop, strs_len, ints_len, bools_len, aggs_len, vpv_len]; done) | (simp only [List.length_cons, List.length_nil, List.length_append, List.length_replicate, List.length_map, List.length_set, List.length_take, List.length_drop, strs_len, ints_len, bools_len, aggs_len, vpv_len]; omega)) only [go_sem, fwin_Rank, ei, e, hw, noV]) | refine cond_split (fun hc => ?_) (fun hc => ?_) | refine gd_split_f (fun hc => ?_) (fun hc => ?_) | refine gd_split_t (fun hc => ?_) (fun hc => ?_))
      all_goals first | (exfalso; omega) | skip
end Ab
