import Derived.Test.YtjkkipfigangaaaGreatDoorPDiv2
namespace Ab
open Go (IntKind BinOp UnOp)
theorem map_orN {H L : Nat} (h : H + L < 18446744073709551616) (e : H ||| L = H + L) : binAV .or (.p (.int .u64 (H : Int))) (.p (.int .u64 (L : Int))) = some (.p (.int .u64 ((H + L : Nat) : Int))) := by
  have e0 : ∀ n : Nat, n < 18446744073709551616 → (BitVec.ofInt IntKind.u64.bits (n : Int)).toNat = n := by
    intro n hn
    rw [BitVec.toNat_ofInt]
    have e3 : ((2 ^ IntKind.u64.bits : Nat) : Int) = 18446744073709551616 := by decide
    rw [e3]; omega
  have key : ((BitVec.ofInt IntKind.u64.bits (H : Int) ||| BitVec.ofInt IntKind.u64.bits (L : Int)).toNat : Int) = ((H + L : Nat) : Int) := by
    rw [BitVec.toNat_or, e0 H (by omega), e0 L (by omega), e]
  simp only [binAV, binPV, binInt, true_or, if_true, Option.map_some, key]
  rw [wrap_u64 (by omega) (by omega)]
theorem res_Div64_0 {lo y : Nat} (hy : 0 < y) (hy2 : y < 18446744073709551616) (hl : lo < 18446744073709551616) : res Γ 147 [.int .u64 ((0 : Nat) : Int), .int .u64 (lo : Int), .int .u64 (y : Int)] = some [.int .u64 ((lo / y : Nat) : Int), .int .u64 ((lo % y : Nat) : Int)] := by
  refine res_code (fn := math_bits_Div64) rfl rfl ?_
  simp (disch := first | assumption | omega | decide | (simp only [lens] <;> omega) | fail) only [go_sem, math_bits_Div64, map_quo64]
  simp
theorem res_Div64_pos {hi lo y : Nat} (h0 : 0 < hi) (h : hi < y) (hy : y < 18446744073709551616) (hl : lo < 18446744073709551616) :
    res Γ 147 [.int .u64 (hi : Int), .int .u64 (lo : Int), .int .u64 (y : Int)] = some [.int .u64 (((hi * 18446744073709551616 + lo) / y : Nat) : Int), .int .u64 (((hi * 18446744073709551616 + lo) % y : Nat) : Int)] := by
  obtain ⟨s, ez, hs, hs1, hs2⟩ := res_LZ (y := y) (by omega)
  obtain ⟨Y, hY⟩ : ∃ Y, Y = y * 2 ^ s := ⟨_, rfl⟩
  obtain ⟨T, hT⟩ : ∃ T, T = lo * 2 ^ s % 18446744073709551616 := ⟨_, rfl⟩
  obtain ⟨U, hU⟩ : ∃ U, U = hi * 2 ^ s + lo / 2 ^ (64 - s) := ⟨_, rfl⟩
  obtain ⟨k1, k2, k3, k4⟩ := knuth (N := hi * 18446744073709551616 + lo) hs h hl rfl hY hU hT
  obtain ⟨D, hD⟩ : ∃ D, D = (U * 4294967296 + T / 4294967296) / Y := ⟨_, rfl⟩
  obtain ⟨V, hV⟩ : ∃ V, V = (U * 4294967296 + T / 4294967296) % Y := ⟨_, rfl⟩
  obtain ⟨E, hE⟩ : ∃ E, E = (V * 4294967296 + T % 4294967296) / Y := ⟨_, rfl⟩
  obtain ⟨R, hR⟩ : ∃ R, R = (V * 4294967296 + T % 4294967296) % Y := ⟨_, rfl⟩
  obtain ⟨f1, f2⟩ := k4 D V E R hD hV hE hR
  have hT2 : T < 18446744073709551616 := by rw [hT]; exact Nat.mod_lt _ (by decide)
  rw [← hY] at hs1 hs2
  have hV2 : V < Y := by rw [hV]; exact Nat.mod_lt _ (by omega)
  have hR2 : R < Y := by rw [hR]; exact Nat.mod_lt _ (by omega)
  have d1 := Nat.div_add_mod (U * 4294967296 + T / 4294967296) Y
  have d2 := Nat.div_add_mod (V * 4294967296 + T % 4294967296) Y
  rw [← hD, ← hV] at d1
  rw [← hE, ← hR] at d2
  have m1 : D * Y ≤ U * 4294967296 + T / 4294967296 := by rw [Nat.mul_comm]; omega
  have m2 : E * Y ≤ V * 4294967296 + T % 4294967296 := by rw [Nat.mul_comm]; omega
  have m1' : U * 4294967296 + T / 4294967296 < (D + 1) * Y := by rw [Nat.add_mul D 1 Y, Nat.mul_comm D Y, Nat.one_mul Y, ← d1]; exact Nat.add_lt_add_left hV2 _
  have m2' : V * 4294967296 + T % 4294967296 < (E + 1) * Y := by rw [Nat.add_mul E 1 Y, Nat.mul_comm E Y, Nat.one_mul Y, ← d2]; exact Nat.add_lt_add_left hR2 _
  have lD : D < 4294967296 := Nat.lt_of_mul_lt_mul_right (a := Y) (by omega)
  have lE : E < 4294967296 := Nat.lt_of_mul_lt_mul_right (a := Y) (by omega)
  obtain ⟨H, hH⟩ : ∃ H, H = hi * 2 ^ s := ⟨_, rfl⟩
  obtain ⟨L, hL⟩ : ∃ L, L = lo / 2 ^ (64 - s) := ⟨_, rfl⟩
  have eor : H ||| L = H + L := by rw [hH, Nat.mul_comm]; rw [← hL] at k2; exact (Nat.two_pow_add_eq_or_of_lt k2 hi).symm
  rw [← hH, ← hL] at hU
  rw [← hH] at k3
  have eY : (y : Int) * 2 ^ s = (Y : Int) := by rw [hY]; simp
  have eH : (hi : Int) * 2 ^ s = (H : Int) := by rw [hH]; simp
  have eT : IntKind.u64.wrap ((lo : Int) * 2 ^ s) = (T : Int) := by rw [hT, wrap_u64m]; simp
  have eL : (lo : Int) / 2 ^ (64 - s) = (L : Int) := by rw [hL]; simp
  have e64 : ((64 : Int) - (s : Int)).toNat = 64 - s := by omega
  have eU := map_orN (H := H) (L := L) (by omega) eor
  rw [← hU] at eU
  have i1 : (D : Int) * (Y : Int) ≤ (U : Int) * 4294967296 + (T : Int) / 4294967296 := by omega
  have i1' : (U : Int) * 4294967296 + (T : Int) / 4294967296 < ((D : Int) + 1) * (Y : Int) := by rw [Nat.add_mul, Nat.one_mul] at m1'; rw [Int.add_mul, Int.one_mul]; omega
  have i2 : (E : Int) * (Y : Int) ≤ (V : Int) * 4294967296 + (T : Int) % 4294967296 := by omega
  have i2' : (V : Int) * 4294967296 + (T : Int) % 4294967296 < ((E : Int) + 1) * (Y : Int) := by rw [Nat.add_mul, Nat.one_mul] at m2'; rw [Int.add_mul, Int.one_mul]; omega
  have g1 : (Y : Int) * (D : Int) + (V : Int) = (U : Int) * 4294967296 + (T : Int) / 4294967296 := by omega
  have g2 : (Y : Int) * (E : Int) + (R : Int) = (V : Int) * 4294967296 + (T : Int) % 4294967296 := by omega
  have eV : IntKind.u64.wrap (IntKind.u64.wrap (IntKind.u64.wrap ((U : Int) * 4294967296) + (T : Int) / 4294967296) - IntKind.u64.wrap ((D : Int) * (Y : Int))) = (V : Int) := by
    rw [Int.mul_comm] at g1
    simp only [wrap_u64m]; omega
  have eR : IntKind.u64.wrap (IntKind.u64.wrap (IntKind.u64.wrap ((V : Int) * 4294967296) + (T : Int) % 4294967296) - IntKind.u64.wrap ((E : Int) * (Y : Int))) = (R : Int) := by
    rw [Int.mul_comm] at g2
    simp only [wrap_u64m]; omega
  have eQ : (R : Int) / 2 ^ s = ((R / 2 ^ s : Nat) : Int) := by simp
  have n1 : (0 : Int) < (Y : Int) / 4294967296 := by omega
  have q1a := dig_first (Y := (Y : Int)) (n1 := (Y : Int) / 4294967296) (n0 := (Y : Int) % 4294967296) (U := U) (u := (T : Int) / 4294967296) (Q := D) (by omega) (by omega) (by omega) (by omega) (by omega) i1
  have q2a := dig_first (Y := (Y : Int)) (n1 := (Y : Int) / 4294967296) (n0 := (Y : Int) % 4294967296) (U := V) (u := (T : Int) % 4294967296) (Q := E) (by omega) (by omega) (by omega) (by omega) (by omega) i2
  have up : ∀ x : Int, 0 ≤ x → x < 18446744073709551616 → x / ((Y : Int) / 4294967296) ≤ 8589934592 ∧ x = x / ((Y : Int) / 4294967296) * ((Y : Int) / 4294967296) + x % ((Y : Int) / 4294967296) ∧ 0 ≤ x % ((Y : Int) / 4294967296) ∧ x % ((Y : Int) / 4294967296) < (Y : Int) / 4294967296 := by
    intro x h0 h1
    have r0 := Int.emod_nonneg x (Int.ne_of_gt n1)
    have r1 := Int.emod_lt_of_pos x n1
    have e := Int.mul_ediv_add_emod x ((Y : Int) / 4294967296)
    rw [Int.mul_comm] at e
    refine ⟨?_, by omega, r0, r1⟩
    have hle : x / ((Y : Int) / 4294967296) * 2147483648 ≤ x / ((Y : Int) / 4294967296) * ((Y : Int) / 4294967296) := Int.mul_le_mul_of_nonneg_left (by omega) (Int.ediv_nonneg h0 (by omega))
    omega
  have a1 : 0 ≤ (U : Int) / ((Y : Int) / 4294967296) * ((Y : Int) / 4294967296) := Int.mul_nonneg (Int.ediv_nonneg (by omega) (by omega)) (by omega)
  have a2 : 0 ≤ (V : Int) / ((Y : Int) / 4294967296) * ((Y : Int) / 4294967296) := Int.mul_nonneg (Int.ediv_nonneg (by omega) (by omega)) (by omega)
  obtain ⟨x1, x2, x3, x4⟩ := up U (by omega) (by omega)
  obtain ⟨z1, z2, z3, z4⟩ := up V (by omega) (by omega)
  have w1 : (U : Int) - (U : Int) / ((Y : Int) / 4294967296) * ((Y : Int) / 4294967296) = (U : Int) % ((Y : Int) / 4294967296) := by omega
  have w2 : (V : Int) - (V : Int) / ((Y : Int) / 4294967296) * ((Y : Int) / 4294967296) = (V : Int) % ((Y : Int) / 4294967296) := by omega
  have r1 : ∀ x : Int, binAV .shr (.p (.int .u64 x)) (.p (.int .u64 (s : Int))) = some (.p (.int .u64 (x / 2 ^ s))) := fun x => by rw [map_shr (by omega) (by omega), toNat_cast]
  have r2 : ∀ x : Int, binAV .shr (.p (.int .u64 x)) (.p (.int .u64 (64 - (s : Int)))) = some (.p (.int .u64 (x / 2 ^ (64 - s)))) := fun x => by rw [map_shr (by omega) (by omega), e64]
  have r3 : ∀ x : Int, binAV .shl (.p (.int .u64 x)) (.p (.int .u64 (s : Int))) = some (.p (.int .u64 (IntKind.u64.wrap (x * 2 ^ s)))) := fun x => by rw [map_shl (by omega) (by omega), toNat_cast]
  rw [← f1, ← f2]
  refine res_code (fn := math_bits_Div64) rfl rfl ?_
  simp (disch := first | assumption | omega | decide | (simp only [lens] <;> omega) | fail) only [go_sem, math_bits_Div64, ez, r2, r3, map_shr32, map_and32, map_quo64, eY, eH, eT, eL, eU, w1]
  refine div_l2_ok (Y := Y) (n1 := (Y : Int) / 4294967296) (n0 := (Y : Int) % 4294967296) (D := D) (by omega) (by omega) (by omega) (by omega) (by omega) (by omega) i1 i1' 2 _ _ _ x2 x3 (by omega) q1a x1 (by omega) ?_
  simp (disch := first | assumption | omega | decide | (simp only [lens] <;> omega) | fail) only [go_sem, eV, map_quo64, w2]
  refine div_l1_ok (Y := Y) (n1 := (Y : Int) / 4294967296) (n0 := (Y : Int) % 4294967296) (D := E) (by omega) (by omega) (by omega) (by omega) (by omega) (by omega) i2 i2' 2 _ _ _ z2 z3 (by omega) q2a z1 (by omega) ?_
  simp (disch := first | assumption | omega | decide | (simp only [lens] <;> omega) | fail) only [go_sem, eR, r1, eQ]
  simp
end Ab
namespace Ab
open Go (IntKind BinOp UnOp)
def mdR : Option Int → List PV
  | some n => [.int .i64 n, .bool true]
  | none => [.int .i64 0, .bool false]
theorem mdV_zero {a b c : Int} (h : c = 0) : mdV a b c = none := by unfold mdV; rw [if_pos h]
def mdQ (P C : Nat) : Nat := if C - P % C ≤ P % C then P / C + 1 else P / C
theorem mdV_no {a b c : Int} (h : c ≠ 0) (hq : 4611686018427387904 < mdQ (a.natAbs * b.natAbs) c.natAbs) : mdV a b c = none := by
  unfold mdV maxN
  unfold mdQ at hq
  rw [if_neg h]
  dsimp only
  rw [if_neg (by omega)]
theorem mdV_yes {a b c : Int} (h : c ≠ 0) (hq : mdQ (a.natAbs * b.natAbs) c.natAbs ≤ 4611686018427387904) :
    mdV a b c = some (if ((decide (a < 0) != decide (b < 0)) != decide (c < 0)) = true then -((mdQ (a.natAbs * b.natAbs) c.natAbs : Nat) : Int) else ((mdQ (a.natAbs * b.natAbs) c.natAbs : Nat) : Int)) := by
  unfold mdV maxN
  unfold mdQ at hq ⊢
  rw [if_neg h]
  dsimp only
  rw [if_pos (by omega)]
theorem res_size {a : Int} (h : -9223372036854775808 ≤ a ∧ a ≤ 9223372036854775807) : res Γ 148 [.int .i64 a] = some [.int .u64 (a.natAbs : Int)] := by
  refine res_code (fn := fixed_size) rfl rfl ?_
  by_cases hn : a < 0
  · have e1 : IntKind.u64.wrap a = a + 18446744073709551616 := by rw [wrap_u64m]; omega
    have e2 : IntKind.u64.wrap (0 - (a + 18446744073709551616)) = (a.natAbs : Int) := by rw [wrap_u64m]; omega
    simp (disch := first | assumption | omega | decide | (simp only [lens] <;> omega) | fail) only [go_sem, fixed_size, e1, e2]
  · have e1 : IntKind.u64.wrap a = (a.natAbs : Int) := by rw [wrap_u64m]; omega
    simp (disch := first | assumption | omega | decide | (simp only [lens] <;> omega) | fail) only [go_sem, fixed_size, e1]
theorem res_Mul64N {A B : Nat} (hA : A < 18446744073709551616) (hB : B < 18446744073709551616) : res Γ 149 [.int .u64 (A : Int), .int .u64 (B : Int)] = some [.int .u64 ((A * B / 18446744073709551616 : Nat) : Int), .int .u64 ((A * B % 18446744073709551616 : Nat) : Int)] := by
  rw [res_Mul64 (by omega) (by omega)]
  simp
theorem res_Div64 {P C : Nat} (hC : C < 18446744073709551616) (h : P / 18446744073709551616 < C) :
    res Γ 147 [.int .u64 ((P / 18446744073709551616 : Nat) : Int), .int .u64 ((P % 18446744073709551616 : Nat) : Int), .int .u64 (C : Int)] = some [.int .u64 ((P / C : Nat) : Int), .int .u64 ((P % C : Nat) : Int)] := by
  have hl : P % 18446744073709551616 < 18446744073709551616 := Nat.mod_lt _ (by decide)
  have e : P / 18446744073709551616 * 18446744073709551616 + P % 18446744073709551616 = P := Nat.div_add_mod' P _
  by_cases h0 : P / 18446744073709551616 = 0
  · have e2 : P % 18446744073709551616 = P := by omega
    rw [h0, e2, res_Div64_0 (by omega) hC (by omega)]
  · have := res_Div64_pos (by omega) h hC hl
    rw [e] at this
    exact this
theorem res_fixedMulDiv {a b c : Int} (ha : -9223372036854775808 ≤ a ∧ a ≤ 9223372036854775807) (hb : -9223372036854775808 ≤ b ∧ b ≤ 9223372036854775807) (hc : -9223372036854775808 ≤ c ∧ c ≤ 9223372036854775807) :
    res Γ 144 [.int .i64 a, .int .i64 b, .int .i64 c] = some (mdR (mdV a b c)) := by
  refine res_code (fn := fixed_MulDiv) rfl rfl ?_
  by_cases hc0 : c = 0
  · rw [mdV_zero hc0]
    simp (disch := first | assumption | omega | decide | (simp only [lens] <;> omega) | fail) only [go_sem, fixed_MulDiv, mdR]
  have s1 := res_size ha
  have s2 := res_size hb
  have s3 := res_size hc
  have no := @mdV_no a b c hc0
  have yes := @mdV_yes a b c hc0
  obtain ⟨A, hA⟩ : ∃ A, A = a.natAbs := ⟨_, rfl⟩
  obtain ⟨B, hB⟩ : ∃ B, B = b.natAbs := ⟨_, rfl⟩
  obtain ⟨C, hC⟩ : ∃ C, C = c.natAbs := ⟨_, rfl⟩
  rw [← hA] at s1 no yes
  rw [← hB] at s2 no yes
  rw [← hC] at s3 no yes
  obtain ⟨P, hP⟩ : ∃ P, P = A * B := ⟨_, rfl⟩
  have m := res_Mul64N (A := A) (B := B) (by omega) (by omega)
  rw [← hP] at m no yes
  have hCpos : 0 < C := by omega
  have dm := Nat.div_add_mod P C
  have rl := Nat.mod_lt P hCpos
  by_cases hh : C ≤ P / 18446744073709551616
  · have : 18446744073709551616 ≤ P / C := (Nat.le_div_iff_mul_le hCpos).2 (by omega)
    rw [no (by unfold mdQ; split <;> omega)]
    simp (disch := first | assumption | omega | decide | (simp only [lens] <;> omega) | fail) only [go_sem, fixed_MulDiv, mdR, s1, s2, s3, m]
  have d := res_Div64 (P := P) (C := C) (by omega) (by omega)
  by_cases hq : 4611686018427387904 < P / C
  · rw [no (by unfold mdQ; split <;> omega)]
    simp (disch := first | assumption | omega | decide | (simp only [lens] <;> omega) | fail) only [go_sem, fixed_MulDiv, mdR, s1, s2, s3, m, d]
  by_cases hr : C - P % C ≤ P % C
  · by_cases hq2 : 4611686018427387904 < P / C + 1
    · rw [no (by unfold mdQ; rw [if_pos hr]; exact hq2)]
      simp (disch := first | assumption | omega | decide | (simp only [lens] <;> omega) | fail) only [go_sem, fixed_MulDiv, mdR, s1, s2, s3, m, d]
    · have e : mdQ P C = P / C + 1 := by unfold mdQ; rw [if_pos hr]
      rw [e] at yes
      rw [yes (by omega)]
      cases ea : decide (a < 0) <;> cases eb : decide (b < 0) <;> cases ec : decide (c < 0) <;> simp (disch := first | assumption | omega | decide | (simp only [lens] <;> omega) | fail) only [go_sem, fixed_MulDiv, mdR, s1, s2, s3, m, d, ea, eb, ec] <;> simp
  · have e : mdQ P C = P / C := by unfold mdQ; rw [if_neg hr]
    rw [e] at yes
    rw [yes (by omega)]
    cases ea : decide (a < 0) <;> cases eb : decide (b < 0) <;> cases ec : decide (c < 0) <;> simp (disch := first | assumption | omega | decide | (simp only [lens] <;> omega) | fail) only [go_sem, fixed_MulDiv, mdR, s1, s2, s3, m, d, ea, eb, ec] <;> simp
end Ab
namespace Ab
open Go (IntKind BinOp UnOp)
theorem map_and1 {x : Int} (_h0 : 0 ≤ x) (_h1 : x ≤ 18446744073709551615) : binAV .and (.p (.int .u64 x)) (.p (.int .u64 1)) = some (.p (.int .u64 (x % 2))) := by
  have e : (BitVec.ofInt IntKind.u64.bits 1).toNat = 2 ^ 1 - 1 := by decide
  have e3 : ((2 ^ IntKind.u64.bits : Nat) : Int) = 18446744073709551616 := by decide
  have key : ((BitVec.ofInt IntKind.u64.bits x &&& BitVec.ofInt IntKind.u64.bits 1).toNat : Int) = x % 2 := by
    rw [BitVec.toNat_and, e, Nat.and_two_pow_sub_one_eq_mod, BitVec.toNat_ofInt, e3]
    omega
  simp only [binAV, binPV, binInt, true_or, if_true, Option.map_some, key]
  rw [wrap_u64 (by omega) (by omega)]
theorem map_and63 {x : Int} (_h0 : 0 ≤ x) (_h1 : x ≤ 127) : binAV .and (.p (.int .i64 x)) (.p (.int .i64 63)) = some (.p (.int .i64 (x % 64))) := by
  have e : (BitVec.ofInt IntKind.i64.bits 63).toNat = 2 ^ 6 - 1 := by decide
  have e3 : ((2 ^ IntKind.i64.bits : Nat) : Int) = 18446744073709551616 := by decide
  have key : ((BitVec.ofInt IntKind.i64.bits x &&& BitVec.ofInt IntKind.i64.bits 63).toNat : Int) = x % 64 := by
    rw [BitVec.toNat_and, e, Nat.and_two_pow_sub_one_eq_mod, BitVec.toNat_ofInt, e3]
    omega
  simp only [binAV, binPV, binInt, true_or, if_true, Option.map_some, key]
  rw [wrap_i64 (by omega) (by omega)]
theorem res_r1size {a : Int} (h : -9223372036854775808 ≤ a ∧ a ≤ 9223372036854775807) : res Γ 167 [.int .i64 a] = some [.int .u64 (a.natAbs : Int)] := by
  refine res_code (fn := r1_size) rfl rfl ?_
  by_cases hn : a < 0
  · have e1 : (0 - (a + 1)) + 1 = (a.natAbs : Int) := by omega
    simp (disch := first | assumption | omega | decide | (simp only [lens] <;> omega) | fail) only [go_sem, r1_size, e1]
  · have e1 : IntKind.u64.wrap a = (a.natAbs : Int) := by rw [wrap_u64m]; omega
    simp (disch := first | assumption | omega | decide | (simp only [lens] <;> omega) | fail) only [go_sem, r1_size, e1]
theorem bit_step {X d b : Nat} (hd : 0 < d) (hb : b < 2) : (if d ≤ 2 * (X % d) + b then ((2 * X + b) / d = 2 * (X / d) + 1 ∧ (2 * X + b) % d = 2 * (X % d) + b - d) else ((2 * X + b) / d = 2 * (X / d) ∧ (2 * X + b) % d = 2 * (X % d) + b)) := by
  have e := Nat.div_add_mod X d
  have l := Nat.mod_lt X hd
  split
  · rename_i h
    have e2 : 2 * X + b = d * (2 * (X / d) + 1) + (2 * (X % d) + b - d) := by
      rw [Nat.mul_add, Nat.mul_left_comm, Nat.mul_one]; omega
    have lt : 2 * (X % d) + b - d < d := by omega
    rw [e2, Nat.mul_add_div hd, Nat.mul_add_mod, Nat.div_eq_of_lt lt, Nat.mod_eq_of_lt lt]
    exact ⟨by omega, rfl⟩
  · rename_i h
    have e2 : 2 * X + b = d * (2 * (X / d)) + (2 * (X % d) + b) := by
      rw [Nat.mul_left_comm]; omega
    have lt : 2 * (X % d) + b < d := by omega
    rw [e2, Nat.mul_add_div hd, Nat.mul_add_mod, Nat.div_eq_of_lt lt, Nat.mod_eq_of_lt lt]
    exact ⟨by omega, rfl⟩
theorem orOne {x : Nat} : 2 * x ||| 1 = 2 * x + 1 := by
  have := Nat.two_pow_add_eq_or_of_lt (i := 1) (b := 1) (by decide) x
  rw [Nat.pow_one] at this
  exact this.symm
theorem orBit {x b : Nat} (hb : b < 2) : 2 * x ||| b = 2 * x + b := by
  have := Nat.two_pow_add_eq_or_of_lt (i := 1) (b := b) (by simpa using hb) x
  rw [Nat.pow_one] at this
  exact this.symm
theorem map_shl1 (x : Int) : binAV .shl (.p (.int .u64 x)) (.p (.int .u64 1)) = some (.p (.int .u64 (IntKind.u64.wrap (x * 2)))) := by
  rw [map_shl (by decide) (by decide)]; rfl
theorem map_shr62 (x : Int) : binAV .shr (.p (.int .u64 x)) (.p (.int .u64 62)) = some (.p (.int .u64 (x / 4611686018427387904))) := by
  rw [map_shr (by decide) (by decide)]; rfl
theorem map_shr63 (x : Int) : binAV .shr (.p (.int .u64 x)) (.p (.int .u64 63)) = some (.p (.int .u64 (x / 9223372036854775808))) := by
  rw [map_shr (by decide) (by decide)]; rfl
theorem md_l1_ok {a b c : PV} {h l d P : Nat} (hh : h < 18446744073709551616) (hl : l < 18446744073709551616) (hP : P = h * 18446744073709551616 + l) (hd : 0 < d ∧ d ≤ 9223372036854775808) : ∀ (k : Nat) (Q : Out → Prop), k ≤ 128 →
    Q (.nrm, [(0, .p a), (1, .p b), (2, .p c), (10, .p (.int .u64 (d : Int))), (11, .p (.int .u64 ((P / d % 18446744073709551616 : Nat) : Int))), (12, .p (.int .u64 ((P % d : Nat) : Int))), (13, .p (.bool (decide (9223372036854775808 ≤ P / d))))], []) →
    Wp Γ r1_MulDiv_l1 [(0, .p a), (1, .p b), (2, .p c), (8, .p (.int .u64 (h : Int))), (9, .p (.int .u64 (l : Int))), (10, .p (.int .u64 (d : Int))), (11, .p (.int .u64 ((P / 2 ^ k / d % 18446744073709551616 : Nat) : Int))), (12, .p (.int .u64 ((P / 2 ^ k % d : Nat) : Int))), (13, .p (.bool (decide (9223372036854775808 ≤ P / 2 ^ k / d)))), (14, .p (.int .i64 ((k : Int) - 1)))] [] (InBlk [0, 1, 2, 10, 11, 12, 13] 0 Q) := by
  intro k
  induction k with
  | zero =>
    intro Q _ hQ
    simp only [Nat.pow_zero, Nat.div_one]
    rw [W_loop (L := r1_MulDiv_l1) rfl]
    simp (disch := first | assumption | omega | decide | (simp only [lens] <;> omega) | fail) only [go_sem]
    exact hQ
  | succ k ih =>
    intro Q hk hQ
    have ek : (((k + 1 : Nat) : Int) - 1) = (k : Int) := by omega
    rw [ek]
    obtain ⟨X, hX⟩ : ∃ X, X = P / 2 ^ (k + 1) := ⟨_, rfl⟩
    obtain ⟨t, ht⟩ : ∃ t, t = P / 2 ^ k % 2 := ⟨_, rfl⟩
    have t2 : t < 2 := by omega
    have eX : P / 2 ^ k = 2 * X + t := by
      have : P / 2 ^ (k + 1) = P / 2 ^ k / 2 := by rw [Nat.pow_succ, Nat.div_div_eq_div_mul]
      omega
    have st := bit_step (X := X) (d := d) (b := t) hd.1 t2
    obtain ⟨R, hR⟩ : ∃ R, R = X % d := ⟨_, rfl⟩
    obtain ⟨G, hG⟩ : ∃ G, G = X / d := ⟨_, rfl⟩
    have hRd : R < d := by rw [hR]; exact Nat.mod_lt _ hd.1
    obtain ⟨Lk, hLk⟩ : ∃ Lk, Lk = l / 2 ^ (k % 64) := ⟨_, rfl⟩
    have hLk2 : Lk < 18446744073709551616 := by rw [hLk]; exact Nat.lt_of_le_of_lt (Nat.div_le_self _ _) hl
    have rl : binAV .shr (.p (.int .u64 (l : Int))) (.p (.int .u64 ((k : Int) % 64))) = some (.p (.int .u64 (Lk : Int))) := by
      rw [map_shr (by omega) (by omega), show ((k : Int) % 64).toNat = k % 64 by omega, hLk]; simp
    rw [← hX, ← hR, ← hG]
    rw [← hR, ← hG] at st
    have goOn := ih Q (by omega) hQ
    rw [eX] at goOn
    have sh2 : IntKind.u64.wrap (((G % 18446744073709551616 : Nat) : Int) * 2) = ((2 * (G % 9223372036854775808) : Nat) : Int) := by rw [wrap_u64m]; omega
    have shR : IntKind.u64.wrap ((R : Int) * 2) = ((2 * R : Nat) : Int) := by rw [wrap_u64m]; omega
    have top0 : (R : Int) / 9223372036854775808 = 0 := by omega
    have or1 := map_orN (H := 2 * R) (L := t) (by omega) (orBit t2)
    have or2 : binAV .or (.p (.int .u64 ((2 * (G % 9223372036854775808) : Nat) : Int))) (.p (.int .u64 1)) = some (.p (.int .u64 ((2 * (G % 9223372036854775808) + 1 : Nat) : Int))) := map_orN (H := 2 * (G % 9223372036854775808)) (L := 1) (by omega) orOne
    have e11 : (2 * G + 1) % 18446744073709551616 = 2 * (G % 9223372036854775808) + 1 := by omega
    have e11' : (2 * G) % 18446744073709551616 = 2 * (G % 9223372036854775808) := by omega
    by_cases h64 : 64 ≤ k
    · obtain ⟨Hk, hHk⟩ : ∃ Hk, Hk = h / 2 ^ (k - 64) := ⟨_, rfl⟩
      have hHk2 : Hk < 18446744073709551616 := by rw [hHk]; exact Nat.lt_of_le_of_lt (Nat.div_le_self _ _) hh
      have rh : binAV .shr (.p (.int .u64 (h : Int))) (.p (.int .u64 ((k : Int) - 64))) = some (.p (.int .u64 (Hk : Int))) := by
        rw [map_shr (by omega) (by omega), show ((k : Int) - 64).toNat = k - 64 by omega, hHk]; simp
      have et : (Hk : Int) % 2 = (t : Int) := by
        have : P / 2 ^ k = Hk := by
          rw [hHk, show 2 ^ k = 18446744073709551616 * 2 ^ (k - 64) by rw [show (18446744073709551616 : Nat) = 2 ^ 64 by rfl, ← Nat.pow_add, show 64 + (k - 64) = k by omega], ← Nat.div_div_eq_div_mul, hP, show (h * 18446744073709551616 + l) / 18446744073709551616 = h by omega]
        rw [ht, this]; omega
      by_cases hO : 9223372036854775808 ≤ G
      · by_cases hr : d ≤ 2 * R + t
        · rw [if_pos hr] at st
          rw [st.1, st.2, e11] at goOn
          have eo : decide (9223372036854775808 ≤ G) = true := decide_eq_true hO
          have e13 : decide (9223372036854775808 ≤ 2 * G + 1) = true := decide_eq_true (by omega)
          rw [e13] at goOn
          have e12 : ((2 * R + t : Nat) : Int) - (d : Int) = ((2 * R + t - d : Nat) : Int) := by omega
          rw [W_loop (L := r1_MulDiv_l1) rfl]
          simp (disch := first | assumption | omega | decide | (simp only [lens] <;> omega) | fail) only [go_sem, map_and63, map_and1, rl, rh, et, map_shr63, map_shl1, sh2, shR, top0, or1, eo, e12, or2]
          exact goOn
        · rw [if_neg hr] at st
          rw [st.1, st.2, e11'] at goOn
          have eo : decide (9223372036854775808 ≤ G) = true := decide_eq_true hO
          have e13 : decide (9223372036854775808 ≤ 2 * G) = true := decide_eq_true (by omega)
          rw [e13] at goOn
          rw [W_loop (L := r1_MulDiv_l1) rfl]
          simp (disch := first | assumption | omega | decide | (simp only [lens] <;> omega) | fail) only [go_sem, map_and63, map_and1, rl, rh, et, map_shr63, map_shl1, sh2, shR, top0, or1, eo]
          exact goOn
      · by_cases hr : d ≤ 2 * R + t
        · rw [if_pos hr] at st
          rw [st.1, st.2, e11] at goOn
          have eo : decide (9223372036854775808 ≤ G) = false := decide_eq_false hO
          have en : decide (((G % 18446744073709551616 : Nat) : Int) / 4611686018427387904 ≠ 0) = decide (4611686018427387904 ≤ G) := by rw [Bool.eq_iff_iff]; simp only [decide_eq_true_eq]; omega
          have e13 : decide (9223372036854775808 ≤ 2 * G + 1) = decide (4611686018427387904 ≤ G) := by rw [Bool.eq_iff_iff]; simp only [decide_eq_true_eq]; omega
          rw [e13] at goOn
          have e12 : ((2 * R + t : Nat) : Int) - (d : Int) = ((2 * R + t - d : Nat) : Int) := by omega
          rw [W_loop (L := r1_MulDiv_l1) rfl]
          simp (disch := first | assumption | omega | decide | (simp only [lens] <;> omega) | fail) only [go_sem, map_and63, map_and1, rl, rh, et, map_shr63, map_shr62, map_shl1, sh2, shR, top0, or1, eo, en, e12, or2]
          exact goOn
        · rw [if_neg hr] at st
          rw [st.1, st.2, e11'] at goOn
          have eo : decide (9223372036854775808 ≤ G) = false := decide_eq_false hO
          have en : decide (((G % 18446744073709551616 : Nat) : Int) / 4611686018427387904 ≠ 0) = decide (9223372036854775808 ≤ 2 * G) := by rw [Bool.eq_iff_iff]; simp only [decide_eq_true_eq]; omega
          rw [W_loop (L := r1_MulDiv_l1) rfl]
          simp (disch := first | assumption | omega | decide | (simp only [lens] <;> omega) | fail) only [go_sem, map_and63, map_and1, rl, rh, et, map_shr63, map_shr62, map_shl1, sh2, shR, top0, or1, eo, en]
          exact goOn
    · have et : (Lk : Int) % 2 = (t : Int) := by
        have e : 18446744073709551616 = 2 ^ k * (2 * 2 ^ (63 - k)) := by
          rw [show (18446744073709551616 : Nat) = 2 ^ 64 by rfl, ← Nat.pow_succ', ← Nat.pow_add, show k + (63 - k + 1) = 64 by omega]
        have : P / 2 ^ k = 2 * (h * 2 ^ (63 - k)) + Lk := by
          rw [hP, hLk, show k % 64 = k by omega, e, show h * (2 ^ k * (2 * 2 ^ (63 - k))) + l = 2 ^ k * (2 * (h * 2 ^ (63 - k))) + l by rw [Nat.mul_left_comm h, Nat.mul_left_comm h 2], Nat.mul_add_div (Nat.pow_pos (by decide))]
        rw [ht, this]; omega
      by_cases hO : 9223372036854775808 ≤ G
      · by_cases hr : d ≤ 2 * R + t
        · rw [if_pos hr] at st
          rw [st.1, st.2, e11] at goOn
          have eo : decide (9223372036854775808 ≤ G) = true := decide_eq_true hO
          have e13 : decide (9223372036854775808 ≤ 2 * G + 1) = true := decide_eq_true (by omega)
          rw [e13] at goOn
          have e12 : ((2 * R + t : Nat) : Int) - (d : Int) = ((2 * R + t - d : Nat) : Int) := by omega
          rw [W_loop (L := r1_MulDiv_l1) rfl]
          simp (disch := first | assumption | omega | decide | (simp only [lens] <;> omega) | fail) only [go_sem, map_and63, map_and1, rl, et, map_shr63, map_shl1, sh2, shR, top0, or1, eo, e12, or2]
          exact goOn
        · rw [if_neg hr] at st
          rw [st.1, st.2, e11'] at goOn
          have eo : decide (9223372036854775808 ≤ G) = true := decide_eq_true hO
          have e13 : decide (9223372036854775808 ≤ 2 * G) = true := decide_eq_true (by omega)
          rw [e13] at goOn
          rw [W_loop (L := r1_MulDiv_l1) rfl]
          simp (disch := first | assumption | omega | decide | (simp only [lens] <;> omega) | fail) only [go_sem, map_and63, map_and1, rl, et, map_shr63, map_shl1, sh2, shR, top0, or1, eo]
          exact goOn
      · by_cases hr : d ≤ 2 * R + t
        · rw [if_pos hr] at st
          rw [st.1, st.2, e11] at goOn
          have eo : decide (9223372036854775808 ≤ G) = false := decide_eq_false hO
          have en : decide (((G % 18446744073709551616 : Nat) : Int) / 4611686018427387904 ≠ 0) = decide (4611686018427387904 ≤ G) := by rw [Bool.eq_iff_iff]; simp only [decide_eq_true_eq]; omega
          have e13 : decide (9223372036854775808 ≤ 2 * G + 1) = decide (4611686018427387904 ≤ G) := by rw [Bool.eq_iff_iff]; simp only [decide_eq_true_eq]; omega
          rw [e13] at goOn
          have e12 : ((2 * R + t : Nat) : Int) - (d : Int) = ((2 * R + t - d : Nat) : Int) := by omega
          rw [W_loop (L := r1_MulDiv_l1) rfl]
          simp (disch := first | assumption | omega | decide | (simp only [lens] <;> omega) | fail) only [go_sem, map_and63, map_and1, rl, et, map_shr63, map_shr62, map_shl1, sh2, shR, top0, or1, eo, en, e12, or2]
          exact goOn
        · rw [if_neg hr] at st
          rw [st.1, st.2, e11'] at goOn
          have eo : decide (9223372036854775808 ≤ G) = false := decide_eq_false hO
          have en : decide (((G % 18446744073709551616 : Nat) : Int) / 4611686018427387904 ≠ 0) = decide (9223372036854775808 ≤ 2 * G) := by rw [Bool.eq_iff_iff]; simp only [decide_eq_true_eq]; omega
          rw [W_loop (L := r1_MulDiv_l1) rfl]
          simp (disch := first | assumption | omega | decide | (simp only [lens] <;> omega) | fail) only [go_sem, map_and63, map_and1, rl, et, map_shr63, map_shr62, map_shl1, sh2, shR, top0, or1, eo, en]
          exact goOn
end Ab
namespace Ab
open Go (IntKind BinOp UnOp)
theorem mul_low {x y : Int} (hx : 0 ≤ x ∧ x < 18446744073709551616) (hy : 0 ≤ y ∧ y < 18446744073709551616) :
    ((x / 4294967296 * (y % 4294967296) + x % 4294967296 * (y % 4294967296) / 4294967296) % 4294967296 + x % 4294967296 * (y / 4294967296)) % 4294967296 * 4294967296 + x % 4294967296 * (y % 4294967296) % 4294967296 = x * y % 18446744073709551616 := by
  obtain ⟨b1, b2, b3, b4, _, _⟩ := mul_halves hx hy
  have ex : x = 4294967296 * (x / 4294967296) + x % 4294967296 := by omega
  have ey : y = 4294967296 * (y / 4294967296) + y % 4294967296 := by omega
  have e : x * y = 18446744073709551616 * (x / 4294967296 * (y / 4294967296)) + 4294967296 * (x / 4294967296 * (y % 4294967296)) + 4294967296 * (x % 4294967296 * (y / 4294967296)) + x % 4294967296 * (y % 4294967296) := by
    generalize x / 4294967296 = x1 at *
    generalize x % 4294967296 = x0 at *
    generalize y / 4294967296 = y1 at *
    generalize y % 4294967296 = y0 at *
    rw [ex, ey, Int.add_mul, Int.mul_add, Int.mul_add, Int.mul_assoc, Int.mul_left_comm x1, ← Int.mul_assoc 4294967296, Int.mul_assoc 4294967296 x1 y0, Int.mul_left_comm x0 4294967296]
    omega
  rw [e]
  omega
theorem res_times {A B : Nat} (hA : A < 18446744073709551616) (hB : B < 18446744073709551616) : res Γ 168 [.int .u64 (A : Int), .int .u64 (B : Int)] = some [.int .u64 ((A * B / 18446744073709551616 : Nat) : Int), .int .u64 ((A * B % 18446744073709551616 : Nat) : Int)] := by
  obtain ⟨b1, b2, b3, b4, e, b5⟩ := mul_halves (x := (A : Int)) (y := (B : Int)) (by omega) (by omega)
  have lo := mul_low (x := (A : Int)) (y := (B : Int)) (by omega) (by omega)
  have c1 : ((A * B / 18446744073709551616 : Nat) : Int) = (A : Int) * B / 18446744073709551616 := by simp
  have c2 : ((A * B % 18446744073709551616 : Nat) : Int) = (A : Int) * B % 18446744073709551616 := by simp
  rw [← e] at b5 c1
  rw [← lo] at c2
  rw [c1, c2]
  generalize hw : ((A : Int) / 4294967296 * ((B : Int) % 4294967296) + (A : Int) % 4294967296 * ((B : Int) % 4294967296) / 4294967296) % 4294967296 + (A : Int) % 4294967296 * ((B : Int) / 4294967296) = w at *
  have hw2 : (A : Int) % 4294967296 * ((B : Int) / 4294967296) + ((A : Int) / 4294967296 * ((B : Int) % 4294967296) + (A : Int) % 4294967296 * ((B : Int) % 4294967296) / 4294967296) % 4294967296 = w := by omega
  have hw3 : 0 ≤ w ∧ w ≤ 18446744073709551615 := by omega
  have sh : ∀ x : Int, binAV .shl (.p (.int .u64 x)) (.p (.int .u64 32)) = some (.p (.int .u64 (IntKind.u64.wrap (x * 4294967296)))) := fun x => by rw [map_shl (by decide) (by decide)]; rfl
  have e1 : IntKind.u64.wrap (w * 4294967296) = ((4294967296 * (w % 4294967296).toNat : Nat) : Int) := by rw [wrap_u64m]; omega
  obtain ⟨z, hz⟩ : ∃ z : Nat, (z : Int) = (A : Int) % 4294967296 * ((B : Int) % 4294967296) % 4294967296 := ⟨((A : Int) % 4294967296 * ((B : Int) % 4294967296) % 4294967296).toNat, by omega⟩
  have orr := map_orN (H := 4294967296 * (w % 4294967296).toNat) (L := z) (by omega) (Nat.two_pow_add_eq_or_of_lt (i := 32) (b := z) (by omega) _).symm
  have e2 : w % 4294967296 * 4294967296 + (A : Int) % 4294967296 * ((B : Int) % 4294967296) % 4294967296 = ((4294967296 * (w % 4294967296).toNat + z : Nat) : Int) := by omega
  rw [e2]
  refine res_code (fn := r1_times) rfl rfl ?_
  simp (disch := first | assumption | omega | decide | (simp only [lens] <;> omega) | fail) only [go_sem, r1_times, map_shr32, map_and32, sh, hw2, e1, ← hz, orr]
theorem res_r1MulDiv {a b c : Int} (ha : -9223372036854775808 ≤ a ∧ a ≤ 9223372036854775807) (hb : -9223372036854775808 ≤ b ∧ b ≤ 9223372036854775807) (hc : -9223372036854775808 ≤ c ∧ c ≤ 9223372036854775807) :
    res Γ 164 [.int .i64 a, .int .i64 b, .int .i64 c] = some (mdR (mdV a b c)) := by
  refine res_code (fn := r1_MulDiv) rfl rfl ?_
  by_cases hc0 : c = 0
  · rw [mdV_zero hc0]
    simp (disch := first | assumption | omega | decide | (simp only [lens] <;> omega) | fail) only [go_sem, r1_MulDiv, mdR]
  have s1 := res_r1size ha
  have s2 := res_r1size hb
  have s3 := res_r1size hc
  have no := @mdV_no a b c hc0
  have yes := @mdV_yes a b c hc0
  obtain ⟨A, hA⟩ : ∃ A, A = a.natAbs := ⟨_, rfl⟩
  obtain ⟨B, hB⟩ : ∃ B, B = b.natAbs := ⟨_, rfl⟩
  obtain ⟨C, hC⟩ : ∃ C, C = c.natAbs := ⟨_, rfl⟩
  rw [← hA] at s1 no yes
  rw [← hB] at s2 no yes
  rw [← hC] at s3 no yes
  obtain ⟨P, hP⟩ : ∃ P, P = A * B := ⟨_, rfl⟩
  have m := res_times (A := A) (B := B) (by omega) (by omega)
  rw [← hP] at m no yes
  have hCpos : 0 < C := by omega
  have rl := Nat.mod_lt P hCpos
  have hP2 : P < 2 ^ 128 := by
    rw [hP]
    exact Nat.lt_of_le_of_lt (Nat.mul_le_mul (show A ≤ 9223372036854775808 by omega) (show B ≤ 9223372036854775808 by omega)) (by decide)
  have P0 : P / 2 ^ 128 = 0 := Nat.div_eq_of_lt hP2
  have loop := md_l1_ok (a := .int .i64 a) (b := .int .i64 b) (c := .int .i64 c) (h := P / 18446744073709551616) (l := P % 18446744073709551616) (d := C) (P := P) (by omega) (Nat.mod_lt _ (by decide)) (Nat.div_add_mod' P _).symm (by omega) 128
  rw [P0, Nat.zero_div, Nat.zero_mod, Nat.zero_mod] at loop
  simp (disch := first | assumption | omega | decide | (simp only [lens] <;> omega) | fail) only [go_sem, r1_MulDiv, s1, s2, s3, m]
  refine loop _ (by decide) ?_
  by_cases hO : 9223372036854775808 ≤ P / C
  · have eo : decide (9223372036854775808 ≤ P / C) = true := decide_eq_true hO
    rw [no (by unfold mdQ; split <;> omega)]
    by_cases hr : C - P % C ≤ P % C
    · simp (disch := first | assumption | omega | decide | (simp only [lens] <;> omega) | fail) only [go_sem, mdR, eo]
    · simp (disch := first | assumption | omega | decide | (simp only [lens] <;> omega) | fail) only [go_sem, mdR, eo]
  have eo : decide (9223372036854775808 ≤ P / C) = false := decide_eq_false hO
  have em : P / C % 18446744073709551616 = P / C := Nat.mod_eq_of_lt (by omega)
  rw [em]
  by_cases hr : C - P % C ≤ P % C
  · have e : mdQ P C = P / C + 1 := by unfold mdQ; rw [if_pos hr]
    rw [e] at yes no
    by_cases hq2 : 4611686018427387904 < P / C + 1
    · rw [no hq2]
      simp (disch := first | assumption | omega | decide | (simp only [lens] <;> omega) | fail) only [go_sem, mdR, eo]
    · rw [yes (by omega)]
      cases ea : decide (a < 0) <;> cases eb : decide (b < 0) <;> cases ec : decide (c < 0) <;> simp (disch := first | assumption | omega | decide | (simp only [lens] <;> omega) | fail) only [go_sem, mdR, eo, ea, eb, ec] <;> simp
  · have e : mdQ P C = P / C := by unfold mdQ; rw [if_neg hr]
    rw [e] at yes no
    by_cases hq2 : 4611686018427387904 < P / C
    · rw [no hq2]
      simp (disch := first | assumption | omega | decide | (simp only [lens] <;> omega) | fail) only [go_sem, mdR, eo]
    · rw [yes (by omega)]
      cases ea : decide (a < 0) <;> cases eb : decide (b < 0) <;> cases ec : decide (c < 0) <;> simp (disch := first | assumption | omega | decide | (simp only [lens] <;> omega) | fail) only [go_sem, mdR, eo, ea, eb, ec] <;> simp
end Ab
namespace Ab
open Go (IntKind BinOp UnOp)
theorem divV_no1 {a b : Val} (h : knV a = false) : divV a b = (false, 0) := by unfold divV; rw [if_neg (by rw [h]; simp)]; rfl
theorem divV_no2 {a b : Val} (h : knV b = false) : divV a b = (false, 0) := by unfold divV; rw [if_neg (by rw [h]; simp)]; rfl
theorem divV_yes {a b : Val} (h : knV a = true) (h' : knV b = true) : divV a b = valV (mdV a.2 1000000 b.2) := by unfold divV; rw [if_pos ⟨h, h'⟩]
theorem res_valNo {n : Int} : res Γ 145 [.int .i64 n, .bool false] = some [.agg [.bool false, .int .i64 0]] := by
  refine res_code (fn := fixed_val) rfl rfl ?_
  simp (disch := first | assumption | omega | decide | (simp only [lens] <;> omega) | fail) only [go_sem, fixed_val]
theorem res_valYes {n : Int} : res Γ 145 [.int .i64 n, .bool true] = some [.agg [.bool (ofV n).1, .int .i64 (ofV n).2]] := by
  refine res_code (fn := fixed_val) rfl rfl ?_
  simp (disch := first | assumption | omega | decide | (simp only [lens] <;> omega) | fail) only [go_sem, fixed_val]
theorem res_fixedDiv (b : Bool) (n : Int) (c : Bool) (m : Int) : res Γ 138 [.agg [.bool b, .int .i64 n], .agg [.bool c, .int .i64 m]] = some [.agg [.bool (divV (b, n) (c, m)).1, .int .i64 (divV (b, n) (c, m)).2]] := by
  refine res_code (fn := fixed_Div) rfl rfl ?_
  cases h : knV (b, n)
  · simp (disch := first | assumption | omega | decide | (simp only [lens] <;> omega) | fail) only [go_sem, fixed_Div, h, divV_no1 h]
  · cases h' : knV (c, m)
    · simp (disch := first | assumption | omega | decide | (simp only [lens] <;> omega) | fail) only [go_sem, fixed_Div, h, h', divV_no2 h']
    · obtain ⟨_, g1, g2⟩ := knV_pair h
      obtain ⟨_, g3, g4⟩ := knV_pair h'
      have e := res_fixedMulDiv (a := n) (b := 1000000) (c := m) (by omega) (by decide) (by omega)
      rw [divV_yes h h']
      cases hm : mdV n 1000000 m with
      | none =>
        rw [hm] at e
        simp only [mdR] at e
        simp (disch := first | assumption | omega | decide | (simp only [lens] <;> omega) | fail) only [go_sem, fixed_Div, h, h', e, res_valNo, valV, noV]
      | some q =>
        rw [hm] at e
        simp only [mdR] at e
        simp (disch := first | assumption | omega | decide | (simp only [lens] <;> omega) | fail) only [go_sem, fixed_Div, h, h', e, res_valYes, valV]
theorem res_r1Div (b : Bool) (n : Int) (c : Bool) (m : Int) : res Γ 130 [.agg [.bool b, .int .i64 n], .agg [.bool c, .int .i64 m]] = some [.agg [.bool (divV (b, n) (c, m)).1, .int .i64 (divV (b, n) (c, m)).2]] := by
  refine res_code (fn := r1_Div) rfl rfl ?_
  cases h : knV (b, n)
  · simp (disch := first | assumption | omega | decide | (simp only [lens] <;> omega) | fail) only [go_sem, r1_Div, h, divV_no1 h, Bool.false_and]
  · cases h' : knV (c, m)
    · simp (disch := first | assumption | omega | decide | (simp only [lens] <;> omega) | fail) only [go_sem, r1_Div, h, h', divV_no2 h', Bool.and_false]
    · obtain ⟨_, g1, g2⟩ := knV_pair h
      obtain ⟨_, g3, g4⟩ := knV_pair h'
      have e := res_r1MulDiv (a := n) (b := 1000000) (c := m) (by omega) (by decide) (by omega)
      rw [divV_yes h h']
      cases hm : mdV n 1000000 m with
      | none =>
        rw [hm] at e
        simp only [mdR] at e
        simp (disch := first | assumption | omega | decide | (simp only [lens] <;> omega) | fail) only [go_sem, r1_Div, h, h', e, valV, noV, Bool.and_true]
      | some q =>
        rw [hm] at e
        simp only [mdR] at e
        simp (disch := first | assumption | omega | decide | (simp only [lens] <;> omega) | fail) only [go_sem, r1_Div, h, h', e, valV, Bool.and_true]
theorem res_fixedDivV (x y : Val) : res Γ 138 [.agg [.bool x.1, .int .i64 x.2], .agg [.bool y.1, .int .i64 y.2]] = some [.agg [.bool (divV x y).1, .int .i64 (divV x y).2]] := by
  obtain ⟨b, n⟩ := x; obtain ⟨c, m⟩ := y; exact res_fixedDiv b n c m
theorem res_r1DivV (x y : Val) : res Γ 130 [.agg [.bool x.1, .int .i64 x.2], .agg [.bool y.1, .int .i64 y.2]] = some [.agg [.bool (divV x y).1, .int .i64 (divV x y).2]] := by
  obtain ⟨b, n⟩ := x; obtain ⟨c, m⟩ := y; exact res_r1Div b n c m
theorem intV_small {n : Int} (h : 0 ≤ n ∧ n ≤ 1000000000) : intV n = (true, n * 1000000) := by unfold intV maxN; rw [if_pos (by omega)]
theorem res_fixedInt {n : Int} (h : 0 ≤ n ∧ n ≤ 1000000000) : res Γ 137 [.int .i64 n] = some [.agg [.bool (intV n).1, .int .i64 (intV n).2]] := by
  rw [intV_small h]
  refine res_code (fn := fixed_Int) rfl rfl ?_
  simp (disch := first | assumption | omega | decide | (simp only [lens] <;> omega) | fail) only [go_sem, fixed_Int, ofV_in]
theorem res_r1Int {n : Int} (h : 0 ≤ n ∧ n ≤ 1000000000) : res Γ 129 [.int .i64 n] = some [.agg [.bool (intV n).1, .int .i64 (intV n).2]] := by
  rw [intV_small h]
  refine res_code (fn := r1_Int) rfl rfl ?_
  simp (disch := first | assumption | omega | decide | (simp only [lens] <;> omega) | fail) only [go_sem, r1_Int, ofV_in]
theorem agg1_cons {l : List Val} {b : Val} {k : List Val} (h : knL l = b :: k) : aggV 1 l = divV (addV (b :: k)) (intV ((b :: k).length : Nat)) := by unfold aggV; rw [h]; exact if_pos rfl
theorem res_aggOf1 {kk : SK} (l : List Val) (hl : l.length < 1000000000) : res Γ 132 [.int .i64 1, .sl kk 2 (vpv l)] = some [.agg [.bool (aggV 1 l).1, .int .i64 (aggV 1 l).2]] := by
  have hk := knL_len l
  refine res_code (fn := agg_Of) rfl rfl ?_
  simp (disch := first | assumption | omega | decide | (simp only [lens] <;> omega) | fail) only [go_sem, agg_Of]
  cases h : knL l with
  | nil =>
    simp (disch := first | assumption | omega | decide | (simp only [lens] <;> omega) | fail) only [go_sem, agg2_nil h]
  | cons b k =>
    have e := agg1_cons h
    rw [h] at hk
    have ei := res_fixedInt (n := ((b :: k).length : Nat)) (by simp only [List.length_cons] at hk ⊢; omega)
    have ed := res_fixedDivV (addV (b :: k)) (intV ((b :: k).length : Nat))
    simp only [List.length_cons] at hk e ei ed
    simp (disch := first | assumption | omega | decide | (simp only [lens] <;> omega) | fail) only [go_sem, e, valP, ei, ed]
theorem res_r6Of1 {kk : SK} (l : List Val) (hl : l.length < 1000000000) : res Γ 122 [.int .i64 1, .sl kk 2 (vpv l)] = some [.agg [.bool (aggV 1 l).1, .int .i64 (aggV 1 l).2]] := by
  have hk := knL_len l
  refine res_code (fn := r6_Of) rfl rfl ?_
  simp (disch := first | assumption | omega | decide | (simp only [lens] <;> omega) | fail) only [go_sem, r6_Of]
  cases h : knL l with
  | nil =>
    simp (disch := first | assumption | omega | decide | (simp only [lens] <;> omega) | fail) only [go_sem, agg2_nil h]
  | cons b k =>
    have e := agg1_cons h
    rw [h] at hk
    have ei := res_r1Int (n := ((b :: k).length : Nat)) (by simp only [List.length_cons] at hk ⊢; omega)
    have ed := res_r1DivV (addV (b :: k)) (intV ((b :: k).length : Nat))
    simp only [List.length_cons] at hk e ei ed
    simp (disch := first | assumption | omega | decide | (simp only [lens] <;> omega) | fail) only [go_sem, valP]
    refine r6_Of_l1_ok 1 b k (by omega) _ _ k.length 0 (by omega) ?_
    simp (disch := first | assumption | omega | decide | (simp only [lens] <;> omega) | fail) only [go_sem, e, ei, ed]
end Ab
namespace Ab
open Go (IntKind BinOp UnOp)
def medV (l : List Val) : Val :=
  let o := sortI (nums l)
  if o.length = 0 then noV else if o.length % 2 = 1 then (true, o.getD (o.length / 2) 0)
  else divV (addV [(true, o.getD (o.length / 2 - 1) 0), (true, o.getD (o.length / 2) 0)]) (intV 2)
theorem sortO_len {l : List Val} : (sortI (nums l)).length = (knL l).length := by rw [sortI_len', nums_len]
theorem two_vpv (a b : Int) : ([.agg [.bool true, .int .i64 a], .agg [.bool true, .int .i64 b]] : List PV) = vpv [(true, a), (true, b)] := rfl
theorem toNat_half (n : Nat) : ((n : Int) / 2).toNat = n / 2 := by omega
theorem toNat_half1 (n : Nat) : ((n : Int) / 2 - 1).toNat = n / 2 - 1 := by omega
theorem res_fwinMedian {kk : SK} (l : List Val) (hl : l.length < 1000000000) : res Γ 115 [.sl kk 2 (vpv l)] = some [.agg [.bool (medV l).1, .int .i64 (medV l).2]] := by
  have hk := knL_len l
  have hs := @sortO_len l
  have e := res_fwinSorted (kk := kk) l hl
  have hw : (sortV l).length = (sortI (nums l)).length := toV_len
  have eg : ∀ j, j < (sortI (nums l)).length → (sortV l).getD j (false, 0) = (true, (sortI (nums l)).getD j 0) := fun j h => toV_getD h
  have q : (medV l) = if (sortI (nums l)).length = 0 then noV else if (sortI (nums l)).length % 2 = 1 then (true, (sortI (nums l)).getD ((sortI (nums l)).length / 2) 0)
    else divV (addV [(true, (sortI (nums l)).getD ((sortI (nums l)).length / 2 - 1) 0), (true, (sortI (nums l)).getD ((sortI (nums l)).length / 2) 0)]) (intV 2) := rfl
  rw [q]
  generalize sortI (nums l) = o at *
  refine res_code (fn := fwin_Median) rfl rfl ?_
  by_cases h0 : o.length = 0
  · rw [if_pos h0]
    simp (disch := first | assumption | omega | decide | (simp only [lens] <;> omega) | fail) only [go_sem, fwin_Median, e, hw, noV]
  · rw [if_neg h0]
    have g0 : ((o.length : Int) / 2).toNat < o.length := by omega
    have g1 : ((o.length : Int) / 2 - 1).toNat < o.length := by omega
    have e0 := eg _ g0
    have e1 := eg _ g1
    have w0 := wrap_i64 (x := (o.length : Int) / 2) (by omega) (by omega)
    have m0 := map_quo (k := .i64) (a := (o.length : Int)) (b := 2) (by omega) (by omega) w0
    rw [toNat_half] at e0 g0
    rw [toNat_half1] at e1 g1
    by_cases h1 : o.length % 2 = 1
    · rw [if_pos h1]
      have h1' : (o.length : Int) % 2 = 1 := by omega
      simp (disch := first | assumption | omega | decide | (simp only [lens] <;> omega) | fail) only [go_sem, fwin_Median, e, hw, m0, toNat_half, e0, valP]
    · rw [if_neg h1]
      have h1' : ¬ (o.length : Int) % 2 = 1 := by omega
      have a := res_fixedAdd (kk := .tight) [(true, o.getD (o.length / 2 - 1) 0), (true, o.getD (o.length / 2) 0)] (by simp)
      rw [← two_vpv] at a
      have b := res_fixedInt (n := 2) (by omega)
      have c := res_fixedDivV (addV [(true, o.getD (o.length / 2 - 1) 0), (true, o.getD (o.length / 2) 0)]) (intV 2)
      simp (disch := first | assumption | omega | decide | (simp only [lens] <;> omega) | fail) only [go_sem, fwin_Median, e, hw, m0, toNat_half, toNat_half1, e0, e1, valP, a, b, c]
theorem res_r21Median {kk : SK} (l : List Val) (hl : l.length < 1000000000) : res Γ 123 [.sl kk 2 (vpv l)] = some [.agg [.bool (medV l).1, .int .i64 (medV l).2]] := by
  have hk := knL_len l
  have hs := @sortO_len l
  have e := res_r21Sorted (kk := kk) l hl
  have hw : (sortV l).length = (sortI (nums l)).length := toV_len
  have eg : ∀ j, j < (sortI (nums l)).length → (sortV l).getD j (false, 0) = (true, (sortI (nums l)).getD j 0) := fun j h => toV_getD h
  have q : (medV l) = if (sortI (nums l)).length = 0 then noV else if (sortI (nums l)).length % 2 = 1 then (true, (sortI (nums l)).getD ((sortI (nums l)).length / 2) 0)
    else divV (addV [(true, (sortI (nums l)).getD ((sortI (nums l)).length / 2 - 1) 0), (true, (sortI (nums l)).getD ((sortI (nums l)).length / 2) 0)]) (intV 2) := rfl
  rw [q]
  generalize sortI (nums l) = o at *
  refine res_code (fn := r21_Median) rfl rfl ?_
  by_cases h0 : o.length = 0
  · rw [if_pos h0]
    simp (disch := first | assumption | omega | decide | (simp only [lens] <;> omega) | fail) only [go_sem, r21_Median, e, hw, noV]
  · rw [if_neg h0]
    have g0 : ((o.length : Int) / 2).toNat < o.length := by omega
    have g1 : ((o.length : Int) / 2 - 1).toNat < o.length := by omega
    have e0 := eg _ g0
    have e1 := eg _ g1
    have w0 := wrap_i64 (x := (o.length : Int) / 2) (by omega) (by omega)
    have m0 := map_quo (k := .i64) (a := (o.length : Int)) (b := 2) (by omega) (by omega) w0
    rw [toNat_half] at e0 g0
    rw [toNat_half1] at e1 g1
    by_cases h1 : o.length % 2 = 1
    · rw [if_pos h1]
      have h1' : (o.length : Int) % 2 = 1 := by omega
      simp (disch := first | assumption | omega | decide | (simp only [lens] <;> omega) | fail) only [go_sem, r21_Median, e, hw, m0, toNat_half, e0, valP]
    · rw [if_neg h1]
      have h1' : ¬ (o.length : Int) % 2 = 1 := by omega
      have a := res_r1Add (kk := .tight) [(true, o.getD (o.length / 2 - 1) 0), (true, o.getD (o.length / 2) 0)] (by simp)
      rw [← two_vpv] at a
      have b := res_r1Int (n := 2) (by omega)
      have c := res_r1DivV (addV [(true, o.getD (o.length / 2 - 1) 0), (true, o.getD (o.length / 2) 0)]) (intV 2)
      simp (disch := first | assumption | omega | decide | (simp only [lens] <;> omega) | fail) only [go_sem, r21_Median, e, hw, m0, toNat_half, toNat_half1, e0, e1, valP, a, b, c]
end Ab
namespace Ab
open Go (IntKind BinOp UnOp)
def rankV (p : Val) (l : List Val) : Val :=
  let o := sortI (nums l)
  if p.1 = true ∧ 0 ≤ p.2 ∧ p.2 ≤ 100000000 ∧ o.length ≠ 0 then (true, o.getD (max 1 ((p.2 * o.length + 100000000 - 1) / 100000000) - 1).toNat 0) else noV
theorem rank_lt {p : Int} {n : Nat} (h0 : 0 ≤ p) (h1 : p ≤ 100000000) (hn : n ≠ 0) : 0 ≤ p * n ∧ p * n ≤ 100000000 * n ∧ (max 1 ((p * n + 100000000 - 1) / 100000000) - 1).toNat < n := by
  have a : 0 ≤ p * n := Int.mul_nonneg h0 (by omega)
  have b : p * n ≤ 100000000 * n := Int.mul_le_mul_of_nonneg_right h1 (by omega)
  generalize p * n = q at *
  omega
theorem res_fwinRank {kk : SK} (p : Val) (l : List Val) (hl : l.length < 1000000000) : res Γ 204 [.agg [.bool p.1, .int .i64 p.2], .sl kk 2 (vpv l)] = some [.agg [.bool (rankV p l).1, .int .i64 (rankV p l).2]] := by
  have hk := knL_len l
  have hs := @sortO_len l
  have e := res_fwinSorted (kk := kk) l hl
  have hw : (sortV l).length = (sortI (nums l)).length := toV_len
  have eg : ∀ j, j < (sortI (nums l)).length → (sortV l).getD j (false, 0) = (true, (sortI (nums l)).getD j 0) := fun j h => toV_getD h
  have q : rankV p l = if p.1 = true ∧ 0 ≤ p.2 ∧ p.2 ≤ 100000000 ∧ (sortI (nums l)).length ≠ 0 then (true, (sortI (nums l)).getD (max 1 ((p.2 * (sortI (nums l)).length + 100000000 - 1) / 100000000) - 1).toNat 0) else noV := rfl
  have ei : res Γ 137 [.int .i64 100] = some [.agg [.bool true, .int .i64 100000000]] := res_fixedInt (n := 100) (by omega)
  rw [q]
  obtain ⟨b, n⟩ := p
  generalize sortI (nums l) = o at *
  refine res_code (fn := fwin_Rank) rfl rfl ?_
  by_cases h : b = true ∧ 0 ≤ n ∧ n ≤ 100000000 ∧ o.length ≠ 0
  · rw [if_pos h]
    obtain ⟨rfl, h0, h1, h2⟩ := h
    obtain ⟨r1, r2, r3⟩ := rank_lt h0 h1 h2
    have e0 := eg _ r3
    have r4 : 0 ≤ max 1 ((n * (o.length : Int) + 100000000 - 1) / 100000000) - 1 := by omega
    have w0 := wrap_i64 (x := (n * (o.length : Int) + 100000000 - 1) / 100000000) (by omega) (by omega)
    have m0 := map_quo (k := .i64) (a := n * (o.length : Int) + 100000000 - 1) (b := 100000000) (by omega) (by omega) w0
    have r5 : max 1 ((n * (o.length : Int) + 100000000 - 1) / 100000000) - 1 < (o.length : Int) := by omega
    have r6 : 1 ≤ max 1 ((n * (o.length : Int) + 100000000 - 1) / 100000000) := by omega
    generalize hm : max 1 ((n * (o.length : Int) + 100000000 - 1) / 100000000) = m at *
    simp (disch := first | assumption | omega | decide | (simp only [lens] <;> omega) | fail) only [go_sem, fwin_Rank, ei, e, hw, m0, hm, e0, valP]
  · rw [if_neg h]
    cases b
    · simp (disch := first | assumption | omega | decide | (simp only [lens] <;> omega) | fail) only [go_sem, fwin_Rank, ei, noV]
    · simp only [true_and] at h
      repeat' (first | (simp (disch := first | assumption | omega | decide | (simp only [lens] <;> omega) | fail) only [go_sem, fwin_Rank, ei, e, hw, noV]) | refine cond_split (fun hc => ?_) (fun hc => ?_) | refine gd_split_f (fun hc => ?_) (fun hc => ?_) | refine gd_split_t (fun hc => ?_) (fun hc => ?_))
      all_goals first | (exfalso; omega) | skip
theorem knV_small {n : Int} (h0 : 0 ≤ n) (h1 : n ≤ 100000000) : knV (true, n) = true := by
  rw [knV_iff]
  refine ⟨rfl, ?_⟩
  show -maxN ≤ n ∧ n ≤ maxN
  unfold maxN
  omega
theorem res_r21Rank {kk : SK} (p : Val) (l : List Val) (hl : l.length < 1000000000) : res Γ 205 [.agg [.bool p.1, .int .i64 p.2], .sl kk 2 (vpv l)] = some [.agg [.bool (rankV p l).1, .int .i64 (rankV p l).2]] := by
  have hk := knL_len l
  have hs := @sortO_len l
  have e := res_r21Sorted (kk := kk) l hl
  have hw : (sortV l).length = (sortI (nums l)).length := toV_len
  have eg : ∀ j, j < (sortI (nums l)).length → (sortV l).getD j (false, 0) = (true, (sortI (nums l)).getD j 0) := fun j h => toV_getD h
  have q : rankV p l = if p.1 = true ∧ 0 ≤ p.2 ∧ p.2 ≤ 100000000 ∧ (sortI (nums l)).length ≠ 0 then (true, (sortI (nums l)).getD (max 1 ((p.2 * (sortI (nums l)).length + 100000000 - 1) / 100000000) - 1).toNat 0) else noV := rfl
  rw [q]
  obtain ⟨b, n⟩ := p
  generalize sortI (nums l) = o at *
  refine res_code (fn := r21_Rank) rfl rfl ?_
  by_cases h : b = true ∧ 0 ≤ n ∧ n ≤ 100000000 ∧ o.length ≠ 0
  · rw [if_pos h]
    obtain ⟨rfl, h0, h1, h2⟩ := h
    have hkn := knV_small h0 h1
    obtain ⟨r1, r2, r3⟩ := rank_lt h0 h1 h2
    have e0 := eg _ r3
    have r4 : 0 ≤ max 1 ((n * (o.length : Int) + 100000000 - 1) / 100000000) - 1 := by omega
    have w0 := wrap_i64 (x := (n * (o.length : Int) + 100000000 - 1) / 100000000) (by omega) (by omega)
    have m0 := map_quo (k := .i64) (a := n * (o.length : Int) + 100000000 - 1) (b := 100000000) (by omega) (by omega) w0
    have r5 : max 1 ((n * (o.length : Int) + 100000000 - 1) / 100000000) - 1 < (o.length : Int) := by omega
    have r6 : 1 ≤ max 1 ((n * (o.length : Int) + 100000000 - 1) / 100000000) := by omega
    generalize hm : max 1 ((n * (o.length : Int) + 100000000 - 1) / 100000000) = m at *
    simp (disch := first | assumption | omega | decide | (simp only [lens] <;> omega) | fail) only [go_sem, r21_Rank, e, hw, m0, hm, e0, valP, hkn]
  · rw [if_neg h]
    cases hkn : knV (b, n)
    · simp (disch := first | assumption | omega | decide | (simp only [lens] <;> omega) | fail) only [go_sem, r21_Rank, e, noV, hkn]
    · obtain ⟨hb, g1, g2⟩ := knV_pair hkn
      subst hb
      simp only [true_and] at h
      repeat' (first | (simp (disch := first | assumption | omega | decide | (simp only [lens] <;> omega) | fail) only [go_sem, r21_Rank, e, hw, noV, hkn]) | refine cond_split (fun hc => ?_) (fun hc => ?_) | refine gd_split_f (fun hc => ?_) (fun hc => ?_) | refine gd_split_t (fun hc => ?_) (fun hc => ?_))
      all_goals first | (exfalso; omega) | skip
end Ab
