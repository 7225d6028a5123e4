
/- Two halves' products and quotients (the law of math/bits.Mul64 and math/bits.Div64), in plain Lean. -/
namespace Ab
/-- The guess of one digit is right when it is not too much. -/
theorem dig_exit {Y n1 n0 U u q r Q : Int} (hY : Y = n1 * 4294967296 + n0) (hU : U = q * n1 + r) (hle : q * n0 ≤ 4294967296 * r + u) (hQ : U * 4294967296 + u < (Q + 1) * Y) (hq : Q ≤ q) (h0 : 0 < Y) : q = Q := by
  have e : q * Y = q * n1 * 4294967296 + q * n0 := by rw [hY, Int.mul_add, ← Int.mul_assoc]
  have l : q * Y < (Q + 1) * Y := by omega
  have := Int.lt_of_mul_lt_mul_right l (Int.le_of_lt h0)
  omega
/-- .. too much: one less is not too little. -/
theorem dig_down {Y n1 n0 U u q r Q : Int} (hY : Y = n1 * 4294967296 + n0) (hU : U = q * n1 + r) (hgt : 4294967296 * r + u < q * n0) (hQ : Q * Y ≤ U * 4294967296 + u) (h0 : 0 < Y) : Q ≤ q - 1 := by
  have e : q * Y = q * n1 * 4294967296 + q * n0 := by rw [hY, Int.mul_add, ← Int.mul_assoc]
  have l : Q * Y < q * Y := by omega
  have := Int.lt_of_mul_lt_mul_right l (Int.le_of_lt h0)
  omega
/-- A digit is less than the base. -/
theorem dig_lt {Y U u Q : Int} (hU : U < Y) (hu : u < 4294967296) (hQ : Q * Y ≤ U * 4294967296 + u) (h0 : 0 < Y) : Q < 4294967296 := by
  have l : Q * Y < 4294967296 * Y := by omega
  exact Int.lt_of_mul_lt_mul_right l (Int.le_of_lt h0)
/-- The first guess. -/
theorem dig_first {Y n1 n0 U u Q : Int} (hY : Y = n1 * 4294967296 + n0) (h1 : 0 < n1) (hn : 0 ≤ n0) (hu : u < 4294967296) (hQ0 : 0 ≤ Q) (hQ : Q * Y ≤ U * 4294967296 + u) : Q ≤ U / n1 := by
  have e : Q * Y = Q * n1 * 4294967296 + Q * n0 := by rw [hY, Int.mul_add, ← Int.mul_assoc]
  have p : 0 ≤ Q * n0 := Int.mul_nonneg hQ0 hn
  have l : Q * n1 ≤ U := by omega
  exact (Int.le_ediv_iff_mul_le h1).2 l
/-- The sum is great: the guess is right. -/
theorem dig_break {Y n1 n0 U u q r Q : Int} (hY : Y = n1 * 4294967296 + n0) (h1 : 0 < n1) (hn : n0 < 4294967296) (hn0 : 0 ≤ n0) (hU : U = q * n1 + r) (hr : 4294967296 ≤ r) (hUY : U < Y) (hu : 0 ≤ u) (hQ : U * 4294967296 + u < (Q + 1) * Y) (hq : Q ≤ q) (hq0 : 0 ≤ q) : q = Q ∧ q < 4294967296 := by
  have l : q * n1 < 4294967296 * n1 := by omega
  have lq := Int.lt_of_mul_lt_mul_right l (Int.le_of_lt h1)
  have m : q * n0 ≤ 4294967296 * n0 := Int.mul_le_mul_of_nonneg_right (by omega) hn0
  have hp : 0 < n1 * 4294967296 := by omega
  exact ⟨dig_exit hY hU (by omega) hQ hq (by omega), lq⟩
theorem quot_bounds {A Y : Int} (h0 : 0 < Y) : A / Y * Y ≤ A ∧ A < (A / Y + 1) * Y := by
  have e := Int.mul_ediv_add_emod A Y
  have m0 := Int.emod_nonneg A (Int.ne_of_gt h0)
  have m1 := Int.emod_lt_of_pos A h0
  rw [Int.mul_comm] at e
  rw [Int.add_mul]
  omega
/-- Product of two words, by halves. -/
theorem mul_halves {x y : Int} (hx : 0 ≤ x ∧ x < 18446744073709551616) (hy : 0 ≤ y ∧ y < 18446744073709551616) :
    let x0 := x % 4294967296; let x1 := x / 4294967296; let y0 := y % 4294967296; let y1 := y / 4294967296
    let w0 := x0 * y0; let t := x1 * y0 + w0 / 4294967296; let w1 := t % 4294967296 + x0 * y1
    (0 ≤ w0 ∧ w0 ≤ 18446744065119617025) ∧ (0 ≤ x1 * y0 ∧ x1 * y0 ≤ 18446744065119617025) ∧ (0 ≤ x0 * y1 ∧ x0 * y1 ≤ 18446744065119617025) ∧ (0 ≤ x1 * y1 ∧ x1 * y1 ≤ 18446744065119617025) ∧
      x1 * y1 + t / 4294967296 + w1 / 4294967296 = x * y / 18446744073709551616 ∧ (0 ≤ x * y / 18446744073709551616 ∧ x * y / 18446744073709551616 < 18446744073709551616) := by
  intro x0 x1 y0 y1 w0 t w1
  have b : ∀ a c : Int, 0 ≤ a → a ≤ 4294967295 → 0 ≤ c → c ≤ 4294967295 → 0 ≤ a * c ∧ a * c ≤ 18446744065119617025 := fun a c h1 h2 h3 h4 =>
    ⟨Int.mul_nonneg h1 h3, Int.le_trans (Int.mul_le_mul h2 h4 h3 (by decide)) (by decide)⟩
  have hx0 : 0 ≤ x0 ∧ x0 ≤ 4294967295 := by omega
  have hx1 : 0 ≤ x1 ∧ x1 ≤ 4294967295 := by omega
  have hy0 : 0 ≤ y0 ∧ y0 ≤ 4294967295 := by omega
  have hy1 : 0 ≤ y1 ∧ y1 ≤ 4294967295 := by omega
  have b1 := b x0 y0 hx0.1 hx0.2 hy0.1 hy0.2
  have b2 := b x1 y0 hx1.1 hx1.2 hy0.1 hy0.2
  have b3 := b x0 y1 hx0.1 hx0.2 hy1.1 hy1.2
  have b4 := b x1 y1 hx1.1 hx1.2 hy1.1 hy1.2
  have ex : x = 4294967296 * x1 + x0 := by omega
  have ey : y = 4294967296 * y1 + y0 := by omega
  have e : x * y = 18446744073709551616 * (x1 * y1) + 4294967296 * (x1 * y0) + 4294967296 * (x0 * y1) + x0 * y0 := by
    rw [ex, ey, Int.add_mul, Int.mul_add, Int.mul_add, Int.mul_assoc, Int.mul_left_comm x1, ← Int.mul_assoc 4294967296, Int.mul_assoc 4294967296 x1 y0, Int.mul_left_comm x0 4294967296]
    omega
  refine ⟨b1, b2, b3, b4, ?_, ?_⟩
  · rw [e]
    omega
  · rw [e]
    omega
end Ab
/- Two words by one, in digits of half a word, in plain Lean. -/
namespace Ab
theorem knuth {N hi lo y s Y U T : Nat} (hs : s ≤ 63) (hh : hi < y) (hl : lo < 18446744073709551616) (hN : N = hi * 18446744073709551616 + lo) (hY : Y = y * 2 ^ s) (hU : U = hi * 2 ^ s + lo / 2 ^ (64 - s)) (hT : T = lo * 2 ^ s % 18446744073709551616) :
    U < Y ∧ lo / 2 ^ (64 - s) < 2 ^ s ∧ hi * 2 ^ s < Y ∧
    ∀ D V E R : Nat, D = (U * 4294967296 + T / 4294967296) / Y → V = (U * 4294967296 + T / 4294967296) % Y → E = (V * 4294967296 + T % 4294967296) / Y → R = (V * 4294967296 + T % 4294967296) % Y → D * 4294967296 + E = N / y ∧ R / 2 ^ s = N % y := by
  have p : 0 < 2 ^ s := Nat.pow_pos (by decide)
  have eM : 2 ^ (64 - s) * 2 ^ s = 18446744073709551616 := by rw [← Nat.pow_add, show 64 - s + s = 64 by omega]
  have e1 : lo * 2 ^ s / 18446744073709551616 = lo / 2 ^ (64 - s) := by rw [← eM, Nat.mul_div_mul_right _ _ p]
  have e2 : lo * 2 ^ s = 18446744073709551616 * (lo / 2 ^ (64 - s)) + T := by rw [hT, ← e1]; exact (Nat.div_add_mod _ _).symm
  have hT2 : T < 18446744073709551616 := by rw [hT]; exact Nat.mod_lt _ (by decide)
  have e3 : U * 18446744073709551616 + T = N * 2 ^ s := by
    rw [hU, hN, Nat.add_mul, Nat.add_mul, e2, Nat.mul_right_comm]
    omega
  have l1 : lo / 2 ^ (64 - s) < 2 ^ s := Nat.div_lt_of_lt_mul (by rw [eM]; exact hl)
  have l2 : (hi + 1) * 2 ^ s ≤ Y := by rw [hY]; exact Nat.mul_le_mul_right _ hh
  rw [Nat.add_mul, Nat.one_mul] at l2
  have hY0 : 0 < Y := by omega
  refine ⟨by omega, l1, by omega, ?_⟩
  intro D V E R hD hV hE hR
  have a1 := Nat.div_add_mod (U * 4294967296 + T / 4294967296) Y
  have a2 := Nat.div_add_mod (V * 4294967296 + T % 4294967296) Y
  rw [← hD, ← hV] at a1
  rw [← hE, ← hR] at a2
  have b : R < Y := by rw [hR]; exact Nat.mod_lt _ hY0
  have e4 : N * 2 ^ s = Y * (D * 4294967296 + E) + R := by
    rw [Nat.mul_add, ← Nat.mul_assoc, ← e3]
    omega
  have c1 : N * 2 ^ s / Y = D * 4294967296 + E := by
    rw [e4, Nat.mul_add_div hY0, Nat.div_eq_of_lt b, Nat.add_zero]
  have c2 : N * 2 ^ s % Y = R := by rw [e4, Nat.mul_add_mod, Nat.mod_eq_of_lt b]
  rw [hY, Nat.mul_div_mul_right _ _ p] at c1
  rw [hY, Nat.mul_mod_mul_right] at c2
  exact ⟨c1.symm, by rw [← c2, Nat.mul_div_cancel _ p]⟩
end Ab
