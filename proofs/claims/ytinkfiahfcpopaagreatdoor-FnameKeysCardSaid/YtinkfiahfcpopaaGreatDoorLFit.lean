import Derived.Test.YtinkfiahfcpopaaGreatDoorLMulDiv
import Derived.Test.YtinkfiahfcpopaaGreatDoorLAgg
namespace Ab
open Go (IntKind BinOp UnOp)
theorem map_and1 {x : Int} (_h0 : 0 ≤ x) (_h1 : x ≤ 18446744073709551615) : binAV .and (.p (.int .u64 x)) (.p (.int .u64 1)) = some (.p (.int .u64 (x % 2))) := by
  have e : (BitVec.ofInt IntKind.u64.bits 1).toNat = 2 ^ 1 - 1 := by decide
  have e3 : ((2 ^ IntKind.u64.bits : Nat) : Int) = 18446744073709551616 := by decide
  have key : ((BitVec.ofInt IntKind.u64.bits x &&& BitVec.ofInt IntKind.u64.bits 1).toNat : Int) = x % 2 := by
    rw [BitVec.toNat_and, e, Nat.and_two_pow_sub_one_eq_mod, BitVec.toNat_ofInt, e3]
    omega
  simp only [binAV, binPV, binInt, true_or, if_true, Option.map_some, key]
  rw [wrap_u64 (by omega) (by omega)]
theorem map_and63 {x : Int} (_h0 : 0 ≤ x) (_h1 : x ≤ 127) : binAV .and (.p (.int .i64 x)) (.p (.int .i64 63)) = some (.p (.int .i64 (x % 64))) := by
  have e : (BitVec.ofInt IntKind.i64.bits 63).toNat = 2 ^ 6 - 1 := by decide
  have e3 : ((2 ^ IntKind.i64.bits : Nat) : Int) = 18446744073709551616 := by decide
  have key : ((BitVec.ofInt IntKind.i64.bits x &&& BitVec.ofInt IntKind.i64.bits 63).toNat : Int) = x % 64 := by
    rw [BitVec.toNat_and, e, Nat.and_two_pow_sub_one_eq_mod, BitVec.toNat_ofInt, e3]
    omega
  simp only [binAV, binPV, binInt, true_or, if_true, Option.map_some, key]
  rw [wrap_i64 (by omega) (by omega)]
theorem res_r1size {a : Int} (h : -9223372036854775808 ≤ a ∧ a ≤ 9223372036854775807) : res Γ 167 [.int .i64 a] = some [.int .u64 (a.natAbs : Int)] := by
  refine res_code (fn := r1_size) rfl rfl ?_
  by_cases hn : a < 0
  · have e1 : (0 - (a + 1)) + 1 = (a.natAbs : Int) := by omega
    simp (disch := first | assumption | omega | decide | (simp only [lens] <;> omega) | fail) only [go_sem, r1_size, e1]
  · have e1 : IntKind.u64.wrap a = (a.natAbs : Int) := by rw [wrap_u64m]; omega
    simp (disch := first | assumption | omega | decide | (simp only [lens] <;> omega) | fail) only [go_sem, r1_size, e1]
theorem bit_step {X d b : Nat} (hd : 0 < d) (hb : b < 2) : (if d ≤ 2 * (X % d) + b then ((2 * X + b) / d = 2 * (X / d) + 1 ∧ (2 * X + b) % d = 2 * (X % d) + b - d) else ((2 * X + b) / d = 2 * (X / d) ∧ (2 * X + b) % d = 2 * (X % d) + b)) := by
  have e := Nat.div_add_mod X d
  have l := Nat.mod_lt X hd
  split
  · rename_i h
    have e2 : 2 * X + b = d * (2 * (X / d) + 1) + (2 * (X % d) + b - d) := by
      rw [Nat.mul_add, Nat.mul_left_comm, Nat.mul_one]; omega
    have lt : 2 * (X % d) + b - d < d := by omega
    rw [e2, Nat.mul_add_div hd, Nat.mul_add_mod, Nat.div_eq_of_lt lt, Nat.mod_eq_of_lt lt]
    exact ⟨by omega, rfl⟩
  · rename_i h
    have e2 : 2 * X + b = d * (2 * (X / d)) + (2 * (X % d) + b) := by
      rw [Nat.mul_left_comm]; omega
    have lt : 2 * (X % d) + b < d := by omega
    rw [e2, Nat.mul_add_div hd, Nat.mul_add_mod, Nat.div_eq_of_lt lt, Nat.mod_eq_of_lt lt]
    exact ⟨by omega, rfl⟩
theorem orOne {x : Nat} : 2 * x ||| 1 = 2 * x + 1 := by
  have := Nat.two_pow_add_eq_or_of_lt (i := 1) (b := 1) (by decide) x
  rw [Nat.pow_one] at this
  exact this.symm
theorem orBit {x b : Nat} (hb : b < 2) : 2 * x ||| b = 2 * x + b := by
  have := Nat.two_pow_add_eq_or_of_lt (i := 1) (b := b) (by simpa using hb) x
  rw [Nat.pow_one] at this
  exact this.symm
theorem map_shl1 (x : Int) : binAV .shl (.p (.int .u64 x)) (.p (.int .u64 1)) = some (.p (.int .u64 (IntKind.u64.wrap (x * 2)))) := by
  rw [map_shl (by decide) (by decide)]; rfl
theorem map_shr62 (x : Int) : binAV .shr (.p (.int .u64 x)) (.p (.int .u64 62)) = some (.p (.int .u64 (x / 4611686018427387904))) := by
  rw [map_shr (by decide) (by decide)]; rfl
theorem map_shr63 (x : Int) : binAV .shr (.p (.int .u64 x)) (.p (.int .u64 63)) = some (.p (.int .u64 (x / 9223372036854775808))) := by
  rw [map_shr (by decide) (by decide)]; rfl
theorem md_l1_ok {a b c : PV} {h l d P : Nat} (hh : h < 18446744073709551616) (hl : l < 18446744073709551616) (hP : P = h * 18446744073709551616 + l) (hd : 0 < d ∧ d ≤ 9223372036854775808) : ∀ (k : Nat) (Q : Out → Prop), k ≤ 128 →
    Q (.nrm, [(0, .p a), (1, .p b), (2, .p c), (10, .p (.int .u64 (d : Int))), (11, .p (.int .u64 ((P / d % 18446744073709551616 : Nat) : Int))), (12, .p (.int .u64 ((P % d : Nat) : Int))), (13, .p (.bool (decide (9223372036854775808 ≤ P / d))))], []) →
    Wp Γ r1_MulDiv_l1 [(0, .p a), (1, .p b), (2, .p c), (8, .p (.int .u64 (h : Int))), (9, .p (.int .u64 (l : Int))), (10, .p (.int .u64 (d : Int))), (11, .p (.int .u64 ((P / 2 ^ k / d % 18446744073709551616 : Nat) : Int))), (12, .p (.int .u64 ((P / 2 ^ k % d : Nat) : Int))), (13, .p (.bool (decide (9223372036854775808 ≤ P / 2 ^ k / d)))), (14, .p (.int .i64 ((k : Int) - 1)))] [] (InBlk [0, 1, 2, 10, 11, 12, 13] 0 Q) := by
  intro k
  induction k with
  | zero =>
    intro Q _ hQ
    simp only [Nat.pow_zero, Nat.div_one]
    rw [W_loop (L := r1_MulDiv_l1) rfl]
    simp (disch := first | assumption | omega | decide | (simp only [lens] <;> omega) | fail) only [go_sem]
    exact hQ
  | succ k ih =>
    intro Q hk hQ
    have ek : (((k + 1 : Nat) : Int) - 1) = (k : Int) := by omega
    rw [ek]
    obtain ⟨X, hX⟩ : ∃ X, X = P / 2 ^ (k + 1) := ⟨_, rfl⟩
    obtain ⟨t, ht⟩ : ∃ t, t = P / 2 ^ k % 2 := ⟨_, rfl⟩
    have t2 : t < 2 := by omega
    have eX : P / 2 ^ k = 2 * X + t := by
      have : P / 2 ^ (k + 1) = P / 2 ^ k / 2 := by rw [Nat.pow_succ, Nat.div_div_eq_div_mul]
      omega
    have st := bit_step (X := X) (d := d) (b := t) hd.1 t2
    obtain ⟨R, hR⟩ : ∃ R, R = X % d := ⟨_, rfl⟩
    obtain ⟨G, hG⟩ : ∃ G, G = X / d := ⟨_, rfl⟩
    have hRd : R < d := by rw [hR]; exact Nat.mod_lt _ hd.1
    obtain ⟨Lk, hLk⟩ : ∃ Lk, Lk = l / 2 ^ (k % 64) := ⟨_, rfl⟩
    have hLk2 : Lk < 18446744073709551616 := by rw [hLk]; exact Nat.lt_of_le_of_lt (Nat.div_le_self _ _) hl
    have rl : binAV .shr (.p (.int .u64 (l : Int))) (.p (.int .u64 ((k : Int) % 64))) = some (.p (.int .u64 (Lk : Int))) := by
      rw [map_shr (by omega) (by omega), show ((k : Int) % 64).toNat = k % 64 by omega, hLk]; simp
    rw [← hX, ← hR, ← hG]
    rw [← hR, ← hG] at st
    have goOn := ih Q (by omega) hQ
    rw [eX] at goOn
    have sh2 : IntKind.u64.wrap (((G % 18446744073709551616 : Nat) : Int) * 2) = ((2 * (G % 9223372036854775808) : Nat) : Int) := by rw [wrap_u64m]; omega
    have shR : IntKind.u64.wrap ((R : Int) * 2) = ((2 * R : Nat) : Int) := by rw [wrap_u64m]; omega
    have top0 : (R : Int) / 9223372036854775808 = 0 := by omega
    have or1 := map_orN (H := 2 * R) (L := t) (by omega) (orBit t2)
    have or2 : binAV .or (.p (.int .u64 ((2 * (G % 9223372036854775808) : Nat) : Int))) (.p (.int .u64 1)) = some (.p (.int .u64 ((2 * (G % 9223372036854775808) + 1 : Nat) : Int))) := map_orN (H := 2 * (G % 9223372036854775808)) (L := 1) (by omega) orOne
    have e11 : (2 * G + 1) % 18446744073709551616 = 2 * (G % 9223372036854775808) + 1 := by omega
    have e11' : (2 * G) % 18446744073709551616 = 2 * (G % 9223372036854775808) := by omega
    by_cases h64 : 64 ≤ k
    · obtain ⟨Hk, hHk⟩ : ∃ Hk, Hk = h / 2 ^ (k - 64) := ⟨_, rfl⟩
      have hHk2 : Hk < 18446744073709551616 := by rw [hHk]; exact Nat.lt_of_le_of_lt (Nat.div_le_self _ _) hh
      have rh : binAV .shr (.p (.int .u64 (h : Int))) (.p (.int .u64 ((k : Int) - 64))) = some (.p (.int .u64 (Hk : Int))) := by
        rw [map_shr (by omega) (by omega), show ((k : Int) - 64).toNat = k - 64 by omega, hHk]; simp
      have et : (Hk : Int) % 2 = (t : Int) := by
        have : P / 2 ^ k = Hk := by
          rw [hHk, show 2 ^ k = 18446744073709551616 * 2 ^ (k - 64) by rw [show (18446744073709551616 : Nat) = 2 ^ 64 by rfl, ← Nat.pow_add, show 64 + (k - 64) = k by omega], ← Nat.div_div_eq_div_mul, hP, show (h * 18446744073709551616 + l) / 18446744073709551616 = h by omega]
        rw [ht, this]; omega
      by_cases hO : 9223372036854775808 ≤ G
      · by_cases hr : d ≤ 2 * R + t
        · rw [if_pos hr] at st
          rw [st.1, st.2, e11] at goOn
          have eo : decide (9223372036854775808 ≤ G) = true := decide_eq_true hO
          have e13 : decide (9223372036854775808 ≤ 2 * G + 1) = true := decide_eq_true (by omega)
          rw [e13] at goOn
          have e12 : ((2 * R + t : Nat) : Int) - (d : Int) = ((2 * R + t - d : Nat) : Int) := by omega
          rw [W_loop (L := r1_MulDiv_l1) rfl]
          simp (disch := first | assumption | omega | decide | (simp only [lens] <;> omega) | fail) only [go_sem, map_and63, map_and1, rl, rh, et, map_shr63, map_shl1, sh2, shR, top0, or1, eo, e12, or2]
          exact goOn
        · rw [if_neg hr] at st
          rw [st.1, st.2, e11'] at goOn
          have eo : decide (9223372036854775808 ≤ G) = true := decide_eq_true hO
          have e13 : decide (9223372036854775808 ≤ 2 * G) = true := decide_eq_true (by omega)
          rw [e13] at goOn
          rw [W_loop (L := r1_MulDiv_l1) rfl]
          simp (disch := first | assumption | omega | decide | (simp only [lens] <;> omega) | fail) only [go_sem, map_and63, map_and1, rl, rh, et, map_shr63, map_shl1, sh2, shR, top0, or1, eo]
          exact goOn
      · by_cases hr : d ≤ 2 * R + t
        · rw [if_pos hr] at st
          rw [st.1, st.2, e11] at goOn
          have eo : decide (9223372036854775808 ≤ G) = false := decide_eq_false hO
          have en : decide (((G % 18446744073709551616 : Nat) : Int) / 4611686018427387904 ≠ 0) = decide (4611686018427387904 ≤ G) := by rw [Bool.eq_iff_iff]; simp only [decide_eq_true_eq]; omega
          have e13 : decide (9223372036854775808 ≤ 2 * G + 1) = decide (4611686018427387904 ≤ G) := by rw [Bool.eq_iff_iff]; simp only [decide_eq_true_eq]; omega
          rw [e13] at goOn
          have e12 : ((2 * R + t : Nat) : Int) - (d : Int) = ((2 * R + t - d : Nat) : Int) := by omega
          rw [W_loop (L := r1_MulDiv_l1) rfl]
          simp (disch := first | assumption | omega | decide | (simp only [lens] <;> omega) | fail) only [go_sem, map_and63, map_and1, rl, rh, et, map_shr63, map_shr62, map_shl1, sh2, shR, top0, or1, eo, en, e12, or2]
          exact goOn
        · rw [if_neg hr] at st
          rw [st.1, st.2, e11'] at goOn
          have eo : decide (9223372036854775808 ≤ G) = false := decide_eq_false hO
          have en : decide (((G % 18446744073709551616 : Nat) : Int) / 4611686018427387904 ≠ 0) = decide (9223372036854775808 ≤ 2 * G) := by rw [Bool.eq_iff_iff]; simp only [decide_eq_true_eq]; omega
          rw [W_loop (L := r1_MulDiv_l1) rfl]
          simp (disch := first | assumption | omega | decide | (simp only [lens] <;> omega) | fail) only [go_sem, map_and63, map_and1, rl, rh, et, map_shr63, map_shr62, map_shl1, sh2, shR, top0, or1, eo, en]
          exact goOn
    · have et : (Lk : Int) % 2 = (t : Int) := by
        have e : 18446744073709551616 = 2 ^ k * (2 * 2 ^ (63 - k)) := by
          rw [show (18446744073709551616 : Nat) = 2 ^ 64 by rfl, ← Nat.pow_succ', ← Nat.pow_add, show k + (63 - k + 1) = 64 by omega]
        have : P / 2 ^ k = 2 * (h * 2 ^ (63 - k)) + Lk := by
          rw [hP, hLk, show k % 64 = k by omega, e, show h * (2 ^ k * (2 * 2 ^ (63 - k))) + l = 2 ^ k * (2 * (h * 2 ^ (63 - k))) + l by rw [Nat.mul_left_comm h, Nat.mul_left_comm h 2], Nat.mul_add_div (Nat.pow_pos (by decide))]
        rw [ht, this]; omega
      by_cases hO : 9223372036854775808 ≤ G
      · by_cases hr : d ≤ 2 * R + t
        · rw [if_pos hr] at st
          rw [st.1, st.2, e11] at goOn
          have eo : decide (9223372036854775808 ≤ G) = true := decide_eq_true hO
          have e13 : decide (9223372036854775808 ≤ 2 * G + 1) = true := decide_eq_true (by omega)
          rw [e13] at goOn
          have e12 : ((2 * R + t : Nat) : Int) - (d : Int) = ((2 * R + t - d : Nat) : Int) := by omega
          rw [W_loop (L := r1_MulDiv_l1) rfl]
          simp (disch := first | assumption | omega | decide | (simp only [lens] <;> omega) | fail) only [go_sem, map_and63, map_and1, rl, et, map_shr63, map_shl1, sh2, shR, top0, or1, eo, e12, or2]
          exact goOn
        · rw [if_neg hr] at st
          rw [st.1, st.2, e11'] at goOn
          have eo : decide (9223372036854775808 ≤ G) = true := decide_eq_true hO
          have e13 : decide (9223372036854775808 ≤ 2 * G) = true := decide_eq_true (by omega)
          rw [e13] at goOn
          rw [W_loop (L := r1_MulDiv_l1) rfl]
          simp (disch := first | assumption | omega | decide | (simp only [lens] <;> omega) | fail) only [go_sem, map_and63, map_and1, rl, et, map_shr63, map_shl1, sh2, shR, top0, or1, eo]
          exact goOn
      · by_cases hr : d ≤ 2 * R + t
        · rw [if_pos hr] at st
          rw [st.1, st.2, e11] at goOn
          have eo : decide (9223372036854775808 ≤ G) = false := decide_eq_false hO
          have en : decide (((G % 18446744073709551616 : Nat) : Int) / 4611686018427387904 ≠ 0) = decide (4611686018427387904 ≤ G) := by rw [Bool.eq_iff_iff]; simp only [decide_eq_true_eq]; omega
          have e13 : decide (9223372036854775808 ≤ 2 * G + 1) = decide (4611686018427387904 ≤ G) := by rw [Bool.eq_iff_iff]; simp only [decide_eq_true_eq]; omega
          rw [e13] at goOn
          have e12 : ((2 * R + t : Nat) : Int) - (d : Int) = ((2 * R + t - d : Nat) : Int) := by omega
          rw [W_loop (L := r1_MulDiv_l1) rfl]
          simp (disch := first | assumption | omega | decide | (simp only [lens] <;> omega) | fail) only [go_sem, map_and63, map_and1, rl, et, map_shr63, map_shr62, map_shl1, sh2, shR, top0, or1, eo, en, e12, or2]
          exact goOn
        · rw [if_neg hr] at st
          rw [st.1, st.2, e11'] at goOn
          have eo : decide (9223372036854775808 ≤ G) = false := decide_eq_false hO
          have en : decide (((G % 18446744073709551616 : Nat) : Int) / 4611686018427387904 ≠ 0) = decide (9223372036854775808 ≤ 2 * G) := by rw [Bool.eq_iff_iff]; simp only [decide_eq_true_eq]; omega
          rw [W_loop (L := r1_MulDiv_l1) rfl]
          simp (disch := first | assumption | omega | decide | (simp only [lens] <;> omega) | fail) only [go_sem, map_and63, map_and1, rl, et, map_shr63, map_shr62, map_shl1, sh2, shR, top0, or1, eo, en]
          exact goOn
end Ab
namespace Ab
open Go (IntKind BinOp UnOp)
theorem mul_low {x y : Int} (hx : 0 ≤ x ∧ x < 18446744073709551616) (hy : 0 ≤ y ∧ y < 18446744073709551616) :
    ((x / 4294967296 * (y % 4294967296) + x % 4294967296 * (y % 4294967296) / 4294967296) % 4294967296 + x % 4294967296 * (y / 4294967296)) % 4294967296 * 4294967296 + x % 4294967296 * (y % 4294967296) % 4294967296 = x * y % 18446744073709551616 := by
  obtain ⟨b1, b2, b3, b4, _, _⟩ := mul_halves hx hy
  have ex : x = 4294967296 * (x / 4294967296) + x % 4294967296 := by omega
  have ey : y = 4294967296 * (y / 4294967296) + y % 4294967296 := by omega
  have e : x * y = 18446744073709551616 * (x / 4294967296 * (y / 4294967296)) + 4294967296 * (x / 4294967296 * (y % 4294967296)) + 4294967296 * (x % 4294967296 * (y / 4294967296)) + x % 4294967296 * (y % 4294967296) := by
    generalize x / 4294967296 = x1 at *
    generalize x % 4294967296 = x0 at *
    generalize y / 4294967296 = y1 at *
    generalize y % 4294967296 = y0 at *
    rw [ex, ey, Int.add_mul, Int.mul_add, Int.mul_add, Int.mul_assoc, Int.mul_left_comm x1, ← Int.mul_assoc 4294967296, Int.mul_assoc 4294967296 x1 y0, Int.mul_left_comm x0 4294967296]
    omega
  rw [e]
  omega
theorem res_times {A B : Nat} (hA : A < 18446744073709551616) (hB : B < 18446744073709551616) : res Γ 168 [.int .u64 (A : Int), .int .u64 (B : Int)] = some [.int .u64 ((A * B / 18446744073709551616 : Nat) : Int), .int .u64 ((A * B % 18446744073709551616 : Nat) : Int)] := by
  obtain ⟨b1, b2, b3, b4, e, b5⟩ := mul_halves (x := (A : Int)) (y := (B : Int)) (by omega) (by omega)
  have lo := mul_low (x := (A : Int)) (y := (B : Int)) (by omega) (by omega)
  have c1 : ((A * B / 18446744073709551616 : Nat) : Int) = (A : Int) * B / 18446744073709551616 := by simp
  have c2 : ((A * B % 18446744073709551616 : Nat) : Int) = (A : Int) * B % 18446744073709551616 := by simp
  rw [← e] at b5 c1
  rw [← lo] at c2
  rw [c1, c2]
  generalize hw : ((A : Int) / 4294967296 * ((B : Int) % 4294967296) + (A : Int) % 4294967296 * ((B : Int) % 4294967296) / 4294967296) % 4294967296 + (A : Int) % 4294967296 * ((B : Int) / 4294967296) = w at *
  have hw2 : (A : Int) % 4294967296 * ((B : Int) / 4294967296) + ((A : Int) / 4294967296 * ((B : Int) % 4294967296) + (A : Int) % 4294967296 * ((B : Int) % 4294967296) / 4294967296) % 4294967296 = w := by omega
  have hw3 : 0 ≤ w ∧ w ≤ 18446744073709551615 := by omega
  have sh : ∀ x : Int, binAV .shl (.p (.int .u64 x)) (.p (.int .u64 32)) = some (.p (.int .u64 (IntKind.u64.wrap (x * 4294967296)))) := fun x => by rw [map_shl (by decide) (by decide)]; rfl
  have e1 : IntKind.u64.wrap (w * 4294967296) = ((4294967296 * (w % 4294967296).toNat : Nat) : Int) := by rw [wrap_u64m]; omega
  obtain ⟨z, hz⟩ : ∃ z : Nat, (z : Int) = (A : Int) % 4294967296 * ((B : Int) % 4294967296) % 4294967296 := ⟨((A : Int) % 4294967296 * ((B : Int) % 4294967296) % 4294967296).toNat, by omega⟩
  have orr := map_orN (H := 4294967296 * (w % 4294967296).toNat) (L := z) (by omega) (Nat.two_pow_add_eq_or_of_lt (i := 32) (b := z) (by omega) _).symm
  have e2 : w % 4294967296 * 4294967296 + (A : Int) % 4294967296 * ((B : Int) % 4294967296) % 4294967296 = ((4294967296 * (w % 4294967296).toNat + z : Nat) : Int) := by omega
  rw [e2]
  refine res_code (fn := r1_times) rfl rfl ?_
  simp (disch := first | assumption | omega | decide | (simp only [lens] <;> omega) | fail) only [go_sem, r1_times, map_shr32, map_and32, sh, hw2, e1, ← hz, orr]
theorem res_r1MulDiv {a b c : Int} (ha : -9223372036854775808 ≤ a ∧ a ≤ 9223372036854775807) (hb : -9223372036854775808 ≤ b ∧ b ≤ 9223372036854775807) (hc : -9223372036854775808 ≤ c ∧ c ≤ 9223372036854775807) :
    res Γ 164 [.int .i64 a, .int .i64 b, .int .i64 c] = some (mdR (mdV a b c)) := by
  refine res_code (fn := r1_MulDiv) rfl rfl ?_
  by_cases hc0 : c = 0
  · rw [mdV_zero hc0]
    simp (disch := first | assumption | omega | decide | (simp only [lens] <;> omega) | fail) only [go_sem, r1_MulDiv, mdR]
  have s1 := res_r1size ha
  have s2 := res_r1size hb
  have s3 := res_r1size hc
  have no := @mdV_no a b c hc0
  have yes := @mdV_yes a b c hc0
  obtain ⟨A, hA⟩ : ∃ A, A = a.natAbs := ⟨_, rfl⟩
  obtain ⟨B, hB⟩ : ∃ B, B = b.natAbs := ⟨_, rfl⟩
  obtain ⟨C, hC⟩ : ∃ C, C = c.natAbs := ⟨_, rfl⟩
  rw [← hA] at s1 no yes
  rw [← hB] at s2 no yes
  rw [← hC] at s3 no yes
  obtain ⟨P, hP⟩ : ∃ P, P = A * B := ⟨_, rfl⟩
  have m := res_times (A := A) (B := B) (by omega) (by omega)
  rw [← hP] at m no yes
  have hCpos : 0 < C := by omega
  have rl := Nat.mod_lt P hCpos
  have hP2 : P < 2 ^ 128 := by
    rw [hP]
    exact Nat.lt_of_le_of_lt (Nat.mul_le_mul (show A ≤ 9223372036854775808 by omega) (show B ≤ 9223372036854775808 by omega)) (by decide)
  have P0 : P / 2 ^ 128 = 0 := Nat.div_eq_of_lt hP2
  have loop := md_l1_ok (a := .int .i64 a) (b := .int .i64 b) (c := .int .i64 c) (h := P / 18446744073709551616) (l := P % 18446744073709551616) (d := C) (P := P) (by omega) (Nat.mod_lt _ (by decide)) (Nat.div_add_mod' P _).symm (by omega) 128
  rw [P0, Nat.zero_div, Nat.zero_mod, Nat.zero_mod] at loop
  simp (disch := first | assumption | omega | decide | (simp only [lens] <;> omega) | fail) only [go_sem, r1_MulDiv, s1, s2, s3, m]
  refine loop _ (by decide) ?_
  by_cases hO : 9223372036854775808 ≤ P / C
  · have eo : decide (9223372036854775808 ≤ P / C) = true := decide_eq_true hO
    rw [no (by unfold mdQ; split <;> omega)]
    by_cases hr : C - P % C ≤ P % C
    · simp (disch := first | assumption | omega | decide | (simp only [lens] <;> omega) | fail) only [go_sem, mdR, eo]
    · simp (disch := first | assumption | omega | decide | (simp only [lens] <;> omega) | fail) only [go_sem, mdR, eo]
  have eo : decide (9223372036854775808 ≤ P / C) = false := decide_eq_false hO
  have em : P / C % 18446744073709551616 = P / C := Nat.mod_eq_of_lt (by omega)
  rw [em]
  by_cases hr : C - P % C ≤ P % C
  · have e : mdQ P C = P / C + 1 := by unfold mdQ; rw [if_pos hr]
    rw [e] at yes no
    by_cases hq2 : 4611686018427387904 < P / C + 1
    · rw [no hq2]
      simp (disch := first | assumption | omega | decide | (simp only [lens] <;> omega) | fail) only [go_sem, mdR, eo]
    · rw [yes (by omega)]
      cases ea : decide (a < 0) <;> cases eb : decide (b < 0) <;> cases ec : decide (c < 0) <;> simp (disch := first | assumption | omega | decide | (simp only [lens] <;> omega) | fail) only [go_sem, mdR, eo, ea, eb, ec] <;> simp
  · have e : mdQ P C = P / C := by unfold mdQ; rw [if_neg hr]
    rw [e] at yes no
    by_cases hq2 : 4611686018427387904 < P / C
    · rw [no hq2]
      simp (disch := first | assumption | omega | decide | (simp only [lens] <;> omega) | fail) only [go_sem, mdR, eo]
    · rw [yes (by omega)]
      cases ea : decide (a < 0) <;> cases eb : decide (b < 0) <;> cases ec : decide (c < 0) <;> simp (disch := first | assumption | omega | decide | (simp only [lens] <;> omega) | fail) only [go_sem, mdR, eo, ea, eb, ec] <;> simp
end Ab
namespace Ab
open Go (IntKind BinOp UnOp)
theorem divV_no1 {a b : Val} (h : knV a = false) : divV a b = (false, 0) := by unfold divV; rw [if_neg (by rw [h]; simp)]; rfl
theorem divV_no2 {a b : Val} (h : knV b = false) : divV a b = (false, 0) := by unfold divV; rw [if_neg (by rw [h]; simp)]; rfl
theorem divV_yes {a b : Val} (h : knV a = true) (h' : knV b = true) : divV a b = valV (mdV a.2 1000000 b.2) := by unfold divV; rw [if_pos ⟨h, h'⟩]
theorem res_valNo {n : Int} : res Γ 145 [.int .i64 n, .bool false] = some [.agg [.bool false, .int .i64 0]] := by
  refine res_code (fn := fixed_val) rfl rfl ?_
  simp (disch := first | assumption | omega | decide | (simp only [lens] <;> omega) | fail) only [go_sem, fixed_val]
theorem res_valYes {n : Int} : res Γ 145 [.int .i64 n, .bool true] = some [.agg [.bool (ofV n).1, .int .i64 (ofV n).2]] := by
  refine res_code (fn := fixed_val) rfl rfl ?_
  simp (disch := first | assumption | omega | decide | (simp only [lens] <;> omega) | fail) only [go_sem, fixed_val]
theorem res_fixedDiv (b : Bool) (n : Int) (c : Bool) (m : Int) : res Γ 138 [.agg [.bool b, .int .i64 n], .agg [.bool c, .int .i64 m]] = some [.agg [.bool (divV (b, n) (c, m)).1, .int .i64 (divV (b, n) (c, m)).2]] := by
  refine res_code (fn := fixed_Div) rfl rfl ?_
  cases h : knV (b, n)
  · simp (disch := first | assumption | omega | decide | (simp only [lens] <;> omega) | fail) only [go_sem, fixed_Div, h, divV_no1 h]
  · cases h' : knV (c, m)
    · simp (disch := first | assumption | omega | decide | (simp only [lens] <;> omega) | fail) only [go_sem, fixed_Div, h, h', divV_no2 h']
    · obtain ⟨_, g1, g2⟩ := knV_pair h
      obtain ⟨_, g3, g4⟩ := knV_pair h'
      have e := res_fixedMulDiv (a := n) (b := 1000000) (c := m) (by omega) (by decide) (by omega)
      rw [divV_yes h h']
      cases hm : mdV n 1000000 m with
      | none =>
        rw [hm] at e
        simp only [mdR] at e
        simp (disch := first | assumption | omega | decide | (simp only [lens] <;> omega) | fail) only [go_sem, fixed_Div, h, h', e, res_valNo, valV, noV]
      | some q =>
        rw [hm] at e
        simp only [mdR] at e
        simp (disch := first | assumption | omega | decide | (simp only [lens] <;> omega) | fail) only [go_sem, fixed_Div, h, h', e, res_valYes, valV]
theorem res_r1Div (b : Bool) (n : Int) (c : Bool) (m : Int) : res Γ 130 [.agg [.bool b, .int .i64 n], .agg [.bool c, .int .i64 m]] = some [.agg [.bool (divV (b, n) (c, m)).1, .int .i64 (divV (b, n) (c, m)).2]] := by
  refine res_code (fn := r1_Div) rfl rfl ?_
  cases h : knV (b, n)
  · simp (disch := first | assumption | omega | decide | (simp only [lens] <;> omega) | fail) only [go_sem, r1_Div, h, divV_no1 h, Bool.false_and]
  · cases h' : knV (c, m)
    · simp (disch := first | assumption | omega | decide | (simp only [lens] <;> omega) | fail) only [go_sem, r1_Div, h, h', divV_no2 h', Bool.and_false]
    · obtain ⟨_, g1, g2⟩ := knV_pair h
      obtain ⟨_, g3, g4⟩ := knV_pair h'
      have e := res_r1MulDiv (a := n) (b := 1000000) (c := m) (by omega) (by decide) (by omega)
      rw [divV_yes h h']
      cases hm : mdV n 1000000 m with
      | none =>
        rw [hm] at e
        simp only [mdR] at e
        simp (disch := first | assumption | omega | decide | (simp only [lens] <;> omega) | fail) only [go_sem, r1_Div, h, h', e, valV, noV, Bool.and_true]
      | some q =>
        rw [hm] at e
        simp only [mdR] at e
        simp (disch := first | assumption | omega | decide | (simp only [lens] <;> omega) | fail) only [go_sem, r1_Div, h, h', e, valV, Bool.and_true]
theorem res_fixedDivV (x y : Val) : res Γ 138 [.agg [.bool x.1, .int .i64 x.2], .agg [.bool y.1, .int .i64 y.2]] = some [.agg [.bool (divV x y).1, .int .i64 (divV x y).2]] := by
  obtain ⟨b, n⟩ := x; obtain ⟨c, m⟩ := y; exact res_fixedDiv b n c m
theorem res_r1DivV (x y : Val) : res Γ 130 [.agg [.bool x.1, .int .i64 x.2], .agg [.bool y.1, .int .i64 y.2]] = some [.agg [.bool (divV x y).1, .int .i64 (divV x y).2]] := by
  obtain ⟨b, n⟩ := x; obtain ⟨c, m⟩ := y; exact res_r1Div b n c m
theorem intV_small {n : Int} (h : 0 ≤ n ∧ n ≤ 1000000000) : intV n = (true, n * 1000000) := by unfold intV maxN; rw [if_pos (by omega)]
theorem res_fixedInt {n : Int} (h : 0 ≤ n ∧ n ≤ 1000000000) : res Γ 137 [.int .i64 n] = some [.agg [.bool (intV n).1, .int .i64 (intV n).2]] := by
  rw [intV_small h]
  refine res_code (fn := fixed_Int) rfl rfl ?_
  simp (disch := first | assumption | omega | decide | (simp only [lens] <;> omega) | fail) only [go_sem, fixed_Int, ofV_in]
theorem res_r1Int {n : Int} (h : 0 ≤ n ∧ n ≤ 1000000000) : res Γ 129 [.int .i64 n] = some [.agg [.bool (intV n).1, .int .i64 (intV n).2]] := by
  rw [intV_small h]
  refine res_code (fn := r1_Int) rfl rfl ?_
  simp (disch := first | assumption | omega | decide | (simp only [lens] <;> omega) | fail) only [go_sem, r1_Int, ofV_in]
theorem agg1_cons {l : List Val} {b : Val} {k : List Val} (h : knL l = b :: k) : aggV 1 l = divV (addV (b :: k)) (intV ((b :: k).length : Nat)) := by unfold aggV; rw [h]; exact if_pos rfl
theorem res_aggOf1 {kk : SK} (l : List Val) (hl : l.length < 1000000000) : res Γ 132 [.int .i64 1, .sl kk 2 (vpv l)] = some [.agg [.bool (aggV 1 l).1, .int .i64 (aggV 1 l).2]] := by
  have hk := knL_len l
  refine res_code (fn := agg_Of) rfl rfl ?_
  simp (disch := first | assumption | omega | decide | (simp only [lens] <;> omega) | fail) only [go_sem, agg_Of]
  cases h : knL l with
  | nil =>
    simp (disch := first | assumption | omega | decide | (simp only [lens] <;> omega) | fail) only [go_sem, agg2_nil h]
  | cons b k =>
    have e := agg1_cons h
    rw [h] at hk
    have ei := res_fixedInt (n := ((b :: k).length : Nat)) (by simp only [List.length_cons] at hk ⊢; omega)
    have ed := res_fixedDivV (addV (b :: k)) (intV ((b :: k).length : Nat))
    simp only [List.length_cons] at hk e ei ed
    simp (disch := first | assumption | omega | decide | (simp only [lens] <;> omega) | fail) only [go_sem, e, valP, ei, ed]
theorem res_r6Of1 {kk : SK} (l : List Val) (hl : l.length < 1000000000) : res Γ 122 [.int .i64 1, .sl kk 2 (vpv l)] = some [.agg [.bool (aggV 1 l).1, .int .i64 (aggV 1 l).2]] := by
  have hk := knL_len l
  refine res_code (fn := r6_Of) rfl rfl ?_
  simp (disch := first | assumption | omega | decide | (simp only [lens] <;> omega) | fail) only [go_sem, r6_Of]
  cases h : knL l with
  | nil =>
    simp (disch := first | assumption | omega | decide | (simp only [lens] <;> omega) | fail) only [go_sem, agg2_nil h]
  | cons b k =>
    have e := agg1_cons h
    rw [h] at hk
    have ei := res_r1Int (n := ((b :: k).length : Nat)) (by simp only [List.length_cons] at hk ⊢; omega)
    have ed := res_r1DivV (addV (b :: k)) (intV ((b :: k).length : Nat))
    simp only [List.length_cons] at hk e ei ed
    simp (disch := first | assumption | omega | decide | (simp only [lens] <;> omega) | fail) only [go_sem, valP]
    refine r6_Of_l1_ok 1 b k (by omega) _ _ k.length 0 (by omega) ?_
    simp (disch := first | assumption | omega | decide | (simp only [lens] <;> omega) | fail) only [go_sem, e, ei, ed]
end Ab
namespace Ab
open Go (IntKind BinOp UnOp)
def medV (l : List Val) : Val :=
  let o := sortI (nums l)
  if o.length = 0 then noV else if o.length % 2 = 1 then (true, o.getD (o.length / 2) 0)
  else divV (addV [(true, o.getD (o.length / 2 - 1) 0), (true, o.getD (o.length / 2) 0)]) (intV 2)
end Ab
namespace Ab
open Go (IntKind BinOp UnOp)
def rankV (p : Val) (l : List Val) : Val :=
  let o := sortI (nums l)
  if p.1 = true ∧ 0 ≤ p.2 ∧ p.2 ≤ 100000000 ∧ o.length ≠ 0 then (true, o.getD (max 1 ((p.2 * o.length + 100000000 - 1) / 100000000) - 1).toNat 0) else noV
end Ab
namespace Ab
open Go (IntKind BinOp UnOp)
def subV (a b : Val) : Val := if knV b = true then sumV a (ofV (0 - b.2)) else noV
def sqr (N : Nat) : Nat → Nat → Nat
  | 0, n => n
  | k + 1, n => sqr N k (if (n + 2 ^ k) * (n + 2 ^ k) ≤ N then n + 2 ^ k else n)
def sqrtV (a : Val) : Val := if knV a = true ∧ 0 ≤ a.2 then ofV (sqr (a.2.toNat * 1000000) 42 0 : Nat) else noV
end Ab
namespace Ab
open Go (IntKind BinOp UnOp)
def sqV (m v : Val) : Val := mulV (subV v m) (subV v m)
def devV (l : List Val) : Val :=
  let k := knL l
  let m := aggV 1 k
  if (k.map (sqV m)).all (·.1) = true then sqrtV (aggV 1 (k.map (sqV m))) else noV
end Ab
namespace Ab
def lessL (k : List Val) : Val := match k with | [] => noV | v :: r => r.foldl subV v
def timesL (k : List Val) : Val := match k with | [] => noV | _ => k.foldl mulV (intV 1)
def jSum : List UInt8 := [115, 117, 109, 83, 101, 114, 105, 101, 115]
def jAvg : List UInt8 := [97, 118, 101, 114, 97, 103, 101, 83, 101, 114, 105, 101, 115]
def jMin : List UInt8 := [109, 105, 110, 83, 101, 114, 105, 101, 115]
def jMax : List UInt8 := [109, 97, 120, 83, 101, 114, 105, 101, 115]
def jMed : List UInt8 := [109, 101, 100, 105, 97, 110, 83, 101, 114, 105, 101, 115]
def jDev : List UInt8 := [115, 116, 100, 100, 101, 118, 83, 101, 114, 105, 101, 115]
def jRng : List UInt8 := [114, 97, 110, 103, 101, 79, 102, 83, 101, 114, 105, 101, 115]
def jMul : List UInt8 := [109, 117, 108, 116, 105, 112, 108, 121, 83, 101, 114, 105, 101, 115]
def jCnt : List UInt8 := [99, 111, 117, 110, 116, 83, 101, 114, 105, 101, 115]
def jDif : List UInt8 := [100, 105, 102, 102, 83, 101, 114, 105, 101, 115]
def jPer : List UInt8 := [112, 101, 114, 99, 101, 110, 116, 105, 108, 101, 79, 102, 83, 101, 114, 105, 101, 115]
def jAgg : List UInt8 := [97, 103, 103, 114, 101, 103, 97, 116, 101]
def placeV (nm : List UInt8) (p : Val) (kind : Int) (k : List Val) : Val :=
  if nm = jSum then aggV 2 k else if nm = jAvg then aggV 1 k else if nm = jMin then aggV 5 k else if nm = jMax then aggV 4 k else if nm = jMed then medV k
  else if nm = jDev then devV k else if nm = jRng then subV (aggV 4 k) (aggV 5 k) else if nm = jMul then timesL k else if nm = jCnt then intV k.length
  else if nm = jDif then lessL k else if nm = jPer then rankV p k else if nm = jAgg then aggV kind k else noV
def atV (l : List (SK × Ser)) (i : Nat) : List Val := l.map fun x => x.2.vals.getD i (false, 0)
def colsV (nm : List UInt8) (p : Val) (kind : Int) (l : List (SK × Ser)) (n : Nat) : List Val := (List.range n).map fun i => placeV nm p kind (knL (atV l i))
theorem colsV_len {nm p kind l n} : (colsV nm p kind l n).length = n := by simp [colsV]
end Ab
namespace Ab
open Go (IntKind BinOp UnOp)
theorem agg3_cons {l : List Val} {b : Val} {k : List Val} (h : knL l = b :: k) : aggV 3 l = (b :: k).getD k.length (false, 0) := by
  unfold aggV; rw [h]
  show (b :: k).getLastD noV = _
  rw [List.getLastD_eq_getLast?, List.getLast?_eq_getElem?, List.getD_eq_getElem?_getD]
  rfl
theorem aggNo {kind : Int} {l : List Val} (h : ¬ (1 ≤ kind ∧ kind ≤ 5)) : aggV kind l = (false, 0) := by
  unfold aggV
  cases knL l with
  | nil => rfl
  | cons b k =>
    show (if kind = 1 then _ else if kind = 2 then _ else if kind = 3 then _ else if kind = 4 then _ else if kind = 5 then _ else noV) = _
    rw [if_neg (by omega), if_neg (by omega), if_neg (by omega), if_neg (by omega), if_neg (by omega)]; rfl
theorem res_aggOf3 {kk : SK} (l : List Val) (hl : l.length < 1000000000) : res Γ 132 [.int .i64 3, .sl kk 2 (vpv l)] = some [.agg [.bool (aggV 3 l).1, .int .i64 (aggV 3 l).2]] := by
  have hk := knL_len l
  refine res_code (fn := agg_Of) rfl rfl ?_
  simp (disch := first | assumption | omega | decide | (simp only [lens] <;> omega) | fail) only [go_sem, agg_Of]
  cases h : knL l with
  | nil =>
    simp (disch := first | assumption | omega | decide | (simp only [lens] <;> omega) | fail) only [go_sem, agg2_nil h]
  | cons b k =>
    have e := agg3_cons h
    have e2 : ((k.length + 1 : Nat) : Int) - 1 = (k.length : Int) := by omega
    rw [h] at hk
    simp only [List.length_cons] at hk
    simp (disch := first | assumption | omega | decide | (simp only [lens] <;> omega) | fail) only [go_sem, e, e2, valP]
theorem res_aggOfNo {kk : SK} (kind : Int) (hn : ¬ (1 ≤ kind ∧ kind ≤ 5)) (l : List Val) (hl : l.length < 1000000000) : res Γ 132 [.int .i64 kind, .sl kk 2 (vpv l)] = some [.agg [.bool (aggV kind l).1, .int .i64 (aggV kind l).2]] := by
  have hk := knL_len l
  have e := aggNo (l := l) hn
  have h1 : ¬ kind = 1 := by omega
  have h2 : ¬ kind = 2 := by omega
  have h3 : ¬ kind = 3 := by omega
  have h4 : ¬ kind = 4 := by omega
  have h5 : ¬ kind = 5 := by omega
  refine res_code (fn := agg_Of) rfl rfl ?_
  simp (disch := first | assumption | omega | decide | (simp only [lens] <;> omega) | fail) only [go_sem, agg_Of]
  cases h : knL l with
  | nil =>
    simp (disch := first | assumption | omega | decide | (simp only [lens] <;> omega) | fail) only [go_sem, e]
  | cons b k =>
    rw [h] at hk
    simp only [List.length_cons] at hk
    simp (disch := first | assumption | omega | decide | (simp only [lens] <;> omega) | fail) only [go_sem, e, valP]
theorem res_aggOfK {kk : SK} (kind : Int) (l : List Val) (hl : l.length < 1000000000) : res Γ 132 [.int .i64 kind, .sl kk 2 (vpv l)] = some [.agg [.bool (aggV kind l).1, .int .i64 (aggV kind l).2]] := by
  by_cases h : 1 ≤ kind ∧ kind ≤ 5
  · have : kind = 1 ∨ kind = 2 ∨ kind = 3 ∨ kind = 4 ∨ kind = 5 := by omega
    rcases this with rfl | rfl | rfl | rfl | rfl
    · exact res_aggOf1 l hl
    · exact res_aggOf2 l hl
    · exact res_aggOf3 l hl
    · exact res_aggOf4 l hl
    · exact res_aggOf5 l hl
  · exact res_aggOfNo kind h l hl
theorem res_r6Of3 {kk : SK} (l : List Val) (hl : l.length < 1000000000) : res Γ 122 [.int .i64 3, .sl kk 2 (vpv l)] = some [.agg [.bool (aggV 3 l).1, .int .i64 (aggV 3 l).2]] := by
  have hk := knL_len l
  refine res_code (fn := r6_Of) rfl rfl ?_
  simp (disch := first | assumption | omega | decide | (simp only [lens] <;> omega) | fail) only [go_sem, r6_Of]
  cases h : knL l with
  | nil =>
    simp (disch := first | assumption | omega | decide | (simp only [lens] <;> omega) | fail) only [go_sem, agg2_nil h]
  | cons b k =>
    have e := agg3_cons h
    have e2 : ((k.length + 1 : Nat) : Int) - 1 = (k.length : Int) := by omega
    rw [h] at hk
    simp only [List.length_cons] at hk
    simp (disch := first | assumption | omega | decide | (simp only [lens] <;> omega) | fail) only [go_sem, valP]
    refine r6_Of_l1_ok 3 b k (by omega) _ _ k.length 0 (by omega) ?_
    simp (disch := first | assumption | omega | decide | (simp only [lens] <;> omega) | fail) only [go_sem, e, e2, valP]
theorem res_r6OfNo {kk : SK} (kind : Int) (hn : ¬ (1 ≤ kind ∧ kind ≤ 5)) (l : List Val) (hl : l.length < 1000000000) : res Γ 122 [.int .i64 kind, .sl kk 2 (vpv l)] = some [.agg [.bool (aggV kind l).1, .int .i64 (aggV kind l).2]] := by
  have hk := knL_len l
  have e := aggNo (l := l) hn
  refine res_code (fn := r6_Of) rfl rfl ?_
  simp (disch := first | assumption | omega | decide | (simp only [lens] <;> omega) | fail) only [go_sem, r6_Of]
  by_cases h0 : (knL l).length = 0
  · simp (disch := first | assumption | omega | decide | (simp only [lens] <;> omega) | fail) only [go_sem, e]
  · by_cases h1 : kind < 1
    · simp (disch := first | assumption | omega | decide | (simp only [lens] <;> omega) | fail) only [go_sem, e]
    · simp (disch := first | assumption | omega | decide | (simp only [lens] <;> omega) | fail) only [go_sem, e]
theorem res_r6OfK {kk : SK} (kind : Int) (l : List Val) (hl : l.length < 1000000000) : res Γ 122 [.int .i64 kind, .sl kk 2 (vpv l)] = some [.agg [.bool (aggV kind l).1, .int .i64 (aggV kind l).2]] := by
  by_cases h : 1 ≤ kind ∧ kind ≤ 5
  · have : kind = 1 ∨ kind = 2 ∨ kind = 3 ∨ kind = 4 ∨ kind = 5 := by omega
    rcases this with rfl | rfl | rfl | rfl | rfl
    · exact res_r6Of1 l hl
    · exact res_r6Of 2 (by omega) l hl
    · exact res_r6Of3 l hl
    · exact res_r6Of 4 (by omega) l hl
    · exact res_r6Of 5 (by omega) l hl
  · exact res_r6OfNo kind h l hl
end Ab
namespace Ab
open Go (IntKind BinOp UnOp)
abbrev placeP (kk : SK) (k : List Val) (p : Val) (kind : Int) : PV := .agg [.sl kk 2 (vpv k), .bool p.1, .int .i64 p.2, .int .i64 kind]
theorem res_placeOf {kk : SK} (k : List Val) (p : Val) (kind a : Int) (hk : k.length < 1000000000) : res Γ 267 [placeP kk k p kind, .int .i64 a] = some [.agg [.bool (aggV a k).1, .int .i64 (aggV a k).2]] := by
  have e := res_aggOfK (kk := kk) a k hk
  refine res_code (fn := fjoin_place_of) rfl rfl ?_
  simp (disch := first | assumption | omega | decide | (simp only [lens] <;> omega) | fail) only [go_sem, fjoin_place_of, e]
theorem res_cl_agg {kk : SK} (k : List Val) (p : Val) (kind : Int) (hk : k.length < 100000000) : res Γ 253 [placeP kk k p kind] = some [.agg [.bool (aggV kind k).1, .int .i64 (aggV kind k).2]] := by
  have e := res_placeOf (kk := kk) k p kind kind (by omega)
  refine res_code (fn := fjoin_does_10) rfl rfl ?_
  simp (disch := first | assumption | omega | decide | (simp only [lens] <;> omega) | fail) only [go_sem, fjoin_does_10, e]
theorem res_doesJ_agg : res Γ 230 [.str jAgg] = some [.clo 253 []] := by
  refine res_code (fn := fjoin_does) rfl rfl ?_
  simp (disch := first | assumption | omega | decide | (simp only [lens] <;> omega) | fail) only [go_sem, fjoin_does, jAgg]
end Ab
namespace Ab
open Go (IntKind BinOp UnOp)
theorem mulb {i : Nat} {step : Int} (h : i ≤ 131072) (h1 : 0 ≤ step) (h2 : step ≤ 1099511627776) : 0 ≤ (i : Int) * step ∧ (i : Int) * step ≤ 144115188075855872 := by
  refine ⟨Int.mul_nonneg (by omega) h1, ?_⟩
  calc (i : Int) * step ≤ 131072 * 1099511627776 := Int.mul_le_mul (by omega) h2 h1 (by omega)
    _ = 144115188075855872 := by decide
theorem res_within1 {kk : SK} (s : Ser) (hz : sizeS s) (t : Int) (ht : -1000000000000000000 ≤ t ∧ t ≤ 1000000000000000000) :
    res Γ 170 [.int .i64 t, .ptr [.str s.name, .int .i64 s.start, .int .i64 s.step, .sl kk 2 (vpv s.vals), .int .i64 s.cons]] = some [.int .i64 (plcS s t : Nat)] := by
  obtain ⟨_, _, _, _, _, _, _, _⟩ := hz
  refine res_code (fn := series_within_1) rfl rfl ?_
  by_cases h : t ≤ s.start
  · have e : plcS s t = 0 := by unfold plcS; rw [if_pos h]
    simp (disch := first | assumption | omega | decide | (simp only [lens] <;> omega) | fail) only [go_sem, series_within_1, e]
    rfl
  · have h0 : 0 ≤ (t - s.start - 1) / s.step := Int.ediv_nonneg (by omega) (by omega)
    have h1 : (t - s.start - 1) / s.step ≤ t - s.start - 1 := Int.ediv_le_self _ (by omega)
    have m0 := map_quo (k := .i64) (a := t - s.start - 1) (b := s.step) (by omega) (by omega) (wrap_i64 (by omega) (by omega))
    have e : ((plcS s t : Nat) : Int) = min (s.vals.length : Int) ((t - s.start - 1) / s.step + 1) := by unfold plcS; rw [if_neg h]; omega
    simp (disch := first | assumption | omega | decide | (simp only [lens] <;> omega) | fail) only [go_sem, series_within_1, m0, e]
theorem res_within {kk : SK} (s : Ser) (hz : sizeS s) (t u : Int) (ht : -1000000000000000000 ≤ t ∧ t ≤ u ∧ u ≤ 1000000000000000000) :
    res Γ 166 [s.pv kk, .int .i64 t, .int .i64 u] = some [.sl kk.cut 2 (vpv (withinV s t u))] := by
  have e1 := res_within1 (kk := kk) s hz t (by omega)
  have e2 := res_within1 (kk := kk) s hz u (by omega)
  have g := plcS_mono (s := s) (by have := hz; unfold sizeS at this; omega) (show t ≤ u by omega)
  have g2 := plcS_le s u
  have hw : (vpv s.vals).length = s.vals.length := vpv_len
  unfold Ser.pv
  refine res_code (fn := series_within) rfl rfl ?_
  simp (disch := first | assumption | omega | decide | (simp only [lens] <;> omega) | fail) only [go_sem, series_within, e1, e2, withinV]
theorem res_seriesCons {kk : SK} (s : Ser) (hs : isS s = true) (hl : s.vals.length ≤ 9223372036854775807) : res Γ 165 [s.pv kk] = some [.int .i64 (consV s)] := by
  have e := res_seriesIs (kk := kk) s hl
  unfold Ser.pv at e ⊢
  refine res_code (fn := series_Cons) rfl rfl ?_
  by_cases h : s.cons = 0
  · simp (disch := first | assumption | omega | decide | (simp only [lens] <;> omega) | fail) only [go_sem, series_Cons, consV]
    rw [if_pos h]
  · simp (disch := first | assumption | omega | decide | (simp only [lens] <;> omega) | fail) only [go_sem, series_Cons, e, hs, consV]
    rw [if_neg h]
theorem res_r18Cons {kk : SK} (s : Ser) (hs : isS s = true) (hl : s.vals.length ≤ 9223372036854775807) : res Γ 169 [s.pv kk] = some [.int .i64 (consV s)] := by
  have e := res_r18Is (kk := kk) s hl
  unfold Ser.pv at e ⊢
  refine res_code (fn := r18_Cons) rfl rfl ?_
  by_cases h : s.cons = 0
  · simp (disch := first | assumption | omega | decide | (simp only [lens] <;> omega) | fail) only [go_sem, r18_Cons, consV]
    rw [if_pos h]
  · simp (disch := first | assumption | omega | decide | (simp only [lens] <;> omega) | fail) only [go_sem, r18_Cons, e, hs, consV]
    rw [if_neg h]
theorem isS_size {s : Ser} (h : isS s = true) : sizeS s := by
  unfold isS at h
  simp only [Bool.and_eq_true, decide_eq_true_eq] at h
  exact h.1
theorem withinV_len {s : Ser} {t u : Int} (h : s.vals.length ≤ 131072) : (withinV s t u).length ≤ 131072 := by
  unfold withinV
  rw [List.length_drop, List.length_take]; omega
theorem sFit_l1_ok {kk : SK} (s : Ser) (hs : isS s = true) (start step : Int) (h0 : 0 ≤ start) (h1 : start ≤ 4294967295) (g0 : 1 ≤ step) (g1 : step ≤ 1099511627776) (n : Nat) (hn : n ≤ 131072) (B1 : Blk) (Q : Out → Prop) : ∀ (k i : Nat), i + 1 + k = n →
    (Q (.nrm, [(8, .bx 1 0), (9, .bx 2 0)], [.box [.p (.str s.name), .p (.int .i64 s.start), .p (.int .i64 s.step), .p (.sl kk 2 (vpv s.vals)), .p (.int .i64 s.cons)], B1, .box [.p (.str s.name), .p (.int .i64 start), .p (.int .i64 step), .own 3 n, .p (.int .i64 s.cons)], .row false 2 (vpv (fitV s start step n))])) →
    Wp Γ series_Fit_l1 [(1, .p (.int .i64 start)), (2, .p (.int .i64 step)), (4, .bx 0 0), (8, .bx 1 0), (9, .bx 2 0), (48, .p (.int .i64 (n : Int))), (49, .p (.int .i64 ((i + 1 : Nat) : Int)))]
      [.box [.p (.str s.name), .p (.int .i64 s.start), .p (.int .i64 s.step), .p (.sl kk 2 (vpv s.vals)), .p (.int .i64 s.cons)], B1, .box [.p (.str s.name), .p (.int .i64 start), .p (.int .i64 step), .own 3 (i + 1), .p (.int .i64 s.cons)], .row false 2 (vpv (fitV s start step (i + 1)))] (InBlk [8, 9] 0 Q) := by
  have hz := isS_size hs
  have hv : s.vals.length ≤ 131072 := by unfold sizeS at hz; omega
  intro k
  induction k with
  | zero =>
    intro i hi hQ
    have hi : i + 1 = n := by omega
    rw [hi]
    rw [W_loop (L := series_Fit_l1) rfl]
    simp (disch := first | assumption | omega | decide | (simp only [lens] <;> omega) | fail) only [go_sem]
    exact hQ
  | succ k ih =>
    intro i hi hQ
    have g := @fitV_len s start step (i + 1)
    have e := @fitV_succ s start step (i + 1)
    obtain ⟨b0, b1⟩ := mulb (i := i + 1) (step := step) (by omega) (by omega) g1
    have a := res_within (kk := kk) s hz (start + ((i + 1 : Nat) : Int) * step) (start + ((i + 1 : Nat) : Int) * step + step) (by omega)
    have hw := withinV_len (s := s) (t := start + ((i + 1 : Nat) : Int) * step) (u := start + ((i + 1 : Nat) : Int) * step + step) hv
    have c := res_aggOfK (kk := kk.cut) (consV s) (withinV s (start + ((i + 1 : Nat) : Int) * step) (start + ((i + 1 : Nat) : Int) * step + step)) (by omega)
    have d := res_seriesCons (kk := kk) s hs (by omega)
    unfold Ser.pv at a d
    rw [W_loop (L := series_Fit_l1) rfl]
    simp (disch := first | assumption | omega | decide | (simp only [lens] <;> omega) | fail) only [go_sem, a, c, d]
    rw [← e]
    exact ih (i + 1) (by omega) hQ
theorem sFit_l1_first {kk : SK} (s : Ser) (hs : isS s = true) (start step : Int) (h0 : 0 ≤ start) (h1 : start ≤ 4294967295) (g0 : 1 ≤ step) (g1 : step ≤ 1099511627776) (n : Nat) (hn : n ≤ 131072) (hpos : 0 < n) (B1 : Blk) (Q : Out → Prop) :
    (Q (.nrm, [(8, .bx 1 0), (9, .bx 2 0)], [.box [.p (.str s.name), .p (.int .i64 s.start), .p (.int .i64 s.step), .p (.sl kk 2 (vpv s.vals)), .p (.int .i64 s.cons)], B1, .box [.p (.str s.name), .p (.int .i64 start), .p (.int .i64 step), .own 3 n, .p (.int .i64 s.cons)], .row false 2 (vpv (fitV s start step n))])) →
    Wp Γ series_Fit_l1 [(1, .p (.int .i64 start)), (2, .p (.int .i64 step)), (4, .bx 0 0), (8, .bx 1 0), (9, .bx 2 0), (48, .p (.int .i64 (n : Int))), (49, .p (.int .i64 0))]
      [.box [.p (.str s.name), .p (.int .i64 s.start), .p (.int .i64 s.step), .p (.sl kk 2 (vpv s.vals)), .p (.int .i64 s.cons)], B1, .box [.p (.str s.name), .p (.int .i64 start), .p (.int .i64 step), .p (.sl .nil 2 []), .p (.int .i64 s.cons)]] (InBlk [8, 9] 0 Q) := by
  have hz := isS_size hs
  have hv : s.vals.length ≤ 131072 := by unfold sizeS at hz; omega
  intro hQ
  have e := @fitV_succ s start step 0
  rw [show ((0 : Nat) : Int) = 0 from rfl, Int.zero_mul, Int.add_zero] at e
  have a := res_within (kk := kk) s hz start (start + step) (by omega)
  have hw := withinV_len (s := s) (t := start) (u := start + step) hv
  have c := res_aggOfK (kk := kk.cut) (consV s) (withinV s start (start + step)) (by omega)
  have d := res_seriesCons (kk := kk) s hs (by omega)
  unfold Ser.pv at a d
  rw [W_loop (L := series_Fit_l1) rfl]
  simp (disch := first | assumption | omega | decide | (simp only [lens] <;> omega) | fail) only [go_sem, a, c, d, Int.zero_mul]
  have h := sFit_l1_ok (kk := kk) s hs start step h0 h1 g0 g1 n hn B1 Q (n - 1) 0 (by omega) hQ
  rw [e] at h
  exact h
def fitK (n : Nat) : SK := if n = 0 then .nil else .any
theorem res_seriesFit {kk : SK} (s : Ser) (hs : isS s = true) (start step : Int) (h0 : 0 ≤ start) (h1 : start ≤ 4294967295) (g0 : 1 ≤ step) (g1 : step ≤ 1099511627776) (n : Nat) (hn : n ≤ 131072) :
    res Γ 158 [s.pv kk, .int .i64 start, .int .i64 step, .int .i64 (n : Int)] = some [(fitS s start step n).pv (fitK n)] := by
  have hz := isS_size hs
  have hv : s.vals.length ≤ 131072 := by unfold sizeS at hz; omega
  have e := res_seriesIs (kk := kk) s (by omega)
  unfold Ser.pv at e ⊢
  refine res_code (fn := series_Fit) rfl rfl ?_
  simp (disch := first | assumption | omega | decide | (simp only [lens] <;> omega) | fail) only [go_sem, series_Fit, e, hs]
  by_cases hne : n = 0
  · subst hne
    rw [W_loop (L := series_Fit_l1) rfl]
    simp (disch := first | assumption | omega | decide | (simp only [lens] <;> omega) | fail) only [go_sem, fitS, fitK]
    rfl
  · refine sFit_l1_first s hs start step h0 h1 g0 g1 n hn (by omega) _ _ ?_
    have hw : (vpv (fitV s start step n)).length = n := by rw [vpv_len, fitV_len]
    simp (disch := first | assumption | omega | decide | (simp only [lens] <;> omega) | fail) only [go_sem, fitS, fitK]
    rw [if_neg hne]
end Ab
