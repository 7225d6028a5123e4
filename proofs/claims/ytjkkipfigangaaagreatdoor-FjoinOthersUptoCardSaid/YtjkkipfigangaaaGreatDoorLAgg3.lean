import Derived.Test.YtjkkipfigangaaaGreatDoorLRank
import Derived.Test.YtjkkipfigangaaaGreatDoorLAgg
namespace Ab
open Go (IntKind BinOp UnOp)
def subV (a b : Val) : Val := if knV b = true then sumV a (ofV (0 - b.2)) else noV
theorem subV_no2 {a b : Val} (h : knV b = false) : subV a b = (false, 0) := by unfold subV; rw [if_neg (by rw [h]; simp)]; rfl
theorem subV_no1 {a b : Val} (h : knV a = false) : subV a b = (false, 0) := by
  unfold subV
  split
  · exact sumV_no1 h
  · rfl
theorem subV_yes {a b : Val} (h : knV b = true) : subV a b = sumV a (ofV (0 - b.2)) := by unfold subV; rw [if_pos h]
theorem res_fixedSub (b : Bool) (n : Int) (c : Bool) (m : Int) : res Γ 176 [.agg [.bool b, .int .i64 n], .agg [.bool c, .int .i64 m]] = some [.agg [.bool (subV (b, n) (c, m)).1, .int .i64 (subV (b, n) (c, m)).2]] := by
  refine res_code (fn := fixed_Sub) rfl rfl ?_
  cases h : knV (c, m)
  · simp (disch := first | assumption | omega | decide | (simp only [lens] <;> omega) | fail) only [go_sem, fixed_Sub, h, subV_no2 h]
  · obtain ⟨_, g1, g2⟩ := knV_pair h
    have e := subV_yes (a := (b, n)) h
    simp (disch := first | assumption | omega | decide | (simp only [lens] <;> omega) | fail) only [go_sem, fixed_Sub, h, e]
theorem res_r1Sub (b : Bool) (n : Int) (c : Bool) (m : Int) : res Γ 180 [.agg [.bool b, .int .i64 n], .agg [.bool c, .int .i64 m]] = some [.agg [.bool (subV (b, n) (c, m)).1, .int .i64 (subV (b, n) (c, m)).2]] := by
  refine res_code (fn := r1_Sub) rfl rfl ?_
  cases h : knV (c, m)
  · simp (disch := first | assumption | omega | decide | (simp only [lens] <;> omega) | fail) only [go_sem, r1_Sub, h, subV_no2 h, Bool.and_false]
  · cases h' : knV (b, n)
    · simp (disch := first | assumption | omega | decide | (simp only [lens] <;> omega) | fail) only [go_sem, r1_Sub, h, h', subV_no1 h', Bool.false_and]
    · obtain ⟨_, g1, g2⟩ := knV_pair h
      have e := subV_yes (a := (b, n)) h
      simp (disch := first | assumption | omega | decide | (simp only [lens] <;> omega) | fail) only [go_sem, r1_Sub, h, h', e, Bool.and_true]
theorem res_fixedSubV (x y : Val) : res Γ 176 [.agg [.bool x.1, .int .i64 x.2], .agg [.bool y.1, .int .i64 y.2]] = some [.agg [.bool (subV x y).1, .int .i64 (subV x y).2]] := by
  obtain ⟨b, n⟩ := x; obtain ⟨c, m⟩ := y; exact res_fixedSub b n c m
theorem res_r1SubV (x y : Val) : res Γ 180 [.agg [.bool x.1, .int .i64 x.2], .agg [.bool y.1, .int .i64 y.2]] = some [.agg [.bool (subV x y).1, .int .i64 (subV x y).2]] := by
  obtain ⟨b, n⟩ := x; obtain ⟨c, m⟩ := y; exact res_r1Sub b n c m
theorem mulV_no1 {a b : Val} (h : knV a = false) : mulV a b = (false, 0) := by unfold mulV; rw [if_neg (by rw [h]; simp)]; rfl
theorem mulV_no2 {a b : Val} (h : knV b = false) : mulV a b = (false, 0) := by unfold mulV; rw [if_neg (by rw [h]; simp)]; rfl
theorem mulV_yes {a b : Val} (h : knV a = true) (h' : knV b = true) : mulV a b = valV (mdV a.2 b.2 1000000) := by unfold mulV; rw [if_pos ⟨h, h'⟩]
theorem res_fixedMul (b : Bool) (n : Int) (c : Bool) (m : Int) : res Γ 175 [.agg [.bool b, .int .i64 n], .agg [.bool c, .int .i64 m]] = some [.agg [.bool (mulV (b, n) (c, m)).1, .int .i64 (mulV (b, n) (c, m)).2]] := by
  refine res_code (fn := fixed_Mul) rfl rfl ?_
  cases h : knV (b, n)
  · simp (disch := first | assumption | omega | decide | (simp only [lens] <;> omega) | fail) only [go_sem, fixed_Mul, h, mulV_no1 h]
  · cases h' : knV (c, m)
    · simp (disch := first | assumption | omega | decide | (simp only [lens] <;> omega) | fail) only [go_sem, fixed_Mul, h, h', mulV_no2 h']
    · obtain ⟨_, g1, g2⟩ := knV_pair h
      obtain ⟨_, g3, g4⟩ := knV_pair h'
      have e := res_fixedMulDiv (a := n) (b := m) (c := 1000000) (by omega) (by omega) (by decide)
      rw [mulV_yes h h']
      cases hm : mdV n m 1000000 with
      | none =>
        rw [hm] at e
        simp only [mdR] at e
        simp (disch := first | assumption | omega | decide | (simp only [lens] <;> omega) | fail) only [go_sem, fixed_Mul, h, h', e, res_valNo, valV, noV]
      | some q =>
        rw [hm] at e
        simp only [mdR] at e
        simp (disch := first | assumption | omega | decide | (simp only [lens] <;> omega) | fail) only [go_sem, fixed_Mul, h, h', e, res_valYes, valV]
theorem res_r1Mul (b : Bool) (n : Int) (c : Bool) (m : Int) : res Γ 179 [.agg [.bool b, .int .i64 n], .agg [.bool c, .int .i64 m]] = some [.agg [.bool (mulV (b, n) (c, m)).1, .int .i64 (mulV (b, n) (c, m)).2]] := by
  refine res_code (fn := r1_Mul) rfl rfl ?_
  cases h : knV (b, n)
  · simp (disch := first | assumption | omega | decide | (simp only [lens] <;> omega) | fail) only [go_sem, r1_Mul, h, mulV_no1 h, Bool.false_and]
  · cases h' : knV (c, m)
    · simp (disch := first | assumption | omega | decide | (simp only [lens] <;> omega) | fail) only [go_sem, r1_Mul, h, h', mulV_no2 h', Bool.and_false]
    · obtain ⟨_, g1, g2⟩ := knV_pair h
      obtain ⟨_, g3, g4⟩ := knV_pair h'
      have e := res_r1MulDiv (a := n) (b := m) (c := 1000000) (by omega) (by omega) (by decide)
      rw [mulV_yes h h']
      cases hm : mdV n m 1000000 with
      | none =>
        rw [hm] at e
        simp only [mdR] at e
        simp (disch := first | assumption | omega | decide | (simp only [lens] <;> omega) | fail) only [go_sem, r1_Mul, h, h', e, valV, noV, Bool.and_true]
      | some q =>
        rw [hm] at e
        simp only [mdR] at e
        simp (disch := first | assumption | omega | decide | (simp only [lens] <;> omega) | fail) only [go_sem, r1_Mul, h, h', e, valV, Bool.and_true]
theorem res_fixedMulV (x y : Val) : res Γ 175 [.agg [.bool x.1, .int .i64 x.2], .agg [.bool y.1, .int .i64 y.2]] = some [.agg [.bool (mulV x y).1, .int .i64 (mulV x y).2]] := by
  obtain ⟨b, n⟩ := x; obtain ⟨c, m⟩ := y; exact res_fixedMul b n c m
theorem res_r1MulV (x y : Val) : res Γ 179 [.agg [.bool x.1, .int .i64 x.2], .agg [.bool y.1, .int .i64 y.2]] = some [.agg [.bool (mulV x y).1, .int .i64 (mulV x y).2]] := by
  obtain ⟨b, n⟩ := x; obtain ⟨c, m⟩ := y; exact res_r1Mul b n c m
def sqr (N : Nat) : Nat → Nat → Nat
  | 0, n => n
  | k + 1, n => sqr N k (if (n + 2 ^ k) * (n + 2 ^ k) ≤ N then n + 2 ^ k else n)
def sqrtV (a : Val) : Val := if knV a = true ∧ 0 ≤ a.2 then ofV (sqr (a.2.toNat * 1000000) 42 0 : Nat) else noV
theorem sqr_lt (N : Nat) : ∀ (k n m : Nat), n = 2 ^ k * m → n + 2 ^ k ≤ 8796093022208 → sqr N k n < 8796093022208
  | 0, n, m, _, h => by simp only [sqr]; omega
  | k + 1, n, m, hn, h => by
    have e2 : 2 ^ (k + 1) = 2 ^ k + 2 ^ k := by rw [Nat.pow_succ]; omega
    have hm : n = 2 ^ k * (2 * m) := by rw [hn, Nat.pow_succ, Nat.mul_assoc]
    have hpos : 0 < 2 ^ k := Nat.pow_pos (by decide)
    unfold sqr
    split
    · exact sqr_lt N k _ (2 * m + 1) (by rw [hm, Nat.mul_add, Nat.mul_one]) (by omega)
    · exact sqr_lt N k _ (2 * m) hm (by omega)
theorem lex_le {x N : Nat} : (x * x / 18446744073709551616 < N / 18446744073709551616 ∨ (x * x / 18446744073709551616 = N / 18446744073709551616 ∧ x * x % 18446744073709551616 ≤ N % 18446744073709551616)) ↔ x * x ≤ N := by omega
theorem fSqrt_l1_ok {A B : Blk} {N : Nat} (Q : Out → Prop) : ∀ (k n m : Nat), k ≤ 43 → n = 2 ^ k * m → n + 2 ^ k ≤ 8796093022208 →
    Q (.nrm, [(2, .bx 1 0), (5, .p (.int .u64 (sqr N k n : Nat)))], [A, B]) →
    Wp Γ fixed_Sqrt_l1 [(2, .bx 1 0), (3, .p (.int .u64 ((N / 18446744073709551616 : Nat) : Int))), (4, .p (.int .u64 ((N % 18446744073709551616 : Nat) : Int))), (5, .p (.int .u64 (n : Int))), (6, .p (.int .u64 ((2 ^ k / 2 : Nat) : Int)))] [A, B] (InBlk [2, 5] 0 Q) := by
  intro k
  induction k with
  | zero =>
    intro n m hk hn hb hQ
    rw [W_loop (L := fixed_Sqrt_l1) rfl]
    simp (disch := first | assumption | omega | decide | (simp only [lens] <;> omega) | fail) only [go_sem]
    exact hQ
  | succ k ih =>
    intro n m hk hn hb hQ
    have e2 : 2 ^ (k + 1) = 2 ^ k + 2 ^ k := by rw [Nat.pow_succ]; omega
    have e3 : 2 ^ (k + 1) / 2 = 2 ^ k := by omega
    have hpos : 0 < 2 ^ k := Nat.pow_pos (by decide)
    have hm : n = 2 ^ k * (2 * m) := by rw [hn, Nat.pow_succ, Nat.mul_assoc]
    have eor : n ||| 2 ^ k = n + 2 ^ k := by
      rw [hn]; exact (Nat.two_pow_add_eq_or_of_lt (by omega) m).symm
    have or1 := map_orN (H := n) (L := 2 ^ k) (by omega) eor
    have mm := res_Mul64N (A := n + 2 ^ k) (B := n + 2 ^ k) (by omega) (by omega)
    have esh : ((2 ^ k : Nat) : Int) / 2 = ((2 ^ k / 2 : Nat) : Int) := by omega
    have sh : binAV .shr (.p (.int .u64 ((2 ^ k : Nat) : Int))) (.p (.int .u64 1)) = some (.p (.int .u64 ((2 ^ k / 2 : Nat) : Int))) := by
      rw [map_shr (by decide) (by decide), ← esh]; rfl
    have hpos' : (0 : Int) < ((2 ^ k : Nat) : Int) := by omega
    rw [e3]
    have lx := lex_le (x := n + 2 ^ k) (N := N)
    unfold sqr at hQ
    generalize hX : n + 2 ^ k = X at *
    generalize 2 ^ k = T at *
    have fin1 : X * X ≤ N → Wp Γ fixed_Sqrt_l1 [(2, .bx 1 0), (3, .p (.int .u64 ((N / 18446744073709551616 : Nat) : Int))), (4, .p (.int .u64 ((N % 18446744073709551616 : Nat) : Int))), (5, .p (.int .u64 (X : Int))), (6, .p (.int .u64 ((T / 2 : Nat) : Int)))] [A, B] (InBlk [2, 5] 0 Q) := fun h => by
      rw [if_pos h] at hQ
      exact ih X (2 * m + 1) (by omega) (by rw [Nat.mul_add, Nat.mul_one, ← hm, hX]) (by omega) hQ
    have fin2 : ¬ X * X ≤ N → Wp Γ fixed_Sqrt_l1 [(2, .bx 1 0), (3, .p (.int .u64 ((N / 18446744073709551616 : Nat) : Int))), (4, .p (.int .u64 ((N % 18446744073709551616 : Nat) : Int))), (5, .p (.int .u64 (n : Int))), (6, .p (.int .u64 ((T / 2 : Nat) : Int)))] [A, B] (InBlk [2, 5] 0 Q) := fun h => by
      rw [if_neg h] at hQ
      exact ih n (2 * m) (by omega) hm (by omega) hQ
    generalize X * X = Y at *
    rw [W_loop (L := fixed_Sqrt_l1) rfl]
    repeat' (first | (simp (disch := first | assumption | omega | decide | (simp only [lens] <;> omega) | fail) only [go_sem, or1, mm, sh]) | refine cond_split (fun hc => ?_) (fun hc => ?_) | refine gd_split_f (fun hc => ?_) (fun hc => ?_) | refine gd_split_t (fun hc => ?_) (fun hc => ?_))
    all_goals first
      | exact fin1 (by omega)
      | exact fin2 (by omega)
theorem rSqrt_l1_ok {A B : Blk} {N : Nat} (Q : Out → Prop) : ∀ (k n m : Nat), k ≤ 42 → n = 2 ^ k * m → n + 2 ^ k ≤ 8796093022208 →
    Q (.nrm, [(2, .bx 1 0), (5, .p (.int .u64 (sqr N k n : Nat)))], [A, B]) →
    Wp Γ r1_Sqrt_l1 [(2, .bx 1 0), (3, .p (.int .u64 ((N / 18446744073709551616 : Nat) : Int))), (4, .p (.int .u64 ((N % 18446744073709551616 : Nat) : Int))), (5, .p (.int .u64 (n : Int))), (6, .p (.int .i64 ((k : Int) - 1)))] [A, B] (InBlk [2, 5] 0 Q) := by
  intro k
  induction k with
  | zero =>
    intro n m hk hn hb hQ
    rw [W_loop (L := r1_Sqrt_l1) rfl]
    simp (disch := first | assumption | omega | decide | (simp only [lens] <;> omega) | fail) only [go_sem]
    exact hQ
  | succ k ih =>
    intro n m hk hn hb hQ
    have e2 : 2 ^ (k + 1) = 2 ^ k + 2 ^ k := by rw [Nat.pow_succ]; omega
    have hpos : 0 < 2 ^ k := Nat.pow_pos (by decide)
    have hm : n = 2 ^ k * (2 * m) := by rw [hn, Nat.pow_succ, Nat.mul_assoc]
    have eor : n ||| 2 ^ k = n + 2 ^ k := by
      rw [hn]; exact (Nat.two_pow_add_eq_or_of_lt (by omega) m).symm
    have or1 := map_orN (H := n) (L := 2 ^ k) (by omega) eor
    have mm := res_times (A := n + 2 ^ k) (B := n + 2 ^ k) (by omega) (by omega)
    have ek : ((k + 1 : Nat) : Int) - 1 = (k : Int) := by omega
    have w1 : IntKind.u64.wrap (k : Int) = k := wrap_u64 (by omega) (by omega)
    have sh : binAV .shl (.p (.int .u64 1)) (.p (.int .u64 (k : Int))) = some (.p (.int .u64 ((2 ^ k : Nat) : Int))) := by
      have e5 : (2 : Int) ^ k = ((2 ^ k : Nat) : Int) := by simp
      rw [map_shl (by omega) (by omega), toNat_cast, Int.one_mul, e5, wrap_u64 (by omega) (by omega)]
    rw [ek]
    have lx := lex_le (x := n + 2 ^ k) (N := N)
    unfold sqr at hQ
    generalize hX : n + 2 ^ k = X at *
    generalize 2 ^ k = T at *
    have fin1 : X * X ≤ N → Wp Γ r1_Sqrt_l1 [(2, .bx 1 0), (3, .p (.int .u64 ((N / 18446744073709551616 : Nat) : Int))), (4, .p (.int .u64 ((N % 18446744073709551616 : Nat) : Int))), (5, .p (.int .u64 (X : Int))), (6, .p (.int .i64 ((k : Int) - 1)))] [A, B] (InBlk [2, 5] 0 Q) := fun h => by
      rw [if_pos h] at hQ
      exact ih X (2 * m + 1) (by omega) (by rw [Nat.mul_add, Nat.mul_one, ← hm, hX]) (by omega) hQ
    have fin2 : ¬ X * X ≤ N → Wp Γ r1_Sqrt_l1 [(2, .bx 1 0), (3, .p (.int .u64 ((N / 18446744073709551616 : Nat) : Int))), (4, .p (.int .u64 ((N % 18446744073709551616 : Nat) : Int))), (5, .p (.int .u64 (n : Int))), (6, .p (.int .i64 ((k : Int) - 1)))] [A, B] (InBlk [2, 5] 0 Q) := fun h => by
      rw [if_neg h] at hQ
      exact ih n (2 * m) (by omega) hm (by omega) hQ
    generalize X * X = Y at *
    rw [W_loop (L := r1_Sqrt_l1) rfl]
    repeat' (first | (simp (disch := first | assumption | omega | decide | (simp only [lens] <;> omega) | fail) only [go_sem, or1, mm, sh, w1]) | refine cond_split (fun hc => ?_) (fun hc => ?_) | refine gd_split_f (fun hc => ?_) (fun hc => ?_) | refine gd_split_t (fun hc => ?_) (fun hc => ?_))
    all_goals first
      | exact fin1 (by omega)
      | exact fin2 (by omega)
theorem sqr_top {N : Nat} (h : N < 19342813113834066795298816) : sqr N 43 0 = sqr N 42 0 := by
  rw [sqr, if_neg (by omega)]
theorem res_fixedSqrt (b : Bool) (n : Int) : res Γ 174 [.agg [.bool b, .int .i64 n]] = some [.agg [.bool (sqrtV (b, n)).1, .int .i64 (sqrtV (b, n)).2]] := by
  refine res_code (fn := fixed_Sqrt) rfl rfl ?_
  cases h : knV (b, n)
  · have e : sqrtV (b, n) = (false, 0) := by unfold sqrtV; rw [if_neg (by rw [h]; simp)]; rfl
    simp (disch := first | assumption | omega | decide | (simp only [lens] <;> omega) | fail) only [go_sem, fixed_Sqrt, h, e]
  · obtain ⟨_, g1, g2⟩ := knV_pair h
    by_cases h0 : n < 0
    · have e : sqrtV (b, n) = (false, 0) := by unfold sqrtV; rw [if_neg (by simp only; omega)]; rfl
      simp (disch := first | assumption | omega | decide | (simp only [lens] <;> omega) | fail) only [go_sem, fixed_Sqrt, h, e]
    · obtain ⟨N, rfl⟩ : ∃ N : Nat, n = N := ⟨n.toNat, by omega⟩
      have e : sqrtV (b, (N : Int)) = ofV (sqr (N * 1000000) 42 0 : Nat) := by
        unfold sqrtV; rw [if_pos ⟨h, by simp only; omega⟩, Int.toNat_natCast]
      have mm := res_Mul64N (A := N) (B := 1000000) (by omega) (by omega)
      have w1 : IntKind.u64.wrap (N : Int) = N := wrap_u64 (by omega) (by omega)
      have lt := sqr_lt (N * 1000000) 42 0 0 (by simp) (by decide)
      have w2 : IntKind.i64.wrap ((sqr (N * 1000000) 42 0 : Nat) : Int) = ((sqr (N * 1000000) 42 0 : Nat) : Int) := wrap_i64 (by omega) (by omega)
      have mm : res Γ 149 [.int .u64 (N : Int), .int .u64 1000000] = _ := mm
      simp (disch := first | assumption | omega | decide | (simp only [lens] <;> omega) | fail) only [go_sem, fixed_Sqrt, h, w1, mm]
      have e43 : ((2 ^ 43 / 2 : Nat) : Int) = 4398046511104 := by decide
      have key := fun A B Q => fSqrt_l1_ok (A := A) (B := B) (N := N * 1000000) Q 43 0 0 (by omega) (by simp) (by decide)
      rw [e43, sqr_top (by omega)] at key
      refine key _ _ _ ?_
      simp (disch := first | assumption | omega | decide | (simp only [lens] <;> omega) | fail) only [go_sem, w2, e]
theorem res_r1Sqrt (b : Bool) (n : Int) : res Γ 178 [.agg [.bool b, .int .i64 n]] = some [.agg [.bool (sqrtV (b, n)).1, .int .i64 (sqrtV (b, n)).2]] := by
  refine res_code (fn := r1_Sqrt) rfl rfl ?_
  cases h : knV (b, n)
  · have e : sqrtV (b, n) = (false, 0) := by unfold sqrtV; rw [if_neg (by rw [h]; simp)]; rfl
    simp (disch := first | assumption | omega | decide | (simp only [lens] <;> omega) | fail) only [go_sem, r1_Sqrt, h, e]
  · obtain ⟨_, g1, g2⟩ := knV_pair h
    by_cases h0 : n < 0
    · have e : sqrtV (b, n) = (false, 0) := by unfold sqrtV; rw [if_neg (by simp only; omega)]; rfl
      simp (disch := first | assumption | omega | decide | (simp only [lens] <;> omega) | fail) only [go_sem, r1_Sqrt, h, e]
    · obtain ⟨N, rfl⟩ : ∃ N : Nat, n = N := ⟨n.toNat, by omega⟩
      have e : sqrtV (b, (N : Int)) = ofV (sqr (N * 1000000) 42 0 : Nat) := by
        unfold sqrtV; rw [if_pos ⟨h, by simp only; omega⟩, Int.toNat_natCast]
      have mm := res_times (A := N) (B := 1000000) (by omega) (by omega)
      have w1 : IntKind.u64.wrap (N : Int) = N := wrap_u64 (by omega) (by omega)
      have lt := sqr_lt (N * 1000000) 42 0 0 (by simp) (by decide)
      have w2 : IntKind.i64.wrap ((sqr (N * 1000000) 42 0 : Nat) : Int) = ((sqr (N * 1000000) 42 0 : Nat) : Int) := wrap_i64 (by omega) (by omega)
      have mm : res Γ 168 [.int .u64 (N : Int), .int .u64 1000000] = _ := mm
      simp (disch := first | assumption | omega | decide | (simp only [lens] <;> omega) | fail) only [go_sem, r1_Sqrt, h, w1, mm]
      have e42 : ((42 : Nat) : Int) - 1 = 41 := by decide
      have key := fun A B Q => rSqrt_l1_ok (A := A) (B := B) (N := N * 1000000) Q 42 0 0 (by omega) (by simp) (by decide)
      rw [e42] at key
      refine key _ _ _ ?_
      simp (disch := first | assumption | omega | decide | (simp only [lens] <;> omega) | fail) only [go_sem, w2, e]
theorem res_fixedSqrtV (x : Val) : res Γ 174 [.agg [.bool x.1, .int .i64 x.2]] = some [.agg [.bool (sqrtV x).1, .int .i64 (sqrtV x).2]] := by
  obtain ⟨b, n⟩ := x; exact res_fixedSqrt b n
theorem res_r1SqrtV (x : Val) : res Γ 178 [.agg [.bool x.1, .int .i64 x.2]] = some [.agg [.bool (sqrtV x).1, .int .i64 (sqrtV x).2]] := by
  obtain ⟨b, n⟩ := x; exact res_r1Sqrt b n
end Ab
namespace Ab
open Go (IntKind BinOp UnOp)
def sqV (m v : Val) : Val := mulV (subV v m) (subV v m)
def devV (l : List Val) : Val :=
  let k := knL l
  let m := aggV 1 k
  if (k.map (sqV m)).all (·.1) = true then sqrtV (aggV 1 (k.map (sqV m))) else noV
theorem devV_no {l : List Val} {i : Nat} (h : i < (knL l).length) (hq : (sqV (aggV 1 (knL l)) ((knL l).getD i (false, 0))).1 = false) : devV l = (false, 0) := by
  unfold devV
  rw [if_neg]
  · rfl
  · intro ha
    rw [List.all_eq_true] at ha
    have hm : (knL l).getD i (false, 0) ∈ knL l := by rw [List.getD_eq_getElem?_getD, List.getElem?_eq_getElem h]; exact List.getElem_mem _
    have := ha _ (List.mem_map_of_mem hm)
    rw [hq] at this; cases this
theorem devV_yes {l : List Val} (h : ∀ i < (knL l).length, (sqV (aggV 1 (knL l)) ((knL l).getD i (false, 0))).1 = true) : devV l = sqrtV (aggV 1 ((knL l).map (sqV (aggV 1 (knL l))))) := by
  unfold devV
  rw [if_pos]
  rw [List.all_eq_true]
  intro x hx
  obtain ⟨v, hv, rfl⟩ := List.mem_map.1 hx
  obtain ⟨i, hi, rfl⟩ := List.getElem_of_mem hv
  have := h i hi
  rwa [List.getD_eq_getElem?_getD, List.getElem?_eq_getElem hi] at this
theorem sq_take {m : Val} {k : List Val} {i : Nat} (h : i < k.length) : (k.take (i + 1)).map (sqV m) = (k.take i).map (sqV m) ++ [sqV m (k.getD i (false, 0))] := by
  rw [take_snoc' (false, 0) h, List.map_append]; rfl
theorem fDev_l1_ok {kk : SK} {a1 a2 : PV} (m : Val) (k : List Val) (hl : k.length < 1000000000) (Q : Out → Prop) : ∀ (d i : Nat) (T : Heap), i + d = k.length → (∀ j < i, (sqV m (k.getD j (false, 0))).1 = true) →
    ((∀ j < k.length, (sqV m (k.getD j (false, 0))).1 = true) → ∀ B, Q (.nrm, [(2, .bx 0 0), (5, .own 2 k.length)], [.box [.p a1, .p a2], B, .row false 2 (vpv (k.map (sqV m)))])) →
    (∀ j < k.length, (sqV m (k.getD j (false, 0))).1 = false → ∀ T, Q (.ret, [(2, .bx 0 0)], .box [.p (.bool false), .p (.int .i64 0)] :: T)) →
    Wp Γ fwin_Deviation_l1 [(2, .bx 0 0), (4, .bx 1 0), (5, .own 2 i), (14, .p (.sl kk 2 (vpv k))), (15, .p (.int .i64 (k.length : Int))), (16, .p (.int .i64 (i : Int)))] (.box [.p a1, .p a2] :: .box [.p (.bool m.1), .p (.int .i64 m.2)] :: .row false 2 (vpv ((k.take i).map (sqV m))) :: T) (InBlk [2, 5] 0 Q) := by
  intro d
  induction d with
  | zero =>
    intro i T hi ha h1 h2
    obtain rfl : i = k.length := by omega
    rw [W_loop (L := fwin_Deviation_l1) rfl]
    simp (disch := first | assumption | omega | decide | (simp only [lens] <;> omega) | fail) only [go_sem]
    rw [List.take_length]
    exact h1 ha _
  | succ d ih =>
    intro i T hi ha h1 h2
    have hw : (vpv ((k.take i).map (sqV m))).length = i := by rw [vpv_len, List.length_map, List.length_take]; omega
    have e := sq_take (m := m) (k := k) (i := i) (by omega)
    have e1 := res_fixedSubV (k.getD i (false, 0)) m
    have e2 := res_fixedMulV (subV (k.getD i (false, 0)) m) (subV (k.getD i (false, 0)) m)
    rw [show mulV (subV (k.getD i (false, 0)) m) (subV (k.getD i (false, 0)) m) = sqV m (k.getD i (false, 0)) from rfl] at e2
    have hl2 : ((k.take i).map (sqV m)).length = i := by rw [List.length_map, List.length_take]; omega
    rw [W_loop (L := fwin_Deviation_l1) rfl]
    cases hq : (sqV m (k.getD i (false, 0))).1
    · rw [hq] at e2
      simp (disch := first | assumption | omega | decide | (simp only [lens] <;> omega) | fail) only [go_sem, valP, e1, e2]
      exact h2 i (by omega) hq _
    · rw [hq] at e2
      have ex : sqV m (k.getD i (false, 0)) = (true, (sqV m (k.getD i (false, 0))).2) := by rw [← hq]
      simp (disch := first | assumption | omega | decide | (simp only [lens] <;> omega) | fail) only [go_sem, valP, e1, e2]
      rw [← ex, ← e]
      exact ih (i + 1) _ (by omega) (fun j hj => by
        rcases Nat.lt_or_ge j i with h | h
        · exact ha j h
        · obtain rfl : j = i := by omega
          exact hq) h1 h2
theorem res_fwinDeviation {kk : SK} (l : List Val) (hl : l.length < 1000000000) : res Γ 116 [.sl kk 2 (vpv l)] = some [.agg [.bool (devV l).1, .int .i64 (devV l).2]] := by
  have hk := knL_len l
  have e := res_aggOf1 (kk := .any) (knL l) (by omega)
  have e3 := res_aggOf1 (kk := .any) ((knL l).map (sqV (aggV 1 (knL l)))) (by rw [List.length_map]; omega)
  have e4 := res_fixedSqrtV (aggV 1 ((knL l).map (sqV (aggV 1 (knL l)))))
  have hw : (vpv ((knL l).map (sqV (aggV 1 (knL l))))).length = (knL l).length := by rw [vpv_len, List.length_map]
  refine res_code (fn := fwin_Deviation) rfl rfl ?_
  simp (disch := first | assumption | omega | decide | (simp only [lens] <;> omega) | fail) only [go_sem, fwin_Deviation, e]
  refine fDev_l1_ok (kk := .any) (aggV 1 (knL l)) (knL l) (by omega) _ (knL l).length 0 [] (by omega) (by omega) (fun h B => ?_) (fun j hj hq T => ?_)
  · simp (disch := first | assumption | omega | decide | (simp only [lens] <;> omega) | fail) only [go_sem, e3, e4, devV_yes h]
  · simp (disch := first | assumption | omega | decide | (simp only [lens] <;> omega) | fail) only [go_sem, devV_no hj hq]
theorem rDev_l1_ok {kk : SK} {a1 a2 : PV} (m : Val) (k : List Val) (hl : k.length < 1000000000) (Q : Out → Prop) : ∀ (d i : Nat) (T : Heap), i + d = k.length → (∀ j < i, (sqV m (k.getD j (false, 0))).1 = true) →
    ((∀ j < k.length, (sqV m (k.getD j (false, 0))).1 = true) → ∀ B, Q (.nrm, [(2, .bx 0 0), (5, .own 2 k.length)], [.box [.p a1, .p a2], B, .row false 2 (vpv (k.map (sqV m)))])) →
    (∀ j < k.length, (sqV m (k.getD j (false, 0))).1 = false → ∀ T, Q (.ret, [(2, .bx 0 0)], .box [.p (.bool false), .p (.int .i64 0)] :: T)) →
    Wp Γ r21_Deviation_l1 [(2, .bx 0 0), (3, .p (.sl kk 2 (vpv k))), (4, .bx 1 0), (5, .own 2 i), (6, .p (.int .i64 (i : Int)))] (.box [.p a1, .p a2] :: .box [.p (.bool m.1), .p (.int .i64 m.2)] :: .row false 2 (vpv ((k.take i).map (sqV m))) :: T) (InBlk [2, 5] 0 Q) := by
  intro d
  induction d with
  | zero =>
    intro i T hi ha h1 h2
    obtain rfl : i = k.length := by omega
    rw [W_loop (L := r21_Deviation_l1) rfl]
    simp (disch := first | assumption | omega | decide | (simp only [lens] <;> omega) | fail) only [go_sem]
    rw [List.take_length]
    exact h1 ha _
  | succ d ih =>
    intro i T hi ha h1 h2
    have hw : (vpv ((k.take i).map (sqV m))).length = i := by rw [vpv_len, List.length_map, List.length_take]; omega
    have e := sq_take (m := m) (k := k) (i := i) (by omega)
    have e1 := res_r1SubV (k.getD i (false, 0)) m
    have e2 := res_r1MulV (subV (k.getD i (false, 0)) m) (subV (k.getD i (false, 0)) m)
    rw [show mulV (subV (k.getD i (false, 0)) m) (subV (k.getD i (false, 0)) m) = sqV m (k.getD i (false, 0)) from rfl] at e2
    have hl2 : ((k.take i).map (sqV m)).length = i := by rw [List.length_map, List.length_take]; omega
    rw [W_loop (L := r21_Deviation_l1) rfl]
    cases hq : (sqV m (k.getD i (false, 0))).1
    · rw [hq] at e2
      simp (disch := first | assumption | omega | decide | (simp only [lens] <;> omega) | fail) only [go_sem, valP, e1, e2]
      exact h2 i (by omega) hq _
    · rw [hq] at e2
      have ex : sqV m (k.getD i (false, 0)) = (true, (sqV m (k.getD i (false, 0))).2) := by rw [← hq]
      simp (disch := first | assumption | omega | decide | (simp only [lens] <;> omega) | fail) only [go_sem, valP, e1, e2]
      rw [← ex, ← e]
      exact ih (i + 1) _ (by omega) (fun j hj => by
        rcases Nat.lt_or_ge j i with h | h
        · exact ha j h
        · obtain rfl : j = i := by omega
          exact hq) h1 h2
theorem res_r21Deviation {kk : SK} (l : List Val) (hl : l.length < 1000000000) : res Γ 124 [.sl kk 2 (vpv l)] = some [.agg [.bool (devV l).1, .int .i64 (devV l).2]] := by
  have hk := knL_len l
  have e := res_r6Of1 (kk := .any) (knL l) (by omega)
  have e3 := res_r6Of1 (kk := .any) ((knL l).map (sqV (aggV 1 (knL l)))) (by rw [List.length_map]; omega)
  have e4 := res_r1SqrtV (aggV 1 ((knL l).map (sqV (aggV 1 (knL l)))))
  have hw : (vpv ((knL l).map (sqV (aggV 1 (knL l))))).length = (knL l).length := by rw [vpv_len, List.length_map]
  refine res_code (fn := r21_Deviation) rfl rfl ?_
  simp (disch := first | assumption | omega | decide | (simp only [lens] <;> omega) | fail) only [go_sem, r21_Deviation, e]
  refine rDev_l1_ok (kk := .any) (aggV 1 (knL l)) (knL l) (by omega) _ (knL l).length 0 [] (by omega) (by omega) (fun h B => ?_) (fun j hj hq T => ?_)
  · simp (disch := first | assumption | omega | decide | (simp only [lens] <;> omega) | fail) only [go_sem, e3, e4, devV_yes h]
  · simp (disch := first | assumption | omega | decide | (simp only [lens] <;> omega) | fail) only [go_sem, devV_no hj hq]
end Ab
namespace Ab
def lessL (k : List Val) : Val := match k with | [] => noV | v :: r => r.foldl subV v
def timesL (k : List Val) : Val := match k with | [] => noV | _ => k.foldl mulV (intV 1)
def jSum : List UInt8 := [115, 117, 109, 83, 101, 114, 105, 101, 115]
def jAvg : List UInt8 := [97, 118, 101, 114, 97, 103, 101, 83, 101, 114, 105, 101, 115]
def jMin : List UInt8 := [109, 105, 110, 83, 101, 114, 105, 101, 115]
def jMax : List UInt8 := [109, 97, 120, 83, 101, 114, 105, 101, 115]
def jMed : List UInt8 := [109, 101, 100, 105, 97, 110, 83, 101, 114, 105, 101, 115]
def jDev : List UInt8 := [115, 116, 100, 100, 101, 118, 83, 101, 114, 105, 101, 115]
def jRng : List UInt8 := [114, 97, 110, 103, 101, 79, 102, 83, 101, 114, 105, 101, 115]
def jMul : List UInt8 := [109, 117, 108, 116, 105, 112, 108, 121, 83, 101, 114, 105, 101, 115]
def jCnt : List UInt8 := [99, 111, 117, 110, 116, 83, 101, 114, 105, 101, 115]
def jDif : List UInt8 := [100, 105, 102, 102, 83, 101, 114, 105, 101, 115]
def jPer : List UInt8 := [112, 101, 114, 99, 101, 110, 116, 105, 108, 101, 79, 102, 83, 101, 114, 105, 101, 115]
def jAgg : List UInt8 := [97, 103, 103, 114, 101, 103, 97, 116, 101]
def jAll : List (List UInt8) := [jSum, jAvg, jMin, jMax, jMed, jDev, jRng, jMul, jCnt, jDif, jPer, jAgg]
def placeV (nm : List UInt8) (p : Val) (kind : Int) (k : List Val) : Val :=
  if nm = jSum then aggV 2 k else if nm = jAvg then aggV 1 k else if nm = jMin then aggV 5 k else if nm = jMax then aggV 4 k else if nm = jMed then medV k
  else if nm = jDev then devV k else if nm = jRng then subV (aggV 4 k) (aggV 5 k) else if nm = jMul then timesL k else if nm = jCnt then intV k.length
  else if nm = jDif then lessL k else if nm = jPer then rankV p k else if nm = jAgg then aggV kind k else noV
def atV (l : List (SK × Ser)) (i : Nat) : List Val := l.map fun x => x.2.vals.getD i (false, 0)
def colsV (nm : List UInt8) (p : Val) (kind : Int) (l : List (SK × Ser)) (n : Nat) : List Val := (List.range n).map fun i => placeV nm p kind (knL (atV l i))
theorem colsV_len {nm p kind l n} : (colsV nm p kind l n).length = n := by simp [colsV]
theorem knL_knL (l : List Val) : knL (knL l) = knL l := by
  unfold knL
  rw [List.filter_filter]
  simp
theorem aggV_knL (kind : Int) (l : List Val) : aggV kind (knL l) = aggV kind l := by unfold aggV; rw [knL_knL]
theorem rankV_bad {p : Val} {l : List Val} (h : isV p = false) : rankV p l = rankV noV l := by
  unfold rankV
  have e2 : ¬ ((noV : Val).1 = true ∧ 0 ≤ (noV : Val).2 ∧ (noV : Val).2 ≤ 100000000 ∧ (sortI (nums l)).length ≠ 0) := by simp [noV]
  have e1 : ¬ (p.1 = true ∧ 0 ≤ p.2 ∧ p.2 ≤ 100000000 ∧ (sortI (nums l)).length ≠ 0) := by
    rintro ⟨h1, h2, h3, _⟩
    unfold isV maxN at h
    rw [if_pos h1] at h
    simp only [decide_eq_false_iff_not] at h
    omega
  simp only [if_neg e1, if_neg e2]
end Ab
namespace Ab
open Go (IntKind BinOp UnOp)
theorem agg3_cons {l : List Val} {b : Val} {k : List Val} (h : knL l = b :: k) : aggV 3 l = (b :: k).getD k.length (false, 0) := by
  unfold aggV; rw [h]
  show (b :: k).getLastD noV = _
  rw [List.getLastD_eq_getLast?, List.getLast?_eq_getElem?, List.getD_eq_getElem?_getD]
  rfl
theorem aggNo {kind : Int} {l : List Val} (h : ¬ (1 ≤ kind ∧ kind ≤ 5)) : aggV kind l = (false, 0) := by
  unfold aggV
  cases knL l with
  | nil => rfl
  | cons b k =>
    show (if kind = 1 then _ else if kind = 2 then _ else if kind = 3 then _ else if kind = 4 then _ else if kind = 5 then _ else noV) = _
    rw [if_neg (by omega), if_neg (by omega), if_neg (by omega), if_neg (by omega), if_neg (by omega)]; rfl
theorem res_aggOf3 {kk : SK} (l : List Val) (hl : l.length < 1000000000) : res Γ 132 [.int .i64 3, .sl kk 2 (vpv l)] = some [.agg [.bool (aggV 3 l).1, .int .i64 (aggV 3 l).2]] := by
  have hk := knL_len l
  refine res_code (fn := agg_Of) rfl rfl ?_
  simp (disch := first | assumption | omega | decide | (simp only [lens] <;> omega) | fail) only [go_sem, agg_Of]
  cases h : knL l with
  | nil =>
    simp (disch := first | assumption | omega | decide | (simp only [lens] <;> omega) | fail) only [go_sem, agg2_nil h]
  | cons b k =>
    have e := agg3_cons h
    have e2 : ((k.length + 1 : Nat) : Int) - 1 = (k.length : Int) := by omega
    rw [h] at hk
    simp only [List.length_cons] at hk
    simp (disch := first | assumption | omega | decide | (simp only [lens] <;> omega) | fail) only [go_sem, e, e2, valP]
theorem res_aggOfNo {kk : SK} (kind : Int) (hn : ¬ (1 ≤ kind ∧ kind ≤ 5)) (l : List Val) (hl : l.length < 1000000000) : res Γ 132 [.int .i64 kind, .sl kk 2 (vpv l)] = some [.agg [.bool (aggV kind l).1, .int .i64 (aggV kind l).2]] := by
  have hk := knL_len l
  have e := aggNo (l := l) hn
  have h1 : ¬ kind = 1 := by omega
  have h2 : ¬ kind = 2 := by omega
  have h3 : ¬ kind = 3 := by omega
  have h4 : ¬ kind = 4 := by omega
  have h5 : ¬ kind = 5 := by omega
  refine res_code (fn := agg_Of) rfl rfl ?_
  simp (disch := first | assumption | omega | decide | (simp only [lens] <;> omega) | fail) only [go_sem, agg_Of]
  cases h : knL l with
  | nil =>
    simp (disch := first | assumption | omega | decide | (simp only [lens] <;> omega) | fail) only [go_sem, e]
  | cons b k =>
    rw [h] at hk
    simp only [List.length_cons] at hk
    simp (disch := first | assumption | omega | decide | (simp only [lens] <;> omega) | fail) only [go_sem, e, valP]
theorem res_aggOfK {kk : SK} (kind : Int) (l : List Val) (hl : l.length < 1000000000) : res Γ 132 [.int .i64 kind, .sl kk 2 (vpv l)] = some [.agg [.bool (aggV kind l).1, .int .i64 (aggV kind l).2]] := by
  by_cases h : 1 ≤ kind ∧ kind ≤ 5
  · have : kind = 1 ∨ kind = 2 ∨ kind = 3 ∨ kind = 4 ∨ kind = 5 := by omega
    rcases this with rfl | rfl | rfl | rfl | rfl
    · exact res_aggOf1 l hl
    · exact res_aggOf2 l hl
    · exact res_aggOf3 l hl
    · exact res_aggOf4 l hl
    · exact res_aggOf5 l hl
  · exact res_aggOfNo kind h l hl
theorem res_r6Of3 {kk : SK} (l : List Val) (hl : l.length < 1000000000) : res Γ 122 [.int .i64 3, .sl kk 2 (vpv l)] = some [.agg [.bool (aggV 3 l).1, .int .i64 (aggV 3 l).2]] := by
  have hk := knL_len l
  refine res_code (fn := r6_Of) rfl rfl ?_
  simp (disch := first | assumption | omega | decide | (simp only [lens] <;> omega) | fail) only [go_sem, r6_Of]
  cases h : knL l with
  | nil =>
    simp (disch := first | assumption | omega | decide | (simp only [lens] <;> omega) | fail) only [go_sem, agg2_nil h]
  | cons b k =>
    have e := agg3_cons h
    have e2 : ((k.length + 1 : Nat) : Int) - 1 = (k.length : Int) := by omega
    rw [h] at hk
    simp only [List.length_cons] at hk
    simp (disch := first | assumption | omega | decide | (simp only [lens] <;> omega) | fail) only [go_sem, valP]
    refine r6_Of_l1_ok 3 b k (by omega) _ _ k.length 0 (by omega) ?_
    simp (disch := first | assumption | omega | decide | (simp only [lens] <;> omega) | fail) only [go_sem, e, e2, valP]
theorem res_r6OfNo {kk : SK} (kind : Int) (hn : ¬ (1 ≤ kind ∧ kind ≤ 5)) (l : List Val) (hl : l.length < 1000000000) : res Γ 122 [.int .i64 kind, .sl kk 2 (vpv l)] = some [.agg [.bool (aggV kind l).1, .int .i64 (aggV kind l).2]] := by
  have hk := knL_len l
  have e := aggNo (l := l) hn
  refine res_code (fn := r6_Of) rfl rfl ?_
  simp (disch := first | assumption | omega | decide | (simp only [lens] <;> omega) | fail) only [go_sem, r6_Of]
  by_cases h0 : (knL l).length = 0
  · simp (disch := first | assumption | omega | decide | (simp only [lens] <;> omega) | fail) only [go_sem, e]
  · by_cases h1 : kind < 1
    · simp (disch := first | assumption | omega | decide | (simp only [lens] <;> omega) | fail) only [go_sem, e]
    · simp (disch := first | assumption | omega | decide | (simp only [lens] <;> omega) | fail) only [go_sem, e]
theorem res_r6OfK {kk : SK} (kind : Int) (l : List Val) (hl : l.length < 1000000000) : res Γ 122 [.int .i64 kind, .sl kk 2 (vpv l)] = some [.agg [.bool (aggV kind l).1, .int .i64 (aggV kind l).2]] := by
  by_cases h : 1 ≤ kind ∧ kind ≤ 5
  · have : kind = 1 ∨ kind = 2 ∨ kind = 3 ∨ kind = 4 ∨ kind = 5 := by omega
    rcases this with rfl | rfl | rfl | rfl | rfl
    · exact res_r6Of1 l hl
    · exact res_r6Of 2 (by omega) l hl
    · exact res_r6Of3 l hl
    · exact res_r6Of 4 (by omega) l hl
    · exact res_r6Of 5 (by omega) l hl
  · exact res_r6OfNo kind h l hl
end Ab
