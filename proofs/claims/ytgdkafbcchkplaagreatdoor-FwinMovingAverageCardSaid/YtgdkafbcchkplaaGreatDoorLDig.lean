import Derived.Test.YtgdkafbcchkplaaGreatDoorLVal
/- Whole numbers in digits. -/
namespace Ab
open Go (IntKind BinOp UnOp)
theorem wrap_u64 {x : Int} (h0 : 0 ≤ x) (h1 : x ≤ 18446744073709551615) : IntKind.u64.wrap x = x := by
  simp only [IntKind.wrap, IntKind.bits, IntKind.signed, Bool.false_and]
  have e : (2 : Int) ^ 64 = 18446744073709551616 := by decide
  rw [e]
  simp
  omega
theorem map_rem {k : IntKind} {a b : Int} (h0 : 0 ≤ a) (h1 : 0 < b) : binAV .rem (.p (.int k a)) (.p (.int k b)) = some (.p (.int k (a % b))) := by
  simp only [binAV, binPV, binInt, true_or, if_true]
  rw [if_neg (by omega), Int.tmod_eq_emod_of_nonneg h0]; rfl
theorem map_quo {k : IntKind} {a b : Int} (h0 : 0 ≤ a) (h1 : 0 < b) (h2 : k.wrap (a / b) = a / b) : binAV .quo (.p (.int k a)) (.p (.int k b)) = some (.p (.int k (a / b))) := by
  simp only [binAV, binPV, binInt, true_or, if_true]
  rw [if_neg (by omega), Int.tdiv_eq_ediv_of_nonneg h0, h2]; rfl
theorem strOf_one {H : Heap} {kk : SK} {n : Int} : strOfA H (.p (.sl kk 1 [.int .u8 n])) = some (.p (.str [UInt8.ofNat n.toNat])) := by
  simp [strOfA, bytesIn]
attribute [go_sem] wrap_u64 map_rem strOf_one
theorem decB_small {u : Nat} (h : u < 10) : decB u = [UInt8.ofNat (48 + u)] := by rw [decB, dif_pos h]
theorem decB_more {u : Nat} (h : ¬ u < 10) : decB u = decB (u / 10) ++ [UInt8.ofNat (48 + u % 10)] := by rw [decB, dif_neg h]
theorem r2_plain_l1_ok : ∀ (k u : Nat) (acc : List UInt8) (Q : Out → Prop), u < 10 ^ (k + 1) → u < 18446744073709551616 → acc.length + k ≤ 1000 → Q (.ret, [(2, .p (.str (decB u ++ acc)))], []) →
    Wp Γ r2_plain_l1 [(0, .p (.int .u64 (u : Int))), (3, .p (.str acc))] [] (InBlk [2] 0 Q) := by
  intro k
  induction k with
  | zero =>
    intro u acc Q h1 h2 h3 hQ
    have h1 : u < 10 := by simpa using h1
    rw [decB_small h1] at hQ
    have q : binAV .quo (.p (.int .u64 (u : Int))) (.p (.int .u64 10)) = some (.p (.int .u64 0)) := by
      rw [map_quo (by omega) (by omega) (wrap_u64 (by omega) (by omega)), show (u : Int) / 10 = 0 by omega]
    have e1 : (u : Int) % 10 = u := by omega
    have e2 : ((48 : Int) + (u : Int)).toNat = 48 + u := by omega
    rw [W_loop (L := r2_plain_l1) rfl]
    simp (disch := first | assumption | omega | decide | (simp only [List.length_cons, List.length_nil, List.length_append, List.length_replicate, List.length_map, List.length_set, List.length_take, List.length_drop, strs_len, ints_len, bools_len, aggs_len, vpv_len]; done) | (simp only [List.length_cons, List.length_nil, List.length_append, List.length_replicate, List.length_map, List.length_set, List.length_take, List.length_drop, strs_len, ints_len, bools_len, aggs_len, vpv_len]; omega)) only [go_sem, e1, q, e2]
    exact hQ
  | succ k ih =>
    intro u acc Q h1 h2 h3 hQ
    have q : binAV .quo (.p (.int .u64 (u : Int))) (.p (.int .u64 10)) = some (.p (.int .u64 ((u / 10 : Nat) : Int))) := by
      rw [map_quo (by omega) (by omega) (wrap_u64 (by omega) (by omega))]; rfl
    have e1 : (u : Int) % 10 = ((u % 10 : Nat) : Int) := by omega
    have e2 : ((48 : Int) + ((u % 10 : Nat) : Int)).toNat = 48 + u % 10 := by omega
    rw [W_loop (L := r2_plain_l1) rfl]
    simp (disch := first | assumption | omega | decide | (simp only [List.length_cons, List.length_nil, List.length_append, List.length_replicate, List.length_map, List.length_set, List.length_take, List.length_drop, strs_len, ints_len, bools_len, aggs_len, vpv_len]; done) | (simp only [List.length_cons, List.length_nil, List.length_append, List.length_replicate, List.length_map, List.length_set, List.length_take, List.length_drop, strs_len, ints_len, bools_len, aggs_len, vpv_len]; omega)) only [go_sem, e1, q, e2]
    by_cases hs : u < 10
    · rw [decB_small hs] at hQ
      have e3 : u % 10 = u := by omega
      rw [e3]
      simp (disch := first | assumption | omega | decide | (simp only [List.length_cons, List.length_nil, List.length_append, List.length_replicate, List.length_map, List.length_set, List.length_take, List.length_drop, strs_len, ints_len, bools_len, aggs_len, vpv_len]; done) | (simp only [List.length_cons, List.length_nil, List.length_append, List.length_replicate, List.length_map, List.length_set, List.length_take, List.length_drop, strs_len, ints_len, bools_len, aggs_len, vpv_len]; omega)) only [go_sem]
      exact hQ
    · rw [decB_more hs, List.append_assoc] at hQ
      simp (disch := first | assumption | omega | decide | (simp only [List.length_cons, List.length_nil, List.length_append, List.length_replicate, List.length_map, List.length_set, List.length_take, List.length_drop, strs_len, ints_len, bools_len, aggs_len, vpv_len]; done) | (simp only [List.length_cons, List.length_nil, List.length_append, List.length_replicate, List.length_map, List.length_set, List.length_take, List.length_drop, strs_len, ints_len, bools_len, aggs_len, vpv_len]; omega)) only [go_sem]
      exact ih (u / 10) _ Q (by rw [Nat.pow_succ] at h1; omega) (by omega) (by simp; omega) hQ
theorem res_r2plain (u : Nat) (h : u < 18446744073709551616) : res Γ 121 [.int .u64 (u : Int)] = some [.str (decB u)] := by
  refine res_code (fn := r2_plain) rfl rfl ?_
  simp (disch := first | assumption | omega | decide | (simp only [List.length_cons, List.length_nil, List.length_append, List.length_replicate, List.length_map, List.length_set, List.length_take, List.length_drop, strs_len, ints_len, bools_len, aggs_len, vpv_len]; done) | (simp only [List.length_cons, List.length_nil, List.length_append, List.length_replicate, List.length_map, List.length_set, List.length_take, List.length_drop, strs_len, ints_len, bools_len, aggs_len, vpv_len]; omega)) only [go_sem, r2_plain]
  refine r2_plain_l1_ok 19 u [] _ (by omega) h (by simp) ?_
  simp (disch := first | assumption | omega | decide | (simp only [List.length_cons, List.length_nil, List.length_append, List.length_replicate, List.length_map, List.length_set, List.length_take, List.length_drop, strs_len, ints_len, bools_len, aggs_len, vpv_len]; done) | (simp only [List.length_cons, List.length_nil, List.length_append, List.length_replicate, List.length_map, List.length_set, List.length_take, List.length_drop, strs_len, ints_len, bools_len, aggs_len, vpv_len]; omega)) only [go_sem]
theorem res_r2Digits (n : Nat) (h : n < 9223372036854775808) : res Γ 107 [.int .i64 (n : Int)] = some [.str (decB n)] := by
  have e := res_r2plain n (by omega)
  refine res_code (fn := r2_Digits) rfl rfl ?_
  simp (disch := first | assumption | omega | decide | (simp only [List.length_cons, List.length_nil, List.length_append, List.length_replicate, List.length_map, List.length_set, List.length_take, List.length_drop, strs_len, ints_len, bools_len, aggs_len, vpv_len]; done) | (simp only [List.length_cons, List.length_nil, List.length_append, List.length_replicate, List.length_map, List.length_set, List.length_take, List.length_drop, strs_len, ints_len, bools_len, aggs_len, vpv_len]; omega)) only [go_sem, r2_Digits, e]
theorem res_decDigits (n : Nat) (h : n < 9223372036854775808) : res Γ 105 [.int .i64 (n : Int)] = some [.str (decB n)] := by
  have e : res Γ 114 [.int .i64 (n : Int)] = some [.str (decB n)] := by
    refine res_of (RunP_prim (g := itoaG) rfl ?_)
    simp only [itoaG]
    rw [if_pos (by omega), itoaB, if_neg (by omega), Int.toNat_natCast]
  refine res_code (fn := dec_Digits) rfl rfl ?_
  simp (disch := first | assumption | omega | decide | (simp only [List.length_cons, List.length_nil, List.length_append, List.length_replicate, List.length_map, List.length_set, List.length_take, List.length_drop, strs_len, ints_len, bools_len, aggs_len, vpv_len]; done) | (simp only [List.length_cons, List.length_nil, List.length_append, List.length_replicate, List.length_map, List.length_set, List.length_take, List.length_drop, strs_len, ints_len, bools_len, aggs_len, vpv_len]; omega)) only [go_sem, dec_Digits, e]
theorem decB_len : ∀ (k u : Nat), u < 10 ^ (k + 1) → (decB u).length ≤ k + 1 := by
  intro k
  induction k with
  | zero => intro u h; rw [decB_small (by simpa using h)]; simp
  | succ k ih =>
    intro u h
    by_cases hs : u < 10
    · rw [decB_small hs]; simp
    · rw [decB_more hs]
      have := ih (u / 10) (by rw [Nat.pow_succ] at h; omega)
      simp; omega
end Ab
