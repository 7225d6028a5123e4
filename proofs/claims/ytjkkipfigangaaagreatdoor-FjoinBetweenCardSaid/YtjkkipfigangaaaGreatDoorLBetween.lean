import Derived.Test.YtjkkipfigangaaaGreatDoorLKnown22
import Derived.Test.YtjkkipfigangaaaGreatDoorPSer
import Derived.Test.YtjkkipfigangaaaGreatDoorAbPrim
namespace Ab
open Go (IntKind BinOp UnOp)
def bigS (s : Ser) : Bool := decide (120 < s.vals.length) || decide (300 < s.name.length)
def sumLen (l : List (SK × Ser)) : Nat := (l.map fun x => x.2.vals.length).sum
def heavyJ (l : List (SK × Ser)) : Bool := decide (20 < l.length) || (l.any fun x => bigS x.2) || decide (400 < sumLen l)
theorem sumLen_snoc {l : List (SK × Ser)} {i : Nat} (h : i < l.length) : sumLen (l.take (i + 1)) = sumLen (l.take i) + (l.getD i noSer).2.vals.length := by
  unfold sumLen
  rw [take_snoc' noSer h, List.map_append, List.sum_append]
  simp
theorem heavyJ_no {l : List (SK × Ser)} (h : heavyJ l = false) : l.length ≤ 20 ∧ ∀ x ∈ l, x.2.vals.length ≤ 120 ∧ x.2.name.length ≤ 300 := by
  unfold heavyJ at h
  rw [Bool.or_eq_false_iff, Bool.or_eq_false_iff, decide_eq_false_iff_not] at h
  obtain ⟨⟨h1, h2⟩, _⟩ := h
  refine ⟨by omega, fun x hx => ?_⟩
  have := List.any_eq_false.1 h2 x hx
  unfold bigS at this
  simp only [Bool.or_eq_true, decide_eq_true_eq, not_or] at this
  omega
theorem heavy_l1_ok {k1 : SK} (l : List (SK × Ser)) (hl : l.length ≤ 20) (hv : ∀ x ∈ l, x.2.vals.length ≤ 9223372036854775807) (Q : Out → Prop) (h1 : (l.any fun x => bigS x.2) = true → Q (.ret, [(2, .p (.bool true))], []))
    (h2 : (l.any fun x => bigS x.2) = false → Q (.nrm, [(3, .p (.int .i64 (sumLen l : Nat)))], [])) : ∀ (n i : Nat), i + n = l.length → ((l.take i).any fun x => bigS x.2) = false → sumLen (l.take i) ≤ 120 * i →
    Wp Γ l22_heavy_l1 [(0, .p (.sl k1 5 (sers l))), (3, .p (.int .i64 (sumLen (l.take i) : Nat))), (4, .p (.int .i64 (i : Int)))] [] (InBlk [3] 0 Q) := by
  intro n
  induction n with
  | zero =>
    intro i hi ha _
    obtain rfl : i = l.length := by omega
    rw [List.take_length] at ha ⊢
    rw [W_loop (L := l22_heavy_l1) rfl]
    simp (disch := first | assumption | omega | decide | (simp only [List.length_cons, List.length_nil, List.length_append, List.length_replicate, List.length_map, List.length_set, List.length_take, List.length_drop, strs_len, ints_len, bools_len, aggs_len, vpv_len]; done) | (simp only [List.length_cons, List.length_nil, List.length_append, List.length_replicate, List.length_map, List.length_set, List.length_take, List.length_drop, strs_len, ints_len, bools_len, aggs_len, vpv_len]; omega)) only [go_sem]
    exact h2 ha
  | succ n ih =>
    intro i hi ha hsum
    have hlt : i < l.length := by omega
    have hmem := ser_mem hlt
    have ih := ih (i + 1) (by omega)
    rw [sumLen_snoc hlt, take_snoc' noSer hlt, List.any_append, ha] at ih
    obtain ⟨x, hx⟩ : ∃ x, l.getD i noSer = x := ⟨_, rfl⟩
    rw [hx] at ih hmem
    have hvx := hv x hmem
    have big : bigS x.2 = true → (l.any fun x => bigS x.2) = true := fun h => List.any_eq_true.2 ⟨x, hmem, h⟩
    unfold bigS at big
    by_cases c1 : 120 < x.2.vals.length
    · rw [W_loop (L := l22_heavy_l1) rfl]
      simp (disch := first | assumption | omega | decide | (simp only [List.length_cons, List.length_nil, List.length_append, List.length_replicate, List.length_map, List.length_set, List.length_take, List.length_drop, strs_len, ints_len, bools_len, aggs_len, vpv_len]; done) | (simp only [List.length_cons, List.length_nil, List.length_append, List.length_replicate, List.length_map, List.length_set, List.length_take, List.length_drop, strs_len, ints_len, bools_len, aggs_len, vpv_len]; omega)) only [go_sem, hx, serC]
      exact h1 (big (by simp [c1]))
    · by_cases c2 : 300 < x.2.name.length
      · rw [W_loop (L := l22_heavy_l1) rfl]
        simp (disch := first | assumption | omega | decide | (simp only [List.length_cons, List.length_nil, List.length_append, List.length_replicate, List.length_map, List.length_set, List.length_take, List.length_drop, strs_len, ints_len, bools_len, aggs_len, vpv_len]; done) | (simp only [List.length_cons, List.length_nil, List.length_append, List.length_replicate, List.length_map, List.length_set, List.length_take, List.length_drop, strs_len, ints_len, bools_len, aggs_len, vpv_len]; omega)) only [go_sem, hx, serC]
        exact h1 (big (by simp [c2]))
      · rw [W_loop (L := l22_heavy_l1) rfl]
        simp (disch := first | assumption | omega | decide | (simp only [List.length_cons, List.length_nil, List.length_append, List.length_replicate, List.length_map, List.length_set, List.length_take, List.length_drop, strs_len, ints_len, bools_len, aggs_len, vpv_len]; done) | (simp only [List.length_cons, List.length_nil, List.length_append, List.length_replicate, List.length_map, List.length_set, List.length_take, List.length_drop, strs_len, ints_len, bools_len, aggs_len, vpv_len]; omega)) only [go_sem, hx, serC]
        refine ih ?_ (by omega)
        simp only [List.any_cons, List.any_nil, Bool.or_false, Bool.false_or, bigS]
        simp [c1, c2]
theorem res_heavy22 {k1 : SK} (l : List (SK × Ser)) (hl : l.length ≤ 9223372036854775807) (hv : ∀ x ∈ l, x.2.vals.length ≤ 9223372036854775807) : res Γ 218 [.sl k1 5 (sers l)] = some [.bool (heavyJ l)] := by
  unfold heavyJ
  by_cases h : 20 < l.length
  · rw [decide_eq_true h]
    refine res_code (fn := l22_heavy) rfl rfl ?_
    simp (disch := first | assumption | omega | decide | (simp only [List.length_cons, List.length_nil, List.length_append, List.length_replicate, List.length_map, List.length_set, List.length_take, List.length_drop, strs_len, ints_len, bools_len, aggs_len, vpv_len]; done) | (simp only [List.length_cons, List.length_nil, List.length_append, List.length_replicate, List.length_map, List.length_set, List.length_take, List.length_drop, strs_len, ints_len, bools_len, aggs_len, vpv_len]; omega)) only [go_sem, l22_heavy]
  · rw [decide_eq_false h]
    refine res_code (fn := l22_heavy) rfl rfl ?_
    simp (disch := first | assumption | omega | decide | (simp only [List.length_cons, List.length_nil, List.length_append, List.length_replicate, List.length_map, List.length_set, List.length_take, List.length_drop, strs_len, ints_len, bools_len, aggs_len, vpv_len]; done) | (simp only [List.length_cons, List.length_nil, List.length_append, List.length_replicate, List.length_map, List.length_set, List.length_take, List.length_drop, strs_len, ints_len, bools_len, aggs_len, vpv_len]; omega)) only [go_sem, l22_heavy]
    refine heavy_l1_ok l (by omega) hv _ (fun ha => ?_) (fun ha => ?_) l.length 0 (by omega) rfl (by simp [sumLen])
    · rw [ha]
      simp (disch := first | assumption | omega | decide | (simp only [List.length_cons, List.length_nil, List.length_append, List.length_replicate, List.length_map, List.length_set, List.length_take, List.length_drop, strs_len, ints_len, bools_len, aggs_len, vpv_len]; done) | (simp only [List.length_cons, List.length_nil, List.length_append, List.length_replicate, List.length_map, List.length_set, List.length_take, List.length_drop, strs_len, ints_len, bools_len, aggs_len, vpv_len]; omega)) only [go_sem]
    · rw [ha]
      simp (disch := first | assumption | omega | decide | (simp only [List.length_cons, List.length_nil, List.length_append, List.length_replicate, List.length_map, List.length_set, List.length_take, List.length_drop, strs_len, ints_len, bools_len, aggs_len, vpv_len]; done) | (simp only [List.length_cons, List.length_nil, List.length_append, List.length_replicate, List.length_map, List.length_set, List.length_take, List.length_drop, strs_len, ints_len, bools_len, aggs_len, vpv_len]; omega)) only [go_sem]
      have : decide ((400 : Int) < ((sumLen l : Nat) : Int)) = decide (400 < sumLen l) := by rw [decide_eq_decide]; omega
      rw [this]
def longJ (l : List (SK × Ser)) : Bool := decide (errJ (sersOf l) = 0) && decide (l ≠ []) && decide (500 < nJ l)
theorem res_long22 {k1 : SK} (l : List (SK × Ser)) (hl : l.length ≤ 1000000) (hv : ∀ x ∈ l, x.2.vals.length ≤ 1000000) : res Γ 219 [.sl k1 5 (sers l)] = some [.bool (longJ l)] := by
  have eJ := res_r18Join (kk := k1) l hl hv
  unfold joinR at eJ
  unfold longJ
  by_cases he : errJ (sersOf l) = 0
  · rw [if_pos he] at eJ
    rw [decide_eq_true he]
    by_cases h0 : l = []
    · subst h0
      have eJ : res Γ 231 [.sl k1 5 []] = some [.sl .nil 5 [], .int .i64 0] := eJ
      rw [sers_nil]
      refine res_code (fn := l22_long) rfl rfl ?_
      simp (disch := first | assumption | omega | decide | (simp only [List.length_cons, List.length_nil, List.length_append, List.length_replicate, List.length_map, List.length_set, List.length_take, List.length_drop, strs_len, ints_len, bools_len, aggs_len, vpv_len]; done) | (simp only [List.length_cons, List.length_nil, List.length_append, List.length_replicate, List.length_map, List.length_set, List.length_take, List.length_drop, strs_len, ints_len, bools_len, aggs_len, vpv_len]; omega)) only [go_sem, l22_long, eJ]
      try rfl
    · rw [if_neg h0, joinJ_eq] at eJ
      have hpos : 0 < l.length := List.length_pos_iff.2 h0
      have hjl := @joinW_len l (begJ (sersOf l)) (stepJ (sersOf l)) (manyJ (sersOf l)).toNat
      have hjg := joinW_get (b := begJ (sersOf l)) (st := stepJ (sersOf l)) (n := (manyJ (sersOf l)).toNat) hpos
      have hml : ((joinW l (begJ (sersOf l)) (stepJ (sersOf l)) (manyJ (sersOf l)).toNat).getD 0 noSer).2.vals.length = nJ l := by rw [hjg]; exact fitV_len
      rw [decide_eq_true (show l ≠ [] from h0)]
      obtain ⟨x, hx⟩ : ∃ x, (joinW l (begJ (sersOf l)) (stepJ (sersOf l)) (manyJ (sersOf l)).toNat).getD 0 noSer = x := ⟨_, rfl⟩
      rw [hx] at hml
      generalize joinW l (begJ (sersOf l)) (stepJ (sersOf l)) (manyJ (sersOf l)).toNat = m at *
      refine res_code (fn := l22_long) rfl rfl ?_
      simp (disch := first | assumption | omega | decide | (simp only [List.length_cons, List.length_nil, List.length_append, List.length_replicate, List.length_map, List.length_set, List.length_take, List.length_drop, strs_len, ints_len, bools_len, aggs_len, vpv_len]; done) | (simp only [List.length_cons, List.length_nil, List.length_append, List.length_replicate, List.length_map, List.length_set, List.length_take, List.length_drop, strs_len, ints_len, bools_len, aggs_len, vpv_len]; omega)) only [go_sem, l22_long, eJ, hx, serC, hml]
      rw [show decide ((500 : Int) < ((nJ l : Nat) : Int)) = decide (500 < nJ l) by rw [decide_eq_decide]; omega]
  · rw [if_neg he] at eJ
    rw [decide_eq_false he]
    refine res_code (fn := l22_long) rfl rfl ?_
    simp (disch := first | assumption | omega | decide | (simp only [List.length_cons, List.length_nil, List.length_append, List.length_replicate, List.length_map, List.length_set, List.length_take, List.length_drop, strs_len, ints_len, bools_len, aggs_len, vpv_len]; done) | (simp only [List.length_cons, List.length_nil, List.length_append, List.length_replicate, List.length_map, List.length_set, List.length_take, List.length_drop, strs_len, ints_len, bools_len, aggs_len, vpv_len]; omega)) only [go_sem, l22_long, eJ]
end Ab
namespace Ab
open Go (IntKind BinOp UnOp)
end Ab
namespace Ab
theorem maxV_spec : ∀ (k : List Val) (b : Val), (∀ v ∈ b :: k, v.1 = true) → maxV b k ∈ b :: k ∧ ∀ v ∈ b :: k, v.2 ≤ (maxV b k).2
  | [], b, _ => ⟨by simp [maxV], by simp [maxV]⟩
  | v :: k, b, h => by
    unfold maxV
    rw [List.foldl_cons]
    split
    · rename_i hlt
      obtain ⟨h1, h2⟩ := maxV_spec k v fun x hx => h x (by simp only [List.mem_cons] at hx ⊢; exact .inr hx)
      refine ⟨List.mem_cons_of_mem _ h1, fun x hx => ?_⟩
      rcases List.mem_cons.1 hx with rfl | hx
      · have := h2 v (by simp)
        show x.2 ≤ (maxV v k).2
        omega
      · exact h2 x hx
    · rename_i hge
      obtain ⟨h1, h2⟩ := maxV_spec k b fun x hx => h x (by simp only [List.mem_cons] at hx ⊢; rcases hx with h | h; exact .inl h; exact .inr (.inr h))
      refine ⟨?_, fun x hx => ?_⟩
      · rcases List.mem_cons.1 h1 with h | h
        · show maxV b k ∈ _
          rw [h]; simp
        · exact List.mem_cons_of_mem _ (List.mem_cons_of_mem _ h)
      · rcases List.mem_cons.1 hx with rfl | hx
        · exact h2 x (by simp)
        · rcases List.mem_cons.1 hx with rfl | hx
          · have := h2 b (by simp)
            show x.2 ≤ (maxV b k).2
            omega
          · exact h2 x (by simp [hx])
theorem minV_spec : ∀ (k : List Val) (b : Val), (∀ v ∈ b :: k, v.1 = true) → minV b k ∈ b :: k ∧ ∀ v ∈ b :: k, (minV b k).2 ≤ v.2
  | [], b, _ => ⟨by simp [minV], by simp [minV]⟩
  | v :: k, b, h => by
    unfold minV
    rw [List.foldl_cons]
    split
    · rename_i hlt
      obtain ⟨h1, h2⟩ := minV_spec k v fun x hx => h x (by simp only [List.mem_cons] at hx ⊢; exact .inr hx)
      refine ⟨List.mem_cons_of_mem _ h1, fun x hx => ?_⟩
      rcases List.mem_cons.1 hx with rfl | hx
      · have := h2 v (by simp)
        show (minV v k).2 ≤ x.2
        omega
      · exact h2 x hx
    · rename_i hge
      obtain ⟨h1, h2⟩ := minV_spec k b fun x hx => h x (by simp only [List.mem_cons] at hx ⊢; rcases hx with h | h; exact .inl h; exact .inr (.inr h))
      refine ⟨?_, fun x hx => ?_⟩
      · rcases List.mem_cons.1 h1 with h | h
        · show minV b k ∈ _
          rw [h]; simp
        · exact List.mem_cons_of_mem _ (List.mem_cons_of_mem _ h)
      · rcases List.mem_cons.1 hx with rfl | hx
        · exact h2 x (by simp)
        · rcases List.mem_cons.1 hx with rfl | hx
          · have := h2 b (by simp)
            show (minV b k).2 ≤ x.2
            omega
          · exact h2 x (by simp [hx])
end Ab
namespace Ab
open Go (IntKind BinOp UnOp)
theorem res_r1LessP (a b : Val) : res Γ 211 [.agg [.bool a.1, .int .i64 a.2], .agg [.bool b.1, .int .i64 b.2]] = some [.bool (lessV a b)] := by
  obtain ⟨x, n⟩ := a
  obtain ⟨y, m⟩ := b
  unfold lessV
  refine res_code (fn := r1_Less) rfl rfl ?_
  cases h : knV (x, n)
  · simp (disch := first | assumption | omega | decide | (simp only [List.length_cons, List.length_nil, List.length_append, List.length_replicate, List.length_map, List.length_set, List.length_take, List.length_drop, strs_len, ints_len, bools_len, aggs_len, vpv_len]; done) | (simp only [List.length_cons, List.length_nil, List.length_append, List.length_replicate, List.length_map, List.length_set, List.length_take, List.length_drop, strs_len, ints_len, bools_len, aggs_len, vpv_len]; omega)) only [go_sem, r1_Less, h]
  · cases h' : knV (y, m)
    · simp (disch := first | assumption | omega | decide | (simp only [List.length_cons, List.length_nil, List.length_append, List.length_replicate, List.length_map, List.length_set, List.length_take, List.length_drop, strs_len, ints_len, bools_len, aggs_len, vpv_len]; done) | (simp only [List.length_cons, List.length_nil, List.length_append, List.length_replicate, List.length_map, List.length_set, List.length_take, List.length_drop, strs_len, ints_len, bools_len, aggs_len, vpv_len]; omega)) only [go_sem, r1_Less, h, h']
    · simp (disch := first | assumption | omega | decide | (simp only [List.length_cons, List.length_nil, List.length_append, List.length_replicate, List.length_map, List.length_set, List.length_take, List.length_drop, strs_len, ints_len, bools_len, aggs_len, vpv_len]; done) | (simp only [List.length_cons, List.length_nil, List.length_append, List.length_replicate, List.length_map, List.length_set, List.length_take, List.length_drop, strs_len, ints_len, bools_len, aggs_len, vpv_len]; omega)) only [go_sem, r1_Less, h, h']
theorem res_r1LessJ (a b : Val) : res Γ 211 [.agg [.bool a.1, .int .i64 a.2], .agg [.bool b.1, .int .i64 b.2]] = some [.bool (lessV a b)] := res_r1LessP a b
theorem round_nat {n s : Nat} {lo hi : Int} (hn : 0 < n) (h1 : (n : Int) * lo ≤ s) (h2 : (s : Int) ≤ n * hi) : lo ≤ ((if n - s % n ≤ s % n then s / n + 1 else s / n : Nat) : Int) ∧ ((if n - s % n ≤ s % n then s / n + 1 else s / n : Nat) : Int) ≤ hi := by
  have hd : (n : Int) * ((s / n : Nat) : Int) + ((s % n : Nat) : Int) = (s : Int) := by
    have := Nat.div_add_mod s n
    have h3 : ((n * (s / n) + s % n : Nat) : Int) = (s : Int) := by rw [this]
    rw [Int.natCast_add, Int.natCast_mul] at h3
    exact h3
  have hr : s % n < n := Nat.mod_lt _ hn
  generalize s / n = q at *
  generalize s % n = r at *
  have e1 : (n : Int) * ((q : Int) + 1) = (n : Int) * (q : Int) + n := by rw [Int.mul_add, Int.mul_one]
  have lo1 : lo < (q : Int) + 1 := by
    have : (n : Int) * lo < (n : Int) * ((q : Int) + 1) := by omega
    exact Int.lt_of_mul_lt_mul_left this (by omega)
  have hi1 : (q : Int) < hi + 1 := by
    have e2 : (n : Int) * (hi + 1) = (n : Int) * hi + n := by rw [Int.mul_add, Int.mul_one]
    have : (n : Int) * (q : Int) < (n : Int) * (hi + 1) := by omega
    exact Int.lt_of_mul_lt_mul_left this (by omega)
  by_cases h : n - r ≤ r
  · rw [if_pos h]
    have hi2 : (q : Int) < hi := by
      have : (n : Int) * (q : Int) < (n : Int) * hi := by omega
      exact Int.lt_of_mul_lt_mul_left this (by omega)
    omega
  · rw [if_neg h]
    omega
theorem mdV_between {S : Int} {n : Nat} {lo hi : Int} (hn : 0 < n) (h1 : (n : Int) * lo ≤ S) (h2 : S ≤ n * hi) {x : Int} (hx : mdV S 1000000 ((n : Int) * 1000000) = some x) : lo ≤ x ∧ x ≤ hi := by
  unfold mdV at hx
  have hc : ((n : Int) * 1000000).natAbs = n * 1000000 := by omega
  have h10 : (1000000 : Int).natAbs = 1000000 := rfl
  rw [if_neg (by omega)] at hx
  have q1 : S.natAbs * 1000000 / (n * 1000000) = S.natAbs / n := Nat.mul_div_mul_right _ _ (by omega)
  have q2 : S.natAbs * 1000000 % (n * 1000000) = S.natAbs % n * 1000000 := Nat.mul_mod_mul_right _ _ _
  simp only [hc, h10, q1, q2] at hx
  have hiff : (n * 1000000 - S.natAbs % n * 1000000 ≤ S.natAbs % n * 1000000) ↔ (n - S.natAbs % n ≤ S.natAbs % n) := by omega
  have eif : (if n * 1000000 - S.natAbs % n * 1000000 ≤ S.natAbs % n * 1000000 then S.natAbs / n + 1 else S.natAbs / n) = (if n - S.natAbs % n ≤ S.natAbs % n then S.natAbs / n + 1 else S.natAbs / n) := by
    by_cases h : n - S.natAbs % n ≤ S.natAbs % n
    · rw [if_pos h, if_pos (hiff.2 h)]
    · rw [if_neg h, if_neg (fun h' => h (hiff.1 h'))]
  rw [eif] at hx
  have e1 : (decide ((1000000 : Int) < 0)) = false := by decide
  have e2 : (decide ((n : Int) * 1000000 < 0)) = false := decide_eq_false (by omega)
  rw [e1, e2] at hx
  by_cases hneg : S < 0
  · have hR := round_nat (n := n) (s := S.natAbs) (lo := -hi) (hi := -lo) hn (by rw [Int.mul_neg]; omega) (by rw [Int.mul_neg]; omega)
    rw [decide_eq_true hneg] at hx
    generalize (if n - S.natAbs % n ≤ S.natAbs % n then S.natAbs / n + 1 else S.natAbs / n) = q at hx hR
    split at hx
    · simp at hx
      omega
    · cases hx
  · have hR := round_nat (n := n) (s := S.natAbs) (lo := lo) (hi := hi) hn (by omega) (by omega)
    rw [decide_eq_false hneg] at hx
    generalize (if n - S.natAbs % n ≤ S.natAbs % n then S.natAbs / n + 1 else S.natAbs / n) = q at hx hR
    split at hx
    · simp at hx
      omega
    · cases hx
theorem add_two : ∀ (l : List Val) (a : Int), (∀ v ∈ l, knV v = true) → (-maxN ≤ a ∧ a ≤ maxN) → l.foldl sumV (true, a) = noV ∨ l.foldl sumV (true, a) = (true, a + (l.map (·.2)).sum)
  | [], a, _, _ => .inr (by simp)
  | v :: l, a, hk, ha => by
    have hv := hk v (by simp)
    have es : sumV (true, a) v = ofV (a + v.2) := by
      unfold sumV
      rw [if_pos ⟨knV_iff.2 ⟨rfl, ha⟩, hv⟩]
    rw [List.foldl_cons, es]
    unfold ofV
    by_cases h : -maxN ≤ a + v.2 ∧ a + v.2 ≤ maxN
    · rw [if_pos h]
      rcases add_two l (a + v.2) (fun x hx => hk x (by simp [hx])) h with h | h
      · exact .inl h
      · refine .inr ?_
        rw [h, List.map_cons, List.sum_cons, Int.add_assoc]
    · rw [if_neg h]
      refine .inl ?_
      have : ∀ l : List Val, l.foldl sumV noV = noV := by
        intro l
        induction l with
        | nil => rfl
        | cons x l ih =>
          have : sumV noV x = noV := rfl
          rw [List.foldl_cons, this, ih]
      exact this l
theorem sum_between {l : List Val} {lo hi : Int} (h : ∀ v ∈ l, lo ≤ v.2 ∧ v.2 ≤ hi) : (l.length : Int) * lo ≤ (l.map (·.2)).sum ∧ (l.map (·.2)).sum ≤ l.length * hi := by
  induction l with
  | nil => simp
  | cons v l ih =>
    have ih := ih fun x hx => h x (by simp [hx])
    have hv := h v (by simp)
    have e : ∀ c : Int, (((v :: l).length : Nat) : Int) * c = (l.length : Int) * c + c := fun c => by rw [List.length_cons, Int.natCast_add, Int.add_mul]; simp
    rw [e, e, List.map_cons, List.sum_cons]
    omega
theorem mean_between {l : List Val} (hl : l.length ≤ 1000000) : lessV (aggV 1 l) (aggV 5 l) = false ∧ lessV (aggV 4 l) (aggV 1 l) = false := by
  have none1 : ∀ x, lessV noV x = false := fun x => rfl
  have none2 : ∀ x, lessV x noV = false := fun x => by unfold lessV; rw [show knV noV = false from rfl, Bool.and_false, Bool.false_and]
  cases hk : knL l with
  | nil =>
    have e : ∀ c, aggV c l = noV := fun c => by unfold aggV; rw [hk]
    rw [e, e, e]
    exact ⟨none1 _, none1 _⟩
  | cons b k =>
    have hkn : ∀ v ∈ b :: k, knV v = true := fun v hv => knL_mem (l := l) (by rw [hk]; exact hv)
    have h1 : ∀ v ∈ b :: k, v.1 = true := fun v hv => (knV_iff.1 (hkn v hv)).1
    have hlen : (b :: k).length ≤ 1000000 := by rw [← hk]; have := knL_len l; omega
    have e1 : aggV 1 l = divV (addV (b :: k)) (intV ((b :: k).length : Nat)) := agg1_cons hk
    have e4 : aggV 4 l = maxV b k := by unfold aggV; rw [hk]; rfl
    have e5 : aggV 5 l = minV b k := by unfold aggV; rw [hk]; rfl
    obtain ⟨m1, m2⟩ := maxV_spec k b h1
    obtain ⟨n1, n2⟩ := minV_spec k b h1
    rw [e1, e4, e5]
    have e0 : ofV 0 = (true, 0) := by decide
    have ea : addV (b :: k) = noV ∨ addV (b :: k) = (true, ((b :: k).map (·.2)).sum) := by
      unfold addV
      rw [e0]
      have := add_two (b :: k) 0 hkn (by unfold maxN; omega)
      rwa [Int.zero_add] at this
    rcases ea with ea | ea
    · rw [ea, divV_no1 rfl]
      exact ⟨none1 _, none2 _⟩
    · rw [ea, intV_small (by omega)]
      have ek : knV (true, (((b :: k).length : Nat) : Int) * 1000000) = true := knV_iff.2 ⟨rfl, by show -maxN ≤ (((b :: k).length : Nat) : Int) * 1000000 ∧ (((b :: k).length : Nat) : Int) * 1000000 ≤ maxN; unfold maxN; omega⟩
      cases hs : knV (true, ((b :: k).map (·.2)).sum)
      · rw [divV_no1 hs]
        exact ⟨none1 _, none2 _⟩
      · rw [divV_yes hs ek]
        have sb := sum_between (l := b :: k) (lo := (minV b k).2) (hi := (maxV b k).2) fun v hv => ⟨n2 v hv, m2 v hv⟩
        show lessV (valV (mdV ((b :: k).map (·.2)).sum 1000000 ((((b :: k).length : Nat) : Int) * 1000000))) _ = false ∧ lessV _ (valV (mdV ((b :: k).map (·.2)).sum 1000000 ((((b :: k).length : Nat) : Int) * 1000000))) = false
        cases hx : mdV ((b :: k).map (·.2)).sum 1000000 ((((b :: k).length : Nat) : Int) * 1000000) with
        | none => exact ⟨none1 _, none2 _⟩
        | some x =>
          obtain ⟨g1, g2⟩ := mdV_between (by simp) sb.1 sb.2 hx
          show lessV (ofV x) _ = false ∧ lessV _ (ofV x) = false
          unfold ofV
          split
          · unfold lessV
            rw [decide_eq_false (show ¬ ((true, x) : Val).2 < (minV b k).2 by show ¬ x < _; omega), decide_eq_false (show ¬ (maxV b k).2 < ((true, x) : Val).2 by show ¬ _ < x; omega)]
            simp
          · exact ⟨none1 _, none2 _⟩
theorem Between_l1_ok {k1 k2 k3 : SK} (A B C : Ser) (n : Nat) (hn : n ≤ 1000000) (ha : A.vals.length = n) (hb : B.vals.length = n) (hc : C.vals.length = n) (hl : ∀ i, i < n → lessV (B.vals.getD i (false, 0)) (A.vals.getD i (false, 0)) = false ∧ lessV (C.vals.getD i (false, 0)) (B.vals.getD i (false, 0)) = false) (Q : Out → Prop)
    (hQ : Q (.nrm, [(3, .p (.sl .tight 5 (sers [(k1, A)]))), (5, .p (.sl .tight 5 (sers [(k2, B)]))), (7, .p (.sl .tight 5 (sers [(k3, C)]))), (9, .p (.int .i64 0))], [])) : ∀ (m i : Nat), i + m = n →
    Wp Γ l22_FjoinBetween_l1 [(3, .p (.sl .tight 5 (sers [(k1, A)]))), (5, .p (.sl .tight 5 (sers [(k2, B)]))), (7, .p (.sl .tight 5 (sers [(k3, C)]))), (9, .p (.int .i64 0)), (10, .p (.int .i64 (i : Int)))] [] (InBlk [3, 5, 7, 9] 2 Q) := by
  have g1 : [(k1, A)].getD 0 noSer = (k1, A) := rfl
  have g2 : [(k2, B)].getD 0 noSer = (k2, B) := rfl
  have g3 : [(k3, C)].getD 0 noSer = (k3, C) := rfl
  have l1 : [(k1, A)].length = 1 := rfl
  have l2 : [(k2, B)].length = 1 := rfl
  have l3 : [(k3, C)].length = 1 := rfl
  generalize [(k1, A)] = X at *
  generalize [(k2, B)] = Y at *
  generalize [(k3, C)] = Z at *
  intro m
  induction m with
  | zero =>
    intro i hi
    obtain rfl : i = n := by omega
    rw [W_loop (L := l22_FjoinBetween_l1) rfl]
    simp (disch := first | assumption | omega | decide | (simp only [List.length_cons, List.length_nil, List.length_append, List.length_replicate, List.length_map, List.length_set, List.length_take, List.length_drop, strs_len, ints_len, bools_len, aggs_len, vpv_len]; done) | (simp only [List.length_cons, List.length_nil, List.length_append, List.length_replicate, List.length_map, List.length_set, List.length_take, List.length_drop, strs_len, ints_len, bools_len, aggs_len, vpv_len]; omega)) only [go_sem, g1, serC, ha]
    exact hQ
  | succ m ih =>
    intro i hi
    obtain ⟨c1, c2⟩ := hl i (by omega)
    have e1 := res_r1LessJ (B.vals.getD i (false, 0)) (A.vals.getD i (false, 0))
    have e2 := res_r1LessJ (C.vals.getD i (false, 0)) (B.vals.getD i (false, 0))
    rw [c1] at e1
    rw [c2] at e2
    rw [W_loop (L := l22_FjoinBetween_l1) rfl]
    simp (disch := first | assumption | omega | decide | (simp only [List.length_cons, List.length_nil, List.length_append, List.length_replicate, List.length_map, List.length_set, List.length_take, List.length_drop, strs_len, ints_len, bools_len, aggs_len, vpv_len]; done) | (simp only [List.length_cons, List.length_nil, List.length_append, List.length_replicate, List.length_map, List.length_set, List.length_take, List.length_drop, strs_len, ints_len, bools_len, aggs_len, vpv_len]; omega)) only [go_sem, g1, g2, g3, serC, ha, valP, e1, e2]
    exact ih (i + 1) (by omega)
theorem res_FjoinBetweenA {k : SK} (l : List (SK × Ser)) (hl : l.length ≤ Go.maxLen) (hs : ∀ x ∈ l, Ser.Ok x.1 x.2) : res Γ 291 [.sl k 5 (sers l)] = some [.bool true] := by
  have hk := res_known22
  have hl : l.length ≤ 9223372036854775807 := hl
  have h1 := res_heavy22 (k1 := k) l hl (fun x hx => (hs x hx).len)
  cases hh : heavyJ l
  · rw [hh] at h1
    obtain ⟨g1, g2⟩ := heavyJ_no hh
    have gv : ∀ x ∈ l, x.2.vals.length ≤ 1000000 := fun x hx => by have := (g2 x hx).1; omega
    have gn : ∀ x ∈ l, x.2.name.length ≤ 4096 := fun x hx => by have := (g2 x hx).2; omega
    have h2 := res_long22 (k1 := k) l (by omega) gv
    cases hlo : longJ l
    · rw [hlo] at h2
      have a1 := res_Apply (kk := k) jMin (by decide) noV 0 l (by omega) gv gn
      have a2 := res_Apply (kk := k) jAvg (by decide) noV 0 l (by omega) gv gn
      have a3 := res_Apply (kk := k) jMax (by decide) noV 0 l (by omega) gv gn
      unfold applyR at a1 a2 a3
      rw [if_neg (by decide)] at a1 a2 a3
      have u1 : jMin = [109, 105, 110, 83, 101, 114, 105, 101, 115] := rfl
      have u2 : jAvg = [97, 118, 101, 114, 97, 103, 101, 83, 101, 114, 105, 101, 115] := rfl
      have u3 : jMax = [109, 97, 120, 83, 101, 114, 105, 101, 115] := rfl
      by_cases he : errJ (sersOf l) ≠ 0
      · rw [if_pos he] at a1 a2 a3
        unfold jMin noV at a1
        unfold jAvg noV at a2
        unfold jMax noV at a3
        refine res_code (fn := l22_FjoinBetween) rfl rfl ?_
        simp (disch := first | assumption | omega | decide | (simp only [List.length_cons, List.length_nil, List.length_append, List.length_replicate, List.length_map, List.length_set, List.length_take, List.length_drop, strs_len, ints_len, bools_len, aggs_len, vpv_len]; done) | (simp only [List.length_cons, List.length_nil, List.length_append, List.length_replicate, List.length_map, List.length_set, List.length_take, List.length_drop, strs_len, ints_len, bools_len, aggs_len, vpv_len]; omega)) only [go_sem, l22_FjoinBetween, h1, h2, a1, a2, a3, ne_eq, not_true_eq_false]
        rw [W_loop (L := l22_FjoinBetween_l2) rfl]
        simp (disch := first | assumption | omega | decide | (simp only [List.length_cons, List.length_nil, List.length_append, List.length_replicate, List.length_map, List.length_set, List.length_take, List.length_drop, strs_len, ints_len, bools_len, aggs_len, vpv_len]; done) | (simp only [List.length_cons, List.length_nil, List.length_append, List.length_replicate, List.length_map, List.length_set, List.length_take, List.length_drop, strs_len, ints_len, bools_len, aggs_len, vpv_len]; omega)) only [go_sem, hk]
      · rw [if_neg he] at a1 a2 a3
        by_cases h0 : l = []
        · rw [if_pos h0] at a1 a2 a3
          unfold jMin noV at a1
          unfold jAvg noV at a2
          unfold jMax noV at a3
          refine res_code (fn := l22_FjoinBetween) rfl rfl ?_
          simp (disch := first | assumption | omega | decide | (simp only [List.length_cons, List.length_nil, List.length_append, List.length_replicate, List.length_map, List.length_set, List.length_take, List.length_drop, strs_len, ints_len, bools_len, aggs_len, vpv_len]; done) | (simp only [List.length_cons, List.length_nil, List.length_append, List.length_replicate, List.length_map, List.length_set, List.length_take, List.length_drop, strs_len, ints_len, bools_len, aggs_len, vpv_len]; omega)) only [go_sem, l22_FjoinBetween, h1, h2, a1, a2, a3, ne_eq, not_true_eq_false]
          rw [W_loop (L := l22_FjoinBetween_l2) rfl]
          simp (disch := first | assumption | omega | decide | (simp only [List.length_cons, List.length_nil, List.length_append, List.length_replicate, List.length_map, List.length_set, List.length_take, List.length_drop, strs_len, ints_len, bools_len, aggs_len, vpv_len]; done) | (simp only [List.length_cons, List.length_nil, List.length_append, List.length_replicate, List.length_map, List.length_set, List.length_take, List.length_drop, strs_len, ints_len, bools_len, aggs_len, vpv_len]; omega)) only [go_sem, hk]
        · rw [if_neg h0] at a1 a2 a3
          have hn1 := nJ_le (by omega) h0
          have key : ∀ i, i < nJ l → lessV ((colsV jAvg noV 0 (joinW l (bJ l) (sJ l) (nJ l)) (nJ l)).getD i (false, 0)) ((colsV jMin noV 0 (joinW l (bJ l) (sJ l) (nJ l)) (nJ l)).getD i (false, 0)) = false ∧
              lessV ((colsV jMax noV 0 (joinW l (bJ l) (sJ l) (nJ l)) (nJ l)).getD i (false, 0)) ((colsV jAvg noV 0 (joinW l (bJ l) (sJ l) (nJ l)) (nJ l)).getD i (false, 0)) = false := by
            intro i hi
            have cg : ∀ nm : List UInt8, (colsV nm noV 0 (joinW l (bJ l) (sJ l) (nJ l)) (nJ l)).getD i (false, 0) = placeV nm noV 0 (knL (atV (joinW l (bJ l) (sJ l) (nJ l)) i)) := fun nm => by
              unfold colsV
              rw [List.getD_eq_getElem?_getD, List.getElem?_map, List.getElem?_range hi]
              rfl
            rw [cg, cg, cg]
            have p1 : ∀ x, placeV jAvg noV 0 x = aggV 1 x := fun x => by unfold placeV; rw [if_neg (by decide), if_pos rfl]
            have p2 : ∀ x, placeV jMin noV 0 x = aggV 5 x := fun x => by unfold placeV; rw [if_neg (by decide), if_neg (by decide), if_pos rfl]
            have p3 : ∀ x, placeV jMax noV 0 x = aggV 4 x := fun x => by unfold placeV; rw [if_neg (by decide), if_neg (by decide), if_neg (by decide), if_pos rfl]
            rw [p1, p2, p3]
            refine mean_between ?_
            have := knL_len (atV (joinW l (bJ l) (sJ l) (nJ l)) i)
            rw [atV_len, joinW_len] at this
            omega
          have L := fun k1 k2 k3 la lb lc Q => Between_l1_ok (k1 := k1) (k2 := k2) (k3 := k3) (Ser.mk la (bJ l) (sJ l) (colsV jMin noV 0 (joinW l (bJ l) (sJ l) (nJ l)) (nJ l)) 0) (Ser.mk lb (bJ l) (sJ l) (colsV jAvg noV 0 (joinW l (bJ l) (sJ l) (nJ l)) (nJ l)) 0) (Ser.mk lc (bJ l) (sJ l) (colsV jMax noV 0 (joinW l (bJ l) (sJ l) (nJ l)) (nJ l)) 0) (nJ l) (by omega) colsV_len colsV_len colsV_len key Q
          have v1 : (colsV jMin noV 0 (joinW l (bJ l) (sJ l) (nJ l)) (nJ l)).length = nJ l := colsV_len
          have v2 : (colsV jAvg noV 0 (joinW l (bJ l) (sJ l) (nJ l)) (nJ l)).length = nJ l := colsV_len
          have v3 : (colsV jMax noV 0 (joinW l (bJ l) (sJ l) (nJ l)) (nJ l)).length = nJ l := colsV_len
          clear key
          generalize colsV jMin noV 0 (joinW l (bJ l) (sJ l) (nJ l)) (nJ l) = V1 at *
          generalize colsV jAvg noV 0 (joinW l (bJ l) (sJ l) (nJ l)) (nJ l) = V2 at *
          generalize colsV jMax noV 0 (joinW l (bJ l) (sJ l) (nJ l)) (nJ l) = V3 at *
          generalize labelL jMin _ = la at *
          generalize labelL jAvg _ = lb at *
          generalize labelL jMax _ = lc at *
          generalize fitK (nJ l) = K at *
          have L := L K K K la lb lc
          unfold jMin noV at a1
          unfold jAvg noV at a2
          unfold jMax noV at a3
          have s1 : [(Ser.mk la (bJ l) (sJ l) V1 0).pv K] = sers [(K, Ser.mk la (bJ l) (sJ l) V1 0)] := rfl
          have s2 : [(Ser.mk lb (bJ l) (sJ l) V2 0).pv K] = sers [(K, Ser.mk lb (bJ l) (sJ l) V2 0)] := rfl
          have s3 : [(Ser.mk lc (bJ l) (sJ l) V3 0).pv K] = sers [(K, Ser.mk lc (bJ l) (sJ l) V3 0)] := rfl
          rw [s1] at a1
          rw [s2] at a2
          rw [s3] at a3
          have q1 : [(K, Ser.mk la (bJ l) (sJ l) V1 0)].getD 0 noSer = (K, Ser.mk la (bJ l) (sJ l) V1 0) := rfl
          have q2 : [(K, Ser.mk lb (bJ l) (sJ l) V2 0)].getD 0 noSer = (K, Ser.mk lb (bJ l) (sJ l) V2 0) := rfl
          have q3 : [(K, Ser.mk lc (bJ l) (sJ l) V3 0)].getD 0 noSer = (K, Ser.mk lc (bJ l) (sJ l) V3 0) := rfl
          have t1 : [(K, Ser.mk la (bJ l) (sJ l) V1 0)].length = 1 := rfl
          have t2 : [(K, Ser.mk lb (bJ l) (sJ l) V2 0)].length = 1 := rfl
          have t3 : [(K, Ser.mk lc (bJ l) (sJ l) V3 0)].length = 1 := rfl
          generalize [(K, Ser.mk la (bJ l) (sJ l) V1 0)] = X at *
          generalize [(K, Ser.mk lb (bJ l) (sJ l) V2 0)] = Y at *
          generalize [(K, Ser.mk lc (bJ l) (sJ l) V3 0)] = Z at *
          refine res_code (fn := l22_FjoinBetween) rfl rfl ?_
          simp (disch := first | assumption | omega | decide | (simp only [List.length_cons, List.length_nil, List.length_append, List.length_replicate, List.length_map, List.length_set, List.length_take, List.length_drop, strs_len, ints_len, bools_len, aggs_len, vpv_len]; done) | (simp only [List.length_cons, List.length_nil, List.length_append, List.length_replicate, List.length_map, List.length_set, List.length_take, List.length_drop, strs_len, ints_len, bools_len, aggs_len, vpv_len]; omega)) only [go_sem, l22_FjoinBetween, h1, h2, a1, a2, a3, t1, t2, t3, ne_eq, not_true_eq_false]
          rw [W_loop (L := l22_FjoinBetween_l2) rfl]
          simp (disch := first | assumption | omega | decide | (simp only [List.length_cons, List.length_nil, List.length_append, List.length_replicate, List.length_map, List.length_set, List.length_take, List.length_drop, strs_len, ints_len, bools_len, aggs_len, vpv_len]; done) | (simp only [List.length_cons, List.length_nil, List.length_append, List.length_replicate, List.length_map, List.length_set, List.length_take, List.length_drop, strs_len, ints_len, bools_len, aggs_len, vpv_len]; omega)) only [go_sem, t1, q1, q2, q3, serC, v1, v2, v3, ne_eq, not_true_eq_false]
          refine L _ ?_ (nJ l) 0 (by omega)
          simp (disch := first | assumption | omega | decide | (simp only [List.length_cons, List.length_nil, List.length_append, List.length_replicate, List.length_map, List.length_set, List.length_take, List.length_drop, strs_len, ints_len, bools_len, aggs_len, vpv_len]; done) | (simp only [List.length_cons, List.length_nil, List.length_append, List.length_replicate, List.length_map, List.length_set, List.length_take, List.length_drop, strs_len, ints_len, bools_len, aggs_len, vpv_len]; omega)) only [go_sem]
          rw [W_loop (L := l22_FjoinBetween_l2) rfl]
          simp (disch := first | assumption | omega | decide | (simp only [List.length_cons, List.length_nil, List.length_append, List.length_replicate, List.length_map, List.length_set, List.length_take, List.length_drop, strs_len, ints_len, bools_len, aggs_len, vpv_len]; done) | (simp only [List.length_cons, List.length_nil, List.length_append, List.length_replicate, List.length_map, List.length_set, List.length_take, List.length_drop, strs_len, ints_len, bools_len, aggs_len, vpv_len]; omega)) only [go_sem, t1, hk]
    · rw [hlo] at h2
      refine res_code (fn := l22_FjoinBetween) rfl rfl ?_
      simp (disch := first | assumption | omega | decide | (simp only [List.length_cons, List.length_nil, List.length_append, List.length_replicate, List.length_map, List.length_set, List.length_take, List.length_drop, strs_len, ints_len, bools_len, aggs_len, vpv_len]; done) | (simp only [List.length_cons, List.length_nil, List.length_append, List.length_replicate, List.length_map, List.length_set, List.length_take, List.length_drop, strs_len, ints_len, bools_len, aggs_len, vpv_len]; omega)) only [go_sem, l22_FjoinBetween, h1, h2]
  · rw [hh] at h1
    refine res_code (fn := l22_FjoinBetween) rfl rfl ?_
    simp (disch := first | assumption | omega | decide | (simp only [List.length_cons, List.length_nil, List.length_append, List.length_replicate, List.length_map, List.length_set, List.length_take, List.length_drop, strs_len, ints_len, bools_len, aggs_len, vpv_len]; done) | (simp only [List.length_cons, List.length_nil, List.length_append, List.length_replicate, List.length_map, List.length_set, List.length_take, List.length_drop, strs_len, ints_len, bools_len, aggs_len, vpv_len]; omega)) only [go_sem, l22_FjoinBetween, h1]
end Ab
