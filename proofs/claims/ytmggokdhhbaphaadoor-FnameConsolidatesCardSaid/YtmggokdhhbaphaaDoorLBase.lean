/- The path in a series' name, and parts of it: packages fname and graticuleref24. -/
import Derived.Test.YtmggokdhhbaphaaDoorLFname
import Derived.Test.YtmggokdhhbaphaaDoorLAny2
namespace Ab
open Go (IntKind BinOp UnOp)
def delimB (c : UInt8) : Bool := List.contains [44, 41] c
def baseB (s : List UInt8) : List UInt8 :=
  let t := s.drop (lastB s 40 s.length + 1).toNat
  if 0 ≤ ixP (List.contains [44, 41]) t then t.take (ixP (List.contains [44, 41]) t).toNat else t
theorem baseB_len (s : List UInt8) : (baseB s).length ≤ s.length := by
  unfold baseB
  simp only
  split <;> simp <;> omega
@[go_sem] theorem res_fnameBase (s : List UInt8) (hs : s.length < 900000000) : res Γ 2 [.str s] = some [.str (baseB s)] := by
  have h1 := lastB_ge s 40 s.length
  have h2 := @ixP_range (List.contains [44, 41]) (s.drop (lastB s 40 s.length + 1).toNat)
  rw [List.length_drop] at h2
  have e := fun t (ht : List.length t < 1000000000) => res_IndexAny t [44, 41] ht (by decide) (by decide) (by decide)
  refine res_code (fn := fname_Base) rfl rfl ?_
  simp (disch := first | assumption | omega | (simp only [List.length_cons, List.length_nil, List.length_append, List.length_replicate, List.length_map, List.length_set, List.length_take, List.length_drop, strs_len, ints_len, bools_len, aggs_len]; done) | (simp only [List.length_cons, List.length_nil, List.length_append, List.length_replicate, List.length_map, List.length_set, List.length_take, List.length_drop, strs_len, ints_len, bools_len, aggs_len]; omega)) only [go_sem, fname_Base, e]
  refine cond_split (fun hc => ?_) (fun hc => ?_)
  · simp (disch := first | assumption | omega | (simp only [List.length_cons, List.length_nil, List.length_append, List.length_replicate, List.length_map, List.length_set, List.length_take, List.length_drop, strs_len, ints_len, bools_len, aggs_len]; done) | (simp only [List.length_cons, List.length_nil, List.length_append, List.length_replicate, List.length_map, List.length_set, List.length_take, List.length_drop, strs_len, ints_len, bools_len, aggs_len]; omega)) only [go_sem, baseB]
    rw [if_pos hc]
  · simp (disch := first | assumption | omega | (simp only [List.length_cons, List.length_nil, List.length_append, List.length_replicate, List.length_map, List.length_set, List.length_take, List.length_drop, strs_len, ints_len, bools_len, aggs_len]; done) | (simp only [List.length_cons, List.length_nil, List.length_append, List.length_replicate, List.length_map, List.length_set, List.length_take, List.length_drop, strs_len, ints_len, bools_len, aggs_len]; omega)) only [go_sem, baseB]
    rw [if_neg hc]
theorem byt_eq {s : List UInt8} {i : Nat} (b : UInt8) : byt s i = (b.toNat : Int) ↔ s.getD i 0 = b := by
  unfold byt
  exact ⟨fun h => UInt8.toNat_inj.1 (by omega), fun h => by rw [h]⟩
theorem r24_Base_l2_ok (s : List UInt8) (hs : s.length < 900000000) (Q : Out → Prop) : ∀ (k i : Nat), i + k = s.length →
    (Q (.nrm, [(0, .p (.str s)), (3, .p (.int .i64 (lastB s 40 s.length + 1)))], [])) →
    Wp Γ r24_Base_l2 [(0, .p (.str s)), (3, .p (.int .i64 (lastB s 40 i + 1))), (4, .p (.int .i64 (i : Int)))] [] (InBlk [0, 3] 0 Q) := by
  intro k
  induction k with
  | zero =>
    intro i hi hQ
    obtain rfl : i = s.length := by omega
    rw [W_loop (L := r24_Base_l2) rfl]
    simp (disch := first | assumption | omega | (simp only [List.length_cons, List.length_nil, List.length_append, List.length_replicate, List.length_map, List.length_set, List.length_take, List.length_drop, strs_len, ints_len, bools_len, aggs_len]; done) | (simp only [List.length_cons, List.length_nil, List.length_append, List.length_replicate, List.length_map, List.length_set, List.length_take, List.length_drop, strs_len, ints_len, bools_len, aggs_len]; omega)) only [go_sem]
    exact hQ
  | succ k ih =>
    intro i hi hQ
    have e : lastB s 40 (i + 1) = if byt s i = 40 then (i : Int) else lastB s 40 i := rfl
    have hr := lastB_ge s 40 i
    rw [W_loop (L := r24_Base_l2) rfl]
    simp (disch := first | assumption | omega | (simp only [List.length_cons, List.length_nil, List.length_append, List.length_replicate, List.length_map, List.length_set, List.length_take, List.length_drop, strs_len, ints_len, bools_len, aggs_len]; done) | (simp only [List.length_cons, List.length_nil, List.length_append, List.length_replicate, List.length_map, List.length_set, List.length_take, List.length_drop, strs_len, ints_len, bools_len, aggs_len]; omega)) only [go_sem]
    refine cond_split (fun hc => ?_) (fun hc => ?_)
    · rw [if_pos hc] at e
      simp (disch := first | assumption | omega | (simp only [List.length_cons, List.length_nil, List.length_append, List.length_replicate, List.length_map, List.length_set, List.length_take, List.length_drop, strs_len, ints_len, bools_len, aggs_len]; done) | (simp only [List.length_cons, List.length_nil, List.length_append, List.length_replicate, List.length_map, List.length_set, List.length_take, List.length_drop, strs_len, ints_len, bools_len, aggs_len]; omega)) only [go_sem]
      have := ih (i + 1) (by omega) hQ
      rw [e] at this
      exact this
    · rw [if_neg hc] at e
      simp (disch := first | assumption | omega | (simp only [List.length_cons, List.length_nil, List.length_append, List.length_replicate, List.length_map, List.length_set, List.length_take, List.length_drop, strs_len, ints_len, bools_len, aggs_len]; done) | (simp only [List.length_cons, List.length_nil, List.length_append, List.length_replicate, List.length_map, List.length_set, List.length_take, List.length_drop, strs_len, ints_len, bools_len, aggs_len]; omega)) only [go_sem]
      have := ih (i + 1) (by omega) hQ
      rw [e] at this
      exact this
theorem r24_Base_l1_ok (s : List UInt8) (hs : s.length < 900000000) (Q : Out → Prop) : ∀ (k i : Nat), i + k = s.length → (∀ j, j < i → List.contains [44, 41] (s.getD j 0) = false) →
    (ixP (List.contains [44, 41]) s < 0 → Q (.nrm, [(0, .p (.str s))], [])) → (0 ≤ ixP (List.contains [44, 41]) s → Q (.ret, [(2, .p (.str (s.take (ixP (List.contains [44, 41]) s).toNat)))], [])) →
    Wp Γ r24_Base_l1 [(0, .p (.str s)), (5, .p (.int .i64 (i : Int)))] [] (InBlk [0] 2 Q) := by
  intro k
  induction k with
  | zero =>
    intro i hi hn h1 h2
    obtain rfl : i = s.length := by omega
    rw [W_loop (L := r24_Base_l1) rfl]
    simp (disch := first | assumption | omega | (simp only [List.length_cons, List.length_nil, List.length_append, List.length_replicate, List.length_map, List.length_set, List.length_take, List.length_drop, strs_len, ints_len, bools_len, aggs_len]; done) | (simp only [List.length_cons, List.length_nil, List.length_append, List.length_replicate, List.length_map, List.length_set, List.length_take, List.length_drop, strs_len, ints_len, bools_len, aggs_len]; omega)) only [go_sem]
    exact h1 (by rw [ixP_none hn]; omega)
  | succ k ih =>
    intro i hi hn h1 h2
    have key : List.contains [44, 41] (s.getD i 0) = true ↔ (byt s i = 44 ∨ byt s i = 41) := by
      rw [show (44 : Int) = ((44 : UInt8).toNat : Int) from rfl, show (41 : Int) = ((41 : UInt8).toNat : Int) from rfl, byt_eq, byt_eq]
      simp only [List.contains_cons, List.contains_nil, Bool.or_false, Bool.or_eq_true, beq_iff_eq]
    have yes : (byt s i = 44 ∨ byt s i = 41) → Q (.ret, [(2, .p (.str (s.take i)))], []) := fun h => by
      rw [ixP_some (by omega) (key.2 h) hn] at h2
      exact h2 (by omega)
    rw [W_loop (L := r24_Base_l1) rfl]
    simp (disch := first | assumption | omega | (simp only [List.length_cons, List.length_nil, List.length_append, List.length_replicate, List.length_map, List.length_set, List.length_take, List.length_drop, strs_len, ints_len, bools_len, aggs_len]; done) | (simp only [List.length_cons, List.length_nil, List.length_append, List.length_replicate, List.length_map, List.length_set, List.length_take, List.length_drop, strs_len, ints_len, bools_len, aggs_len]; omega)) only [go_sem]
    refine gd_split_f (fun hc => ?_) (fun hc => ?_)
    · simp (disch := first | assumption | omega | (simp only [List.length_cons, List.length_nil, List.length_append, List.length_replicate, List.length_map, List.length_set, List.length_take, List.length_drop, strs_len, ints_len, bools_len, aggs_len]; done) | (simp only [List.length_cons, List.length_nil, List.length_append, List.length_replicate, List.length_map, List.length_set, List.length_take, List.length_drop, strs_len, ints_len, bools_len, aggs_len]; omega)) only [go_sem]
      refine cond_split (fun hc => ?_) (fun hc => ?_)
      · simp (disch := first | assumption | omega | (simp only [List.length_cons, List.length_nil, List.length_append, List.length_replicate, List.length_map, List.length_set, List.length_take, List.length_drop, strs_len, ints_len, bools_len, aggs_len]; done) | (simp only [List.length_cons, List.length_nil, List.length_append, List.length_replicate, List.length_map, List.length_set, List.length_take, List.length_drop, strs_len, ints_len, bools_len, aggs_len]; omega)) only [go_sem]
        exact yes (.inr hc)
      · simp (disch := first | assumption | omega | (simp only [List.length_cons, List.length_nil, List.length_append, List.length_replicate, List.length_map, List.length_set, List.length_take, List.length_drop, strs_len, ints_len, bools_len, aggs_len]; done) | (simp only [List.length_cons, List.length_nil, List.length_append, List.length_replicate, List.length_map, List.length_set, List.length_take, List.length_drop, strs_len, ints_len, bools_len, aggs_len]; omega)) only [go_sem]
        refine ih (i + 1) (by omega) (fun j hj => ?_) h1 h2
        by_cases h : j = i
        · subst h
          rw [Bool.eq_false_iff]
          intro h
          rcases key.1 h with h | h <;> contradiction
        · exact hn j (by omega)
    · simp (disch := first | assumption | omega | (simp only [List.length_cons, List.length_nil, List.length_append, List.length_replicate, List.length_map, List.length_set, List.length_take, List.length_drop, strs_len, ints_len, bools_len, aggs_len]; done) | (simp only [List.length_cons, List.length_nil, List.length_append, List.length_replicate, List.length_map, List.length_set, List.length_take, List.length_drop, strs_len, ints_len, bools_len, aggs_len]; omega)) only [go_sem]
      exact yes (.inl hc)
@[go_sem] theorem res_r24Base (s : List UInt8) (hs : s.length < 900000000) : res Γ 5 [.str s] = some [.str (baseB s)] := by
  have h1 := lastB_ge s 40 s.length
  refine res_code (fn := r24_Base) rfl rfl ?_
  simp (disch := first | assumption | omega | (simp only [List.length_cons, List.length_nil, List.length_append, List.length_replicate, List.length_map, List.length_set, List.length_take, List.length_drop, strs_len, ints_len, bools_len, aggs_len]; done) | (simp only [List.length_cons, List.length_nil, List.length_append, List.length_replicate, List.length_map, List.length_set, List.length_take, List.length_drop, strs_len, ints_len, bools_len, aggs_len]; omega)) only [go_sem, r24_Base]
  refine r24_Base_l2_ok s hs _ s.length 0 (by omega) ?_
  simp (disch := first | assumption | omega | (simp only [List.length_cons, List.length_nil, List.length_append, List.length_replicate, List.length_map, List.length_set, List.length_take, List.length_drop, strs_len, ints_len, bools_len, aggs_len]; done) | (simp only [List.length_cons, List.length_nil, List.length_append, List.length_replicate, List.length_map, List.length_set, List.length_take, List.length_drop, strs_len, ints_len, bools_len, aggs_len]; omega)) only [go_sem]
  refine r24_Base_l1_ok (s.drop (lastB s 40 s.length + 1).toNat) (by rw [List.length_drop]; omega) _ (s.drop (lastB s 40 s.length + 1).toNat).length 0 (by omega) (by omega) (fun h => ?_) (fun h => ?_)
  · simp (disch := first | assumption | omega | (simp only [List.length_cons, List.length_nil, List.length_append, List.length_replicate, List.length_map, List.length_set, List.length_take, List.length_drop, strs_len, ints_len, bools_len, aggs_len]; done) | (simp only [List.length_cons, List.length_nil, List.length_append, List.length_replicate, List.length_map, List.length_set, List.length_take, List.length_drop, strs_len, ints_len, bools_len, aggs_len]; omega)) only [go_sem, baseB]
    rw [if_neg (by omega)]
  · simp (disch := first | assumption | omega | (simp only [List.length_cons, List.length_nil, List.length_append, List.length_replicate, List.length_map, List.length_set, List.length_take, List.length_drop, strs_len, ints_len, bools_len, aggs_len]; done) | (simp only [List.length_cons, List.length_nil, List.length_append, List.length_replicate, List.length_map, List.length_set, List.length_take, List.length_drop, strs_len, ints_len, bools_len, aggs_len]; omega)) only [go_sem, baseB]
    rw [if_pos h]
end Ab
