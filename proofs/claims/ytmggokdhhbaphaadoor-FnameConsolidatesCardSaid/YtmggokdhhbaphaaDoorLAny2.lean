import Derived.Test.YtmggokdhhbaphaaDoorLAny
namespace Ab
open Go (IntKind BinOp UnOp)
theorem ixB_mem {s : List UInt8} {c : UInt8} : 0 ≤ ixB s c ↔ s.contains c = true := by
  induction s with
  | nil => simp [ixB]
  | cons b l ih =>
    have hn := @ixB_nn l c
    simp only [ixB, List.contains_cons, Bool.or_eq_true, ← ih, beq_iff_eq]
    by_cases h : b = c
    · subst h; simp
    · have h' : ¬ c = b := fun e => h e.symm
      simp only [h, h', if_false, false_or]
      split <;> omega
theorem IndexAny_l1_ok (s chars : List UInt8) (hs : s.length < 1000000000) (hc : chars.length < 1000000000) (ha : ∀ b ∈ chars, b.toNat < 128) (Q : Out → Prop) : ∀ (k i : Nat), i ≤ s.length → s.length - i ≤ k → (∀ j, j < i → chars.contains (s.getD j 0) = false) →
    (ixP chars.contains s < 0 → ∀ H, Q (.nrm, [], H)) → (0 ≤ ixP chars.contains s → ∀ H, Q (.ret, [(4, .p (.int .i64 (ixP chars.contains s)))], H)) →
    Wp Γ strings_IndexAny_l1 [(1, .p (.str chars)), (45, .bx 0 0)] [.box (iterCells s i)] (InBlk [] 2 Q) := by
  intro k
  induction k with
  | zero =>
    intro i hi hk hn h1 h2
    obtain rfl : i = s.length := by omega
    rw [W_loop (L := strings_IndexAny_l1) rfl]
    simp (disch := first | assumption | omega | (simp only [List.length_cons, List.length_nil, List.length_append, List.length_replicate, List.length_map, List.length_set, List.length_take, List.length_drop, strs_len, ints_len, bools_len, aggs_len]; done) | (simp only [List.length_cons, List.length_nil, List.length_append, List.length_replicate, List.length_map, List.length_set, List.length_take, List.length_drop, strs_len, ints_len, bools_len, aggs_len]; omega)) only [go_sem]
    exact h1 (by rw [ixP_none hn]; omega) _
  | succ k ih =>
    intro i hi hk hn h1 h2
    by_cases hlt : i < s.length
    · by_cases hb : (s.getD i 0).toNat < 128
      · have e := rune_ascii hb
        rw [W_loop (L := strings_IndexAny_l1) rfl]
        simp (disch := first | assumption | omega | (simp only [List.length_cons, List.length_nil, List.length_append, List.length_replicate, List.length_map, List.length_set, List.length_take, List.length_drop, strs_len, ints_len, bools_len, aggs_len]; done) | (simp only [List.length_cons, List.length_nil, List.length_append, List.length_replicate, List.length_map, List.length_set, List.length_take, List.length_drop, strs_len, ints_len, bools_len, aggs_len]; omega)) only [go_sem, e, res_IndexRune_ascii]
        have e2 : (s.getD i 0).toNat.toUInt8 = s.getD i 0 := by simp
        rw [e2]
        refine cond_split (fun hc => ?_) (fun hc => ?_)
        · simp (disch := first | assumption | omega | (simp only [List.length_cons, List.length_nil, List.length_append, List.length_replicate, List.length_map, List.length_set, List.length_take, List.length_drop, strs_len, ints_len, bools_len, aggs_len]; done) | (simp only [List.length_cons, List.length_nil, List.length_append, List.length_replicate, List.length_map, List.length_set, List.length_take, List.length_drop, strs_len, ints_len, bools_len, aggs_len]; omega)) only [go_sem]
          rw [ixP_some hlt (ixB_mem.1 hc) hn] at h2
          exact h2 (by omega) _
        · simp (disch := first | assumption | omega | (simp only [List.length_cons, List.length_nil, List.length_append, List.length_replicate, List.length_map, List.length_set, List.length_take, List.length_drop, strs_len, ints_len, bools_len, aggs_len]; done) | (simp only [List.length_cons, List.length_nil, List.length_append, List.length_replicate, List.length_map, List.length_set, List.length_take, List.length_drop, strs_len, ints_len, bools_len, aggs_len]; omega)) only [go_sem]
          refine ih (i + 1) (by omega) (by omega) (fun j hj => ?_) h1 h2
          by_cases h : j = i
          · subst h
            have := mt ixB_mem.2 hc
            simpa using this
          · exact hn j (by omega)
      · obtain ⟨g1, g2, g3, g4, g5⟩ := rune_other hlt hb
        rw [W_loop (L := strings_IndexAny_l1) rfl]
        simp (disch := first | assumption | omega | (simp only [List.length_cons, List.length_nil, List.length_append, List.length_replicate, List.length_map, List.length_set, List.length_take, List.length_drop, strs_len, ints_len, bools_len, aggs_len]; done) | (simp only [List.length_cons, List.length_nil, List.length_append, List.length_replicate, List.length_map, List.length_set, List.length_take, List.length_drop, strs_len, ints_len, bools_len, aggs_len]; omega)) only [go_sem, res_IndexRune_other]
        refine ih _ (by omega) (by omega) (fun j hj => ?_) h1 h2
        by_cases h : j < i
        · exact hn j h
        · have := g5 (j - i) (by omega)
          rw [show i + (j - i) = j by omega] at this
          by_cases hx : chars.contains (s.getD j 0) = true
          · have := ha _ (List.contains_iff_mem.1 hx)
            omega
          · simpa using hx
    · obtain rfl : i = s.length := by omega
      rw [W_loop (L := strings_IndexAny_l1) rfl]
      simp (disch := first | assumption | omega | (simp only [List.length_cons, List.length_nil, List.length_append, List.length_replicate, List.length_map, List.length_set, List.length_take, List.length_drop, strs_len, ints_len, bools_len, aggs_len]; done) | (simp only [List.length_cons, List.length_nil, List.length_append, List.length_replicate, List.length_map, List.length_set, List.length_take, List.length_drop, strs_len, ints_len, bools_len, aggs_len]; omega)) only [go_sem]
      exact h1 (by rw [ixP_none hn]; omega) _
@[go_sem] theorem res_useASCII (n : Int) : res Γ 85 [.int .i64 n] = some [.bool (decide (8 < n))] := by
  refine res_code (fn := strings_shouldUseASCIISet) rfl rfl ?_
  simp (disch := first | assumption | omega | (simp only [List.length_cons, List.length_nil, List.length_append, List.length_replicate, List.length_map, List.length_set, List.length_take, List.length_drop, strs_len, ints_len, bools_len, aggs_len]; done) | (simp only [List.length_cons, List.length_nil, List.length_append, List.length_replicate, List.length_map, List.length_set, List.length_take, List.length_drop, strs_len, ints_len, bools_len, aggs_len]; omega)) only [go_sem, strings_shouldUseASCIISet]
theorem ixP_neg {p s} (h : ixP p s < 0) : ixP p s = -1 := by have := @ixP_range p s; omega
theorem res_IndexAny (s chars : List UInt8) (hs : s.length < 1000000000) (h2 : 2 ≤ chars.length) (hcl : chars.length < 1000000000) (ha : ∀ b ∈ chars, b.toNat < 128) : res Γ 24 [.str s, .str chars] = some [.int .i64 (ixP chars.contains s)] := by
  have hne : ¬ chars = [] := by intro h; subst h; simp at h2
  have hl := @setB_len chars
  refine res_code (fn := strings_IndexAny) rfl rfl ?_
  simp (disch := first | assumption | omega | (simp only [List.length_cons, List.length_nil, List.length_append, List.length_replicate, List.length_map, List.length_set, List.length_take, List.length_drop, strs_len, ints_len, bools_len, aggs_len]; done) | (simp only [List.length_cons, List.length_nil, List.length_append, List.length_replicate, List.length_map, List.length_set, List.length_take, List.length_drop, strs_len, ints_len, bools_len, aggs_len]; omega)) only [go_sem, strings_IndexAny]
  refine cond_split (fun hc => ?_) (fun hc => ?_)
  · simp (disch := first | assumption | omega | (simp only [List.length_cons, List.length_nil, List.length_append, List.length_replicate, List.length_map, List.length_set, List.length_take, List.length_drop, strs_len, ints_len, bools_len, aggs_len]; done) | (simp only [List.length_cons, List.length_nil, List.length_append, List.length_replicate, List.length_map, List.length_set, List.length_take, List.length_drop, strs_len, ints_len, bools_len, aggs_len]; omega)) only [go_sem]
    refine IndexAny_l2_ok s chars hs _ s.length 0 (by omega) (by omega) (fun h => ?_) (fun h => ?_)
    · simp (disch := first | assumption | omega | (simp only [List.length_cons, List.length_nil, List.length_append, List.length_replicate, List.length_map, List.length_set, List.length_take, List.length_drop, strs_len, ints_len, bools_len, aggs_len]; done) | (simp only [List.length_cons, List.length_nil, List.length_append, List.length_replicate, List.length_map, List.length_set, List.length_take, List.length_drop, strs_len, ints_len, bools_len, aggs_len]; omega)) only [go_sem, ixP_neg h]
    · simp (disch := first | assumption | omega | (simp only [List.length_cons, List.length_nil, List.length_append, List.length_replicate, List.length_map, List.length_set, List.length_take, List.length_drop, strs_len, ints_len, bools_len, aggs_len]; done) | (simp only [List.length_cons, List.length_nil, List.length_append, List.length_replicate, List.length_map, List.length_set, List.length_take, List.length_drop, strs_len, ints_len, bools_len, aggs_len]; omega)) only [go_sem]
  · simp (disch := first | assumption | omega | (simp only [List.length_cons, List.length_nil, List.length_append, List.length_replicate, List.length_map, List.length_set, List.length_take, List.length_drop, strs_len, ints_len, bools_len, aggs_len]; done) | (simp only [List.length_cons, List.length_nil, List.length_append, List.length_replicate, List.length_map, List.length_set, List.length_take, List.length_drop, strs_len, ints_len, bools_len, aggs_len]; omega)) only [go_sem]
    refine IndexAny_l1_ok s chars hs hcl ha _ s.length 0 (by omega) (by omega) (by omega) (fun h H => ?_) (fun h H => ?_)
    · simp (disch := first | assumption | omega | (simp only [List.length_cons, List.length_nil, List.length_append, List.length_replicate, List.length_map, List.length_set, List.length_take, List.length_drop, strs_len, ints_len, bools_len, aggs_len]; done) | (simp only [List.length_cons, List.length_nil, List.length_append, List.length_replicate, List.length_map, List.length_set, List.length_take, List.length_drop, strs_len, ints_len, bools_len, aggs_len]; omega)) only [go_sem, ixP_neg h]
    · simp (disch := first | assumption | omega | (simp only [List.length_cons, List.length_nil, List.length_append, List.length_replicate, List.length_map, List.length_set, List.length_take, List.length_drop, strs_len, ints_len, bools_len, aggs_len]; done) | (simp only [List.length_cons, List.length_nil, List.length_append, List.length_replicate, List.length_map, List.length_set, List.length_take, List.length_drop, strs_len, ints_len, bools_len, aggs_len]; omega)) only [go_sem]
end Ab
