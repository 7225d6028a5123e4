import Derived.Test.YtmggokdhhbaphaaDoorLAny
import Derived.Test.YtmggokdhhbaphaaDoorAbPrim
namespace Ab
open Go (IntKind BinOp UnOp)
theorem ixB_mem {s : List UInt8} {c : UInt8} : 0 ≤ ixB s c ↔ s.contains c = true := by
  induction s with
  | nil => simp [ixB]
  | cons b l ih =>
    have hn := @ixB_nn l c
    simp only [ixB, List.contains_cons, Bool.or_eq_true, ← ih, beq_iff_eq]
    by_cases h : b = c
    · subst h; simp
    · have h' : ¬ c = b := fun e => h e.symm
      simp only [h, h', if_false, false_or]
      split <;> omega
theorem IndexAny_l1_ok (s chars : List UInt8) (_hs : s.length < 1000000000) (hc : chars.length < 1000000000) (ha : ∀ b ∈ chars, b.toNat < 128) (Q : Out → Prop) : ∀ (k i : Nat), i ≤ s.length → s.length - i ≤ k → (∀ j, j < i → chars.contains (s.getD j 0) = false) →
    (ixP chars.contains s < 0 → ∀ H, Q (.nrm, [], H)) → (0 ≤ ixP chars.contains s → ∀ H, Q (.ret, [(4, .p (.int .i64 (ixP chars.contains s)))], H)) →
    Wp Γ strings_IndexAny_l1 [(1, .p (.str chars)), (45, .bx 0 0)] [.box (iterCells s i)] (InBlk [] 2 Q) := by
  intro k
  induction k with
  | zero =>
    intro i hi hk hn h1 h2
    obtain rfl : i = s.length := by omega
    rw [W_loop (L := strings_IndexAny_l1) rfl]
    simp (disch := first | assumption | omega | decide | (simp only [List.length_cons, List.length_nil, List.length_append, List.length_replicate, List.length_map, List.length_set, List.length_take, List.length_drop, strs_len, ints_len, bools_len, aggs_len, vpv_len]; done) | (simp only [List.length_cons, List.length_nil, List.length_append, List.length_replicate, List.length_map, List.length_set, List.length_take, List.length_drop, strs_len, ints_len, bools_len, aggs_len, vpv_len]; omega)) only [go_sem]
    exact h1 (by rw [ixP_none hn]; omega) _
  | succ k ih =>
    intro i hi hk hn h1 h2
    by_cases hlt : i < s.length
    · by_cases hb : (s.getD i 0).toNat < 128
      · have e := rune_ascii hb
        rw [W_loop (L := strings_IndexAny_l1) rfl]
        simp (disch := first | assumption | omega | decide | (simp only [List.length_cons, List.length_nil, List.length_append, List.length_replicate, List.length_map, List.length_set, List.length_take, List.length_drop, strs_len, ints_len, bools_len, aggs_len, vpv_len]; done) | (simp only [List.length_cons, List.length_nil, List.length_append, List.length_replicate, List.length_map, List.length_set, List.length_take, List.length_drop, strs_len, ints_len, bools_len, aggs_len, vpv_len]; omega)) only [go_sem, e, res_IndexRune_ascii]
        have e2 : (s.getD i 0).toNat.toUInt8 = s.getD i 0 := by simp
        rw [e2]
        refine cond_split (fun hc => ?_) (fun hc => ?_)
        · simp (disch := first | assumption | omega | decide | (simp only [List.length_cons, List.length_nil, List.length_append, List.length_replicate, List.length_map, List.length_set, List.length_take, List.length_drop, strs_len, ints_len, bools_len, aggs_len, vpv_len]; done) | (simp only [List.length_cons, List.length_nil, List.length_append, List.length_replicate, List.length_map, List.length_set, List.length_take, List.length_drop, strs_len, ints_len, bools_len, aggs_len, vpv_len]; omega)) only [go_sem]
          rw [ixP_some hlt (ixB_mem.1 hc) hn] at h2
          exact h2 (by omega) _
        · simp (disch := first | assumption | omega | decide | (simp only [List.length_cons, List.length_nil, List.length_append, List.length_replicate, List.length_map, List.length_set, List.length_take, List.length_drop, strs_len, ints_len, bools_len, aggs_len, vpv_len]; done) | (simp only [List.length_cons, List.length_nil, List.length_append, List.length_replicate, List.length_map, List.length_set, List.length_take, List.length_drop, strs_len, ints_len, bools_len, aggs_len, vpv_len]; omega)) only [go_sem]
          refine ih (i + 1) (by omega) (by omega) (fun j hj => ?_) h1 h2
          by_cases h : j = i
          · subst h
            have := mt ixB_mem.2 hc
            simpa using this
          · exact hn j (by omega)
      · obtain ⟨g1, g2, g3, g4, g5⟩ := rune_other hlt hb
        rw [W_loop (L := strings_IndexAny_l1) rfl]
        simp (disch := first | assumption | omega | decide | (simp only [List.length_cons, List.length_nil, List.length_append, List.length_replicate, List.length_map, List.length_set, List.length_take, List.length_drop, strs_len, ints_len, bools_len, aggs_len, vpv_len]; done) | (simp only [List.length_cons, List.length_nil, List.length_append, List.length_replicate, List.length_map, List.length_set, List.length_take, List.length_drop, strs_len, ints_len, bools_len, aggs_len, vpv_len]; omega)) only [go_sem, res_IndexRune_other]
        refine ih _ (by omega) (by omega) (fun j hj => ?_) h1 h2
        by_cases h : j < i
        · exact hn j h
        · have := g5 (j - i) (by omega)
          rw [show i + (j - i) = j by omega] at this
          by_cases hx : chars.contains (s.getD j 0) = true
          · have := ha _ (List.contains_iff_mem.1 hx)
            omega
          · simpa using hx
    · obtain rfl : i = s.length := by omega
      rw [W_loop (L := strings_IndexAny_l1) rfl]
      simp (disch := first | assumption | omega | decide | (simp only [List.length_cons, List.length_nil, List.length_append, List.length_replicate, List.length_map, List.length_set, List.length_take, List.length_drop, strs_len, ints_len, bools_len, aggs_len, vpv_len]; done) | (simp only [List.length_cons, List.length_nil, List.length_append, List.length_replicate, List.length_map, List.length_set, List.length_take, List.length_drop, strs_len, ints_len, bools_len, aggs_len, vpv_len]; omega)) only [go_sem]
      exact h1 (by rw [ixP_none hn]; omega) _
@[go_sem] theorem res_useASCII (n : Int) : res Γ 85 [.int .i64 n] = some [.bool (decide (8 < n))] := by
  refine res_code (fn := strings_shouldUseASCIISet) rfl rfl ?_
  simp (disch := first | assumption | omega | decide | (simp only [List.length_cons, List.length_nil, List.length_append, List.length_replicate, List.length_map, List.length_set, List.length_take, List.length_drop, strs_len, ints_len, bools_len, aggs_len, vpv_len]; done) | (simp only [List.length_cons, List.length_nil, List.length_append, List.length_replicate, List.length_map, List.length_set, List.length_take, List.length_drop, strs_len, ints_len, bools_len, aggs_len, vpv_len]; omega)) only [go_sem, strings_shouldUseASCIISet]
theorem ixP_neg {p s} (h : ixP p s < 0) : ixP p s = -1 := by have := @ixP_range p s; omega
set_option maxRecDepth 10000 in
theorem res_IndexAny (s chars : List UInt8) (hs : s.length < 1000000000) (h2 : 2 ≤ chars.length) (hcl : chars.length < 1000000000) (ha : ∀ b ∈ chars, b.toNat < 128) : res Γ 24 [.str s, .str chars] = some [.int .i64 (ixP chars.contains s)] := by
  have hne : ¬ chars = [] := by intro h; subst h; simp at h2
  have hl := @setB_len chars
  refine res_code (fn := strings_IndexAny) rfl rfl ?_
  simp (disch := first | assumption | omega | decide | (simp only [List.length_cons, List.length_nil, List.length_append, List.length_replicate, List.length_map, List.length_set, List.length_take, List.length_drop, strs_len, ints_len, bools_len, aggs_len, vpv_len]; done) | (simp only [List.length_cons, List.length_nil, List.length_append, List.length_replicate, List.length_map, List.length_set, List.length_take, List.length_drop, strs_len, ints_len, bools_len, aggs_len, vpv_len]; omega)) only [go_sem, strings_IndexAny]
  refine cond_split (fun hc => ?_) (fun hc => ?_)
  · simp (disch := first | assumption | omega | decide | (simp only [List.length_cons, List.length_nil, List.length_append, List.length_replicate, List.length_map, List.length_set, List.length_take, List.length_drop, strs_len, ints_len, bools_len, aggs_len, vpv_len]; done) | (simp only [List.length_cons, List.length_nil, List.length_append, List.length_replicate, List.length_map, List.length_set, List.length_take, List.length_drop, strs_len, ints_len, bools_len, aggs_len, vpv_len]; omega)) only [go_sem]
    refine IndexAny_l2_ok s chars hs _ s.length 0 (by omega) (by omega) (fun h => ?_) (fun h => ?_)
    · simp (disch := first | assumption | omega | decide | (simp only [List.length_cons, List.length_nil, List.length_append, List.length_replicate, List.length_map, List.length_set, List.length_take, List.length_drop, strs_len, ints_len, bools_len, aggs_len, vpv_len]; done) | (simp only [List.length_cons, List.length_nil, List.length_append, List.length_replicate, List.length_map, List.length_set, List.length_take, List.length_drop, strs_len, ints_len, bools_len, aggs_len, vpv_len]; omega)) only [go_sem, ixP_neg h]
    · simp (disch := first | assumption | omega | decide | (simp only [List.length_cons, List.length_nil, List.length_append, List.length_replicate, List.length_map, List.length_set, List.length_take, List.length_drop, strs_len, ints_len, bools_len, aggs_len, vpv_len]; done) | (simp only [List.length_cons, List.length_nil, List.length_append, List.length_replicate, List.length_map, List.length_set, List.length_take, List.length_drop, strs_len, ints_len, bools_len, aggs_len, vpv_len]; omega)) only [go_sem]
  · simp (disch := first | assumption | omega | decide | (simp only [List.length_cons, List.length_nil, List.length_append, List.length_replicate, List.length_map, List.length_set, List.length_take, List.length_drop, strs_len, ints_len, bools_len, aggs_len, vpv_len]; done) | (simp only [List.length_cons, List.length_nil, List.length_append, List.length_replicate, List.length_map, List.length_set, List.length_take, List.length_drop, strs_len, ints_len, bools_len, aggs_len, vpv_len]; omega)) only [go_sem]
    refine IndexAny_l1_ok s chars hs hcl ha _ s.length 0 (by omega) (by omega) (by omega) (fun h H => ?_) (fun h H => ?_)
    · simp (disch := first | assumption | omega | decide | (simp only [List.length_cons, List.length_nil, List.length_append, List.length_replicate, List.length_map, List.length_set, List.length_take, List.length_drop, strs_len, ints_len, bools_len, aggs_len, vpv_len]; done) | (simp only [List.length_cons, List.length_nil, List.length_append, List.length_replicate, List.length_map, List.length_set, List.length_take, List.length_drop, strs_len, ints_len, bools_len, aggs_len, vpv_len]; omega)) only [go_sem, ixP_neg h]
    · simp (disch := first | assumption | omega | decide | (simp only [List.length_cons, List.length_nil, List.length_append, List.length_replicate, List.length_map, List.length_set, List.length_take, List.length_drop, strs_len, ints_len, bools_len, aggs_len, vpv_len]; done) | (simp only [List.length_cons, List.length_nil, List.length_append, List.length_replicate, List.length_map, List.length_set, List.length_take, List.length_drop, strs_len, ints_len, bools_len, aggs_len, vpv_len]; omega)) only [go_sem]
end Ab
/- Patterns of one part: pieces. -/
namespace Ab
open Go (IntKind BinOp UnOp)
theorem set_1add {α : Type} {x : α} {l : List α} {n : Nat} {a : α} : (x :: l).set (1 + n) a = x :: l.set n a := by rw [Nat.add_comm]; rfl
theorem rep257 : List.replicate 257 (PV.bool false) = bools (false :: none256) := by
  unfold none256
  rw [← List.replicate_succ, bools_rep]
theorem bools_cons {b : Bool} {l : List Bool} : bools (b :: l) = .bool b :: bools l := rfl
theorem getD_u8 {s : List UInt8} {i : Nat} : (byt s i).toNat = (s.getD i 0).toNat := by unfold byt; omega
theorem fills_l1_ok (an : Bool) (st : List Bool) (hst : st.length = 256) (a b : Nat) (hb : b < 256) (Q : Out → Prop) : ∀ (d k : Nat), a + k + d = b + 1 →
    Q (.nrm, [], [.box ((bools (an :: fillN st a (b + 1 - a))).map .p)]) →
    Wp Γ glob_piece_fills_l1 [(0, .bx 0 0), (2, .p (.int .u8 b)), (6, .p (.int .i64 ((a : Int) + (k : Int))))] [.box ((bools (an :: fillN st a k)).map .p)] (InBlk [] 0 Q) := by
  intro d
  induction d with
  | zero =>
    intro k hk hQ
    have e : b + 1 - a = k := by omega
    rw [e] at hQ
    rw [W_loop (L := glob_piece_fills_l1) rfl]
    simp (disch := first | assumption | omega | decide | (simp only [List.length_cons, List.length_nil, List.length_append, List.length_replicate, List.length_map, List.length_set, List.length_take, List.length_drop, strs_len, ints_len, bools_len, aggs_len, vpv_len]; done) | (simp only [List.length_cons, List.length_nil, List.length_append, List.length_replicate, List.length_map, List.length_set, List.length_take, List.length_drop, strs_len, ints_len, bools_len, aggs_len, vpv_len]; omega)) only [go_sem]
    exact hQ
  | succ d ih =>
    intro k hk hQ
    have hl : (an :: fillN st a k).length = 257 := by rw [List.length_cons, fillN_len, hst]
    rw [W_loop (L := glob_piece_fills_l1) rfl]
    simp (disch := first | assumption | omega | decide | (simp only [List.length_cons, List.length_nil, List.length_append, List.length_replicate, List.length_map, List.length_set, List.length_take, List.length_drop, strs_len, ints_len, bools_len, aggs_len, vpv_len]; done) | (simp only [List.length_cons, List.length_nil, List.length_append, List.length_replicate, List.length_map, List.length_set, List.length_take, List.length_drop, strs_len, ints_len, bools_len, aggs_len, vpv_len]; omega)) only [go_sem, tnA, set_1add]
    have := ih (k + 1) (by omega) hQ
    rw [fillN] at this
    exact this
theorem resM_fills {an : Bool} {st : List Bool} (hst : st.length = 256) {a b : Int} (ha : 0 ≤ a) (hab : a ≤ b) (hb : b < 256) :
    resM Γ 1 53 [.bx 0 0, .p (.int .u8 a), .p (.int .u8 b)] [.box ((bools (an :: st)).map .p)] = some ([], [.box ((bools (an :: fillN st a.toNat (b.toNat + 1 - a.toNat))).map .p)]) := by
  obtain ⟨a, rfl⟩ := Int.eq_ofNat_of_zero_le ha
  obtain ⟨b, rfl⟩ := Int.eq_ofNat_of_zero_le (show 0 ≤ b by omega)
  refine resM_code (fn := glob_piece_fills) rfl rfl ?_
  simp (disch := first | assumption | omega | decide | (simp only [List.length_cons, List.length_nil, List.length_append, List.length_replicate, List.length_map, List.length_set, List.length_take, List.length_drop, strs_len, ints_len, bools_len, aggs_len, vpv_len]; done) | (simp only [List.length_cons, List.length_nil, List.length_append, List.length_replicate, List.length_map, List.length_set, List.length_take, List.length_drop, strs_len, ints_len, bools_len, aggs_len, vpv_len]; omega)) only [go_sem, glob_piece_fills]
  have := fills_l1_ok an st hst a b (by omega) (EndsM 1 glob_piece_fills.results ([], [.box ((bools (an :: fillN st (a : Int).toNat ((b : Int).toNat + 1 - (a : Int).toNat))).map .p)])) (b + 1 - a) 0 (by omega) (by
    simp (disch := first | assumption | omega | decide | (simp only [List.length_cons, List.length_nil, List.length_append, List.length_replicate, List.length_map, List.length_set, List.length_take, List.length_drop, strs_len, ints_len, bools_len, aggs_len, vpv_len]; done) | (simp only [List.length_cons, List.length_nil, List.length_append, List.length_replicate, List.length_map, List.length_set, List.length_take, List.length_drop, strs_len, ints_len, bools_len, aggs_len, vpv_len]; omega)) only [go_sem, glob_piece_fills, Int.toNat_natCast])
  exact this
theorem still53 : stillF Γ 1 53 = true := rfl
theorem classF_3 {a b c : UInt8} {r : List UInt8} {acc : List Bool} : classF (a :: b :: c :: r) acc = if b = 45 then (if c < a then none else classF r (fillN acc a.toNat (c.toNat - a.toNat + 1))) else classF (b :: c :: r) (fillN acc a.toNat 1) := by
  rw [classF]
theorem classF_short {a : UInt8} {r : List UInt8} {acc : List Bool} (h : r.length < 2) : classF (a :: r) acc = classF r (fillN acc a.toNat 1) := by
  match r, h with
  | [], _ => rfl
  | [b], _ => rfl
theorem drop3 {s : List UInt8} {i : Nat} (h : i + 2 < s.length) : s.drop i = s.getD i 0 :: s.getD (i + 1) 0 :: s.getD (i + 2) 0 :: s.drop (i + 3) := by
  rw [List.drop_eq_getElem_cons (by omega), List.drop_eq_getElem_cons (show i + 1 < s.length by omega), List.drop_eq_getElem_cons (show i + 2 < s.length by omega)]
  simp [List.getElem?_eq_getElem (show i < s.length by omega), List.getElem?_eq_getElem (show i + 1 < s.length by omega), List.getElem?_eq_getElem (show i + 2 < s.length by omega)]
theorem drop1 {s : List UInt8} {i : Nat} (h : i < s.length) : s.drop i = s.getD i 0 :: s.drop (i + 1) := by
  rw [List.drop_eq_getElem_cons h]
  simp [List.getElem?_eq_getElem h]
theorem byt_lt_iff {s : List UInt8} {i j : Nat} : byt s i < byt s j ↔ s.getD i 0 < s.getD j 0 := by
  rw [UInt8.lt_iff_toNat_lt]; unfold byt; omega
theorem class_l1_ok (s : List UInt8) (hs : s.length < 900000000) (Q : Out → Prop) : ∀ (n i : Nat) (acc : List Bool), s.length ≤ i + n → i ≤ s.length → acc.length = 256 →
    (∀ H, classF (s.drop i) acc = none → Q (.ret, [(2, .p .nilp), (3, .p (.bool false))], H)) →
    (∀ acc', classF (s.drop i) acc = some acc' → Q (.nrm, [(0, .p (.str s)), (4, .bx 0 0)], [.box ((bools (false :: acc')).map .p)])) →
    Wp Γ glob_class_l1 [(0, .p (.str s)), (4, .bx 0 0), (5, .p (.int .i64 (i : Int)))] [.box ((bools (false :: acc)).map .p)] (InBlk [0, 4] 0 Q) := by
  intro n
  induction n with
  | zero =>
    intro i acc hn hi ha h1 h2
    obtain rfl : i = s.length := by omega
    rw [W_loop (L := glob_class_l1) rfl]
    simp (disch := first | assumption | omega | decide | (simp only [List.length_cons, List.length_nil, List.length_append, List.length_replicate, List.length_map, List.length_set, List.length_take, List.length_drop, strs_len, ints_len, bools_len, aggs_len, vpv_len]; done) | (simp only [List.length_cons, List.length_nil, List.length_append, List.length_replicate, List.length_map, List.length_set, List.length_take, List.length_drop, strs_len, ints_len, bools_len, aggs_len, vpv_len]; omega)) only [go_sem]
    exact h2 acc (by rw [List.drop_length]; rfl)
  | succ n ih =>
    intro i acc hn hi ha h1 h2
    by_cases hlt : i < s.length
    · have b0 := @byt_nonneg s i
      have b1 := @byt_le s i
      have f1 : byt s i = 0 + byt s i := by omega
      by_cases h3 : i + 2 < s.length
      · rw [drop3 h3, classF_3] at h1 h2
        have c0 := @byt_nonneg s (i + 2)
        have c1 := @byt_le s (i + 2)
        by_cases h45 : byt s (i + 1) = 45
        · have e45 : s.getD (i + 1) 0 = 45 := (byt_eqG 45).1 h45
          rw [if_pos e45] at h1 h2
          by_cases hc : byt s (i + 2) < byt s i
          · rw [if_pos (byt_lt_iff.1 hc)] at h1
            rw [W_loop (L := glob_class_l1) rfl]
            simp (disch := first | assumption | omega | decide | (simp only [List.length_cons, List.length_nil, List.length_append, List.length_replicate, List.length_map, List.length_set, List.length_take, List.length_drop, strs_len, ints_len, bools_len, aggs_len, vpv_len]; done) | (simp only [List.length_cons, List.length_nil, List.length_append, List.length_replicate, List.length_map, List.length_set, List.length_take, List.length_drop, strs_len, ints_len, bools_len, aggs_len, vpv_len]; omega)) only [go_sem, tn1, tn2]
            exact h1 _ rfl
          · rw [if_neg (fun h => hc (byt_lt_iff.2 h))] at h1 h2
            have e := fun an => resM_fills (an := an) ha b0 (show byt s i ≤ byt s (i + 2) by omega) (by omega)
            have el : (byt s (i + 2)).toNat + 1 - (byt s i).toNat = (s.getD (i + 2) 0).toNat - (s.getD i 0).toNat + 1 := by
              rw [getD_u8, getD_u8]
              unfold byt at hc
              omega
            rw [W_loop (L := glob_class_l1) rfl]
            simp (disch := first | assumption | omega | decide | (simp only [List.length_cons, List.length_nil, List.length_append, List.length_replicate, List.length_map, List.length_set, List.length_take, List.length_drop, strs_len, ints_len, bools_len, aggs_len, vpv_len]; done) | (simp only [List.length_cons, List.length_nil, List.length_append, List.length_replicate, List.length_map, List.length_set, List.length_take, List.length_drop, strs_len, ints_len, bools_len, aggs_len, vpv_len]; omega)) only [go_sem, tn1, tn2, e, still53]
            rw [el, getD_u8]
            exact ih (i + 3) _ (by omega) (by omega) (by rw [fillN_len, ha]) h1 h2
        · have e45 : ¬ s.getD (i + 1) 0 = 45 := fun h => h45 ((byt_eqG 45).2 h)
          rw [if_neg e45] at h1 h2
          have e := fun an => resM_fills (an := an) ha b0 (Int.le_refl _) (by omega)
          have el : (byt s i).toNat + 1 - (byt s i).toNat = 1 := by omega
          have ed : s.getD (i + 1) 0 :: s.getD (i + 2) 0 :: s.drop (i + 3) = s.drop (i + 1) := by
            have := drop3 h3
            rw [drop1 hlt] at this
            exact (List.cons.inj this).2.symm
          rw [ed] at h1 h2
          rw [W_loop (L := glob_class_l1) rfl]
          simp (disch := first | assumption | omega | decide | (simp only [List.length_cons, List.length_nil, List.length_append, List.length_replicate, List.length_map, List.length_set, List.length_take, List.length_drop, strs_len, ints_len, bools_len, aggs_len, vpv_len]; done) | (simp only [List.length_cons, List.length_nil, List.length_append, List.length_replicate, List.length_map, List.length_set, List.length_take, List.length_drop, strs_len, ints_len, bools_len, aggs_len, vpv_len]; omega)) only [go_sem, tn1, e, still53]
          rw [el, getD_u8]
          exact ih (i + 1) _ (by omega) (by omega) (by rw [fillN_len, ha]) h1 h2
      · rw [drop1 hlt, classF_short (by rw [List.length_drop]; omega)] at h1 h2
        have e := fun an => resM_fills (an := an) ha b0 (Int.le_refl _) (by omega)
        have el : (byt s i).toNat + 1 - (byt s i).toNat = 1 := by omega
        rw [W_loop (L := glob_class_l1) rfl]
        simp (disch := first | assumption | omega | decide | (simp only [List.length_cons, List.length_nil, List.length_append, List.length_replicate, List.length_map, List.length_set, List.length_take, List.length_drop, strs_len, ints_len, bools_len, aggs_len, vpv_len]; done) | (simp only [List.length_cons, List.length_nil, List.length_append, List.length_replicate, List.length_map, List.length_set, List.length_take, List.length_drop, strs_len, ints_len, bools_len, aggs_len, vpv_len]; omega)) only [go_sem, e, still53]
        rw [el, getD_u8]
        exact ih (i + 1) _ (by omega) (by omega) (by rw [fillN_len, ha]) h1 h2
    · obtain rfl : i = s.length := by omega
      rw [W_loop (L := glob_class_l1) rfl]
      simp (disch := first | assumption | omega | decide | (simp only [List.length_cons, List.length_nil, List.length_append, List.length_replicate, List.length_map, List.length_set, List.length_take, List.length_drop, strs_len, ints_len, bools_len, aggs_len, vpv_len]; done) | (simp only [List.length_cons, List.length_nil, List.length_append, List.length_replicate, List.length_map, List.length_set, List.length_take, List.length_drop, strs_len, ints_len, bools_len, aggs_len, vpv_len]; omega)) only [go_sem]
      exact h2 acc (by rw [List.drop_length]; rfl)
theorem res_globClass_no (s : List UInt8) (hs : s.length < 900000000) (h : classF s none256 = none) : res Γ 54 [.str s] = some [.nilp, .bool false] := by
  refine res_code (fn := glob_class) rfl rfl ?_
  simp (disch := first | assumption | omega | decide | (simp only [List.length_cons, List.length_nil, List.length_append, List.length_replicate, List.length_map, List.length_set, List.length_take, List.length_drop, strs_len, ints_len, bools_len, aggs_len, vpv_len]; done) | (simp only [List.length_cons, List.length_nil, List.length_append, List.length_replicate, List.length_map, List.length_set, List.length_take, List.length_drop, strs_len, ints_len, bools_len, aggs_len, vpv_len]; omega)) only [go_sem, glob_class, rep257, pures_map]
  refine class_l1_ok s hs _ s.length 0 none256 (by omega) (by omega) none256_len (fun H h' => ?_) (fun acc h' => ?_)
  · simp (disch := first | assumption | omega | decide | (simp only [List.length_cons, List.length_nil, List.length_append, List.length_replicate, List.length_map, List.length_set, List.length_take, List.length_drop, strs_len, ints_len, bools_len, aggs_len, vpv_len]; done) | (simp only [List.length_cons, List.length_nil, List.length_append, List.length_replicate, List.length_map, List.length_set, List.length_take, List.length_drop, strs_len, ints_len, bools_len, aggs_len, vpv_len]; omega)) only [go_sem]
  · rw [List.drop_zero, h] at h'; cases h'
theorem res_globClass (s : List UInt8) (hs : s.length < 900000000) {st : List Bool} (h : classF s none256 = some st) : res Γ 54 [.str s] = some [tokP (false, st), .bool (decide (s ≠ []))] := by
  refine res_code (fn := glob_class) rfl rfl ?_
  simp (disch := first | assumption | omega | decide | (simp only [List.length_cons, List.length_nil, List.length_append, List.length_replicate, List.length_map, List.length_set, List.length_take, List.length_drop, strs_len, ints_len, bools_len, aggs_len, vpv_len]; done) | (simp only [List.length_cons, List.length_nil, List.length_append, List.length_replicate, List.length_map, List.length_set, List.length_take, List.length_drop, strs_len, ints_len, bools_len, aggs_len, vpv_len]; omega)) only [go_sem, glob_class, rep257, pures_map]
  refine class_l1_ok s hs _ s.length 0 none256 (by omega) (by omega) none256_len (fun H h' => ?_) (fun acc h' => ?_)
  · rw [List.drop_zero, h] at h'; cases h'
  · rw [List.drop_zero, h] at h'
    cases h'
    have hl : 0 < (bools (false :: st)).length := by rw [bools_len]; simp
    simp (disch := first | assumption | omega | decide | (simp only [List.length_cons, List.length_nil, List.length_append, List.length_replicate, List.length_map, List.length_set, List.length_take, List.length_drop, strs_len, ints_len, bools_len, aggs_len, vpv_len]; done) | (simp only [List.length_cons, List.length_nil, List.length_append, List.length_replicate, List.length_map, List.length_set, List.length_take, List.length_drop, strs_len, ints_len, bools_len, aggs_len, vpv_len]; omega)) only [go_sem]
    rfl
end Ab
/- Patterns of one part: pieces of a whole one, and whether a text is one of it. -/
namespace Ab
open Go (IntKind BinOp UnOp)
theorem ptrs_tok {l : List Tok} {t : Tok} : ptrs l ++ [tokP t] = ptrs (l ++ [t]) := by simp [ptrs]
attribute [go_sem] ptrs_tok
theorem toks_none {r : List UInt8} {x : Tok} (h : toksF r = none) : (toksF r).map (x :: ·) = none := by rw [h]; rfl
theorem toks_some {r : List UInt8} {x : Tok} {t : List Tok} (h : toksF r = some t) : (toksF r).map (x :: ·) = some (x :: t) := by rw [h]; rfl
theorem byt_ne {s : List UInt8} {i : Nat} {b : UInt8} (h : byt s i ≠ (b.toNat : Int)) : s.getD i 0 ≠ b := fun e => h ((byt_eqG b).2 e)
theorem single_cutI {s : List UInt8} {i : Nat} (h : i < s.length) : (s.take ((i : Int) + 1).toNat).drop i = [s.getD i 0] := by rw [tn1]; exact single_cut h
set_option maxRecDepth 10000 in
theorem pieces_l1_ok (s : List UInt8) (hs : s.length < 900000000) (Q : Out → Prop) : ∀ (n i : Nat) (done : List Tok) (R : Heap), s.length ≤ i + n → i ≤ s.length → done.length ≤ i →
    (∀ H, toksF (s.drop i) = none → Q (.ret, [(2, .p (.sl .nil 1 [])), (3, .p (.bool false))], H)) →
    (∀ t, toksF (s.drop i) = some t → Q (.nrm, [(4, .own 0 (done ++ t).length)], [.row false 1 (ptrs (done ++ t))])) →
    Wp Γ glob_pieces_l1 [(0, .p (.str s)), (4, .own 0 done.length), (5, .p (.int .i64 (i : Int)))] (.row false 1 (ptrs done) :: R) (InBlk [4] 0 Q) := by
  intro n
  induction n with
  | zero =>
    intro i done R hn hi hd h1 h2
    obtain rfl : i = s.length := by omega
    rw [W_loop (L := glob_pieces_l1) rfl]
    simp (disch := first | assumption | omega | decide | (simp only [List.length_cons, List.length_nil, List.length_append, List.length_replicate, List.length_map, List.length_set, List.length_take, List.length_drop, strs_len, ints_len, bools_len, aggs_len, vpv_len]; done) | (simp only [List.length_cons, List.length_nil, List.length_append, List.length_replicate, List.length_map, List.length_set, List.length_take, List.length_drop, strs_len, ints_len, bools_len, aggs_len, vpv_len]; omega)) only [go_sem]
    have := h2 [] (by rw [List.drop_length, toksF])
    rw [List.append_nil] at this
    exact this
  | succ n ih =>
    intro i done R hn hi hd h1 h2
    by_cases hlt : i < s.length
    · have b0 := @byt_nonneg s i
      have b1 := @byt_le s i
      have next : ∀ (j : Nat) (x : Tok) (R : Heap), (∀ H, toksF (s.drop j) = none → Q (.ret, [(2, .p (.sl .nil 1 [])), (3, .p (.bool false))], H)) → (∀ t, toksF (s.drop j) = some t → Q (.nrm, [(4, .own 0 (done ++ x :: t).length)], [.row false 1 (ptrs (done ++ x :: t))])) → i < j → j ≤ s.length →
          Wp Γ glob_pieces_l1 [(0, .p (.str s)), (4, .own 0 (done.length + 1)), (5, .p (.int .i64 (j : Int)))] (.row false 1 (ptrs (done ++ [x])) :: R) (InBlk [4] 0 Q) := by
        intro j x R k1 k2 k3 k4
        have := ih j (done ++ [x]) R (by omega) (by omega) (by simp; omega) k1 (fun t ht => by
          have := k2 t ht
          rw [List.append_assoc]; exact this)
        simpa using this
      rw [drop1 hlt, toksF] at h1 h2
      have hn256 := none256_len
      have hpl := @ptrs_len done
      by_cases e42 : byt s i = 42
      · rw [if_pos ((byt_eqG 42).1 e42)] at h1 h2
        rw [W_loop (L := glob_pieces_l1) rfl]
        simp (disch := first | assumption | omega | decide | (simp only [List.length_cons, List.length_nil, List.length_append, List.length_replicate, List.length_map, List.length_set, List.length_take, List.length_drop, strs_len, ints_len, bools_len, aggs_len, vpv_len]; done) | (simp only [List.length_cons, List.length_nil, List.length_append, List.length_replicate, List.length_map, List.length_set, List.length_take, List.length_drop, strs_len, ints_len, bools_len, aggs_len, vpv_len]; omega)) only [go_sem, rep257, pures_map, e42]
        exact next (i + 1) _ _ (fun H h => h1 H (toks_none h)) (fun t h => h2 _ (toks_some h)) (by omega) (by omega)
      · rw [if_neg (byt_ne (b := 42) e42)] at h1 h2
        by_cases e63 : byt s i = 63
        · rw [if_pos ((byt_eqG 63).1 e63)] at h1 h2
          have e := fun an => resM_fills (an := an) none256_len (a := 0) (b := 255) (by omega) (by omega) (by omega)
          rw [W_loop (L := glob_pieces_l1) rfl]
          simp (disch := first | assumption | omega | decide | (simp only [List.length_cons, List.length_nil, List.length_append, List.length_replicate, List.length_map, List.length_set, List.length_take, List.length_drop, strs_len, ints_len, bools_len, aggs_len, vpv_len]; done) | (simp only [List.length_cons, List.length_nil, List.length_append, List.length_replicate, List.length_map, List.length_set, List.length_take, List.length_drop, strs_len, ints_len, bools_len, aggs_len, vpv_len]; omega)) only [go_sem, rep257, pures_map, e63, e, still53, Int.toNat_zero]
          exact next (i + 1) _ _ (fun H h => h1 H (toks_none h)) (fun t h => h2 _ (toks_some h)) (by omega) (by omega)
        · rw [if_neg (byt_ne (b := 63) e63)] at h1 h2
          by_cases e91 : byt s i = 91
          · rw [if_pos ((byt_eqG 91).1 e91)] at h1 h2
            have hx := @ixB_nn (s.drop (i + 1)) 93
            have ex : ixB (s.drop i) 93 = if ixB (s.drop (i + 1)) 93 = -1 then -1 else ixB (s.drop (i + 1)) 93 + 1 := by
              rw [drop1 hlt, (byt_eqG 91).1 e91]
              simp only [ixB, show ((91 : UInt8) == 93) = false by decide, Bool.false_eq_true, if_false]
              simp
            generalize ixB (s.drop (i + 1)) 93 = x at *
            rw [List.length_drop] at hx
            have l93 : Nat.toUInt8 93 = 93 := rfl
            by_cases hx0 : x = -1
            · rw [if_pos hx0] at ex
              rw [if_pos (by omega)] at h1
              rw [W_loop (L := glob_pieces_l1) rfl]
              simp (disch := first | assumption | omega | decide | (simp only [List.length_cons, List.length_nil, List.length_append, List.length_replicate, List.length_map, List.length_set, List.length_take, List.length_drop, strs_len, ints_len, bools_len, aggs_len, vpv_len]; done) | (simp only [List.length_cons, List.length_nil, List.length_append, List.length_replicate, List.length_map, List.length_set, List.length_take, List.length_drop, strs_len, ints_len, bools_len, aggs_len, vpv_len]; omega)) only [go_sem, rep257, pures_map, e91, l93, ex]
              exact h1 _ rfl
            · rw [if_neg hx0] at ex
              obtain ⟨x, rfl⟩ := Int.eq_ofNat_of_zero_le (show 0 ≤ x by omega)
              have ea : ((i : Int) + ((x : Int) + 1)).toNat = i + 1 + x := by omega
              have ec : (s.take (i + 1 + x)).drop (i + 1) = (s.drop (i + 1)).take x := by
                rw [List.drop_take, show i + 1 + x - (i + 1) = x by omega]
              rw [Int.toNat_natCast] at h1 h2
              cases hc : classF ((s.drop (i + 1)).take x) none256 with
              | none =>
                have er := res_globClass_no _ (by rw [List.length_take, List.length_drop]; omega) hc
                rw [W_loop (L := glob_pieces_l1) rfl]
                simp (disch := first | assumption | omega | decide | (simp only [List.length_cons, List.length_nil, List.length_append, List.length_replicate, List.length_map, List.length_set, List.length_take, List.length_drop, strs_len, ints_len, bools_len, aggs_len, vpv_len]; done) | (simp only [List.length_cons, List.length_nil, List.length_append, List.length_replicate, List.length_map, List.length_set, List.length_take, List.length_drop, strs_len, ints_len, bools_len, aggs_len, vpv_len]; omega)) only [go_sem, rep257, pures_map, e91, l93, ex, tn1, ea, ec, er]
                refine h1 _ ?_
                rw [hc]
                split <;> rfl
              | some st =>
                have er := res_globClass _ (by rw [List.length_take, List.length_drop]; omega) hc
                rw [hc] at h1 h2
                by_cases h0 : x = 0
                · subst h0
                  rw [List.take_zero] at er
                  rw [if_pos (by omega)] at h1
                  rw [W_loop (L := glob_pieces_l1) rfl]
                  simp (disch := first | assumption | omega | decide | (simp only [List.length_cons, List.length_nil, List.length_append, List.length_replicate, List.length_map, List.length_set, List.length_take, List.length_drop, strs_len, ints_len, bools_len, aggs_len, vpv_len]; done) | (simp only [List.length_cons, List.length_nil, List.length_append, List.length_replicate, List.length_map, List.length_set, List.length_take, List.length_drop, strs_len, ints_len, bools_len, aggs_len, vpv_len]; omega)) only [go_sem, rep257, pures_map, e91, l93, ex, tn1, ea, ec, er, ne_eq, not_true_eq_false, List.take_zero]
                  exact h1 _ rfl
                · have hne : (s.drop (i + 1)).take x ≠ [] := fun h => by
                    have := congrArg List.length h
                    rw [List.length_take, List.length_drop, List.length_nil] at this
                    omega
                  rw [if_neg (by omega)] at h1 h2
                  rw [decide_eq_true hne] at er
                  rw [List.drop_drop] at h1 h2
                  rw [W_loop (L := glob_pieces_l1) rfl]
                  simp (disch := first | assumption | omega | decide | (simp only [List.length_cons, List.length_nil, List.length_append, List.length_replicate, List.length_map, List.length_set, List.length_take, List.length_drop, strs_len, ints_len, bools_len, aggs_len, vpv_len]; done) | (simp only [List.length_cons, List.length_nil, List.length_append, List.length_replicate, List.length_map, List.length_set, List.length_take, List.length_drop, strs_len, ints_len, bools_len, aggs_len, vpv_len]; omega)) only [go_sem, rep257, pures_map, e91, l93, ex, tn1, ea, ec, er, tokP]
                  have := fun R => next (i + 1 + (x + 1)) (false, st) R (fun H h => h1 H (toks_none h)) (fun t h => h2 _ (toks_some h)) (by omega) (by omega)
                  rw [show (((i + 1 + (x + 1) : Nat)) : Int) = (i : Int) + ((x : Int) + 1) + 1 by omega] at this
                  exact this _
          · rw [if_neg (byt_ne (b := 91) e91)] at h1 h2
            have er := res_nameIs1 (s.getD i 0)
            cases hb : byteOk (s.getD i 0)
            · rw [if_neg (by rw [hb]; decide)] at h1
              rw [hb] at er
              rw [W_loop (L := glob_pieces_l1) rfl]
              simp (disch := first | assumption | omega | decide | (simp only [List.length_cons, List.length_nil, List.length_append, List.length_replicate, List.length_map, List.length_set, List.length_take, List.length_drop, strs_len, ints_len, bools_len, aggs_len, vpv_len]; done) | (simp only [List.length_cons, List.length_nil, List.length_append, List.length_replicate, List.length_map, List.length_set, List.length_take, List.length_drop, strs_len, ints_len, bools_len, aggs_len, vpv_len]; omega)) only [go_sem, rep257, pures_map, single_cutI, er]
              exact h1 _ rfl
            · rw [if_pos hb] at h1 h2
              rw [hb] at er
              have e := fun an => resM_fills (an := an) none256_len b0 (Int.le_refl _) (by omega)
              have el : (byt s i).toNat + 1 - (byt s i).toNat = 1 := by omega
              rw [W_loop (L := glob_pieces_l1) rfl]
              simp (disch := first | assumption | omega | decide | (simp only [List.length_cons, List.length_nil, List.length_append, List.length_replicate, List.length_map, List.length_set, List.length_take, List.length_drop, strs_len, ints_len, bools_len, aggs_len, vpv_len]; done) | (simp only [List.length_cons, List.length_nil, List.length_append, List.length_replicate, List.length_map, List.length_set, List.length_take, List.length_drop, strs_len, ints_len, bools_len, aggs_len, vpv_len]; omega)) only [go_sem, rep257, pures_map, single_cutI, er, e, still53]
              rw [el, getD_u8]
              exact next (i + 1) _ _ (fun H h => h1 H (toks_none h)) (fun t h => h2 _ (toks_some h)) (by omega) (by omega)
    · obtain rfl : i = s.length := by omega
      rw [W_loop (L := glob_pieces_l1) rfl]
      simp (disch := first | assumption | omega | decide | (simp only [List.length_cons, List.length_nil, List.length_append, List.length_replicate, List.length_map, List.length_set, List.length_take, List.length_drop, strs_len, ints_len, bools_len, aggs_len, vpv_len]; done) | (simp only [List.length_cons, List.length_nil, List.length_append, List.length_replicate, List.length_map, List.length_set, List.length_take, List.length_drop, strs_len, ints_len, bools_len, aggs_len, vpv_len]; omega)) only [go_sem]
      have := h2 [] (by rw [List.drop_length, toksF])
      rw [List.append_nil] at this
      exact this
theorem res_pieces_no (s : List UInt8) (hs : s.length < 900000000) (h : toksF s = none) : res Γ 35 [.str s] = some [.sl .nil 1 [], .bool false] := by
  refine res_code (fn := glob_pieces) rfl rfl ?_
  simp (disch := first | assumption | omega | decide | (simp only [List.length_cons, List.length_nil, List.length_append, List.length_replicate, List.length_map, List.length_set, List.length_take, List.length_drop, strs_len, ints_len, bools_len, aggs_len, vpv_len]; done) | (simp only [List.length_cons, List.length_nil, List.length_append, List.length_replicate, List.length_map, List.length_set, List.length_take, List.length_drop, strs_len, ints_len, bools_len, aggs_len, vpv_len]; omega)) only [go_sem, glob_pieces]
  refine pieces_l1_ok s hs _ s.length 0 [] [] (by omega) (by omega) (by simp) (fun H h' => ?_) (fun t h' => ?_)
  · simp (disch := first | assumption | omega | decide | (simp only [List.length_cons, List.length_nil, List.length_append, List.length_replicate, List.length_map, List.length_set, List.length_take, List.length_drop, strs_len, ints_len, bools_len, aggs_len, vpv_len]; done) | (simp only [List.length_cons, List.length_nil, List.length_append, List.length_replicate, List.length_map, List.length_set, List.length_take, List.length_drop, strs_len, ints_len, bools_len, aggs_len, vpv_len]; omega)) only [go_sem]
  · rw [List.drop_zero, h] at h'; cases h'
theorem res_pieces (s : List UInt8) (hs : s.length < 900000000) {t : List Tok} (h : toksF s = some t) : res Γ 35 [.str s] = some [.sl .any 1 (ptrs t), .bool true] := by
  refine res_code (fn := glob_pieces) rfl rfl ?_
  simp (disch := first | assumption | omega | decide | (simp only [List.length_cons, List.length_nil, List.length_append, List.length_replicate, List.length_map, List.length_set, List.length_take, List.length_drop, strs_len, ints_len, bools_len, aggs_len, vpv_len]; done) | (simp only [List.length_cons, List.length_nil, List.length_append, List.length_replicate, List.length_map, List.length_set, List.length_take, List.length_drop, strs_len, ints_len, bools_len, aggs_len, vpv_len]; omega)) only [go_sem, glob_pieces]
  refine pieces_l1_ok s hs _ s.length 0 [] [] (by omega) (by omega) (by simp) (fun H h' => ?_) (fun t' h' => ?_)
  · rw [List.drop_zero, h] at h'; cases h'
  · rw [List.drop_zero, h] at h'
    cases h'
    have hpl := @ptrs_len t
    simp (disch := first | assumption | omega | decide | (simp only [List.length_cons, List.length_nil, List.length_append, List.length_replicate, List.length_map, List.length_set, List.length_take, List.length_drop, strs_len, ints_len, bools_len, aggs_len, vpv_len]; done) | (simp only [List.length_cons, List.length_nil, List.length_append, List.length_replicate, List.length_map, List.length_set, List.length_take, List.length_drop, strs_len, ints_len, bools_len, aggs_len, vpv_len]; omega)) only [go_sem]
end Ab
/- The reference's way with patterns: place by place. Plain Lean. -/
namespace Ab
open Classical in
noncomputable def mtD (T : List Tok) (s : List UInt8) : Bool := decide (Mt T s)
theorem mtD_iff {T s} : mtD T s = true ↔ Mt T s := by unfold mtD; simp
/-- May the tokens end at each place? -/
noncomputable def dpV (T : List Tok) (s : List UInt8) : List Bool := (List.range (s.length + 1)).map fun k => mtD T (s.take k)
theorem dpV_len {T s} : (dpV T s).length = s.length + 1 := by simp [dpV]
theorem dpV_get {T : List Tok} {s : List UInt8} {k : Nat} (h : k < s.length + 1) : (dpV T s).getD k false = mtD T (s.take k) := by
  unfold dpV
  rw [List.getD_eq_getElem?_getD, List.getElem?_map, List.getElem?_range h]
  rfl
theorem dpV_nil {s : List UInt8} : dpV [] s = true :: List.replicate s.length false := by
  refine List.ext_getElem (by rw [dpV_len]; simp) fun i h1 h2 => ?_
  simp only [dpV, List.getElem_map, List.getElem_range]
  cases i with
  | zero =>
    have : mtD [] (s.take 0) = true := mtD_iff.2 rfl
    rw [this]; rfl
  | succ i =>
    rw [dpV_len] at h1
    have : mtD [] (s.take (i + 1)) = false := by
      cases hb : mtD [] (s.take (i + 1))
      · rfl
      · have := mtD_iff.1 hb
        have : s.take (i + 1) = [] := this
        have := congrArg List.length this
        rw [List.length_take, List.length_nil] at this
        omega
    rw [this]
    simp
theorem mtD_congr {T U : List Tok} {s u : List UInt8} (h : Mt T s ↔ Mt U u) : mtD T s = mtD U u := by
  cases h1 : mtD T s <;> cases h2 : mtD U u
  · rfl
  · have := mtD_iff.2 (h.2 (mtD_iff.1 h2)); rw [h1] at this; cases this
  · have := mtD_iff.2 (h.1 (mtD_iff.1 h1)); rw [h2] at this; cases this
  · rfl
theorem dp_star0 {T : List Tok} {t : Tok} {s : List UInt8} (h : t.1 = true) : (dpV (T ++ [t]) s).getD 0 false = (dpV T s).getD 0 false := by
  rw [dpV_get (by omega), dpV_get (by omega)]
  exact mtD_congr (place_star0 h)
theorem dp_star {T : List Tok} {t : Tok} {s : List UInt8} {k : Nat} (h : t.1 = true) (hk : k < s.length) : (dpV (T ++ [t]) s).getD (k + 1) false = ((dpV T s).getD (k + 1) false || (dpV (T ++ [t]) s).getD k false) := by
  rw [dpV_get (by omega), dpV_get (by omega), dpV_get (by omega)]
  have := place_star (ts := T) (t := t) (s := s) h hk
  cases h1 : mtD T (s.take (k + 1)) <;> cases h2 : mtD (T ++ [t]) (s.take k)
  · cases h3 : mtD (T ++ [t]) (s.take (k + 1))
    · rfl
    · rcases this.1 (mtD_iff.1 h3) with h | h
      · rw [mtD_iff.2 h] at h1; cases h1
      · rw [mtD_iff.2 h] at h2; cases h2
  · exact mtD_iff.2 (this.2 (.inr (mtD_iff.1 h2)))
  · exact mtD_iff.2 (this.2 (.inl (mtD_iff.1 h1)))
  · exact mtD_iff.2 (this.2 (.inl (mtD_iff.1 h1)))
theorem dp_set0 {T : List Tok} {t : Tok} {s : List UInt8} (h : t.1 = false) : (dpV (T ++ [t]) s).getD 0 false = false := by
  rw [dpV_get (by omega)]
  cases h1 : mtD (T ++ [t]) (s.take 0)
  · rfl
  · exact absurd (mtD_iff.1 h1) (place_set0 h)
theorem dp_set {T : List Tok} {t : Tok} {s : List UInt8} {k : Nat} (h : t.1 = false) (hk : k < s.length) : (dpV (T ++ [t]) s).getD (k + 1) false = ((dpV T s).getD k false && inT t (s.getD k 0)) := by
  rw [dpV_get (by omega), dpV_get (by omega)]
  have hc : s[k]? = some (s.getD k 0) := by rw [List.getD_eq_getElem?_getD, List.getElem?_eq_getElem hk]; rfl
  have := place_set (ts := T) (t := t) (s := s) h hc
  cases h1 : mtD T (s.take k) <;> cases h2 : inT t (s.getD k 0)
  · cases h3 : mtD (T ++ [t]) (s.take (k + 1))
    · rfl
    · have := (this.1 (mtD_iff.1 h3)).1; rw [mtD_iff.2 this] at h1; cases h1
  · cases h3 : mtD (T ++ [t]) (s.take (k + 1))
    · rfl
    · have := (this.1 (mtD_iff.1 h3)).1; rw [mtD_iff.2 this] at h1; cases h1
  · cases h3 : mtD (T ++ [t]) (s.take (k + 1))
    · rfl
    · have := (this.1 (mtD_iff.1 h3)).2; rw [h2] at this; cases this
  · exact mtD_iff.2 (this.2 ⟨mtD_iff.1 h1, h2⟩)
theorem dp_last {T : List Tok} {s : List UInt8} : (dpV T s).getD s.length false = mtD T s := by
  rw [dpV_get (by omega), List.take_length]
end Ab
/- Patterns with choices: how they are made, and what comes out of them. Plain Lean. -/
namespace Ab
def special (c : UInt8) : Bool := c == 123 || c == 125 || c == 44
/-- Texts with commas between. -/
def joinC : List (List UInt8) → List UInt8
  | [] => []
  | [a] => a
  | a :: r => a ++ 44 :: joinC r
theorem joinC_cons {a : List UInt8} {r : List (List UInt8)} (h : r ≠ []) : joinC (a :: r) = a ++ 44 :: joinC r := by
  cases r with
  | nil => exact absurd rfl h
  | cons b r => rfl
/-- Each of a row with each of another one. -/
def prodL (a b : List (List UInt8)) : List (List UInt8) := a.flatMap fun x => b.map (x ++ ·)
theorem prodL_len (a b : List (List UInt8)) : (prodL a b).length = a.length * b.length := by
  unfold prodL
  induction a with
  | nil => simp
  | cons x a ih => rw [List.flatMap_cons, List.length_append, ih, List.length_map, List.length_cons, Nat.add_mul]; omega
theorem prodL_assoc (a b c : List (List UInt8)) : prodL (prodL a b) c = prodL a (prodL b c) := by
  unfold prodL
  induction a with
  | nil => rfl
  | cons x a ih =>
    rw [List.flatMap_cons, List.flatMap_append, ih, List.flatMap_cons]
    congr 1
    rw [List.flatMap_map, List.map_flatMap]
    congr 1
    funext y
    rw [List.map_map]
    congr 1
    funext z
    exact List.append_assoc x y z
theorem prodL_nil_right (a : List (List UInt8)) : prodL a [[]] = a := by
  unfold prodL
  induction a with
  | nil => rfl
  | cons x a ih => rw [List.flatMap_cons, ih]; simp
theorem prodL_nil_left (a : List (List UInt8)) : prodL [[]] a = a := by
  unfold prodL; simp
theorem prodL_one (p : List UInt8) (a : List (List UInt8)) : prodL [p] a = a.map (p ++ ·) := by
  unfold prodL; simp
/-- What comes out of a pattern: plain bytes; plain bytes, a choice, and the rest. -/
inductive Exp : List UInt8 → List (List UInt8) → Prop
  | run (p) : (∀ c ∈ p, special c = false) → Exp p [p]
  | grp (p) (alts : List (List UInt8)) (f : List UInt8 → List (List UInt8)) (u l) : (∀ c ∈ p, special c = false) → alts ≠ [] → (∀ a ∈ alts, Exp a (f a)) → Exp u l →
      Exp (p ++ 123 :: (joinC alts ++ 125 :: u)) (prodL [p] (prodL (alts.flatMap f) l))
/-- Do braces and commas stand as they may, so many braces being open? -/
def scan : Nat → List UInt8 → Bool
  | d, [] => d == 0
  | d, c :: r => if c == 123 then scan (d + 1) r else if c == 125 then decide (0 < d) && scan (d - 1) r else if c == 44 then decide (0 < d) && scan d r else scan d r
theorem exp_lit {c : UInt8} {u : List UInt8} (hc : special c = false) (h : ∃ l, Exp u l) : ∃ l, Exp (c :: u) l := by
  obtain ⟨l, h⟩ := h
  cases h with
  | run _ hp => exact ⟨_, .run (c :: u) fun x hx => by
      rcases List.mem_cons.1 hx with rfl | hx
      · exact hc
      · exact hp x hx⟩
  | grp p alts f v m hp ha hf hv => exact ⟨_, .grp (c :: p) alts f v m (fun x hx => by
      rcases List.mem_cons.1 hx with rfl | hx
      · exact hc
      · exact hp x hx) ha hf hv⟩
open Classical in
theorem exp_grp {alts : List (List UInt8)} {u : List UInt8} (ha : alts ≠ []) (h : ∀ a ∈ alts, ∃ l, Exp a l) (hu : ∃ l, Exp u l) : ∃ l, Exp (123 :: (joinC alts ++ 125 :: u)) l := by
  obtain ⟨l, hu⟩ := hu
  refine ⟨_, .grp [] alts (fun a => if h : ∃ l, Exp a l then h.choose else []) u l (by simp) ha (fun a hm => ?_) hu⟩
  have := h a hm
  simp only [this, dif_pos]
  exact this.choose_spec
theorem scan_exp : ∀ (n : Nat) (s : List UInt8), s.length ≤ n → ∀ d, scan d s = true → (d = 0 → ∃ l, Exp s l) ∧ (0 < d → ∃ alts rest, alts ≠ [] ∧ (∀ a ∈ alts, ∃ l, Exp a l) ∧ s = joinC alts ++ 125 :: rest ∧ scan (d - 1) rest = true) := by
  intro n
  induction n with
  | zero =>
    intro s hs d h
    have : s = [] := List.eq_nil_of_length_eq_zero (by omega)
    subst this
    simp only [scan, beq_iff_eq] at h
    subst h
    exact ⟨fun _ => ⟨_, .run [] (by simp)⟩, fun h => absurd h (by omega)⟩
  | succ n ih =>
    intro s hs d h
    cases s with
    | nil =>
      simp only [scan, beq_iff_eq] at h
      subst h
      exact ⟨fun _ => ⟨_, .run [] (by simp)⟩, fun h => absurd h (by omega)⟩
    | cons c r =>
      simp only [List.length_cons] at hs
      by_cases h1 : c = 123
      · subst h1
        simp only [scan, beq_self_eq_true, if_true] at h
        obtain ⟨alts, rest, k1, k2, k3, k4⟩ := (ih r (by omega) (d + 1) h).2 (by omega)
        rw [Nat.add_sub_cancel] at k4
        have hl : rest.length ≤ n := by
          have := congrArg List.length k3
          rw [List.length_append, List.length_cons] at this
          omega
        obtain ⟨j1, j2⟩ := ih rest hl d k4
        refine ⟨fun hd => ?_, fun hd => ?_⟩
        · rw [k3]; exact exp_grp k1 k2 (j1 hd)
        · obtain ⟨alts2, rest2, m1, m2, m3, m4⟩ := j2 hd
          cases alts2 with
          | nil => exact absurd rfl m1
          | cons a as =>
            refine ⟨(123 :: (joinC alts ++ 125 :: a)) :: as, rest2, by simp, fun x hx => ?_, ?_, m4⟩
            · rcases List.mem_cons.1 hx with rfl | hx
              · exact exp_grp k1 k2 (m2 a (by simp))
              · exact m2 x (by simp [hx])
            · rw [k3, m3]
              cases as with
              | nil => simp [joinC]
              | cons b bs => simp [joinC]
      · by_cases h2 : c = 125
        · subst h2
          simp only [scan, show ((125 : UInt8) == 123) = false by decide, beq_self_eq_true, if_true, Bool.false_eq_true, if_false, Bool.and_eq_true, decide_eq_true_eq] at h
          refine ⟨fun hd => absurd h.1 (by omega), fun hd => ⟨[[]], r, by simp, fun x hx => ?_, rfl, h.2⟩⟩
          rw [List.mem_singleton] at hx
          subst hx
          exact ⟨_, .run [] (by simp)⟩
        · by_cases h3 : c = 44
          · subst h3
            simp only [scan, show ((44 : UInt8) == 123) = false by decide, show ((44 : UInt8) == 125) = false by decide, beq_self_eq_true, if_true, Bool.false_eq_true, if_false, Bool.and_eq_true, decide_eq_true_eq] at h
            refine ⟨fun hd => absurd h.1 (by omega), fun hd => ?_⟩
            obtain ⟨alts, rest, k1, k2, k3, k4⟩ := (ih r (by omega) d h.2).2 hd
            refine ⟨[] :: alts, rest, by simp, fun x hx => ?_, ?_, k4⟩
            · rcases List.mem_cons.1 hx with rfl | hx
              · exact ⟨_, .run [] (by simp)⟩
              · exact k2 x hx
            · rw [joinC_cons k1, k3]; rfl
          · have e1 : (c == 123) = false := by simpa using h1
            have e2 : (c == 125) = false := by simpa using h2
            have e3 : (c == 44) = false := by simpa using h3
            have hc : special c = false := by simp [special, e1, e2, e3]
            simp only [scan, e1, e2, e3, Bool.false_eq_true, if_false] at h
            obtain ⟨j1, j2⟩ := ih r (by omega) d h
            refine ⟨fun hd => exp_lit hc (j1 hd), fun hd => ?_⟩
            obtain ⟨alts, rest, k1, k2, k3, k4⟩ := j2 hd
            cases alts with
            | nil => exact absurd rfl k1
            | cons a as =>
              refine ⟨(c :: a) :: as, rest, by simp, fun x hx => ?_, ?_, k4⟩
              · rcases List.mem_cons.1 hx with rfl | hx
                · exact exp_lit hc (k2 a (by simp))
                · exact k2 x (by simp [hx])
              · rw [k3]
                cases as with
                | nil => rfl
                | cons b bs => rfl
theorem exp_of_scan {s : List UInt8} (h : scan 0 s = true) : ∃ l, Exp s l := (scan_exp s.length s (Nat.le_refl _) 0 h).1 rfl
theorem exp_pos {s : List UInt8} {l : List (List UInt8)} (h : Exp s l) : 0 < l.length := by
  induction h with
  | run => simp
  | grp p alts f u l hp ha hf _ ih ihu =>
    rw [prodL_len, prodL_len]
    have : 0 < (alts.flatMap f).length := by
      cases alts with
      | nil => exact absurd rfl ha
      | cons a as =>
        rw [List.flatMap_cons, List.length_append]
        have := ih a (by simp)
        omega
    simp only [List.length_cons, List.length_nil]
    exact Nat.mul_pos (by omega) (Nat.mul_pos this ihu)
end Ab
