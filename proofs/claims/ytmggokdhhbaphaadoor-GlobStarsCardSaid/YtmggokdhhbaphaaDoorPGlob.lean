import Derived.Test.YtmggokdhhbaphaaDoorCode
import Derived.Test.YtmggokdhhbaphaaDoorAbRow
import Derived.Test.YtmggokdhhbaphaaDoorAbPrim
/- Texts: functions of the library 'strings'. -/
namespace Ab
open Go (IntKind BinOp UnOp)
/-! ### What is computed -/
def lastB (s : List UInt8) (c : Int) : Nat → Int
  | 0 => -1
  | i + 1 => if byt s i = c then (i : Int) else lastB s c i
/-- A text in pieces. -/
def splitB (c : UInt8) : List UInt8 → List (List UInt8)
  | [] => [[]]
  | b :: l => if b = c then [] :: splitB c l else match splitB c l with | [] => [[b]] | h :: t => (b :: h) :: t

theorem lastB_ge (s c) : ∀ i, -1 ≤ lastB s c i ∧ lastB s c i < i := by
  intro i
  induction i with
  | zero => simp [lastB]
  | succ i ih => simp only [lastB]; split <;> omega
theorem lastB_neg {s c i} (h : lastB s c i < 0) : lastB s c i = -1 := by have := lastB_ge s c i; omega
@[go_sem] theorem res_IndexByteString (s : List UInt8) (c : Int) : res Γ 70 [.str s, .int .u8 c] = some [.int .i64 (ixB s c.toNat.toUInt8)] := res_of (RunP_prim (g := indexByteG) rfl rfl)
@[go_sem] theorem res_CountString (s : List UInt8) (c : Int) : res Γ 73 [.str s, .int .u8 c] = some [.int .i64 (s.count c.toNat.toUInt8 : Nat)] := res_of (RunP_prim (g := countG) rfl rfl)
@[go_sem] theorem res_liteIndexByte (s : List UInt8) (c : Int) : res Γ 64 [.str s, .int .u8 c] = some [.int .i64 (ixB s c.toNat.toUInt8)] := by
  refine res_code (fn := internal_stringslite_IndexByte) rfl rfl ?_
  simp (disch := first | assumption | omega | decide | (simp only [List.length_cons, List.length_nil, List.length_append, List.length_replicate, List.length_map, List.length_set, List.length_take, List.length_drop, strs_len, ints_len, bools_len, aggs_len, vpv_len]; done) | (simp only [List.length_cons, List.length_nil, List.length_append, List.length_replicate, List.length_map, List.length_set, List.length_take, List.length_drop, strs_len, ints_len, bools_len, aggs_len, vpv_len]; omega)) only [go_sem, internal_stringslite_IndexByte]
@[go_sem] theorem res_IndexByte (s : List UInt8) (c : Int) : res Γ 55 [.str s, .int .u8 c] = some [.int .i64 (ixB s c.toNat.toUInt8)] := by
  refine res_code (fn := strings_IndexByte) rfl rfl ?_
  simp (disch := first | assumption | omega | decide | (simp only [List.length_cons, List.length_nil, List.length_append, List.length_replicate, List.length_map, List.length_set, List.length_take, List.length_drop, strs_len, ints_len, bools_len, aggs_len, vpv_len]; done) | (simp only [List.length_cons, List.length_nil, List.length_append, List.length_replicate, List.length_map, List.length_set, List.length_take, List.length_drop, strs_len, ints_len, bools_len, aggs_len, vpv_len]; omega)) only [go_sem, strings_IndexByte]
theorem byt_one {c : UInt8} : byt [c] 0 = (c.toNat : Int) := rfl
theorem toU8_nat {c : UInt8} : c.toNat.toUInt8 = c := by simp
theorem toU8_toNat {c : UInt8} : (c.toNat : Int).toNat.toUInt8 = c := by simp
@[go_sem] theorem res_liteIndex1 (s : List UInt8) (c : UInt8) : res Γ 74 [.str s, .str [c]] = some [.int .i64 (ixB s c)] := by
  refine res_code (fn := internal_stringslite_Index) rfl rfl ?_
  simp (disch := first | assumption | omega | decide | (simp only [List.length_cons, List.length_nil, List.length_append, List.length_replicate, List.length_map, List.length_set, List.length_take, List.length_drop, strs_len, ints_len, bools_len, aggs_len, vpv_len]; done) | (simp only [List.length_cons, List.length_nil, List.length_append, List.length_replicate, List.length_map, List.length_set, List.length_take, List.length_drop, strs_len, ints_len, bools_len, aggs_len, vpv_len]; omega)) only [go_sem, internal_stringslite_Index]
  refine cond_split (fun hc => ?_) (fun hc => ?_)
  · simp (disch := first | assumption | omega | decide | (simp only [List.length_cons, List.length_nil, List.length_append, List.length_replicate, List.length_map, List.length_set, List.length_take, List.length_drop, strs_len, ints_len, bools_len, aggs_len, vpv_len]; done) | (simp only [List.length_cons, List.length_nil, List.length_append, List.length_replicate, List.length_map, List.length_set, List.length_take, List.length_drop, strs_len, ints_len, bools_len, aggs_len, vpv_len]; omega)) only [go_sem]
    subst hc
    simp [ixB]
  · simp (disch := first | assumption | omega | decide | (simp only [List.length_cons, List.length_nil, List.length_append, List.length_replicate, List.length_map, List.length_set, List.length_take, List.length_drop, strs_len, ints_len, bools_len, aggs_len, vpv_len]; done) | (simp only [List.length_cons, List.length_nil, List.length_append, List.length_replicate, List.length_map, List.length_set, List.length_take, List.length_drop, strs_len, ints_len, bools_len, aggs_len, vpv_len]; omega)) only [go_sem, byt_one, toU8_nat]
@[go_sem] theorem res_Index1 (s : List UInt8) (c : UInt8) : res Γ 67 [.str s, .str [c]] = some [.int .i64 (ixB s c)] := by
  refine res_code (fn := strings_Index) rfl rfl ?_
  simp (disch := first | assumption | omega | decide | (simp only [List.length_cons, List.length_nil, List.length_append, List.length_replicate, List.length_map, List.length_set, List.length_take, List.length_drop, strs_len, ints_len, bools_len, aggs_len, vpv_len]; done) | (simp only [List.length_cons, List.length_nil, List.length_append, List.length_replicate, List.length_map, List.length_set, List.length_take, List.length_drop, strs_len, ints_len, bools_len, aggs_len, vpv_len]; omega)) only [go_sem, strings_Index]
@[go_sem] theorem res_Count1 (s : List UInt8) (c : UInt8) : res Γ 68 [.str s, .str [c]] = some [.int .i64 (s.count c : Nat)] := by
  refine res_code (fn := strings_Count) rfl rfl ?_
  simp (disch := first | assumption | omega | decide | (simp only [List.length_cons, List.length_nil, List.length_append, List.length_replicate, List.length_map, List.length_set, List.length_take, List.length_drop, strs_len, ints_len, bools_len, aggs_len, vpv_len]; done) | (simp only [List.length_cons, List.length_nil, List.length_append, List.length_replicate, List.length_map, List.length_set, List.length_take, List.length_drop, strs_len, ints_len, bools_len, aggs_len, vpv_len]; omega)) only [go_sem, strings_Count, byt_one, toU8_nat]
theorem ixB_nn {s : List UInt8} {c : UInt8} : -1 ≤ ixB s c ∧ ixB s c < s.length := by
  induction s with
  | nil => simp [ixB]
  | cons b l ih => simp only [ixB, List.length_cons, beq_iff_eq]; split <;> (try split) <;> omega
theorem splitB_ix (c : UInt8) : ∀ s : List UInt8, (ixB s c < 0 → splitB c s = [s]) ∧ (0 ≤ ixB s c → splitB c s = s.take (ixB s c).toNat :: splitB c (s.drop ((ixB s c).toNat + 1)))
  | [] => by simp [ixB, splitB]
  | b :: l => by
    have ih := splitB_ix c l
    have hn := @ixB_nn l c
    by_cases hb : b = c
    · subst hb; simp [ixB, splitB]
    · have hb' : (b == c) = false := by simpa using hb
      simp only [ixB, splitB, hb, hb', if_false, Bool.false_eq_true, beq_iff_eq]
      by_cases h : ixB l c = -1
      · rw [if_pos h, ih.1 (by omega)]
        exact ⟨fun _ => rfl, fun h => by omega⟩
      · rw [if_neg h, ih.2 (by omega)]
        refine ⟨fun h => by omega, fun _ => ?_⟩
        have e : (ixB l c + 1).toNat = (ixB l c).toNat + 1 := by omega
        simp only [e, List.take_succ_cons, List.drop_succ_cons]
theorem splitB_len (c : UInt8) : ∀ s : List UInt8, (splitB c s).length = s.count c + 1
  | [] => by simp [splitB]
  | b :: l => by
    have ih := splitB_len c l
    by_cases hb : b = c
    · subst hb; simp [splitB, ih]
    · simp only [splitB, hb, if_false]
      rw [List.count_cons_of_ne hb]
      cases h : splitB c l with
      | nil => rw [h] at ih; simp at ih
      | cons x y => rw [h] at ih; simpa using ih
theorem count_le {s : List UInt8} {c : UInt8} : s.count c ≤ s.length := List.count_le_length
theorem genSplit_l1 (c : UInt8) (n : Nat) (hn : n < 1000000000) (Q : Out → Prop) : ∀ (k i : Nat) (s : List UInt8) (done : List (List UInt8)), s.length < 1000000000 → done.length = i → s.count c = k → i + k = n →
    (∀ s' done', strs (done ++ splitB c s) = strs (done' ++ [s']) → done'.length = n → Q (.nrm, [(0, .p (.str s')), (9, .own 0 (n + 1)), (10, .p (.int .i64 (n : Int)))], [.row false 1 (strs (done' ++ [[]]))])) →
    Wp Γ strings_genSplit_l1 [(0, .p (.str s)), (1, .p (.str [c])), (2, .p (.int .i64 0)), (3, .p (.int .i64 (n : Int))), (9, .own 0 (n + 1)), (10, .p (.int .i64 (i : Int)))] [.row false 1 (strs (done ++ List.replicate (k + 1) []))] (InBlk [0, 9, 10] 0 Q) := by
  intro k
  induction k with
  | zero =>
    intro i s done hs hd hk hi hQ
    rw [W_loop (L := strings_genSplit_l1) rfl]
    simp (disch := first | assumption | omega | decide | (simp only [List.length_cons, List.length_nil, List.length_append, List.length_replicate, List.length_map, List.length_set, List.length_take, List.length_drop, strs_len, ints_len, bools_len, aggs_len, vpv_len]; done) | (simp only [List.length_cons, List.length_nil, List.length_append, List.length_replicate, List.length_map, List.length_set, List.length_take, List.length_drop, strs_len, ints_len, bools_len, aggs_len, vpv_len]; omega)) only [go_sem]
    obtain rfl : i = n := by omega
    have h : ¬ 0 ≤ ixB s c := fun h => by
      have := splitB_len c s
      rw [(splitB_ix c s).2 h] at this
      simp at this; have := splitB_len c (s.drop ((ixB s c).toNat + 1)); omega
    refine hQ s done ?_ hd
    rw [(splitB_ix c s).1 (by omega)]
  | succ k ih =>
    intro i s done hs hd hk hi hQ
    rw [W_loop (L := strings_genSplit_l1) rfl]
    have h : 0 ≤ ixB s c := by
      have := splitB_len c s
      by_cases h : ixB s c < 0
      · rw [(splitB_ix c s).1 h] at this; simp at this; omega
      · omega
    have hlt := @ixB_nn s c
    simp (disch := first | assumption | omega | decide | (simp only [List.length_cons, List.length_nil, List.length_append, List.length_replicate, List.length_map, List.length_set, List.length_take, List.length_drop, strs_len, ints_len, bools_len, aggs_len, vpv_len]; done) | (simp only [List.length_cons, List.length_nil, List.length_append, List.length_replicate, List.length_map, List.length_set, List.length_take, List.length_drop, strs_len, ints_len, bools_len, aggs_len, vpv_len]; omega)) only [go_sem, set_rep]
    have e : done ++ List.take (ixB s c).toNat s :: List.replicate (k + 1 + 1 - 1) [] = (done ++ [List.take (ixB s c).toNat s]) ++ List.replicate (k + 1) [] := by simp
    have e2 : (ixB s c + ((1 : Nat) : Int)).toNat = (ixB s c).toNat + 1 := by omega
    have e3 := splitB_len c s
    have e4 := (splitB_ix c s).2 h
    have e5 := splitB_len c (s.drop ((ixB s c).toNat + 1))
    rw [e, e2]
    refine ih (i + 1) _ _ (by simp; omega) (by simp [hd]) ?_ (by omega) (fun s' d' h1 h2 => hQ s' d' ?_ h2)
    · rw [e4] at e3; simp only [List.length_cons] at e3; omega
    · rw [e4, ← h1, List.append_assoc]; rfl
@[go_sem] theorem res_genSplit (s : List UInt8) (c : UInt8) (hs : s.length < 900000000) : res Γ 63 [.str s, .str [c], .int .i64 0, .int .i64 (-1)] = some [.sl .any 1 (strs (splitB c s))] := by
  have hc := @count_le s c
  refine res_code (fn := strings_genSplit) rfl rfl ?_
  simp (disch := first | assumption | omega | decide | (simp only [List.length_cons, List.length_nil, List.length_append, List.length_replicate, List.length_map, List.length_set, List.length_take, List.length_drop, strs_len, ints_len, bools_len, aggs_len, vpv_len]; done) | (simp only [List.length_cons, List.length_nil, List.length_append, List.length_replicate, List.length_map, List.length_set, List.length_take, List.length_drop, strs_len, ints_len, bools_len, aggs_len, vpv_len]; omega)) only [go_sem, strings_genSplit]
  rw [show ((s.count c : Nat) : Int) + 1 - 1 = ((s.count c : Nat) : Int) by omega, show (((s.count c : Nat) : Int) + 1).toNat = s.count c + 1 by omega]
  refine genSplit_l1 c (s.count c) (by omega) _ (s.count c) 0 s [] (by omega) rfl rfl (by omega) (fun s' d' h1 h2 => ?_)
  simp (disch := first | assumption | omega | decide | (simp only [List.length_cons, List.length_nil, List.length_append, List.length_replicate, List.length_map, List.length_set, List.length_take, List.length_drop, strs_len, ints_len, bools_len, aggs_len, vpv_len]; done) | (simp only [List.length_cons, List.length_nil, List.length_append, List.length_replicate, List.length_map, List.length_set, List.length_take, List.length_drop, strs_len, ints_len, bools_len, aggs_len, vpv_len]; omega)) only [go_sem]
  rw [show (((s.count c : Nat) : Int) + 1).toNat = (d' ++ [s']).length by simp; omega, List.take_length, ← h1, List.nil_append]
@[go_sem] theorem res_Split (s : List UInt8) (c : UInt8) (hs : s.length < 900000000) : res Γ 52 [.str s, .str [c]] = some [.sl .any 1 (strs (splitB c s))] := by
  refine res_code (fn := strings_Split) rfl rfl ?_
  simp (disch := first | assumption | omega | decide | (simp only [List.length_cons, List.length_nil, List.length_append, List.length_replicate, List.length_map, List.length_set, List.length_take, List.length_drop, strs_len, ints_len, bools_len, aggs_len, vpv_len]; done) | (simp only [List.length_cons, List.length_nil, List.length_append, List.length_replicate, List.length_map, List.length_set, List.length_take, List.length_drop, strs_len, ints_len, bools_len, aggs_len, vpv_len]; omega)) only [go_sem, strings_Split]
end Ab
/- Names in parts: packages name and graticuleref8. -/
namespace Ab
open Go (IntKind BinOp UnOp)
def splitA (c : UInt8) : List UInt8 → List UInt8 → List (List UInt8)
  | cur, [] => [cur]
  | cur, b :: l => if b = c then cur :: splitA c [] l else splitA c (cur ++ [b]) l
theorem splitA_eq (c : UInt8) : ∀ (l cur : List UInt8), splitA c cur l = match splitB c l with | [] => [cur] | h :: t => (cur ++ h) :: t
  | [], cur => by simp [splitA, splitB]
  | b :: l, cur => by
    by_cases hb : b = c
    · simp only [splitA, splitB, hb, if_true, List.append_nil]
      rw [splitA_eq c l []]
      have := splitB_len c l
      cases h : splitB c l with
      | nil => rw [h] at this; simp at this
      | cons x y => simp
    · simp only [splitA, splitB, hb, if_false]
      rw [splitA_eq c l]
      cases h : splitB c l <;> simp
theorem splitA_nil (c : UInt8) (l : List UInt8) : splitA c [] l = splitB c l := by
  rw [splitA_eq]
  have := splitB_len c l
  cases h : splitB c l with
  | nil => rw [h] at this; simp at this
  | cons x y => simp
theorem drop_cons {s : List UInt8} {i : Nat} {b : UInt8} {r : List UInt8} (h : s.drop i = b :: r) : i < s.length ∧ byt s i = (b.toNat : Int) ∧ s.drop (i + 1) = r ∧ s.take (i + 1) = s.take i ++ [b] := by
  have h1 : i < s.length := by
    by_cases h1 : i < s.length
    · exact h1
    · rw [List.drop_of_length_le (by omega)] at h; cases h
  rw [List.drop_eq_getElem_cons h1] at h
  cases h
  refine ⟨h1, ?_, rfl, ?_⟩
  · simp [byt, List.getElem?_eq_getElem h1]
  · rw [List.take_add_one, List.getElem?_eq_getElem h1]; rfl
theorem drop_nil {s : List UInt8} {i : Nat} (h : s.drop i = []) : s.length ≤ i := by simpa using h
theorem toNat_eq {b : UInt8} {n : Nat} (hn : n < 256) : ((b.toNat : Int) = (n : Int)) ↔ b = UInt8.ofNat n := by
  constructor
  · intro h
    have : b.toNat = n := by omega
    rw [← this]; simp
  · rintro rfl; simp; omega
@[go_sem] theorem res_nameParts (s : List UInt8) (hs : s.length < 900000000) : res Γ 36 [.str s] = some [.sl .any 1 (strs (splitB 46 s))] := by
  refine res_code (fn := name_Parts) rfl rfl ?_
  simp (disch := first | assumption | omega | decide | (simp only [List.length_cons, List.length_nil, List.length_append, List.length_replicate, List.length_map, List.length_set, List.length_take, List.length_drop, strs_len, ints_len, bools_len, aggs_len, vpv_len]; done) | (simp only [List.length_cons, List.length_nil, List.length_append, List.length_replicate, List.length_map, List.length_set, List.length_take, List.length_drop, strs_len, ints_len, bools_len, aggs_len, vpv_len]; omega)) only [go_sem, name_Parts]
theorem r8_Parts_l1_ok (s : List UInt8) (hs : s.length < 900000000) (Q : Out → Prop) : ∀ (rest cur : List UInt8) (i fr : Nat) (done : List (List UInt8)), s.drop i = rest → (s.take i).drop fr = cur → fr ≤ i → i ≤ s.length → done.length ≤ i →
    (Q (.nrm, [(3, .own 0 (done ++ splitA 46 cur rest).length)], [.row false 1 (strs (done ++ splitA 46 cur rest))])) →
    Wp Γ r8_Parts_l1 [(0, .p (.str s)), (3, .own 0 done.length), (4, .p (.int .i64 fr)), (5, .p (.int .i64 (i : Int)))] [.row false 1 (strs done)] (InBlk [3] 0 Q) := by
  intro rest
  induction rest with
  | nil =>
    intro cur i fr done h1 h2 h3 h4 h5 hQ
    have := drop_nil h1
    obtain rfl : i = s.length := by omega
    rw [W_loop (L := r8_Parts_l1) rfl]
    simp (disch := first | assumption | omega | decide | (simp only [List.length_cons, List.length_nil, List.length_append, List.length_replicate, List.length_map, List.length_set, List.length_take, List.length_drop, strs_len, ints_len, bools_len, aggs_len, vpv_len]; done) | (simp only [List.length_cons, List.length_nil, List.length_append, List.length_replicate, List.length_map, List.length_set, List.length_take, List.length_drop, strs_len, ints_len, bools_len, aggs_len, vpv_len]; omega)) only [go_sem]
    rw [W_loop (L := r8_Parts_l1) rfl]
    simp (disch := first | assumption | omega | decide | (simp only [List.length_cons, List.length_nil, List.length_append, List.length_replicate, List.length_map, List.length_set, List.length_take, List.length_drop, strs_len, ints_len, bools_len, aggs_len, vpv_len]; done) | (simp only [List.length_cons, List.length_nil, List.length_append, List.length_replicate, List.length_map, List.length_set, List.length_take, List.length_drop, strs_len, ints_len, bools_len, aggs_len, vpv_len]; omega)) only [go_sem]
    simp only [splitA, ← h2, List.length_append, List.length_cons, List.length_nil] at hQ
    exact hQ
  | cons b rest ih =>
    intro cur i fr done h1 h2 h3 h4 h5 hQ
    obtain ⟨h6, h7, h8, h9⟩ := drop_cons h1
    rw [W_loop (L := r8_Parts_l1) rfl]
    simp (disch := first | assumption | omega | decide | (simp only [List.length_cons, List.length_nil, List.length_append, List.length_replicate, List.length_map, List.length_set, List.length_take, List.length_drop, strs_len, ints_len, bools_len, aggs_len, vpv_len]; done) | (simp only [List.length_cons, List.length_nil, List.length_append, List.length_replicate, List.length_map, List.length_set, List.length_take, List.length_drop, strs_len, ints_len, bools_len, aggs_len, vpv_len]; omega)) only [go_sem, h7]
    refine cond_split (fun hc => ?_) (fun hc => ?_)
    · have hb : b = 46 := (toNat_eq (n := 46) (by decide)).1 hc
      subst hb
      simp (disch := first | assumption | omega | decide | (simp only [List.length_cons, List.length_nil, List.length_append, List.length_replicate, List.length_map, List.length_set, List.length_take, List.length_drop, strs_len, ints_len, bools_len, aggs_len, vpv_len]; done) | (simp only [List.length_cons, List.length_nil, List.length_append, List.length_replicate, List.length_map, List.length_set, List.length_take, List.length_drop, strs_len, ints_len, bools_len, aggs_len, vpv_len]; omega)) only [go_sem]
      have e : done.length + 1 = (done ++ [List.drop fr (List.take i s)]).length := by simp
      rw [e]
      exact ih [] (i + 1) (i + 1) _ h8 (by simp) (Nat.le_refl _) (by omega) (by simp; omega) (by simpa [splitA, h2] using hQ)
    · have hb : b ≠ 46 := fun h => hc (by rw [h]; rfl)
      simp (disch := first | assumption | omega | decide | (simp only [List.length_cons, List.length_nil, List.length_append, List.length_replicate, List.length_map, List.length_set, List.length_take, List.length_drop, strs_len, ints_len, bools_len, aggs_len, vpv_len]; done) | (simp only [List.length_cons, List.length_nil, List.length_append, List.length_replicate, List.length_map, List.length_set, List.length_take, List.length_drop, strs_len, ints_len, bools_len, aggs_len, vpv_len]; omega)) only [go_sem]
      refine ih (cur ++ [b]) (i + 1) fr done h8 ?_ (by omega) (by omega) (by omega) (by simpa [splitA, hb] using hQ)
      rw [h9, List.drop_append_of_le_length (by simp; omega), h2]
@[go_sem] theorem res_r8Parts (s : List UInt8) (hs : s.length < 900000000) : res Γ 40 [.str s] = some [.sl .any 1 (strs (splitB 46 s))] := by
  refine res_code (fn := r8_Parts) rfl rfl ?_
  simp (disch := first | assumption | omega | decide | (simp only [List.length_cons, List.length_nil, List.length_append, List.length_replicate, List.length_map, List.length_set, List.length_take, List.length_drop, strs_len, ints_len, bools_len, aggs_len, vpv_len]; done) | (simp only [List.length_cons, List.length_nil, List.length_append, List.length_replicate, List.length_map, List.length_set, List.length_take, List.length_drop, strs_len, ints_len, bools_len, aggs_len, vpv_len]; omega)) only [go_sem, r8_Parts]
  refine r8_Parts_l1_ok s hs _ s [] 0 0 [] rfl (by simp) (by omega) (by omega) (by simp) ?_
  simp (disch := first | assumption | omega | decide | (simp only [List.length_cons, List.length_nil, List.length_append, List.length_replicate, List.length_map, List.length_set, List.length_take, List.length_drop, strs_len, ints_len, bools_len, aggs_len, vpv_len]; done) | (simp only [List.length_cons, List.length_nil, List.length_append, List.length_replicate, List.length_map, List.length_set, List.length_take, List.length_drop, strs_len, ints_len, bools_len, aggs_len, vpv_len]; omega)) only [go_sem, splitA_nil]
/-- One part of many: below 0 from the end. -/
def nodeB (l : List (List UInt8)) (i : Int) : List UInt8 :=
  let j := if i < 0 then i + l.length else i
  if j < 0 ∨ (l.length : Int) ≤ j then [] else l.getD j.toNat []
end Ab
/- Rules for calls that share memory, for calls and slices that take what is handed over, for the library's own rows. -/
namespace Ab
open Go (IntKind BinOp UnOp)
/-! ### What a call on memory yields -/
/-- A call on the blocks HL, k of them: results and blocks behind it. -/
def RunM (Γ : Ctx) (k f : Nat) (as : List AV) (HL : Heap) (r : List AV × Heap) : Prop := ∃ n x, callOf Γ (ev Γ n) f as HL = some x ∧ tidy k x = some r
theorem RunM_det {Γ : Ctx} {k f : Nat} {as : List AV} {HL : Heap} {r r' : List AV × Heap} (h : RunM Γ k f as HL r) (h' : RunM Γ k f as HL r') : r = r' := by
  obtain ⟨n, x, h1, h2⟩ := h
  obtain ⟨m, x', h3, h4⟩ := h'
  have e1 := call_le (Nat.le_max_left n m) _ _ _ _ h1
  have e2 := call_le (Nat.le_max_right n m) _ _ _ _ h3
  rw [e1] at e2
  cases e2
  rw [h2] at h4
  cases h4
  rfl
open Classical in
noncomputable def resM (Γ : Ctx) (k f : Nat) (as : List AV) (HL : Heap) : Option (List AV × Heap) := if h : ∃ r, RunM Γ k f as HL r then some h.choose else none
theorem resM_of {Γ k f as HL r} (h : RunM Γ k f as HL r) : resM Γ k f as HL = some r := by
  have h' : ∃ r, RunM Γ k f as HL r := ⟨_, h⟩
  unfold resM
  rw [dif_pos h']
  exact congrArg some (RunM_det h'.choose_spec h)
theorem of_resM {Γ k f as HL r} (h : resM Γ k f as HL = some r) : RunM Γ k f as HL r := by
  unfold resM at h
  split at h
  · rename_i h'
    cases h
    exact h'.choose_spec
  · cases h

section
variable {Γ : Ctx} {env : Env} {H : Heap} {live : List Nat} {Q : Out → Prop} {r : List St} {dst : Option Nat}

/-! Stages of a call that shares memory. -/
def cmD (H : Heap) (L : List Nat) (r : Option (List AV × Heap)) : Option (List AV × Heap) := r.bind fun r => joinBack H L r
noncomputable def cmC (Γ : Ctx) (H : Heap) (f : Nat) (L : List Nat) (b : Bool) (as : Option (List AV)) (HL : Option Heap) : Option (List AV × Heap) :=
  ifB b (as.bind fun as => HL.bind fun HL => cmD H L (resM Γ L.length f as HL))
noncomputable def cmB (Γ : Ctx) (H : Heap) (f : Nat) (as : List AV) (L : List Nat) : Option (List AV × Heap) :=
  cmC Γ H f L (L.isEmpty || stillF Γ L.length f) (mapO (AV.ren (place L) 3) as) (pickB H (place L) L)
noncomputable def cmA (Γ : Ctx) (H : Heap) (args : List AV) (fc : Option (Nat × List AV)) : Option (List AV × Heap) :=
  fc.bind fun fc => cmB Γ H fc.1 (args ++ fc.2) (reach H 64 ((args ++ fc.2).flatMap AV.refs) [])
def resX (x : Option (List AV × Heap)) : Option (AV × Heap) := x.map fun r => (results r.1, r.2)
theorem L_calls {f args} : WpL Γ (⟨dst, none, .inr (.calls f args)⟩ :: r) env H live Q ↔ opX Γ (resX (cmA Γ H (args.map (Arg.ev Γ (look env))) (callee (Arg.ev Γ (look env) f)))) dst r env live Q := by
  rw [L_of]
  unfold opX WpO
  constructor
  · rintro ⟨n, h⟩
    dsimp only at h
    rw [optP_iff] at h ⊢
    obtain ⟨v, h1, h2⟩ := h
    simp only [evX, callS, Option.map_eq_some_iff, Option.bind_eq_some_iff, ifB_some] at h1
    obtain ⟨rr, ⟨fc, hfc, hst, as', has, HL, hp, x, hcr, r', htd, hj⟩, rfl⟩ := h1
    refine ⟨_, ?_, h2⟩
    rw [pick_eq] at hp
    simp only [resX, cmA, cmB, cmC, cmD, hfc, Option.bind_some, hst, has, hp, ifB, resM_of ⟨n, x, hcr, htd⟩, hj, Option.map_some]
  · intro h
    rw [optP_iff] at h
    obtain ⟨v, h1, h2⟩ := h
    simp only [resX, cmA, cmB, cmC, cmD, Option.map_eq_some_iff, Option.bind_eq_some_iff, ifB_some] at h1
    obtain ⟨rr, ⟨fc, hfc, hst, as', has, HL, hp, r', hres, hj⟩, rfl⟩ := h1
    obtain ⟨n, x, hcr, htd⟩ := of_resM hres
    rw [← pick_eq] at hp
    refine ⟨n, ?_⟩
    simp only [evX, callS, hfc, Option.bind_some, hst, has, hp, hcr, htd, hj, Option.map_some, ifB]
    exact h2
theorem cmA_some {args : List AV} {f : Nat} {caps : List AV} : cmA Γ H args (some (f, caps)) = cmB Γ H f (args ++ caps) (reach H 64 ((args ++ caps).flatMap AV.refs) []) := rfl
theorem cmB_eq {as : List AV} {f : Nat} {L : List Nat} : cmB Γ H f as L = cmC Γ H f L (L.isEmpty || stillF Γ L.length f) (mapO (AV.ren (place L) 3) as) (pickB H (place L) L) := rfl
theorem cmC_some {as : List AV} {HL : Heap} {f : Nat} {L : List Nat} : cmC Γ H f L true (some as) (some HL) = cmD H L (resM Γ L.length f as HL) := rfl
def jbB (H : Heap) (L : List Nat) (rs : Option (List AV)) (bs : Option (List Blk)) : Option (List AV × Heap) := rs.bind fun rs => bs.map fun bs => (rs, putBack H L bs ++ bs.drop L.length)
theorem cmD_some {L : List Nat} {rs : List AV} {B : Heap} : cmD H L (some (rs, B)) = jbB H L (mapO (AV.ren (backTo H L) 3) rs) (mapO (Blk.ren (backTo H L)) B) := rfl
theorem jbB_some {L : List Nat} {rs : List AV} {bs : List Blk} : jbB H L (some rs) (some bs) = some (rs, putBack H L bs ++ bs.drop L.length) := rfl
theorem resX_some {rs : List AV} {h : Heap} : resX (some (rs, h)) = some (results rs, h) := rfl
theorem putBack_nil {bs : List Blk} : putBack H [] bs = H := by cases bs <;> rfl
theorem putBack_cons {id : Nat} {L : List Nat} {b : Blk} {bs : List Blk} : putBack H (id :: L) (b :: bs) = putBack (H.set id b) L bs := rfl
def btK (b : Bool) (H : Heap) (L : List Nat) (id : Nat) : Option Nat := match b with | true => L[id]? | false => some (H.length + (id - L.length))
theorem backTo_eq {L : List Nat} {id : Nat} : backTo H L id = btK (decide (id < L.length)) H L id := by
  unfold backTo btK
  by_cases h : id < L.length <;> simp [h]
theorem btK_t {L : List Nat} {id : Nat} : btK true H L id = L[id]? := rfl
theorem btK_f {L : List Nat} {id : Nat} : btK false H L id = some (H.length + (id - L.length)) := rfl

/-! Calls that take what is handed over. -/
def tzB (H : Heap) (L : List Nat) (vs : Option (List AV)) (HL : Option Heap) : Option (List PV × Heap) := vs.bind fun vs => HL.bind fun HL => (mapO (reify HL 4) vs).map fun ps => (ps, kill H L)
def tzA (H : Heap) (vs : List AV) (L : List Nat) : Option (List PV × Heap) := tzB H L (mapO (AV.ren (place L) 3) vs) (pickB H (place L) L)
theorem trees_eq {vs : List AV} : treesOf H vs = tzA H vs (reach H 64 (vs.flatMap AV.refs) []) := by
  unfold treesOf tzA tzB
  simp only [pick_eq]
theorem tzA_eq {vs : List AV} {L : List Nat} : tzA H vs L = tzB H L (mapO (AV.ren (place L) 3) vs) (pickB H (place L) L) := rfl
theorem tzB_some {vs : List AV} {HL : Heap} {L : List Nat} : tzB H L (some vs) (some HL) = (mapO (reify HL 4) vs).map fun ps => (ps, kill H L) := rfl
def killK (H : Heap) (id : Nat) (L : List Nat) (b : Option Blk) : Heap := kill (match b with | some b => H.set id (killB b) | none => H) L
theorem kill_nil : kill H [] = H := rfl
theorem kill_cons {id : Nat} {L : List Nat} : kill H (id :: L) = killK H id L H[id]? := rfl
theorem killK_some {id : Nat} {L : List Nat} {b : Blk} : killK H id L (some b) = kill (H.set id (killB b)) L := rfl
theorem killB_row {f sz xs} : killB (.row f sz xs) = .row true sz xs := rfl
theorem killB_box {cs} : killB (.box cs) = .dead := rfl
theorem killB_dead : killB .dead = .dead := rfl
noncomputable def czC (x : Option (List PV)) (H : Heap) : Option (AV × Heap) := x.map fun rs => (results (rs.map .p), H)
noncomputable def czB (Γ : Ctx) (f : Nat) (q : Option (List PV × Heap)) : Option (AV × Heap) := q.bind fun q => czC (res Γ f q.1) q.2
noncomputable def czA (Γ : Ctx) (H : Heap) (args : List AV) (fc : Option (Nat × List AV)) : Option (AV × Heap) := fc.bind fun fc => czB Γ fc.1 (treesOf H (args ++ fc.2))
theorem L_callz {f args} : WpL Γ (⟨dst, none, .inr (.callz f args)⟩ :: r) env H live Q ↔ opX Γ (czA Γ H (args.map (Arg.ev Γ (look env))) (callee (Arg.ev Γ (look env) f))) dst r env live Q := by
  rw [L_of]
  unfold opX WpO
  constructor
  · rintro ⟨n, h⟩
    dsimp only at h
    rw [optP_iff] at h ⊢
    obtain ⟨v, h1, h2⟩ := h
    simp only [evX, callZ, Option.map_eq_some_iff, Option.bind_eq_some_iff] at h1
    obtain ⟨rr, ⟨fc, hfc, q, hq, x, hcr, rs, hrs, rfl⟩, rfl⟩ := h1
    refine ⟨_, ?_, h2⟩
    simp only [czA, czB, czC, hfc, Option.bind_some, hq, res_of ⟨n, x, hcr, hrs⟩, Option.map_some]
  · intro h
    rw [optP_iff] at h
    obtain ⟨v, h1, h2⟩ := h
    simp only [czA, czB, czC, Option.map_eq_some_iff, Option.bind_eq_some_iff] at h1
    obtain ⟨fc, hfc, q, hq, rs, hres, rfl⟩ := h1
    obtain ⟨n, x, hcr, hrs⟩ := of_res hres
    refine ⟨n, ?_⟩
    simp only [evX, callZ, hfc, Option.bind_some, hq, hcr, hrs, Option.map_some]
    exact h2
theorem czA_some {args : List AV} {f : Nat} {caps : List AV} : czA Γ H args (some (f, caps)) = czB Γ f (treesOf H (args ++ caps)) := rfl
theorem czB_some {f : Nat} {ps : List PV} {h : Heap} : czB Γ f (some (ps, h)) = czC (res Γ f ps) h := rfl
theorem czC_some {rs : List PV} {h : Heap} : czC (some rs) h = some (results (rs.map .p), h) := rfl

theorem L_bslicef {sz ag n zero parts} : WpL Γ (⟨dst, none, .inr (.bslicef sz ag n zero parts)⟩ :: r) env H live Q ↔ opX Γ (bslicefA H sz ag n (fillA (zero.map .p) (parts.map fun q => (q.off, q.sz, Arg.ev Γ (look env) q.arg)))) dst r env live Q := L_of.trans (WpO_x rfl)
def bsfK (sz : Nat) (ag : Bool) (n : Nat) (q : Option (List PV × Heap)) : Option (AV × Heap) := q.bind fun q => ifB (q.1.length == n * sz) (some (.p (.sl .tight sz (chunks sz ag n q.1)), q.2))
theorem L_fbox {x} : WpL Γ (⟨dst, none, .inr (.fbox x)⟩ :: r) env H live Q ↔ opX Γ (fboxA H (Arg.ev Γ (look env) x)) dst r env live Q := L_of.trans (WpO_x rfl)
def fbK (b : Bool) (q : Option (List PV × Heap)) : Option (AV × Heap) := q.bind fun q => ifB (b && !q.1.isEmpty) (some (.p (.ptr q.1), q.2))
theorem fbox_K {v : AV} : fboxA H v = fbK v.ok (treesOf H v.cells) := rfl
theorem fbK_some {b : Bool} {ps : List PV} {h : Heap} : fbK b (some (ps, h)) = ifB (b && !ps.isEmpty) (some (.p (.ptr ps), h)) := rfl
theorem bslf_some {sz ag n} {cs : List AV} : bslicefA H sz ag n (some cs) = bsfK sz ag n (treesOf H cs) := rfl
theorem bsfK_some {sz ag n} {ps : List PV} {h : Heap} : bsfK sz ag n (some (ps, h)) = ifB (ps.length == n * sz) (some (.p (.sl .tight sz (chunks sz ag n ps)), h)) := rfl
end

/-! ### Operations that look at no memory of the call's own -/
section
variable {Γ : Ctx} {env : Env} {H : Heap} {live : List Nat} {Q : Out → Prop} {r : List St} {dst : Option Nat}
def pqR (H : Heap) (v : Option AV) : Option (AV × Heap) := v.map fun v => (v, H)
theorem pqR_some {v : AV} : pqR H (some v) = some (v, H) := rfl
theorem L_pq {q : QOp} (h : q.plain = true) : WpL Γ (⟨dst, none, .inr (.pureq q)⟩ :: r) env H live Q ↔ opX Γ (pqR H (evQ Γ noCall (look env) [] q)) dst r env live Q := by
  rw [L_of]
  unfold opX WpO
  have e : ∀ n, evX Γ (callOf Γ (ev Γ n)) (look env) H (.pureq q) = pqR H (evQ Γ noCall (look env) [] q) := fun n => by
    have : evQ Γ (callOf Γ (ev Γ n)) (look env) [] q = evQ Γ noCall (look env) [] q := by cases q <;> first | rfl | cases h
    simp only [evX, this, pqR]
  simp only [e]
  exact ⟨fun ⟨_, h⟩ => h, fun h => ⟨0, h⟩⟩
theorem L_pq_iaddr {sz x i} : WpL Γ (⟨dst, none, .inr (.pureq (.iaddr sz x i))⟩ :: r) env H live Q ↔ opX Γ (pqR H (iaddrA [] sz (Arg.ev Γ (look env) x) (Arg.ev Γ (look env) i))) dst r env live Q := L_pq rfl
theorem L_pq_load {sz ag x} : WpL Γ (⟨dst, none, .inr (.pureq (.load sz ag x))⟩ :: r) env H live Q ↔ opX Γ (pqR H (loadA [] sz ag (Arg.ev Γ (look env) x))) dst r env live Q := L_pq rfl
theorem L_pq_faddr {off x} : WpL Γ (⟨dst, none, .inr (.pureq (.faddr off x))⟩ :: r) env H live Q ↔ opX Γ (pqR H (faddrA [] off (Arg.ev Γ (look env) x))) dst r env live Q := L_pq rfl
theorem L_pq_len {s x} : WpL Γ (⟨dst, none, .inr (.pureq (.len s x))⟩ :: r) env H live Q ↔ opX Γ (pqR H ((asLen [] s (Arg.ev Γ (look env) x)).map fun (n : Nat) => AV.p (.int .i64 (n : Int)))) dst r env live Q := L_pq rfl
theorem L_pq_call {f args} : WpL Γ (⟨dst, none, .inr (.pureq (.call f args))⟩ :: r) env H live Q ↔ opX Γ (pqR H ((callR Γ [] (Arg.ev Γ (look env) f) (args.map (Arg.ev Γ (look env)))).bind fun rs =>
      ifB (allP (args.map (Arg.ev Γ (look env))) && (Arg.ev Γ (look env) f).isP || rs.all flat) (some (results (rs.map .p))))) dst r env live Q := by
  rw [L_of]
  unfold opX WpO pqR
  constructor
  · rintro ⟨n, h⟩
    dsimp only at h
    rw [optP_iff] at h ⊢
    obtain ⟨v, h1, h2⟩ := h
    simp only [evX, evQ] at h1
    obtain ⟨x, h1', rfl⟩ := Option.map_eq_some_iff.1 h1
    obtain ⟨rs, h3, h4⟩ := Option.bind_eq_some_iff.1 h1'
    exact ⟨_, by rw [callR_of h3, Option.bind_some, h4]; rfl, h2⟩
  · intro h
    rw [optP_iff] at h
    obtain ⟨v, h1, h2⟩ := h
    obtain ⟨x, h1', e⟩ := Option.map_eq_some_iff.1 h1
    obtain ⟨rs, h3, h4⟩ := Option.bind_eq_some_iff.1 h1'
    obtain ⟨n, h5⟩ := callR_spec h3
    refine ⟨n, ?_⟩
    subst e
    simp only [evX, evQ, h5, Option.bind_some, h4, Option.map_some]
    exact h2
attribute [go_sem] pqR_some L_pq_iaddr L_pq_load L_pq_faddr L_pq_len L_pq_call
end

/-! ### Ends of functions that share memory -/
def tdB (_B : Heap) (_L : List Nat) (rs : Option (List AV)) (H : Option Heap) : Option (List AV × Heap) := rs.bind fun rs => H.map fun H => (rs, H)
def tdA (B : Heap) (rs : List AV) (L : List Nat) : Option (List AV × Heap) := tdB B L (mapO (AV.ren (place L) 3) rs) (pickB B (place L) L)
theorem tidy_eq {k : Nat} {rs : List AV} {B : Heap} : tidy k (rs, B) = tdA B rs (reach B 64 (rs.flatMap AV.refs ++ (B.take k).flatMap Blk.refs) (List.range k)) := by
  unfold tidy tdA tdB
  simp only [pick_eq]
theorem tdA_eq {rs : List AV} {B : Heap} {L : List Nat} : tdA B rs L = tdB B L (mapO (AV.ren (place L) 3) rs) (pickB B (place L) L) := rfl
theorem tdB_some {rs : List AV} {B H : Heap} {L : List Nat} : tdB B L (some rs) (some H) = some (rs, H) := rfl
def EndsM (k : Nat) (rvs : List RV) (r : List AV × Heap) : Out → Prop
  | (.ex _, _, _) => False
  | (_, e, h) => optP (mapO (RV.get e h) rvs) fun vs => tidy k (vs, h) = some r
def endM (k : Nat) (vs : Option (List AV)) (h : Heap) (r : List AV × Heap) : Prop := optP vs fun vs => tidy k (vs, h) = some r
theorem endM_some {k vs h r} : endM k (some vs) h r ↔ tidy k (vs, h) = some r := Iff.rfl
theorem EndsM_nrm {k rvs r e h} : EndsM k rvs r (.nrm, e, h) ↔ endM k (mapO (RV.get e h) rvs) h r := Iff.rfl
theorem EndsM_ret {k rvs r e h} : EndsM k rvs r (.ret, e, h) ↔ endM k (mapO (RV.get e h) rvs) h r := Iff.rfl
theorem resM_code {Γ : Ctx} {k f : Nat} {fn : AFn} {args : List AV} {HL : Heap} {r : List AV × Heap} (hf : Γ.fn f = some (.code fn)) (hl : args.length = fn.np)
    (h : Wp Γ fn.body (envFrom 0 args) HL (EndsM k fn.results r)) : resM Γ k f args HL = some r := by
  obtain ⟨n, ⟨x, e, hh⟩, h1, h2⟩ := h
  refine resM_of ⟨n, ?_⟩
  have fin : (x ≠ .ret → x = .nrm) ∧ ∃ vs, mapO (RV.get e hh) fn.results = some vs ∧ tidy k (vs, hh) = some r := by
    cases x
    · rw [EndsM, optP_iff] at h2
      exact ⟨fun _ => rfl, h2⟩
      simp
    · exact h2.elim
    · rw [EndsM, optP_iff] at h2
      exact ⟨fun h => absurd rfl h, h2⟩
      simp
  obtain ⟨hx, vs, h3, h4⟩ := fin
  refine ⟨(vs, hh), ?_, h4⟩
  unfold callOf
  rw [hf, initEnv_eq]
  simp only [hl, if_true, h1]
  cases x
  · simp only [h3]
  · simp at hx
  · simp only [h3]
/-- Ends of a function, whatever is asked of what it leaves. -/
def EndsK (rvs : List RV) (K : List AV → Heap → Prop) : Out → Prop
  | (.ex _, _, _) => False
  | (_, e, h) => optP (mapO (RV.get e h) rvs) fun vs => K vs h
def endKK (vs : Option (List AV)) (h : Heap) (K : List AV → Heap → Prop) : Prop := optP vs fun vs => K vs h
theorem endKK_some {vs h} {K : List AV → Heap → Prop} : endKK (some vs) h K ↔ K vs h := Iff.rfl
theorem EndsK_nrm {rvs e h} {K : List AV → Heap → Prop} : EndsK rvs K (.nrm, e, h) ↔ endKK (mapO (RV.get e h) rvs) h K := Iff.rfl
theorem EndsK_ret {rvs e h} {K : List AV → Heap → Prop} : EndsK rvs K (.ret, e, h) ↔ endKK (mapO (RV.get e h) rvs) h K := Iff.rfl
attribute [go_sem] endKK_some EndsK_nrm EndsK_ret
theorem callK {Γ : Ctx} {f : Nat} {fn : AFn} {args : List AV} {HL : Heap} {K : List AV → Heap → Prop} (hf : Γ.fn f = some (.code fn)) (hl : args.length = fn.np)
    (h : Wp Γ fn.body (envFrom 0 args) HL (EndsK fn.results K)) : ∃ n vs h, callOf Γ (ev Γ n) f args HL = some (vs, h) ∧ K vs h := by
  obtain ⟨n, ⟨x, e, hh⟩, h1, h2⟩ := h
  have fin : (x ≠ .ret → x = .nrm) ∧ ∃ vs, mapO (RV.get e hh) fn.results = some vs ∧ K vs hh := by
    cases x
    · rw [EndsK, optP_iff] at h2
      exact ⟨fun _ => rfl, h2⟩
      simp
    · exact h2.elim
    · rw [EndsK, optP_iff] at h2
      exact ⟨fun h => absurd rfl h, h2⟩
      simp
  obtain ⟨hx, vs, h3, h4⟩ := fin
  refine ⟨n, vs, hh, ?_, h4⟩
  unfold callOf
  rw [hf, initEnv_eq]
  simp only [hl, if_true, h1]
  cases x
  · simp only [h3]
  · simp at hx
  · simp only [h3]
theorem tidy_fresh {sz : Nat} {xs : List PV} : tidy 0 ([.own 0 xs.length], [.row false sz xs]) = some ([.own 0 xs.length], [.row false sz xs]) := rfl
theorem resM_fresh {Γ : Ctx} {f : Nat} {g} {ps : List PV} {sz : Nat} {xs : List PV} (hf : Γ.fn f = some (.fresh g)) (h : g ps = some (sz, xs)) (h0 : 0 < sz) (hl : xs.length ≤ 1073741824) :
    resM Γ 0 f (ps.map .p) [] = some ([.own 0 xs.length], [.row false sz xs]) := by
  refine resM_of ⟨0, ([.own 0 xs.length], [.row false sz xs]), ?_, tidy_fresh⟩
  unfold callOf
  rw [hf]
  simp only [pures_map, h]
  rw [if_pos ⟨h0, by simp only [lim]; exact hl⟩]
  rfl
theorem resM_upd {Γ : Ctx} {f : Nat} {g} {ps : List PV} {sz : Nat} {xs ys : List PV} (hf : Γ.fn f = some (.upd g)) (h : g ps sz xs = some ys) (hl : ys.length = xs.length) :
    resM Γ 1 f (.own 0 xs.length :: ps.map .p) [.row false sz xs] = some ([], [.row false sz ys]) := by
  refine resM_of ⟨0, ([], [.row false sz ys]), ?_, rfl⟩
  unfold callOf
  rw [hf]
  simp only [List.getElem?_cons_zero, if_true, pures_map, h, hl, List.set_cons_zero]
theorem isEmpty_nil {α : Type} : ([] : List α).isEmpty = true := rfl
theorem isEmpty_cons {α : Type} {a : α} {l : List α} : (a :: l).isEmpty = false := rfl
theorem range_0 : List.range 0 = [] := rfl
theorem range_1 : List.range 1 = [0] := rfl
theorem range_2 : List.range 2 = [0, 1] := rfl
theorem range_3 : List.range 3 = [0, 1, 2] := rfl
theorem range_4 : List.range 4 = [0, 1, 2, 3] := rfl
theorem range_5 : List.range 5 = [0, 1, 2, 3, 4] := rfl
theorem range_6 : List.range 6 = [0, 1, 2, 3, 4, 5] := rfl
theorem brefs_row {f sz xs} : Blk.refs (.row f sz xs) = [] := rfl
theorem brefs_dead : Blk.refs .dead = [] := rfl
theorem brefs_map {cs : List PV} : Blk.refs (.box (cs.map .p)) = [] := refsAt_map (cs := cs)
theorem brefs_box {cs : List AV} : Blk.refs (.box cs) = cs.flatMap AV.refs := rfl
theorem refsAt_dead : refsAt (some .dead) = [] := rfl
theorem ren_dead {p} : Blk.ren p .dead = some .dead := rfl
theorem flatMap_nil {α β : Type} {f : α → List β} : [].flatMap f = [] := rfl
attribute [go_sem low] brefs_box
attribute [go_sem] L_calls cmA_some cmB_eq cmC_some cmD_some jbB_some resX_some putBack_nil putBack_cons backTo_eq btK_t btK_f trees_eq tzA_eq tzB_some kill_nil kill_cons killK_some killB_row killB_box killB_dead
  L_fbox fbox_K fbK_some L_callz czA_some czB_some czC_some L_bslicef bslf_some bsfK_some tidy_eq tdA_eq tdB_some EndsM_nrm EndsM_ret endM_some isEmpty_nil isEmpty_cons range_0 range_1 range_2 range_3 range_4 range_5 range_6 brefs_row brefs_dead brefs_map refsAt_dead ren_dead
  List.take_succ_cons List.take_zero List.drop_succ_cons List.drop_zero
end Ab
/- More rules: structs that hold rows. -/
namespace Ab
open Go (IntKind BinOp UnOp)
def refs2 : AV → List Nat
  | .own id _ | .bx id _ | .el id _ _ _ => [id]
  | .agg cs | .tup cs | .clo _ cs => cs.flatMap fun
    | .own id _ | .bx id _ | .el id _ _ _ => [id]
    | _ => []
  | _ => []
theorem refs_agg {cs : List AV} : AV.refs (.agg cs) = cs.flatMap refs2 := by
  simp only [AV.refs]; rfl
theorem refs_tup {cs : List AV} : AV.refs (.tup cs) = cs.flatMap refs2 := by
  simp only [AV.refs]; rfl
theorem refs_clo {f : Nat} {cs : List AV} : AV.refs (.clo f cs) = cs.flatMap refs2 := by
  simp only [AV.refs]; rfl
theorem refs2_p {v} : refs2 (.p v) = [] := rfl
theorem refs2_own {id n} : refs2 (.own id n) = [id] := rfl
theorem refs2_bx {id n} : refs2 (.bx id n) = [id] := rfl
theorem refs2_el {id n i o} : refs2 (.el id n i o) = [id] := rfl
attribute [go_sem] refs_agg refs_tup refs_clo refs2_p refs2_own refs2_bx refs2_el
theorem app_tight {H sz x xs y ys} (hm : (x :: xs).length + (y :: ys).length ≤ 1073741824) : appendA H sz (.p (.sl .tight sz (x :: xs))) (y :: ys) = some (.own H.length (x :: xs ++ y :: ys).length, H ++ [.row false sz (x :: xs ++ y :: ys)]) := by
  simp only [appendA]
  rw [if_pos ⟨.inr ⟨trivial, trivial⟩, by simp only [List.length_append, lim]; omega⟩]
attribute [go_sem] app_tight vpv_nil
end Ab
/- Patterns of one part: what they match, in plain Lean. -/
namespace Ab
/-- One of a pattern's: any bytes; one byte of a set. -/
abbrev Tok := Bool × List Bool
def inT (t : Tok) (c : UInt8) : Bool := t.2.getD c.toNat false
def M1 (t : Tok) (a : List UInt8) : Prop := if t.1 = true then True else ∃ c, a = [c] ∧ inT t c = true
def Mt : List Tok → List UInt8 → Prop
  | [], s => s = []
  | t :: ts, s => ∃ a b, s = a ++ b ∧ M1 t a ∧ Mt ts b
theorem Mt_app {ts us : List Tok} {s : List UInt8} : Mt (ts ++ us) s ↔ ∃ a b, s = a ++ b ∧ Mt ts a ∧ Mt us b := by
  induction ts generalizing s with
  | nil =>
    constructor
    · exact fun h => ⟨[], s, rfl, rfl, h⟩
    · rintro ⟨a, b, rfl, ha, hb⟩
      have ha : a = [] := ha
      subst ha; exact hb
  | cons t ts ih =>
    constructor
    · rintro ⟨a, b, rfl, h1, h2⟩
      obtain ⟨c, d, rfl, h3, h4⟩ := ih.1 h2
      exact ⟨a ++ c, d, (List.append_assoc _ _ _).symm, ⟨a, c, rfl, h1, h3⟩, h4⟩
    · rintro ⟨a, b, rfl, ⟨c, d, rfl, h1, h2⟩, h3⟩
      exact ⟨c, d ++ b, List.append_assoc _ _ _, h1, ih.2 ⟨d, b, rfl, h2, h3⟩⟩
theorem Mt_star {t : Tok} {ts : List Tok} {s : List UInt8} (h : t.1 = true) : Mt (t :: ts) s ↔ ∃ j, j ≤ s.length ∧ Mt ts (s.drop j) := by
  constructor
  · rintro ⟨a, b, rfl, _, h2⟩
    exact ⟨a.length, by simp, by simpa using h2⟩
  · rintro ⟨j, _, h2⟩
    exact ⟨s.take j, s.drop j, (List.take_append_drop j s).symm, by simp [M1, h], h2⟩
theorem Mt_set {t : Tok} {ts : List Tok} {s : List UInt8} (h : t.1 = false) : Mt (t :: ts) s ↔ ∃ c r, s = c :: r ∧ inT t c = true ∧ Mt ts r := by
  constructor
  · rintro ⟨a, b, rfl, h1, h2⟩
    simp only [M1, h, Bool.false_eq_true, if_false] at h1
    obtain ⟨c, rfl, hc⟩ := h1
    exact ⟨c, b, rfl, hc, h2⟩
  · rintro ⟨c, r, rfl, hc, h2⟩
    exact ⟨[c], r, rfl, by simp only [M1, h, Bool.false_eq_true, if_false]; exact ⟨c, rfl, hc⟩, h2⟩
/-- So many sets take so many bytes. -/
theorem Mt_sets_len {ts : List Tok} {s : List UInt8} (h : ∀ t ∈ ts, t.1 = false) (hm : Mt ts s) : s.length = ts.length := by
  induction ts generalizing s with
  | nil => have hm : s = [] := hm; subst hm; rfl
  | cons t ts ih =>
    obtain ⟨c, r, rfl, _, h2⟩ := (Mt_set (h t (by simp))).1 hm
    rw [List.length_cons, List.length_cons, ih (fun x hx => h x (by simp [hx])) h2]
theorem Mt_nil_iff {ts : List Tok} : Mt ts [] ↔ ∀ t ∈ ts, t.1 = true := by
  induction ts with
  | nil => simp [Mt]
  | cons t ts ih =>
    cases h : t.1
    · rw [Mt_set h]
      constructor
      · rintro ⟨c, r, h1, _⟩; cases h1
      · intro h1; have := h1 t (by simp); rw [h] at this; cases this
    · rw [Mt_star h]
      constructor
      · rintro ⟨j, _, h2⟩
        simp only [List.drop_nil] at h2
        intro x hx
        rcases List.mem_cons.1 hx with rfl | hx
        · exact h
        · exact ih.1 h2 x hx
      · exact fun h1 => ⟨0, by simp, by simpa using ih.2 fun x hx => h1 x (by simp [hx])⟩

/-! ### The greedy way -/
/-- Where a star was met last, and from where what stands behind it is tried. -/
structure Greedy (T : List Tok) (S : List UInt8) (at_ st from_ i : Nat) : Prop where
  hi : i ≤ S.length
  ha : at_ ≤ T.length
  none : st = 0 → (Mt T S ↔ Mt (T.drop at_) (S.drop i))
  some : 0 < st → st ≤ at_ ∧ from_ ≤ i ∧ at_ - st = i - from_ ∧ (∀ t ∈ (T.take at_).drop st, t.1 = false) ∧ Mt ((T.take at_).drop st) ((S.take i).drop from_) ∧
    (Mt T S ↔ ∃ j, from_ ≤ j ∧ j ≤ S.length ∧ Mt (T.drop st) (S.drop j))
theorem drop_split {α : Type} {l : List α} {a b : Nat} (h : a ≤ b) : l.drop a = (l.take b).drop a ++ l.drop b := by
  conv => lhs; rw [← List.take_append_drop b l]
  by_cases hb : b ≤ l.length
  · rw [List.drop_append_of_le_length (by rw [List.length_take]; omega)]
  · rw [List.take_of_length_le (by omega), List.drop_eq_nil_of_le (show l.length ≤ b by omega), List.append_nil, List.append_nil]
theorem greedy_zero {T : List Tok} {S : List UInt8} : Greedy T S 0 0 0 0 := ⟨Nat.zero_le _, Nat.zero_le _, fun _ => by simp, fun h => absurd h (by omega)⟩
theorem greedy_star {T : List Tok} {S : List UInt8} {at_ st from_ i : Nat} (g : Greedy T S at_ st from_ i) {t : Tok} (ht : T[at_]? = some t) (hs : t.1 = true) : Greedy T S (at_ + 1) (at_ + 1) i i := by
  have hlt : at_ < T.length := (List.getElem?_eq_some_iff.1 ht).1
  have hd : T.drop at_ = t :: T.drop (at_ + 1) := by rw [List.drop_eq_getElem_cons hlt, (List.getElem?_eq_some_iff.1 ht).2]
  have key : Mt (T.drop at_) (S.drop i) ↔ ∃ j, i ≤ j ∧ j ≤ S.length ∧ Mt (T.drop (at_ + 1)) (S.drop j) := by
    rw [hd, Mt_star hs]
    constructor
    · rintro ⟨j, h1, h2⟩
      rw [List.length_drop] at h1
      have := g.hi
      exact ⟨i + j, by omega, by omega, by rw [List.drop_drop] at h2; exact h2⟩
    · rintro ⟨j, h1, h2, h3⟩
      refine ⟨j - i, by rw [List.length_drop]; omega, ?_⟩
      rw [List.drop_drop, show i + (j - i) = j by omega]; exact h3
  refine ⟨g.hi, hlt, fun h => absurd h (by omega), fun _ => ⟨Nat.le_refl _, Nat.le_refl _, by omega, ?_, ?_, ?_⟩⟩
  · intro x hx
    rw [List.drop_eq_nil_of_le (by rw [List.length_take]; omega)] at hx
    cases hx
  · rw [List.drop_eq_nil_of_le (by rw [List.length_take]; omega), List.drop_eq_nil_of_le (by rw [List.length_take]; omega)]
    rfl
  · by_cases h0 : st = 0
    · rw [g.none h0, key]
    · obtain ⟨h1, h2, h3, h4, h5, h6⟩ := g.some (by omega)
      rw [h6]
      have es : T.drop st = (T.take at_).drop st ++ T.drop at_ := drop_split h1
      have ln : ((T.take at_).drop st).length = at_ - st := by
        clear h6 key
        rw [List.length_drop, List.length_take]; omega
      constructor
      · rintro ⟨j, k1, k2, k3⟩
        rw [es, Mt_app] at k3
        obtain ⟨a, b, e, m1, m2⟩ := k3
        have la := Mt_sets_len h4 m1
        rw [ln] at la
        rw [hd, Mt_star hs] at m2
        obtain ⟨q, q1, q2⟩ := m2
        have lb : S.length - j = a.length + b.length := by have := congrArg List.length e; rw [List.length_drop, List.length_append] at this; exact this
        refine ⟨j + a.length + q, by omega, by omega, ?_⟩
        have eb : S.drop (j + a.length) = b := by
          rw [← List.drop_drop, e, List.drop_append_of_le_length (Nat.le_refl _), List.drop_length, List.nil_append]
        have eq : S.drop (j + a.length + q) = b.drop q := by rw [← eb, List.drop_drop]
        rw [eq]; exact q2
      · rintro ⟨j, k1, k2, k3⟩
        refine ⟨from_, Nat.le_refl _, by have := g.hi; omega, ?_⟩
        rw [es, Mt_app]
        exact ⟨(S.take i).drop from_, S.drop i, drop_split h2, h5, key.2 ⟨j, k1, k2, k3⟩⟩
theorem greedy_set {T : List Tok} {S : List UInt8} {at_ st from_ i : Nat} (g : Greedy T S at_ st from_ i) {t : Tok} {c : UInt8} (ht : T[at_]? = some t) (hs : t.1 = false) (hc : S[i]? = some c) (hm : inT t c = true) : Greedy T S (at_ + 1) st from_ (i + 1) := by
  have hlt : at_ < T.length := (List.getElem?_eq_some_iff.1 ht).1
  have hli : i < S.length := (List.getElem?_eq_some_iff.1 hc).1
  have hd : T.drop at_ = t :: T.drop (at_ + 1) := by rw [List.drop_eq_getElem_cons hlt, (List.getElem?_eq_some_iff.1 ht).2]
  have hdi : S.drop i = c :: S.drop (i + 1) := by rw [List.drop_eq_getElem_cons hli, (List.getElem?_eq_some_iff.1 hc).2]
  have tt : T.take (at_ + 1) = T.take at_ ++ [t] := by rw [List.take_add_one, ht]; rfl
  have ts : S.take (i + 1) = S.take i ++ [c] := by rw [List.take_add_one, hc]; rfl
  refine ⟨hli, hlt, fun h => ?_, fun h => ?_⟩
  · rw [g.none h, hd, hdi, Mt_set hs]
    constructor
    · rintro ⟨x, r, e, _, h2⟩
      cases e; exact h2
    · exact fun h2 => ⟨c, _, rfl, hm, h2⟩
  · obtain ⟨h1, h2, h3, h4, h5, h6⟩ := g.some h
    have d1 : (T.take (at_ + 1)).drop st = (T.take at_).drop st ++ [t] := by rw [tt, List.drop_append_of_le_length (by rw [List.length_take]; omega)]
    have d2 : (S.take (i + 1)).drop from_ = (S.take i).drop from_ ++ [c] := by rw [ts, List.drop_append_of_le_length (by rw [List.length_take]; omega)]
    have nf : st ≤ at_ + 1 ∧ from_ ≤ i + 1 ∧ at_ + 1 - st = i + 1 - from_ := by clear h6; omega
    refine ⟨nf.1, nf.2.1, nf.2.2, ?_, ?_, h6⟩
    · rw [d1]
      intro x hx
      rcases List.mem_append.1 hx with hx | hx
      · exact h4 x hx
      · rw [List.mem_singleton] at hx; subst hx; exact hs
    · rw [d1, d2, Mt_app]
      exact ⟨_, _, rfl, h5, (Mt_set hs).2 ⟨c, [], rfl, hm, rfl⟩⟩
/-- What stands at a place does not match. -/
def Stuck (T : List Tok) (S : List UInt8) (at_ i : Nat) : Prop := (at_ = T.length ∨ ∃ t c, T[at_]? = some t ∧ t.1 = false ∧ S[i]? = some c ∧ inT t c = false) ∧ i < S.length
theorem stuck_no {T : List Tok} {S : List UInt8} {at_ i : Nat} (h : Stuck T S at_ i) : ¬ Mt (T.drop at_) (S.drop i) := by
  obtain ⟨h1, h2⟩ := h
  rcases h1 with h1 | ⟨t, c, ht, hs, hc, hm⟩
  · subst h1
    rw [List.drop_length]
    intro e
    have e : S.drop i = [] := e
    have := congrArg List.length e
    rw [List.length_drop, List.length_nil] at this
    omega
  · have hlt : at_ < T.length := (List.getElem?_eq_some_iff.1 ht).1
    have hd : T.drop at_ = t :: T.drop (at_ + 1) := by rw [List.drop_eq_getElem_cons hlt, (List.getElem?_eq_some_iff.1 ht).2]
    have hdi : S.drop i = c :: S.drop (i + 1) := by rw [List.drop_eq_getElem_cons h2, (List.getElem?_eq_some_iff.1 hc).2]
    rw [hd, hdi, Mt_set hs]
    rintro ⟨x, r, e, h3, _⟩
    cases e
    rw [hm] at h3; cases h3
theorem greedy_back {T : List Tok} {S : List UInt8} {at_ st from_ i : Nat} (g : Greedy T S at_ st from_ i) (h0 : 0 < st) (h : Stuck T S at_ i) : Greedy T S st st (from_ + 1) (from_ + 1) := by
  obtain ⟨h1, h2, h3, h4, h5, h6⟩ := g.some h0
  have hn := stuck_no h
  refine ⟨by have := h.2; omega, by have := g.ha; omega, fun h => absurd h (by omega), fun _ => ⟨Nat.le_refl _, Nat.le_refl _, by omega, ?_, ?_, ?_⟩⟩
  · intro x hx
    rw [List.drop_eq_nil_of_le (by rw [List.length_take]; omega)] at hx
    cases hx
  · rw [List.drop_eq_nil_of_le (by rw [List.length_take]; omega), List.drop_eq_nil_of_le (by rw [List.length_take]; omega)]
    rfl
  · rw [h6]
    constructor
    · rintro ⟨j, k1, k2, k3⟩
      refine ⟨j, ?_, k2, k3⟩
      rcases Nat.lt_or_ge from_ j with hj | hj
      · exact hj
      · exfalso
        have : j = from_ := by omega
        subst this
        rw [drop_split h1, Mt_app] at k3
        obtain ⟨a, b, e, m1, m2⟩ := k3
        have la := Mt_sets_len h4 m1
        rw [List.length_drop, List.length_take] at la
        have ha := g.ha
        have ij : i = j + a.length := by clear h6; omega
        have eb : S.drop i = b := by
          rw [ij, ← List.drop_drop, e, List.drop_append_of_le_length (Nat.le_refl _), List.drop_length, List.nil_append]
        rw [eb] at hn
        exact hn m2
    · rintro ⟨j, k1, k2, k3⟩
      exact ⟨j, by omega, k2, k3⟩
theorem greedy_fail {T : List Tok} {S : List UInt8} {at_ from_ i : Nat} (g : Greedy T S at_ 0 from_ i) (h : Stuck T S at_ i) : ¬ Mt T S := by
  rw [g.none rfl]; exact stuck_no h
theorem greedy_end {T : List Tok} {S : List UInt8} {at_ st from_ : Nat} (g : Greedy T S at_ st from_ S.length) : Mt T S ↔ ∀ t ∈ T.drop at_, t.1 = true := by
  by_cases h0 : st = 0
  · rw [g.none h0, List.drop_length, Mt_nil_iff]
  · obtain ⟨h1, h2, h3, h4, h5, h6⟩ := g.some (by omega)
    rw [h6]
    constructor
    · rintro ⟨j, k1, k2, k3⟩
      rw [drop_split h1, Mt_app] at k3
      obtain ⟨a, b, e, m1, m2⟩ := k3
      have la := Mt_sets_len h4 m1
      rw [List.length_drop, List.length_take] at la
      have lb : S.length - j = a.length + b.length := by have := congrArg List.length e; rw [List.length_drop, List.length_append] at this; exact this
      have ha := g.ha
      have : b = [] := List.eq_nil_of_length_eq_zero (by omega)
      subst this
      exact Mt_nil_iff.1 m2
    · intro h
      refine ⟨from_, Nat.le_refl _, h2, ?_⟩
      rw [drop_split h1, Mt_app]
      refine ⟨(S.take S.length).drop from_, S.drop S.length, drop_split h2, h5, ?_⟩
      rw [List.drop_length]
      exact Mt_nil_iff.2 h

/-! ### Place by place -/
theorem Mt_snoc_star {ts : List Tok} {t : Tok} {s : List UInt8} (h : t.1 = true) : Mt (ts ++ [t]) s ↔ ∃ j, j ≤ s.length ∧ Mt ts (s.take j) := by
  rw [Mt_app]
  constructor
  · rintro ⟨a, b, rfl, h1, h2⟩
    exact ⟨a.length, by simp, by simpa using h1⟩
  · rintro ⟨j, _, h1⟩
    exact ⟨s.take j, s.drop j, (List.take_append_drop j s).symm, h1, (Mt_star h).2 ⟨(s.drop j).length, Nat.le_refl _, by rw [List.drop_length]; rfl⟩⟩
theorem place_star {ts : List Tok} {t : Tok} {s : List UInt8} {k : Nat} (h : t.1 = true) (hk : k < s.length) : Mt (ts ++ [t]) (s.take (k + 1)) ↔ Mt ts (s.take (k + 1)) ∨ Mt (ts ++ [t]) (s.take k) := by
  rw [Mt_snoc_star h, Mt_snoc_star h]
  simp only [List.take_take, List.length_take]
  constructor
  · rintro ⟨j, h1, h2⟩
    by_cases hj : j = k + 1
    · subst hj; exact .inl (by simpa using h2)
    · exact .inr ⟨j, by omega, by rw [Nat.min_eq_left (by omega)] at h2 ⊢; exact h2⟩
  · rintro (h1 | ⟨j, h1, h2⟩)
    · exact ⟨k + 1, by omega, by simpa using h1⟩
    · exact ⟨j, by omega, by rw [Nat.min_eq_left (by omega)] at h2 ⊢; exact h2⟩
theorem place_star0 {ts : List Tok} {t : Tok} {s : List UInt8} (h : t.1 = true) : Mt (ts ++ [t]) (s.take 0) ↔ Mt ts (s.take 0) := by
  rw [Mt_snoc_star h]
  constructor
  · rintro ⟨j, h1, h2⟩; simpa using h2
  · exact fun h1 => ⟨0, by simp, by simpa using h1⟩
theorem place_set {ts : List Tok} {t : Tok} {s : List UInt8} {k : Nat} {c : UInt8} (h : t.1 = false) (hc : s[k]? = some c) : Mt (ts ++ [t]) (s.take (k + 1)) ↔ Mt ts (s.take k) ∧ inT t c = true := by
  have e : s.take (k + 1) = s.take k ++ [c] := by rw [List.take_add_one, hc]; rfl
  rw [e, Mt_app]
  constructor
  · rintro ⟨a, b, e2, h1, h2⟩
    obtain ⟨x, r, rfl, hx, hr⟩ := (Mt_set h).1 h2
    have hr : r = [] := hr
    subst hr
    have e3 := List.append_inj' e2 rfl
    obtain ⟨rfl, e4⟩ := e3
    cases e4
    exact ⟨h1, hx⟩
  · rintro ⟨h1, h2⟩
    exact ⟨_, _, rfl, h1, (Mt_set h).2 ⟨c, [], rfl, h2, rfl⟩⟩
theorem place_set0 {ts : List Tok} {t : Tok} {s : List UInt8} (h : t.1 = false) : ¬ Mt (ts ++ [t]) (s.take 0) := by
  rw [List.take_zero, Mt_app]
  rintro ⟨a, b, e, _, h2⟩
  obtain ⟨x, r, rfl, _, _⟩ := (Mt_set h).1 h2
  cases a <;> cases e
end Ab
