/- Texts: functions of the library 'strings'. -/
import Derived.Test.YtmggokdhhbaphaaDoorCode
import Derived.Test.YtmggokdhhbaphaaDoorAbRow
namespace Ab
open Go (IntKind BinOp UnOp)
/-! ### What is computed -/
def lastB (s : List UInt8) (c : Int) : Nat → Int
  | 0 => -1
  | i + 1 => if byt s i = c then (i : Int) else lastB s c i
/-- A text in pieces. -/
def splitB (c : UInt8) : List UInt8 → List (List UInt8)
  | [] => [[]]
  | b :: l => if b = c then [] :: splitB c l else match splitB c l with | [] => [[b]] | h :: t => (b :: h) :: t

theorem LastIndexByteString_l1 (s : List UInt8) (c : Int) (hs : s.length < 4611686018427387904) (Q : Out → Prop) : ∀ i, i ≤ s.length →
    (lastB s c i < 0 → Q (.nrm, [], [])) → (0 ≤ lastB s c i → Q (.ret, [(4, .p (.int .i64 (lastB s c i)))], [])) →
    Wp Γ internal_bytealg_LastIndexByteString_l1 [(0, .p (.str s)), (1, .p (.int .u8 c)), (5, .p (.int .i64 ((i : Int) - 1)))] [] (InBlk [] 0 Q) := by
  intro i
  induction i with
  | zero =>
    intro hi h1 h2
    rw [W_loop (L := internal_bytealg_LastIndexByteString_l1) rfl]
    simp (disch := first | assumption | omega | (simp only [List.length_cons, List.length_nil, List.length_append, List.length_replicate, List.length_map, List.length_set, List.length_take, List.length_drop, strs_len, ints_len, bools_len, aggs_len]; done) | (simp only [List.length_cons, List.length_nil, List.length_append, List.length_replicate, List.length_map, List.length_set, List.length_take, List.length_drop, strs_len, ints_len, bools_len, aggs_len]; omega)) only [go_sem]
    exact h1 (by simp [lastB])
  | succ i ih =>
    intro hi h1 h2
    have e : ((i + 1 : Nat) : Int) - 1 = (i : Int) := by omega
    rw [W_loop (L := internal_bytealg_LastIndexByteString_l1) rfl]
    rw [e]
    simp (disch := first | assumption | omega | (simp only [List.length_cons, List.length_nil, List.length_append, List.length_replicate, List.length_map, List.length_set, List.length_take, List.length_drop, strs_len, ints_len, bools_len, aggs_len]; done) | (simp only [List.length_cons, List.length_nil, List.length_append, List.length_replicate, List.length_map, List.length_set, List.length_take, List.length_drop, strs_len, ints_len, bools_len, aggs_len]; omega)) only [go_sem]
    refine cond_split (fun hc => ?_) (fun hc => ?_)
    · simp (disch := first | assumption | omega | (simp only [List.length_cons, List.length_nil, List.length_append, List.length_replicate, List.length_map, List.length_set, List.length_take, List.length_drop, strs_len, ints_len, bools_len, aggs_len]; done) | (simp only [List.length_cons, List.length_nil, List.length_append, List.length_replicate, List.length_map, List.length_set, List.length_take, List.length_drop, strs_len, ints_len, bools_len, aggs_len]; omega)) only [go_sem]
      simp only [lastB, hc, if_true] at h2
      exact h2 (by omega)
    · simp (disch := first | assumption | omega | (simp only [List.length_cons, List.length_nil, List.length_append, List.length_replicate, List.length_map, List.length_set, List.length_take, List.length_drop, strs_len, ints_len, bools_len, aggs_len]; done) | (simp only [List.length_cons, List.length_nil, List.length_append, List.length_replicate, List.length_map, List.length_set, List.length_take, List.length_drop, strs_len, ints_len, bools_len, aggs_len]; omega)) only [go_sem]
      simp only [lastB, hc, if_false] at h1 h2
      exact ih (by omega) h1 h2
theorem lastB_ge (s c) : ∀ i, -1 ≤ lastB s c i ∧ lastB s c i < i := by
  intro i
  induction i with
  | zero => simp [lastB]
  | succ i ih => simp only [lastB]; split <;> omega
theorem lastB_neg {s c i} (h : lastB s c i < 0) : lastB s c i = -1 := by have := lastB_ge s c i; omega
@[go_sem] theorem res_LastIndexByteString (s : List UInt8) (c : Int) (hs : s.length < 4611686018427387904) : res Γ 46 [.str s, .int .u8 c] = some [.int .i64 (lastB s c s.length)] := by
  refine res_code (fn := internal_bytealg_LastIndexByteString) rfl rfl ?_
  simp (disch := first | assumption | omega | (simp only [List.length_cons, List.length_nil, List.length_append, List.length_replicate, List.length_map, List.length_set, List.length_take, List.length_drop, strs_len, ints_len, bools_len, aggs_len]; done) | (simp only [List.length_cons, List.length_nil, List.length_append, List.length_replicate, List.length_map, List.length_set, List.length_take, List.length_drop, strs_len, ints_len, bools_len, aggs_len]; omega)) only [go_sem, internal_bytealg_LastIndexByteString]
  refine LastIndexByteString_l1 s c hs _ s.length (Nat.le_refl _) (fun h => ?_) (fun h => ?_)
  · simp (disch := first | assumption | omega | (simp only [List.length_cons, List.length_nil, List.length_append, List.length_replicate, List.length_map, List.length_set, List.length_take, List.length_drop, strs_len, ints_len, bools_len, aggs_len]; done) | (simp only [List.length_cons, List.length_nil, List.length_append, List.length_replicate, List.length_map, List.length_set, List.length_take, List.length_drop, strs_len, ints_len, bools_len, aggs_len]; omega)) only [go_sem, lastB_neg h]
  · simp (disch := first | assumption | omega | (simp only [List.length_cons, List.length_nil, List.length_append, List.length_replicate, List.length_map, List.length_set, List.length_take, List.length_drop, strs_len, ints_len, bools_len, aggs_len]; done) | (simp only [List.length_cons, List.length_nil, List.length_append, List.length_replicate, List.length_map, List.length_set, List.length_take, List.length_drop, strs_len, ints_len, bools_len, aggs_len]; omega)) only [go_sem]
@[go_sem] theorem res_LastIndexByte (s : List UInt8) (c : Int) (hs : s.length < 4611686018427387904) : res Γ 25 [.str s, .int .u8 c] = some [.int .i64 (lastB s c s.length)] := by
  refine res_code (fn := strings_LastIndexByte) rfl rfl ?_
  simp (disch := first | assumption | omega | (simp only [List.length_cons, List.length_nil, List.length_append, List.length_replicate, List.length_map, List.length_set, List.length_take, List.length_drop, strs_len, ints_len, bools_len, aggs_len]; done) | (simp only [List.length_cons, List.length_nil, List.length_append, List.length_replicate, List.length_map, List.length_set, List.length_take, List.length_drop, strs_len, ints_len, bools_len, aggs_len]; omega)) only [go_sem, strings_LastIndexByte]

@[go_sem] theorem res_IndexByteString (s : List UInt8) (c : Int) : res Γ 70 [.str s, .int .u8 c] = some [.int .i64 (ixB s c.toNat.toUInt8)] := res_of (RunP_prim (g := indexByteG) rfl rfl)
@[go_sem] theorem res_CountString (s : List UInt8) (c : Int) : res Γ 73 [.str s, .int .u8 c] = some [.int .i64 (s.count c.toNat.toUInt8 : Nat)] := res_of (RunP_prim (g := countG) rfl rfl)
@[go_sem] theorem res_liteIndexByte (s : List UInt8) (c : Int) : res Γ 64 [.str s, .int .u8 c] = some [.int .i64 (ixB s c.toNat.toUInt8)] := by
  refine res_code (fn := internal_stringslite_IndexByte) rfl rfl ?_
  simp (disch := first | assumption | omega | (simp only [List.length_cons, List.length_nil, List.length_append, List.length_replicate, List.length_map, List.length_set, List.length_take, List.length_drop, strs_len, ints_len, bools_len, aggs_len]; done) | (simp only [List.length_cons, List.length_nil, List.length_append, List.length_replicate, List.length_map, List.length_set, List.length_take, List.length_drop, strs_len, ints_len, bools_len, aggs_len]; omega)) only [go_sem, internal_stringslite_IndexByte]
@[go_sem] theorem res_IndexByte (s : List UInt8) (c : Int) : res Γ 55 [.str s, .int .u8 c] = some [.int .i64 (ixB s c.toNat.toUInt8)] := by
  refine res_code (fn := strings_IndexByte) rfl rfl ?_
  simp (disch := first | assumption | omega | (simp only [List.length_cons, List.length_nil, List.length_append, List.length_replicate, List.length_map, List.length_set, List.length_take, List.length_drop, strs_len, ints_len, bools_len, aggs_len]; done) | (simp only [List.length_cons, List.length_nil, List.length_append, List.length_replicate, List.length_map, List.length_set, List.length_take, List.length_drop, strs_len, ints_len, bools_len, aggs_len]; omega)) only [go_sem, strings_IndexByte]
theorem byt_one {c : UInt8} : byt [c] 0 = (c.toNat : Int) := rfl
theorem toU8_nat {c : UInt8} : c.toNat.toUInt8 = c := by simp
theorem toU8_toNat {c : UInt8} : (c.toNat : Int).toNat.toUInt8 = c := by simp
@[go_sem] theorem res_liteIndex1 (s : List UInt8) (c : UInt8) : res Γ 74 [.str s, .str [c]] = some [.int .i64 (ixB s c)] := by
  refine res_code (fn := internal_stringslite_Index) rfl rfl ?_
  simp (disch := first | assumption | omega | (simp only [List.length_cons, List.length_nil, List.length_append, List.length_replicate, List.length_map, List.length_set, List.length_take, List.length_drop, strs_len, ints_len, bools_len, aggs_len]; done) | (simp only [List.length_cons, List.length_nil, List.length_append, List.length_replicate, List.length_map, List.length_set, List.length_take, List.length_drop, strs_len, ints_len, bools_len, aggs_len]; omega)) only [go_sem, internal_stringslite_Index]
  refine cond_split (fun hc => ?_) (fun hc => ?_)
  · simp (disch := first | assumption | omega | (simp only [List.length_cons, List.length_nil, List.length_append, List.length_replicate, List.length_map, List.length_set, List.length_take, List.length_drop, strs_len, ints_len, bools_len, aggs_len]; done) | (simp only [List.length_cons, List.length_nil, List.length_append, List.length_replicate, List.length_map, List.length_set, List.length_take, List.length_drop, strs_len, ints_len, bools_len, aggs_len]; omega)) only [go_sem]
    subst hc
    simp [ixB]
  · simp (disch := first | assumption | omega | (simp only [List.length_cons, List.length_nil, List.length_append, List.length_replicate, List.length_map, List.length_set, List.length_take, List.length_drop, strs_len, ints_len, bools_len, aggs_len]; done) | (simp only [List.length_cons, List.length_nil, List.length_append, List.length_replicate, List.length_map, List.length_set, List.length_take, List.length_drop, strs_len, ints_len, bools_len, aggs_len]; omega)) only [go_sem, byt_one, toU8_toNat, toU8_nat]
@[go_sem] theorem res_Index1 (s : List UInt8) (c : UInt8) : res Γ 67 [.str s, .str [c]] = some [.int .i64 (ixB s c)] := by
  refine res_code (fn := strings_Index) rfl rfl ?_
  simp (disch := first | assumption | omega | (simp only [List.length_cons, List.length_nil, List.length_append, List.length_replicate, List.length_map, List.length_set, List.length_take, List.length_drop, strs_len, ints_len, bools_len, aggs_len]; done) | (simp only [List.length_cons, List.length_nil, List.length_append, List.length_replicate, List.length_map, List.length_set, List.length_take, List.length_drop, strs_len, ints_len, bools_len, aggs_len]; omega)) only [go_sem, strings_Index]
@[go_sem] theorem res_Count1 (s : List UInt8) (c : UInt8) : res Γ 68 [.str s, .str [c]] = some [.int .i64 (s.count c : Nat)] := by
  refine res_code (fn := strings_Count) rfl rfl ?_
  simp (disch := first | assumption | omega | (simp only [List.length_cons, List.length_nil, List.length_append, List.length_replicate, List.length_map, List.length_set, List.length_take, List.length_drop, strs_len, ints_len, bools_len, aggs_len]; done) | (simp only [List.length_cons, List.length_nil, List.length_append, List.length_replicate, List.length_map, List.length_set, List.length_take, List.length_drop, strs_len, ints_len, bools_len, aggs_len]; omega)) only [go_sem, strings_Count, byt_one, toU8_toNat, toU8_nat]
theorem ixB_nn {s : List UInt8} {c : UInt8} : -1 ≤ ixB s c ∧ ixB s c < s.length := by
  induction s with
  | nil => simp [ixB]
  | cons b l ih => simp only [ixB, List.length_cons, beq_iff_eq]; split <;> (try split) <;> omega
theorem splitB_ix (c : UInt8) : ∀ s : List UInt8, (ixB s c < 0 → splitB c s = [s]) ∧ (0 ≤ ixB s c → splitB c s = s.take (ixB s c).toNat :: splitB c (s.drop ((ixB s c).toNat + 1)))
  | [] => by simp [ixB, splitB]
  | b :: l => by
    have ih := splitB_ix c l
    have hn := @ixB_nn l c
    by_cases hb : b = c
    · subst hb; simp [ixB, splitB]
    · have hb' : (b == c) = false := by simpa using hb
      simp only [ixB, splitB, hb, hb', if_false, Bool.false_eq_true, beq_iff_eq]
      by_cases h : ixB l c = -1
      · rw [if_pos h, ih.1 (by omega)]
        exact ⟨fun _ => rfl, fun h => by omega⟩
      · rw [if_neg h, ih.2 (by omega)]
        refine ⟨fun h => by omega, fun _ => ?_⟩
        have e : (ixB l c + 1).toNat = (ixB l c).toNat + 1 := by omega
        simp only [e, List.take_succ_cons, List.drop_succ_cons]
theorem splitB_len (c : UInt8) : ∀ s : List UInt8, (splitB c s).length = s.count c + 1
  | [] => by simp [splitB]
  | b :: l => by
    have ih := splitB_len c l
    by_cases hb : b = c
    · subst hb; simp [splitB, ih]
    · simp only [splitB, hb, if_false]
      rw [List.count_cons_of_ne hb]
      cases h : splitB c l with
      | nil => rw [h] at ih; simp at ih
      | cons x y => rw [h] at ih; simpa using ih
theorem count_le {s : List UInt8} {c : UInt8} : s.count c ≤ s.length := List.count_le_length
theorem genSplit_l1 (c : UInt8) (n : Nat) (hn : n < 1000000000) (Q : Out → Prop) : ∀ (k i : Nat) (s : List UInt8) (done : List (List UInt8)), s.length < 1000000000 → done.length = i → s.count c = k → i + k = n →
    (∀ s' done', strs (done ++ splitB c s) = strs (done' ++ [s']) → done'.length = n → Q (.nrm, [(0, .p (.str s')), (9, .own 0 (n + 1)), (10, .p (.int .i64 (n : Int)))], [.row false 1 (strs (done' ++ [[]]))])) →
    Wp Γ strings_genSplit_l1 [(0, .p (.str s)), (1, .p (.str [c])), (2, .p (.int .i64 0)), (3, .p (.int .i64 (n : Int))), (9, .own 0 (n + 1)), (10, .p (.int .i64 (i : Int)))] [.row false 1 (strs (done ++ List.replicate (k + 1) []))] (InBlk [0, 9, 10] 0 Q) := by
  intro k
  induction k with
  | zero =>
    intro i s done hs hd hk hi hQ
    rw [W_loop (L := strings_genSplit_l1) rfl]
    simp (disch := first | assumption | omega | (simp only [List.length_cons, List.length_nil, List.length_append, List.length_replicate, List.length_map, List.length_set, List.length_take, List.length_drop, strs_len, ints_len, bools_len, aggs_len]; done) | (simp only [List.length_cons, List.length_nil, List.length_append, List.length_replicate, List.length_map, List.length_set, List.length_take, List.length_drop, strs_len, ints_len, bools_len, aggs_len]; omega)) only [go_sem]
    obtain rfl : i = n := by omega
    have h : ¬ 0 ≤ ixB s c := fun h => by
      have := splitB_len c s
      rw [(splitB_ix c s).2 h] at this
      simp at this; have := splitB_len c (s.drop ((ixB s c).toNat + 1)); omega
    refine hQ s done ?_ hd
    rw [(splitB_ix c s).1 (by omega)]
  | succ k ih =>
    intro i s done hs hd hk hi hQ
    rw [W_loop (L := strings_genSplit_l1) rfl]
    have h : 0 ≤ ixB s c := by
      have := splitB_len c s
      by_cases h : ixB s c < 0
      · rw [(splitB_ix c s).1 h] at this; simp at this; omega
      · omega
    have hlt := @ixB_nn s c
    simp (disch := first | assumption | omega | (simp only [List.length_cons, List.length_nil, List.length_append, List.length_replicate, List.length_map, List.length_set, List.length_take, List.length_drop, strs_len, ints_len, bools_len, aggs_len]; done) | (simp only [List.length_cons, List.length_nil, List.length_append, List.length_replicate, List.length_map, List.length_set, List.length_take, List.length_drop, strs_len, ints_len, bools_len, aggs_len]; omega)) only [go_sem, set_rep]
    have e : done ++ List.take (ixB s c).toNat s :: List.replicate (k + 1 + 1 - 1) [] = (done ++ [List.take (ixB s c).toNat s]) ++ List.replicate (k + 1) [] := by simp
    have e2 : (ixB s c + ((1 : Nat) : Int)).toNat = (ixB s c).toNat + 1 := by omega
    have e3 := splitB_len c s
    have e4 := (splitB_ix c s).2 h
    have e5 := splitB_len c (s.drop ((ixB s c).toNat + 1))
    rw [e, e2]
    refine ih (i + 1) _ _ (by simp; omega) (by simp [hd]) ?_ (by omega) (fun s' d' h1 h2 => hQ s' d' ?_ h2)
    · rw [e4] at e3; simp only [List.length_cons] at e3; omega
    · rw [e4, ← h1, List.append_assoc]; rfl
@[go_sem] theorem res_genSplit (s : List UInt8) (c : UInt8) (hs : s.length < 900000000) : res Γ 63 [.str s, .str [c], .int .i64 0, .int .i64 (-1)] = some [.sl .any 1 (strs (splitB c s))] := by
  have hc := @count_le s c
  refine res_code (fn := strings_genSplit) rfl rfl ?_
  simp (disch := first | assumption | omega | (simp only [List.length_cons, List.length_nil, List.length_append, List.length_replicate, List.length_map, List.length_set, List.length_take, List.length_drop, strs_len, ints_len, bools_len, aggs_len]; done) | (simp only [List.length_cons, List.length_nil, List.length_append, List.length_replicate, List.length_map, List.length_set, List.length_take, List.length_drop, strs_len, ints_len, bools_len, aggs_len]; omega)) only [go_sem, strings_genSplit]
  rw [show ((s.count c : Nat) : Int) + 1 - 1 = ((s.count c : Nat) : Int) by omega, show (((s.count c : Nat) : Int) + 1).toNat = s.count c + 1 by omega]
  refine genSplit_l1 c (s.count c) (by omega) _ (s.count c) 0 s [] (by omega) rfl rfl (by omega) (fun s' d' h1 h2 => ?_)
  simp (disch := first | assumption | omega | (simp only [List.length_cons, List.length_nil, List.length_append, List.length_replicate, List.length_map, List.length_set, List.length_take, List.length_drop, strs_len, ints_len, bools_len, aggs_len]; done) | (simp only [List.length_cons, List.length_nil, List.length_append, List.length_replicate, List.length_map, List.length_set, List.length_take, List.length_drop, strs_len, ints_len, bools_len, aggs_len]; omega)) only [go_sem]
  rw [show (((s.count c : Nat) : Int) + 1).toNat = (d' ++ [s']).length by simp; omega, List.take_length, ← h1, List.nil_append]
@[go_sem] theorem res_Split (s : List UInt8) (c : UInt8) (hs : s.length < 900000000) : res Γ 52 [.str s, .str [c]] = some [.sl .any 1 (strs (splitB c s))] := by
  refine res_code (fn := strings_Split) rfl rfl ?_
  simp (disch := first | assumption | omega | (simp only [List.length_cons, List.length_nil, List.length_append, List.length_replicate, List.length_map, List.length_set, List.length_take, List.length_drop, strs_len, ints_len, bools_len, aggs_len]; done) | (simp only [List.length_cons, List.length_nil, List.length_append, List.length_replicate, List.length_map, List.length_set, List.length_take, List.length_drop, strs_len, ints_len, bools_len, aggs_len]; omega)) only [go_sem, strings_Split]
end Ab
