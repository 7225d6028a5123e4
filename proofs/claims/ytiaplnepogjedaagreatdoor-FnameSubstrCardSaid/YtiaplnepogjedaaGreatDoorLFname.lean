import Derived.Test.YtiaplnepogjedaaGreatDoorCode
import Derived.Test.YtiaplnepogjedaaGreatDoorAbRow
namespace Ab
open Go (IntKind BinOp UnOp)
def lastB (s : List UInt8) (c : Int) : Nat → Int
  | 0 => -1
  | i + 1 => if byt s i = c then (i : Int) else lastB s c i
def splitB (c : UInt8) : List UInt8 → List (List UInt8)
  | [] => [[]]
  | b :: l => if b = c then [] :: splitB c l else match splitB c l with | [] => [[b]] | h :: t => (b :: h) :: t

theorem LastIndexByteString_l1 (s : List UInt8) (c : Int) (hs : s.length < 4611686018427387904) (Q : Out → Prop) : ∀ i, i ≤ s.length →
    (lastB s c i < 0 → Q (.nrm, [], [])) → (0 ≤ lastB s c i → Q (.ret, [(4, .p (.int .i64 (lastB s c i)))], [])) →
    Wp Γ internal_bytealg_LastIndexByteString_l1 [(0, .p (.str s)), (1, .p (.int .u8 c)), (5, .p (.int .i64 ((i : Int) - 1)))] [] (InBlk [] 0 Q) := by
  intro i
  induction i with
  | zero =>
    intro hi h1 h2
    rw [W_loop (L := internal_bytealg_LastIndexByteString_l1) rfl]
    simp (disch := first | assumption | omega | decide | (simp only [List.length_cons, List.length_nil, List.length_append, List.length_replicate, List.length_map, List.length_set, List.length_take, List.length_drop, strs_len, ints_len, bools_len, aggs_len, vpv_len]; done) | (simp only [List.length_cons, List.length_nil, List.length_append, List.length_replicate, List.length_map, List.length_set, List.length_take, List.length_drop, strs_len, ints_len, bools_len, aggs_len, vpv_len]; omega)) only [go_sem]
    exact h1 (by simp [lastB])
  | succ i ih =>
    intro hi h1 h2
    have e : ((i + 1 : Nat) : Int) - 1 = (i : Int) := by omega
    rw [W_loop (L := internal_bytealg_LastIndexByteString_l1) rfl]
    rw [e]
    simp (disch := first | assumption | omega | decide | (simp only [List.length_cons, List.length_nil, List.length_append, List.length_replicate, List.length_map, List.length_set, List.length_take, List.length_drop, strs_len, ints_len, bools_len, aggs_len, vpv_len]; done) | (simp only [List.length_cons, List.length_nil, List.length_append, List.length_replicate, List.length_map, List.length_set, List.length_take, List.length_drop, strs_len, ints_len, bools_len, aggs_len, vpv_len]; omega)) only [go_sem]
    refine cond_split (fun hc => ?_) (fun hc => ?_)
    · simp (disch := first | assumption | omega | decide | (simp only [List.length_cons, List.length_nil, List.length_append, List.length_replicate, List.length_map, List.length_set, List.length_take, List.length_drop, strs_len, ints_len, bools_len, aggs_len, vpv_len]; done) | (simp only [List.length_cons, List.length_nil, List.length_append, List.length_replicate, List.length_map, List.length_set, List.length_take, List.length_drop, strs_len, ints_len, bools_len, aggs_len, vpv_len]; omega)) only [go_sem]
      simp only [lastB, hc, if_true] at h2
      exact h2 (by omega)
    · simp (disch := first | assumption | omega | decide | (simp only [List.length_cons, List.length_nil, List.length_append, List.length_replicate, List.length_map, List.length_set, List.length_take, List.length_drop, strs_len, ints_len, bools_len, aggs_len, vpv_len]; done) | (simp only [List.length_cons, List.length_nil, List.length_append, List.length_replicate, List.length_map, List.length_set, List.length_take, List.length_drop, strs_len, ints_len, bools_len, aggs_len, vpv_len]; omega)) only [go_sem]
      simp only [lastB, hc, if_false] at h1 h2
      exact ih (by omega) h1 h2
theorem lastB_ge (s c) : ∀ i, -1 ≤ lastB s c i ∧ lastB s c i < i := by
  intro i
  induction i with
  | zero => simp [lastB]
  | succ i ih => simp only [lastB]; split <;> omega
theorem lastB_neg {s c i} (h : lastB s c i < 0) : lastB s c i = -1 := by have := lastB_ge s c i; omega
@[go_sem] theorem res_LastIndexByteString (s : List UInt8) (c : Int) (hs : s.length < 4611686018427387904) : res Γ 46 [.str s, .int .u8 c] = some [.int .i64 (lastB s c s.length)] := by
  refine res_code (fn := internal_bytealg_LastIndexByteString) rfl rfl ?_
  simp (disch := first | assumption | omega | decide | (simp only [List.length_cons, List.length_nil, List.length_append, List.length_replicate, List.length_map, List.length_set, List.length_take, List.length_drop, strs_len, ints_len, bools_len, aggs_len, vpv_len]; done) | (simp only [List.length_cons, List.length_nil, List.length_append, List.length_replicate, List.length_map, List.length_set, List.length_take, List.length_drop, strs_len, ints_len, bools_len, aggs_len, vpv_len]; omega)) only [go_sem, internal_bytealg_LastIndexByteString]
  refine LastIndexByteString_l1 s c hs _ s.length (Nat.le_refl _) (fun h => ?_) (fun h => ?_)
  · simp (disch := first | assumption | omega | decide | (simp only [List.length_cons, List.length_nil, List.length_append, List.length_replicate, List.length_map, List.length_set, List.length_take, List.length_drop, strs_len, ints_len, bools_len, aggs_len, vpv_len]; done) | (simp only [List.length_cons, List.length_nil, List.length_append, List.length_replicate, List.length_map, List.length_set, List.length_take, List.length_drop, strs_len, ints_len, bools_len, aggs_len, vpv_len]; omega)) only [go_sem, lastB_neg h]
  · simp (disch := first | assumption | omega | decide | (simp only [List.length_cons, List.length_nil, List.length_append, List.length_replicate, List.length_map, List.length_set, List.length_take, List.length_drop, strs_len, ints_len, bools_len, aggs_len, vpv_len]; done) | (simp only [List.length_cons, List.length_nil, List.length_append, List.length_replicate, List.length_map, List.length_set, List.length_take, List.length_drop, strs_len, ints_len, bools_len, aggs_len, vpv_len]; omega)) only [go_sem]
@[go_sem] theorem res_LastIndexByte (s : List UInt8) (c : Int) (hs : s.length < 4611686018427387904) : res Γ 25 [.str s, .int .u8 c] = some [.int .i64 (lastB s c s.length)] := by
  refine res_code (fn := strings_LastIndexByte) rfl rfl ?_
  simp (disch := first | assumption | omega | decide | (simp only [List.length_cons, List.length_nil, List.length_append, List.length_replicate, List.length_map, List.length_set, List.length_take, List.length_drop, strs_len, ints_len, bools_len, aggs_len, vpv_len]; done) | (simp only [List.length_cons, List.length_nil, List.length_append, List.length_replicate, List.length_map, List.length_set, List.length_take, List.length_drop, strs_len, ints_len, bools_len, aggs_len, vpv_len]; omega)) only [go_sem, strings_LastIndexByte]

@[go_sem] theorem res_IndexByteString (s : List UInt8) (c : Int) : res Γ 70 [.str s, .int .u8 c] = some [.int .i64 (ixB s c.toNat.toUInt8)] := res_of (RunP_prim (g := indexByteG) rfl rfl)
@[go_sem] theorem res_CountString (s : List UInt8) (c : Int) : res Γ 73 [.str s, .int .u8 c] = some [.int .i64 (s.count c.toNat.toUInt8 : Nat)] := res_of (RunP_prim (g := countG) rfl rfl)
@[go_sem] theorem res_liteIndexByte (s : List UInt8) (c : Int) : res Γ 64 [.str s, .int .u8 c] = some [.int .i64 (ixB s c.toNat.toUInt8)] := by
  refine res_code (fn := internal_stringslite_IndexByte) rfl rfl ?_
  simp (disch := first | assumption | omega | decide | (simp only [List.length_cons, List.length_nil, List.length_append, List.length_replicate, List.length_map, List.length_set, List.length_take, List.length_drop, strs_len, ints_len, bools_len, aggs_len, vpv_len]; done) | (simp only [List.length_cons, List.length_nil, List.length_append, List.length_replicate, List.length_map, List.length_set, List.length_take, List.length_drop, strs_len, ints_len, bools_len, aggs_len, vpv_len]; omega)) only [go_sem, internal_stringslite_IndexByte]
@[go_sem] theorem res_IndexByte (s : List UInt8) (c : Int) : res Γ 55 [.str s, .int .u8 c] = some [.int .i64 (ixB s c.toNat.toUInt8)] := by
  refine res_code (fn := strings_IndexByte) rfl rfl ?_
  simp (disch := first | assumption | omega | decide | (simp only [List.length_cons, List.length_nil, List.length_append, List.length_replicate, List.length_map, List.length_set, List.length_take, List.length_drop, strs_len, ints_len, bools_len, aggs_len, vpv_len]; done) | (simp only [List.length_cons, List.length_nil, List.length_append, List.length_replicate, List.length_map, List.length_set, List.length_take, List.length_drop, strs_len, ints_len, bools_len, aggs_len, vpv_len]; omega)) only [go_sem, strings_IndexByte]
theorem byt_one {c : UInt8} : byt [c] 0 = (c.toNat : Int) := rfl
theorem toU8_nat {c : UInt8} : c.toNat.toUInt8 = c := by simp
@[go_sem] theorem res_liteIndex1 (s : List UInt8) (c : UInt8) : res Γ 74 [.str s, .str [c]] = some [.int .i64 (ixB s c)] := by
  refine res_code (fn := internal_stringslite_Index) rfl rfl ?_
  simp (disch := first | assumption | omega | decide | (simp only [List.length_cons, List.length_nil, List.length_append, List.length_replicate, List.length_map, List.length_set, List.length_take, List.length_drop, strs_len, ints_len, bools_len, aggs_len, vpv_len]; done) | (simp only [List.length_cons, List.length_nil, List.length_append, List.length_replicate, List.length_map, List.length_set, List.length_take, List.length_drop, strs_len, ints_len, bools_len, aggs_len, vpv_len]; omega)) only [go_sem, internal_stringslite_Index]
  refine cond_split (fun hc => ?_) (fun hc => ?_)
  · simp (disch := first | assumption | omega | decide | (simp only [List.length_cons, List.length_nil, List.length_append, List.length_replicate, List.length_map, List.length_set, List.length_take, List.length_drop, strs_len, ints_len, bools_len, aggs_len, vpv_len]; done) | (simp only [List.length_cons, List.length_nil, List.length_append, List.length_replicate, List.length_map, List.length_set, List.length_take, List.length_drop, strs_len, ints_len, bools_len, aggs_len, vpv_len]; omega)) only [go_sem]
    subst hc
    simp [ixB]
  · simp (disch := first | assumption | omega | decide | (simp only [List.length_cons, List.length_nil, List.length_append, List.length_replicate, List.length_map, List.length_set, List.length_take, List.length_drop, strs_len, ints_len, bools_len, aggs_len, vpv_len]; done) | (simp only [List.length_cons, List.length_nil, List.length_append, List.length_replicate, List.length_map, List.length_set, List.length_take, List.length_drop, strs_len, ints_len, bools_len, aggs_len, vpv_len]; omega)) only [go_sem, byt_one, toU8_nat]
@[go_sem] theorem res_Index1 (s : List UInt8) (c : UInt8) : res Γ 67 [.str s, .str [c]] = some [.int .i64 (ixB s c)] := by
  refine res_code (fn := strings_Index) rfl rfl ?_
  simp (disch := first | assumption | omega | decide | (simp only [List.length_cons, List.length_nil, List.length_append, List.length_replicate, List.length_map, List.length_set, List.length_take, List.length_drop, strs_len, ints_len, bools_len, aggs_len, vpv_len]; done) | (simp only [List.length_cons, List.length_nil, List.length_append, List.length_replicate, List.length_map, List.length_set, List.length_take, List.length_drop, strs_len, ints_len, bools_len, aggs_len, vpv_len]; omega)) only [go_sem, strings_Index]
@[go_sem] theorem res_Count1 (s : List UInt8) (c : UInt8) : res Γ 68 [.str s, .str [c]] = some [.int .i64 (s.count c : Nat)] := by
  refine res_code (fn := strings_Count) rfl rfl ?_
  simp (disch := first | assumption | omega | decide | (simp only [List.length_cons, List.length_nil, List.length_append, List.length_replicate, List.length_map, List.length_set, List.length_take, List.length_drop, strs_len, ints_len, bools_len, aggs_len, vpv_len]; done) | (simp only [List.length_cons, List.length_nil, List.length_append, List.length_replicate, List.length_map, List.length_set, List.length_take, List.length_drop, strs_len, ints_len, bools_len, aggs_len, vpv_len]; omega)) only [go_sem, strings_Count, byt_one, toU8_nat]
theorem ixB_nn {s : List UInt8} {c : UInt8} : -1 ≤ ixB s c ∧ ixB s c < s.length := by
  induction s with
  | nil => simp [ixB]
  | cons b l ih => simp only [ixB, List.length_cons, beq_iff_eq]; split <;> (try split) <;> omega
theorem splitB_ix (c : UInt8) : ∀ s : List UInt8, (ixB s c < 0 → splitB c s = [s]) ∧ (0 ≤ ixB s c → splitB c s = s.take (ixB s c).toNat :: splitB c (s.drop ((ixB s c).toNat + 1)))
  | [] => by simp [ixB, splitB]
  | b :: l => by
    have ih := splitB_ix c l
    have hn := @ixB_nn l c
    by_cases hb : b = c
    · subst hb; simp [ixB, splitB]
    · have hb' : (b == c) = false := by simpa using hb
      simp only [ixB, splitB, hb, hb', if_false, Bool.false_eq_true, beq_iff_eq]
      by_cases h : ixB l c = -1
      · rw [if_pos h, ih.1 (by omega)]
        exact ⟨fun _ => rfl, fun h => by omega⟩
      · rw [if_neg h, ih.2 (by omega)]
        refine ⟨fun h => by omega, fun _ => ?_⟩
        have e : (ixB l c + 1).toNat = (ixB l c).toNat + 1 := by omega
        simp only [e, List.take_succ_cons, List.drop_succ_cons]
theorem splitB_len (c : UInt8) : ∀ s : List UInt8, (splitB c s).length = s.count c + 1
  | [] => by simp [splitB]
  | b :: l => by
    have ih := splitB_len c l
    by_cases hb : b = c
    · subst hb; simp [splitB, ih]
    · simp only [splitB, hb, if_false]
      rw [List.count_cons_of_ne hb]
      cases h : splitB c l with
      | nil => rw [h] at ih; simp at ih
      | cons x y => rw [h] at ih; simpa using ih
theorem count_le {s : List UInt8} {c : UInt8} : s.count c ≤ s.length := List.count_le_length
theorem genSplit_l1 (c : UInt8) (n : Nat) (hn : n < 1000000000) (Q : Out → Prop) : ∀ (k i : Nat) (s : List UInt8) (done : List (List UInt8)), s.length < 1000000000 → done.length = i → s.count c = k → i + k = n →
    (∀ s' done', strs (done ++ splitB c s) = strs (done' ++ [s']) → done'.length = n → Q (.nrm, [(0, .p (.str s')), (9, .own 0 (n + 1)), (10, .p (.int .i64 (n : Int)))], [.row false 1 (strs (done' ++ [[]]))])) →
    Wp Γ strings_genSplit_l1 [(0, .p (.str s)), (1, .p (.str [c])), (2, .p (.int .i64 0)), (3, .p (.int .i64 (n : Int))), (9, .own 0 (n + 1)), (10, .p (.int .i64 (i : Int)))] [.row false 1 (strs (done ++ List.replicate (k + 1) []))] (InBlk [0, 9, 10] 0 Q) := by
  intro k
  induction k with
  | zero =>
    intro i s done hs hd hk hi hQ
    rw [W_loop (L := strings_genSplit_l1) rfl]
    simp (disch := first | assumption | omega | decide | (simp only [List.length_cons, List.length_nil, List.length_append, List.length_replicate, List.length_map, List.length_set, List.length_take, List.length_drop, strs_len, ints_len, bools_len, aggs_len, vpv_len]; done) | (simp only [List.length_cons, List.length_nil, List.length_append, List.length_replicate, List.length_map, List.length_set, List.length_take, List.length_drop, strs_len, ints_len, bools_len, aggs_len, vpv_len]; omega)) only [go_sem]
    obtain rfl : i = n := by omega
    have h : ¬ 0 ≤ ixB s c := fun h => by
      have := splitB_len c s
      rw [(splitB_ix c s).2 h] at this
      simp at this; have := splitB_len c (s.drop ((ixB s c).toNat + 1)); omega
    refine hQ s done ?_ hd
    rw [(splitB_ix c s).1 (by omega)]
  | succ k ih =>
    intro i s done hs hd hk hi hQ
    rw [W_loop (L := strings_genSplit_l1) rfl]
    have h : 0 ≤ ixB s c := by
      have := splitB_len c s
      by_cases h : ixB s c < 0
      · rw [(splitB_ix c s).1 h] at this; simp at this; omega
      · omega
    have hlt := @ixB_nn s c
    simp (disch := first | assumption | omega | decide | (simp only [List.length_cons, List.length_nil, List.length_append, List.length_replicate, List.length_map, List.length_set, List.length_take, List.length_drop, strs_len, ints_len, bools_len, aggs_len, vpv_len]; done) | (simp only [List.length_cons, List.length_nil, List.length_append, List.length_replicate, List.length_map, List.length_set, List.length_take, List.length_drop, strs_len, ints_len, bools_len, aggs_len, vpv_len]; omega)) only [go_sem, set_rep]
    have e : done ++ List.take (ixB s c).toNat s :: List.replicate (k + 1 + 1 - 1) [] = (done ++ [List.take (ixB s c).toNat s]) ++ List.replicate (k + 1) [] := by simp
    have e2 : (ixB s c + ((1 : Nat) : Int)).toNat = (ixB s c).toNat + 1 := by omega
    have e3 := splitB_len c s
    have e4 := (splitB_ix c s).2 h
    have e5 := splitB_len c (s.drop ((ixB s c).toNat + 1))
    rw [e, e2]
    refine ih (i + 1) _ _ (by simp; omega) (by simp [hd]) ?_ (by omega) (fun s' d' h1 h2 => hQ s' d' ?_ h2)
    · rw [e4] at e3; simp only [List.length_cons] at e3; omega
    · rw [e4, ← h1, List.append_assoc]; rfl
@[go_sem] theorem res_genSplit (s : List UInt8) (c : UInt8) (hs : s.length < 900000000) : res Γ 63 [.str s, .str [c], .int .i64 0, .int .i64 (-1)] = some [.sl .any 1 (strs (splitB c s))] := by
  have hc := @count_le s c
  refine res_code (fn := strings_genSplit) rfl rfl ?_
  simp (disch := first | assumption | omega | decide | (simp only [List.length_cons, List.length_nil, List.length_append, List.length_replicate, List.length_map, List.length_set, List.length_take, List.length_drop, strs_len, ints_len, bools_len, aggs_len, vpv_len]; done) | (simp only [List.length_cons, List.length_nil, List.length_append, List.length_replicate, List.length_map, List.length_set, List.length_take, List.length_drop, strs_len, ints_len, bools_len, aggs_len, vpv_len]; omega)) only [go_sem, strings_genSplit]
  rw [show ((s.count c : Nat) : Int) + 1 - 1 = ((s.count c : Nat) : Int) by omega, show (((s.count c : Nat) : Int) + 1).toNat = s.count c + 1 by omega]
  refine genSplit_l1 c (s.count c) (by omega) _ (s.count c) 0 s [] (by omega) rfl rfl (by omega) (fun s' d' h1 h2 => ?_)
  simp (disch := first | assumption | omega | decide | (simp only [List.length_cons, List.length_nil, List.length_append, List.length_replicate, List.length_map, List.length_set, List.length_take, List.length_drop, strs_len, ints_len, bools_len, aggs_len, vpv_len]; done) | (simp only [List.length_cons, List.length_nil, List.length_append, List.length_replicate, List.length_map, List.length_set, List.length_take, List.length_drop, strs_len, ints_len, bools_len, aggs_len, vpv_len]; omega)) only [go_sem]
  rw [show (((s.count c : Nat) : Int) + 1).toNat = (d' ++ [s']).length by simp; omega, List.take_length, ← h1, List.nil_append]
@[go_sem] theorem res_Split (s : List UInt8) (c : UInt8) (hs : s.length < 900000000) : res Γ 52 [.str s, .str [c]] = some [.sl .any 1 (strs (splitB c s))] := by
  refine res_code (fn := strings_Split) rfl rfl ?_
  simp (disch := first | assumption | omega | decide | (simp only [List.length_cons, List.length_nil, List.length_append, List.length_replicate, List.length_map, List.length_set, List.length_take, List.length_drop, strs_len, ints_len, bools_len, aggs_len, vpv_len]; done) | (simp only [List.length_cons, List.length_nil, List.length_append, List.length_replicate, List.length_map, List.length_set, List.length_take, List.length_drop, strs_len, ints_len, bools_len, aggs_len, vpv_len]; omega)) only [go_sem, strings_Split]
end Ab
namespace Ab
open Go (IntKind BinOp UnOp)
def splitA (c : UInt8) : List UInt8 → List UInt8 → List (List UInt8)
  | cur, [] => [cur]
  | cur, b :: l => if b = c then cur :: splitA c [] l else splitA c (cur ++ [b]) l
theorem splitA_eq (c : UInt8) : ∀ (l cur : List UInt8), splitA c cur l = match splitB c l with | [] => [cur] | h :: t => (cur ++ h) :: t
  | [], cur => by simp [splitA, splitB]
  | b :: l, cur => by
    by_cases hb : b = c
    · simp only [splitA, splitB, hb, if_true, List.append_nil]
      rw [splitA_eq c l []]
      have := splitB_len c l
      cases h : splitB c l with
      | nil => rw [h] at this; simp at this
      | cons x y => simp
    · simp only [splitA, splitB, hb, if_false]
      rw [splitA_eq c l]
      cases h : splitB c l <;> simp
theorem splitA_nil (c : UInt8) (l : List UInt8) : splitA c [] l = splitB c l := by
  rw [splitA_eq]
  have := splitB_len c l
  cases h : splitB c l with
  | nil => rw [h] at this; simp at this
  | cons x y => simp
theorem drop_cons {s : List UInt8} {i : Nat} {b : UInt8} {r : List UInt8} (h : s.drop i = b :: r) : i < s.length ∧ byt s i = (b.toNat : Int) ∧ s.drop (i + 1) = r ∧ s.take (i + 1) = s.take i ++ [b] := by
  have h1 : i < s.length := by
    by_cases h1 : i < s.length
    · exact h1
    · rw [List.drop_of_length_le (by omega)] at h; cases h
  rw [List.drop_eq_getElem_cons h1] at h
  cases h
  refine ⟨h1, ?_, rfl, ?_⟩
  · simp [byt, List.getElem?_eq_getElem h1]
  · rw [List.take_add_one, List.getElem?_eq_getElem h1]; rfl
theorem drop_nil {s : List UInt8} {i : Nat} (h : s.drop i = []) : s.length ≤ i := by simpa using h
theorem toNat_eq {b : UInt8} {n : Nat} (hn : n < 256) : ((b.toNat : Int) = (n : Int)) ↔ b = UInt8.ofNat n := by
  constructor
  · intro h
    have : b.toNat = n := by omega
    rw [← this]; simp
  · rintro rfl; simp; omega
@[go_sem] theorem res_nameParts (s : List UInt8) (hs : s.length < 900000000) : res Γ 36 [.str s] = some [.sl .any 1 (strs (splitB 46 s))] := by
  refine res_code (fn := name_Parts) rfl rfl ?_
  simp (disch := first | assumption | omega | decide | (simp only [List.length_cons, List.length_nil, List.length_append, List.length_replicate, List.length_map, List.length_set, List.length_take, List.length_drop, strs_len, ints_len, bools_len, aggs_len, vpv_len]; done) | (simp only [List.length_cons, List.length_nil, List.length_append, List.length_replicate, List.length_map, List.length_set, List.length_take, List.length_drop, strs_len, ints_len, bools_len, aggs_len, vpv_len]; omega)) only [go_sem, name_Parts]
theorem r8_Parts_l1_ok (s : List UInt8) (hs : s.length < 900000000) (Q : Out → Prop) : ∀ (rest cur : List UInt8) (i fr : Nat) (done : List (List UInt8)), s.drop i = rest → (s.take i).drop fr = cur → fr ≤ i → i ≤ s.length → done.length ≤ i →
    (Q (.nrm, [(3, .own 0 (done ++ splitA 46 cur rest).length)], [.row false 1 (strs (done ++ splitA 46 cur rest))])) →
    Wp Γ r8_Parts_l1 [(0, .p (.str s)), (3, .own 0 done.length), (4, .p (.int .i64 fr)), (5, .p (.int .i64 (i : Int)))] [.row false 1 (strs done)] (InBlk [3] 0 Q) := by
  intro rest
  induction rest with
  | nil =>
    intro cur i fr done h1 h2 h3 h4 h5 hQ
    have := drop_nil h1
    obtain rfl : i = s.length := by omega
    rw [W_loop (L := r8_Parts_l1) rfl]
    simp (disch := first | assumption | omega | decide | (simp only [List.length_cons, List.length_nil, List.length_append, List.length_replicate, List.length_map, List.length_set, List.length_take, List.length_drop, strs_len, ints_len, bools_len, aggs_len, vpv_len]; done) | (simp only [List.length_cons, List.length_nil, List.length_append, List.length_replicate, List.length_map, List.length_set, List.length_take, List.length_drop, strs_len, ints_len, bools_len, aggs_len, vpv_len]; omega)) only [go_sem]
    rw [W_loop (L := r8_Parts_l1) rfl]
    simp (disch := first | assumption | omega | decide | (simp only [List.length_cons, List.length_nil, List.length_append, List.length_replicate, List.length_map, List.length_set, List.length_take, List.length_drop, strs_len, ints_len, bools_len, aggs_len, vpv_len]; done) | (simp only [List.length_cons, List.length_nil, List.length_append, List.length_replicate, List.length_map, List.length_set, List.length_take, List.length_drop, strs_len, ints_len, bools_len, aggs_len, vpv_len]; omega)) only [go_sem]
    simp only [splitA, ← h2, List.length_append, List.length_cons, List.length_nil] at hQ
    exact hQ
  | cons b rest ih =>
    intro cur i fr done h1 h2 h3 h4 h5 hQ
    obtain ⟨h6, h7, h8, h9⟩ := drop_cons h1
    rw [W_loop (L := r8_Parts_l1) rfl]
    simp (disch := first | assumption | omega | decide | (simp only [List.length_cons, List.length_nil, List.length_append, List.length_replicate, List.length_map, List.length_set, List.length_take, List.length_drop, strs_len, ints_len, bools_len, aggs_len, vpv_len]; done) | (simp only [List.length_cons, List.length_nil, List.length_append, List.length_replicate, List.length_map, List.length_set, List.length_take, List.length_drop, strs_len, ints_len, bools_len, aggs_len, vpv_len]; omega)) only [go_sem, h7]
    refine cond_split (fun hc => ?_) (fun hc => ?_)
    · have hb : b = 46 := (toNat_eq (n := 46) (by decide)).1 hc
      subst hb
      simp (disch := first | assumption | omega | decide | (simp only [List.length_cons, List.length_nil, List.length_append, List.length_replicate, List.length_map, List.length_set, List.length_take, List.length_drop, strs_len, ints_len, bools_len, aggs_len, vpv_len]; done) | (simp only [List.length_cons, List.length_nil, List.length_append, List.length_replicate, List.length_map, List.length_set, List.length_take, List.length_drop, strs_len, ints_len, bools_len, aggs_len, vpv_len]; omega)) only [go_sem]
      have e : done.length + 1 = (done ++ [List.drop fr (List.take i s)]).length := by simp
      rw [e]
      exact ih [] (i + 1) (i + 1) _ h8 (by simp) (Nat.le_refl _) (by omega) (by simp; omega) (by simpa [splitA, h2] using hQ)
    · have hb : b ≠ 46 := fun h => hc (by rw [h]; rfl)
      simp (disch := first | assumption | omega | decide | (simp only [List.length_cons, List.length_nil, List.length_append, List.length_replicate, List.length_map, List.length_set, List.length_take, List.length_drop, strs_len, ints_len, bools_len, aggs_len, vpv_len]; done) | (simp only [List.length_cons, List.length_nil, List.length_append, List.length_replicate, List.length_map, List.length_set, List.length_take, List.length_drop, strs_len, ints_len, bools_len, aggs_len, vpv_len]; omega)) only [go_sem]
      refine ih (cur ++ [b]) (i + 1) fr done h8 ?_ (by omega) (by omega) (by omega) (by simpa [splitA, hb] using hQ)
      rw [h9, List.drop_append_of_le_length (by simp; omega), h2]
@[go_sem] theorem res_r8Parts (s : List UInt8) (hs : s.length < 900000000) : res Γ 40 [.str s] = some [.sl .any 1 (strs (splitB 46 s))] := by
  refine res_code (fn := r8_Parts) rfl rfl ?_
  simp (disch := first | assumption | omega | decide | (simp only [List.length_cons, List.length_nil, List.length_append, List.length_replicate, List.length_map, List.length_set, List.length_take, List.length_drop, strs_len, ints_len, bools_len, aggs_len, vpv_len]; done) | (simp only [List.length_cons, List.length_nil, List.length_append, List.length_replicate, List.length_map, List.length_set, List.length_take, List.length_drop, strs_len, ints_len, bools_len, aggs_len, vpv_len]; omega)) only [go_sem, r8_Parts]
  refine r8_Parts_l1_ok s hs _ s [] 0 0 [] rfl (by simp) (by omega) (by omega) (by simp) ?_
  simp (disch := first | assumption | omega | decide | (simp only [List.length_cons, List.length_nil, List.length_append, List.length_replicate, List.length_map, List.length_set, List.length_take, List.length_drop, strs_len, ints_len, bools_len, aggs_len, vpv_len]; done) | (simp only [List.length_cons, List.length_nil, List.length_append, List.length_replicate, List.length_map, List.length_set, List.length_take, List.length_drop, strs_len, ints_len, bools_len, aggs_len, vpv_len]; omega)) only [go_sem, splitA_nil]
def nodeB (l : List (List UInt8)) (i : Int) : List UInt8 :=
  let j := if i < 0 then i + l.length else i
  if j < 0 ∨ (l.length : Int) ≤ j then [] else l.getD j.toNat []
@[go_sem] theorem res_nameNode (s : List UInt8) (i : Int) (hs : s.length < 900000000) (h0 : -9223372036854775808 ≤ i) (h1 : i ≤ 9223372036854775807) : res Γ 3 [.str s, .int .i64 i] = some [.str (nodeB (splitB 46 s) i)] := by
  have hl := splitB_len 46 s
  have hc := @count_le s 46
  refine res_code (fn := name_Node) rfl rfl ?_
  repeat' (first | (simp (disch := first | assumption | omega | decide | (simp only [List.length_cons, List.length_nil, List.length_append, List.length_replicate, List.length_map, List.length_set, List.length_take, List.length_drop, strs_len, ints_len, bools_len, aggs_len, vpv_len]; done) | (simp only [List.length_cons, List.length_nil, List.length_append, List.length_replicate, List.length_map, List.length_set, List.length_take, List.length_drop, strs_len, ints_len, bools_len, aggs_len, vpv_len]; omega)) only [go_sem, name_Node]) | refine cond_split (fun hc => ?_) (fun hc => ?_) | refine gd_split_f (fun hc => ?_) (fun hc => ?_) | refine gd_split_t (fun hc => ?_) (fun hc => ?_))
  all_goals (simp only [nodeB, Option.some.injEq, List.cons.injEq, and_true, PV.str.injEq]; split <;> split <;> first | rfl | omega)
@[go_sem] theorem res_r8Node (s : List UInt8) (i : Int) (hs : s.length < 900000000) (h0 : -9223372036854775808 ≤ i) (h1 : i ≤ 9223372036854775807) : res Γ 27 [.str s, .int .i64 i] = some [.str (nodeB (splitB 46 s) i)] := by
  have hl := splitB_len 46 s
  have hc := @count_le s 46
  refine res_code (fn := r8_Node) rfl rfl ?_
  repeat' (first | (simp (disch := first | assumption | omega | decide | (simp only [List.length_cons, List.length_nil, List.length_append, List.length_replicate, List.length_map, List.length_set, List.length_take, List.length_drop, strs_len, ints_len, bools_len, aggs_len, vpv_len]; done) | (simp only [List.length_cons, List.length_nil, List.length_append, List.length_replicate, List.length_map, List.length_set, List.length_take, List.length_drop, strs_len, ints_len, bools_len, aggs_len, vpv_len]; omega)) only [go_sem, r8_Node]) | refine cond_split (fun hc => ?_) (fun hc => ?_) | refine gd_split_f (fun hc => ?_) (fun hc => ?_) | refine gd_split_t (fun hc => ?_) (fun hc => ?_))
  all_goals (simp only [nodeB, Option.some.injEq, List.cons.injEq, and_true, PV.str.injEq]; split <;> split <;> first | rfl | omega)
end Ab
namespace Ab
open Go (IntKind BinOp UnOp)
theorem joinB_snoc (sep x : List UInt8) : ∀ l : List (List UInt8), l ≠ [] → joinB sep (l ++ [x]) = joinB sep l ++ (sep ++ x)
  | [], h => absurd rfl h
  | [a], _ => by simp [joinB]
  | a :: b :: r, _ => by
    have := joinB_snoc sep x (b :: r) (by simp)
    simp only [List.cons_append, joinB, List.append_assoc] at this ⊢
    rw [this]
theorem joinB_len (sep : List UInt8) (m : Nat) : ∀ l : List (List UInt8), (∀ x ∈ l, x.length ≤ m) → (joinB sep l).length ≤ l.length * (m + sep.length)
  | [], _ => by simp [joinB]
  | [a], h => by have := h a (by simp); simp [joinB]; omega
  | a :: b :: r, h => by
    have h1 := h a (by simp)
    have := joinB_len sep m (b :: r) (fun x hx => h x (by simp at hx ⊢; exact .inr hx))
    simp only [joinB, List.length_append, List.length_cons] at this ⊢
    rw [Nat.add_mul (r.length + 1) 1]
    omega
theorem joinB_take (sep : List UInt8) (l : List (List UInt8)) : ∀ i, (joinB sep (l.take i)).length ≤ (joinB sep l).length := by
  have key : ∀ (b a : List (List UInt8)), (joinB sep a).length ≤ (joinB sep (a ++ b)).length := by
    intro b
    induction b with
    | nil => intro a; simp
    | cons x b ih =>
      intro a
      have h1 := ih (a ++ [x])
      rw [List.append_assoc] at h1
      refine Nat.le_trans ?_ h1
      by_cases ha : a = []
      · subst ha; simp [joinB]
      · rw [joinB_snoc sep x a ha]; simp
  intro i
  have := key (l.drop i) (l.take i)
  rwa [List.take_append_drop] at this
theorem take_snoc {α : Type} {l : List α} {i : Nat} (d : α) (h : i < l.length) : l.take (i + 1) = l.take i ++ [l.getD i d] := by
  rw [List.take_add_one, List.getElem?_eq_getElem h]
  simp [List.getElem?_eq_getElem h]
theorem r8_Join_l1_ok {kk : SK} (l : List (List UInt8)) (hl : l.length < 1000000000) (hj : (joinB [46] l).length ≤ 1000000000) (Q : Out → Prop) : ∀ (k i : Nat), i + k = l.length →
    (Q (.nrm, [(3, .p (.str (joinB [46] l)))], [])) →
    Wp Γ r8_Join_l1 [(0, .p (.sl kk 1 (strs l))), (3, .p (.str (joinB [46] (l.take i)))), (4, .p (.int .i64 (i : Int)))] [] (InBlk [3] 0 Q) := by
  intro k
  induction k with
  | zero =>
    intro i hi hQ
    obtain rfl : i = l.length := by omega
    rw [W_loop (L := r8_Join_l1) rfl]
    simp (disch := first | assumption | omega | decide | (simp only [List.length_cons, List.length_nil, List.length_append, List.length_replicate, List.length_map, List.length_set, List.length_take, List.length_drop, strs_len, ints_len, bools_len, aggs_len, vpv_len]; done) | (simp only [List.length_cons, List.length_nil, List.length_append, List.length_replicate, List.length_map, List.length_set, List.length_take, List.length_drop, strs_len, ints_len, bools_len, aggs_len, vpv_len]; omega)) only [go_sem]
    rw [List.take_length]
    exact hQ
  | succ k ih =>
    intro i hi hQ
    have h1 := joinB_take [46] l i
    have h2 := joinB_take [46] l (i + 1)
    rw [take_snoc [] (by omega)] at h2
    have hne : 0 < i → l.take i ≠ [] := fun h0 h => by have := congrArg List.length h; rw [List.length_take, List.length_nil] at this; omega
    have e : (joinB [46] (l.take (i + 1))) = if i = 0 then l.getD i [] else joinB [46] (l.take i) ++ 46 :: l.getD i [] := by
      rw [take_snoc [] (by omega)]
      split
      · rename_i h; subst h; simp [joinB]
      · rw [joinB_snoc _ _ _ (hne (by omega))]; rfl
    rw [W_loop (L := r8_Join_l1) rfl]
    simp (disch := first | assumption | omega | decide | (simp only [List.length_cons, List.length_nil, List.length_append, List.length_replicate, List.length_map, List.length_set, List.length_take, List.length_drop, strs_len, ints_len, bools_len, aggs_len, vpv_len]; done) | (simp only [List.length_cons, List.length_nil, List.length_append, List.length_replicate, List.length_map, List.length_set, List.length_take, List.length_drop, strs_len, ints_len, bools_len, aggs_len, vpv_len]; omega)) only [go_sem]
    refine cond_split (fun hc => ?_) (fun hc => ?_)
    · rw [if_neg (by omega)] at e
      rw [joinB_snoc _ _ _ (hne (by omega))] at h2
      simp only [List.length_append, List.length_cons, List.length_nil] at h2
      simp (disch := first | assumption | omega | decide | (simp only [List.length_cons, List.length_nil, List.length_append, List.length_replicate, List.length_map, List.length_set, List.length_take, List.length_drop, strs_len, ints_len, bools_len, aggs_len, vpv_len]; done) | (simp only [List.length_cons, List.length_nil, List.length_append, List.length_replicate, List.length_map, List.length_set, List.length_take, List.length_drop, strs_len, ints_len, bools_len, aggs_len, vpv_len]; omega)) only [go_sem]
      rw [← e]
      exact ih (i + 1) (by omega) hQ
    · obtain rfl : i = 0 := by omega
      simp only [List.take_zero, joinB, List.nil_append] at h2 ⊢
      simp (disch := first | assumption | omega | decide | (simp only [List.length_cons, List.length_nil, List.length_append, List.length_replicate, List.length_map, List.length_set, List.length_take, List.length_drop, strs_len, ints_len, bools_len, aggs_len, vpv_len]; done) | (simp only [List.length_cons, List.length_nil, List.length_append, List.length_replicate, List.length_map, List.length_set, List.length_take, List.length_drop, strs_len, ints_len, bools_len, aggs_len, vpv_len]; omega)) only [go_sem]
      rw [if_pos rfl] at e
      rw [← e]
      exact ih 1 (by omega) hQ
@[go_sem] theorem res_r8Join {kk : SK} (l : List (List UInt8)) (hl : l.length < 1000000000) (hj : (joinB [46] l).length ≤ 1000000000) : res Γ 26 [.sl kk 1 (strs l)] = some [.str (joinB [46] l)] := by
  refine res_code (fn := r8_Join) rfl rfl ?_
  simp (disch := first | assumption | omega | decide | (simp only [List.length_cons, List.length_nil, List.length_append, List.length_replicate, List.length_map, List.length_set, List.length_take, List.length_drop, strs_len, ints_len, bools_len, aggs_len, vpv_len]; done) | (simp only [List.length_cons, List.length_nil, List.length_append, List.length_replicate, List.length_map, List.length_set, List.length_take, List.length_drop, strs_len, ints_len, bools_len, aggs_len, vpv_len]; omega)) only [go_sem, r8_Join]
  refine r8_Join_l1_ok l hl hj _ l.length 0 (by omega) ?_
  simp (disch := first | assumption | omega | decide | (simp only [List.length_cons, List.length_nil, List.length_append, List.length_replicate, List.length_map, List.length_set, List.length_take, List.length_drop, strs_len, ints_len, bools_len, aggs_len, vpv_len]; done) | (simp only [List.length_cons, List.length_nil, List.length_append, List.length_replicate, List.length_map, List.length_set, List.length_take, List.length_drop, strs_len, ints_len, bools_len, aggs_len, vpv_len]; omega)) only [go_sem]
theorem strsIn_strs (l : List (List UInt8)) : strsIn (strs l) = some l := by
  induction l with
  | nil => rfl
  | cons a l ih => simp only [strs, List.map_cons, strsIn] at ih ⊢; rw [ih]; rfl
@[go_sem] theorem res_Join {kk : SK} (l : List (List UInt8)) (sep : List UInt8) (hl : l.length < 1000000000) (hj : (joinB sep l).length ≤ 1000000000) : res Γ 48 [.sl kk 1 (strs l), .str sep] = some [.str (joinB sep l)] := by
  refine res_of (RunP_prim (g := joinG) rfl ?_)
  simp only [joinG, strsIn_strs]
  rw [if_pos ⟨hj, by omega⟩]
@[go_sem] theorem res_nameJoin {kk : SK} (l : List (List UInt8)) (hl : l.length < 1000000000) (hj : (joinB [46] l).length ≤ 1000000000) : res Γ 1 [.sl kk 1 (strs l)] = some [.str (joinB [46] l)] := by
  refine res_code (fn := name_Join) rfl rfl ?_
  simp (disch := first | assumption | omega | decide | (simp only [List.length_cons, List.length_nil, List.length_append, List.length_replicate, List.length_map, List.length_set, List.length_take, List.length_drop, strs_len, ints_len, bools_len, aggs_len, vpv_len]; done) | (simp only [List.length_cons, List.length_nil, List.length_append, List.length_replicate, List.length_map, List.length_set, List.length_take, List.length_drop, strs_len, ints_len, bools_len, aggs_len, vpv_len]; omega)) only [go_sem, name_Join]
end Ab
