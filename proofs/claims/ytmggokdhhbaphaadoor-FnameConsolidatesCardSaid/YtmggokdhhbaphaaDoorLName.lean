/- Names in parts: packages name and graticuleref8. -/
import Derived.Test.YtmggokdhhbaphaaDoorLStr
namespace Ab
open Go (IntKind BinOp UnOp)
def splitA (c : UInt8) : List UInt8 → List UInt8 → List (List UInt8)
  | cur, [] => [cur]
  | cur, b :: l => if b = c then cur :: splitA c [] l else splitA c (cur ++ [b]) l
theorem splitA_eq (c : UInt8) : ∀ (l cur : List UInt8), splitA c cur l = match splitB c l with | [] => [cur] | h :: t => (cur ++ h) :: t
  | [], cur => by simp [splitA, splitB]
  | b :: l, cur => by
    by_cases hb : b = c
    · simp only [splitA, splitB, hb, if_true, List.append_nil]
      rw [splitA_eq c l []]
      have := splitB_len c l
      cases h : splitB c l with
      | nil => rw [h] at this; simp at this
      | cons x y => simp
    · simp only [splitA, splitB, hb, if_false]
      rw [splitA_eq c l]
      cases h : splitB c l <;> simp
theorem splitA_nil (c : UInt8) (l : List UInt8) : splitA c [] l = splitB c l := by
  rw [splitA_eq]
  have := splitB_len c l
  cases h : splitB c l with
  | nil => rw [h] at this; simp at this
  | cons x y => simp
theorem drop_cons {s : List UInt8} {i : Nat} {b : UInt8} {r : List UInt8} (h : s.drop i = b :: r) : i < s.length ∧ byt s i = (b.toNat : Int) ∧ s.drop (i + 1) = r ∧ s.take (i + 1) = s.take i ++ [b] := by
  have h1 : i < s.length := by
    by_cases h1 : i < s.length
    · exact h1
    · rw [List.drop_of_length_le (by omega)] at h; cases h
  rw [List.drop_eq_getElem_cons h1] at h
  cases h
  refine ⟨h1, ?_, rfl, ?_⟩
  · simp [byt, List.getElem?_eq_getElem h1]
  · rw [List.take_add_one, List.getElem?_eq_getElem h1]; rfl
theorem drop_nil {s : List UInt8} {i : Nat} (h : s.drop i = []) : s.length ≤ i := by simpa using h
theorem toNat_eq {b : UInt8} {n : Nat} (hn : n < 256) : ((b.toNat : Int) = (n : Int)) ↔ b = UInt8.ofNat n := by
  constructor
  · intro h
    have : b.toNat = n := by omega
    rw [← this]; simp
  · rintro rfl; simp; omega
@[go_sem] theorem res_nameParts (s : List UInt8) (hs : s.length < 900000000) : res Γ 36 [.str s] = some [.sl .any 1 (strs (splitB 46 s))] := by
  refine res_code (fn := name_Parts) rfl rfl ?_
  simp (disch := first | assumption | omega | (simp only [List.length_cons, List.length_nil, List.length_append, List.length_replicate, List.length_map, List.length_set, List.length_take, List.length_drop, strs_len, ints_len, bools_len, aggs_len]; done) | (simp only [List.length_cons, List.length_nil, List.length_append, List.length_replicate, List.length_map, List.length_set, List.length_take, List.length_drop, strs_len, ints_len, bools_len, aggs_len]; omega)) only [go_sem, name_Parts]
theorem r8_Parts_l1_ok (s : List UInt8) (hs : s.length < 900000000) (Q : Out → Prop) : ∀ (rest cur : List UInt8) (i fr : Nat) (done : List (List UInt8)), s.drop i = rest → (s.take i).drop fr = cur → fr ≤ i → i ≤ s.length → done.length ≤ i →
    (Q (.nrm, [(3, .own 0 (done ++ splitA 46 cur rest).length)], [.row false 1 (strs (done ++ splitA 46 cur rest))])) →
    Wp Γ r8_Parts_l1 [(0, .p (.str s)), (3, .own 0 done.length), (4, .p (.int .i64 fr)), (5, .p (.int .i64 (i : Int)))] [.row false 1 (strs done)] (InBlk [3] 0 Q) := by
  intro rest
  induction rest with
  | nil =>
    intro cur i fr done h1 h2 h3 h4 h5 hQ
    have := drop_nil h1
    obtain rfl : i = s.length := by omega
    rw [W_loop (L := r8_Parts_l1) rfl]
    simp (disch := first | assumption | omega | (simp only [List.length_cons, List.length_nil, List.length_append, List.length_replicate, List.length_map, List.length_set, List.length_take, List.length_drop, strs_len, ints_len, bools_len, aggs_len]; done) | (simp only [List.length_cons, List.length_nil, List.length_append, List.length_replicate, List.length_map, List.length_set, List.length_take, List.length_drop, strs_len, ints_len, bools_len, aggs_len]; omega)) only [go_sem]
    rw [W_loop (L := r8_Parts_l1) rfl]
    simp (disch := first | assumption | omega | (simp only [List.length_cons, List.length_nil, List.length_append, List.length_replicate, List.length_map, List.length_set, List.length_take, List.length_drop, strs_len, ints_len, bools_len, aggs_len]; done) | (simp only [List.length_cons, List.length_nil, List.length_append, List.length_replicate, List.length_map, List.length_set, List.length_take, List.length_drop, strs_len, ints_len, bools_len, aggs_len]; omega)) only [go_sem]
    simp only [splitA, ← h2, List.length_append, List.length_cons, List.length_nil] at hQ
    exact hQ
  | cons b rest ih =>
    intro cur i fr done h1 h2 h3 h4 h5 hQ
    obtain ⟨h6, h7, h8, h9⟩ := drop_cons h1
    rw [W_loop (L := r8_Parts_l1) rfl]
    simp (disch := first | assumption | omega | (simp only [List.length_cons, List.length_nil, List.length_append, List.length_replicate, List.length_map, List.length_set, List.length_take, List.length_drop, strs_len, ints_len, bools_len, aggs_len]; done) | (simp only [List.length_cons, List.length_nil, List.length_append, List.length_replicate, List.length_map, List.length_set, List.length_take, List.length_drop, strs_len, ints_len, bools_len, aggs_len]; omega)) only [go_sem, h7]
    refine cond_split (fun hc => ?_) (fun hc => ?_)
    · have hb : b = 46 := (toNat_eq (n := 46) (by decide)).1 hc
      subst hb
      simp (disch := first | assumption | omega | (simp only [List.length_cons, List.length_nil, List.length_append, List.length_replicate, List.length_map, List.length_set, List.length_take, List.length_drop, strs_len, ints_len, bools_len, aggs_len]; done) | (simp only [List.length_cons, List.length_nil, List.length_append, List.length_replicate, List.length_map, List.length_set, List.length_take, List.length_drop, strs_len, ints_len, bools_len, aggs_len]; omega)) only [go_sem]
      have e : done.length + 1 = (done ++ [List.drop fr (List.take i s)]).length := by simp
      rw [e]
      exact ih [] (i + 1) (i + 1) _ h8 (by simp) (Nat.le_refl _) (by omega) (by simp; omega) (by simpa [splitA, h2] using hQ)
    · have hb : b ≠ 46 := fun h => hc (by rw [h]; rfl)
      simp (disch := first | assumption | omega | (simp only [List.length_cons, List.length_nil, List.length_append, List.length_replicate, List.length_map, List.length_set, List.length_take, List.length_drop, strs_len, ints_len, bools_len, aggs_len]; done) | (simp only [List.length_cons, List.length_nil, List.length_append, List.length_replicate, List.length_map, List.length_set, List.length_take, List.length_drop, strs_len, ints_len, bools_len, aggs_len]; omega)) only [go_sem]
      refine ih (cur ++ [b]) (i + 1) fr done h8 ?_ (by omega) (by omega) (by omega) (by simpa [splitA, hb] using hQ)
      rw [h9, List.drop_append_of_le_length (by simp; omega), h2]
@[go_sem] theorem res_r8Parts (s : List UInt8) (hs : s.length < 900000000) : res Γ 40 [.str s] = some [.sl .any 1 (strs (splitB 46 s))] := by
  refine res_code (fn := r8_Parts) rfl rfl ?_
  simp (disch := first | assumption | omega | (simp only [List.length_cons, List.length_nil, List.length_append, List.length_replicate, List.length_map, List.length_set, List.length_take, List.length_drop, strs_len, ints_len, bools_len, aggs_len]; done) | (simp only [List.length_cons, List.length_nil, List.length_append, List.length_replicate, List.length_map, List.length_set, List.length_take, List.length_drop, strs_len, ints_len, bools_len, aggs_len]; omega)) only [go_sem, r8_Parts]
  refine r8_Parts_l1_ok s hs _ s [] 0 0 [] rfl (by simp) (by omega) (by omega) (by simp) ?_
  simp (disch := first | assumption | omega | (simp only [List.length_cons, List.length_nil, List.length_append, List.length_replicate, List.length_map, List.length_set, List.length_take, List.length_drop, strs_len, ints_len, bools_len, aggs_len]; done) | (simp only [List.length_cons, List.length_nil, List.length_append, List.length_replicate, List.length_map, List.length_set, List.length_take, List.length_drop, strs_len, ints_len, bools_len, aggs_len]; omega)) only [go_sem, splitA_nil]
/-- One part of many: below 0 from the end. -/
def nodeB (l : List (List UInt8)) (i : Int) : List UInt8 :=
  let j := if i < 0 then i + l.length else i
  if j < 0 ∨ (l.length : Int) ≤ j then [] else l.getD j.toNat []
@[go_sem] theorem res_nameNode (s : List UInt8) (i : Int) (hs : s.length < 900000000) (h0 : -9223372036854775808 ≤ i) (h1 : i ≤ 9223372036854775807) : res Γ 3 [.str s, .int .i64 i] = some [.str (nodeB (splitB 46 s) i)] := by
  have hl := splitB_len 46 s
  have hc := @count_le s 46
  refine res_code (fn := name_Node) rfl rfl ?_
  repeat' (first | (simp (disch := first | assumption | omega | (simp only [List.length_cons, List.length_nil, List.length_append, List.length_replicate, List.length_map, List.length_set, List.length_take, List.length_drop, strs_len, ints_len, bools_len, aggs_len]; done) | (simp only [List.length_cons, List.length_nil, List.length_append, List.length_replicate, List.length_map, List.length_set, List.length_take, List.length_drop, strs_len, ints_len, bools_len, aggs_len]; omega)) only [go_sem, name_Node]) | refine cond_split (fun hc => ?_) (fun hc => ?_) | refine gd_split_f (fun hc => ?_) (fun hc => ?_) | refine gd_split_t (fun hc => ?_) (fun hc => ?_))
  all_goals (simp only [nodeB, Option.some.injEq, List.cons.injEq, and_true, PV.str.injEq]; split <;> split <;> first | rfl | omega)
@[go_sem] theorem res_r8Node (s : List UInt8) (i : Int) (hs : s.length < 900000000) (h0 : -9223372036854775808 ≤ i) (h1 : i ≤ 9223372036854775807) : res Γ 27 [.str s, .int .i64 i] = some [.str (nodeB (splitB 46 s) i)] := by
  have hl := splitB_len 46 s
  have hc := @count_le s 46
  refine res_code (fn := r8_Node) rfl rfl ?_
  repeat' (first | (simp (disch := first | assumption | omega | (simp only [List.length_cons, List.length_nil, List.length_append, List.length_replicate, List.length_map, List.length_set, List.length_take, List.length_drop, strs_len, ints_len, bools_len, aggs_len]; done) | (simp only [List.length_cons, List.length_nil, List.length_append, List.length_replicate, List.length_map, List.length_set, List.length_take, List.length_drop, strs_len, ints_len, bools_len, aggs_len]; omega)) only [go_sem, r8_Node]) | refine cond_split (fun hc => ?_) (fun hc => ?_) | refine gd_split_f (fun hc => ?_) (fun hc => ?_) | refine gd_split_t (fun hc => ?_) (fun hc => ?_))
  all_goals (simp only [nodeB, Option.some.injEq, List.cons.injEq, and_true, PV.str.injEq]; split <;> split <;> first | rfl | omega)
end Ab
