import Derived.Test.YtiaplnepogjedaaGreatDoorLFname
namespace Ab
open Go (IntKind BinOp UnOp)
def ixP (p : UInt8 → Bool) : List UInt8 → Int
  | [] => -1
  | b :: l => if p b then 0 else if ixP p l = -1 then -1 else ixP p l + 1
theorem ixP_none {p : UInt8 → Bool} : ∀ {s : List UInt8}, (∀ j, j < s.length → p (s.getD j 0) = false) → ixP p s = -1
  | [], _ => rfl
  | b :: l, h => by
    have h0 := h 0 (by simp)
    have := ixP_none (s := l) (p := p) fun j hj => by have := h (j + 1) (by simpa using hj); simpa using this
    simp only [List.getD_cons_zero] at h0
    simp [ixP, h0, this]
theorem ixP_some {p : UInt8 → Bool} : ∀ {s : List UInt8} {i : Nat}, i < s.length → p (s.getD i 0) = true → (∀ j, j < i → p (s.getD j 0) = false) → ixP p s = i
  | [], _, h, _, _ => by simp at h
  | b :: l, 0, _, h, _ => by simp only [List.getD_cons_zero] at h; simp [ixP, h]
  | b :: l, i + 1, hi, h, hn => by
    have h0 := hn 0 (by omega)
    have := ixP_some (s := l) (p := p) (i := i) (by simpa using hi) (by simpa using h) fun j hj => by have := hn (j + 1) (by omega); simpa using this
    simp only [List.getD_cons_zero] at h0
    simp only [ixP, h0, this, Bool.false_eq_true, if_false]
    rw [if_neg (by omega)]; omega
theorem ixP_range {p : UInt8 → Bool} : ∀ {s : List UInt8}, -1 ≤ ixP p s ∧ ixP p s < s.length
  | [] => by simp [ixP]
  | b :: l => by have := ixP_range (p := p) (s := l); simp only [ixP, List.length_cons]; split <;> (try split) <;> omega

theorem get_mk (s : List UInt8) (j : Nat) : (⟨s.toArray⟩ : ByteArray).get! j = s.getD j 0 := by
  simp only [ByteArray.get!, List.getElem!_toArray, List.getD_eq_getElem?_getD]
  by_cases h : j < s.length
  · simp [h]
  · simp [h]; rfl
theorem rune_ascii {s : List UInt8} {i : Nat} (h : (s.getD i 0).toNat < 128) : runeAt s i = ((s.getD i 0).toNat, 1) := by
  unfold runeAt Go.Utf8.decode
  simp only [get_mk, Nat.add_zero]
  rw [if_pos h]
theorem rune_other {s : List UInt8} {i : Nat} (hi : i < s.length) (h : ¬ (s.getD i 0).toNat < 128) :
    128 ≤ (runeAt s i).1 ∧ (runeAt s i).1 < 1114112 ∧ 1 ≤ (runeAt s i).2 ∧ i + (runeAt s i).2 ≤ s.length ∧ ∀ j, j < (runeAt s i).2 → 128 ≤ (s.getD (i + j) 0).toNat := by
  have one : 128 ≤ (65533 : Nat) ∧ (65533 : Nat) < 1114112 ∧ 1 ≤ 1 ∧ i + 1 ≤ s.length ∧ ∀ j, j < 1 → 128 ≤ (s.getD (i + j) 0).toNat := by
    refine ⟨by omega, by omega, by omega, by omega, fun j hj => ?_⟩
    obtain rfl : j = 0 := by omega
    simpa using h
  have hsz : (⟨s.toArray⟩ : ByteArray).size = s.length := by simp [ByteArray.size]
  unfold runeAt Go.Utf8.decode
  simp only [get_mk, Nat.add_zero, hsz]
  rw [if_neg h]
  have hc : ∀ k, (decide (i + k < s.length) && (s.getD (i + k) 0).toNat / 64 == 2) = true → i + k < s.length ∧ 128 ≤ (s.getD (i + k) 0).toNat := by
    intro k hk
    simp only [Bool.and_eq_true, decide_eq_true_eq, beq_iff_eq] at hk
    omega
  split
  · rename_i h2
    simp only [Bool.and_eq_true] at h2
    have h3 := hc 1 (by simpa using h2.2)
    split
    · refine ⟨by assumption, by simp only; omega, by simp only; omega, by simp only; omega, fun j hj => ?_⟩
      simp only at hj
      match j, hj with
      | 0, _ => simpa using h
      | 1, _ => exact h3.2
    · exact one
  · split
    · rename_i h2
      simp only [Bool.and_eq_true] at h2
      have h3 := hc 1 (by simpa using h2.1.2)
      have h4 := hc 2 (by simpa using h2.2)
      split
      · rename_i h5
        simp only [Bool.and_eq_true, decide_eq_true_eq] at h5
        refine ⟨by simp only; omega, by simp only; omega, by simp only; omega, by simp only; omega, fun j hj => ?_⟩
        simp only at hj
        match j, hj with
        | 0, _ => simpa using h
        | 1, _ => exact h3.2
        | 2, _ => exact h4.2
      · exact one
    · split
      · rename_i h2
        simp only [Bool.and_eq_true] at h2
        have h3 := hc 1 (by simpa using h2.1.1.2)
        have h4 := hc 2 (by simpa using h2.1.2)
        have h6 := hc 3 (by simpa using h2.2)
        split
        · rename_i h5
          simp only [Bool.and_eq_true, decide_eq_true_eq, Go.Utf8.valid, Bool.or_eq_true] at h5
          refine ⟨by simp only; omega, by simp only; omega, by simp only; omega, by simp only; omega, fun j hj => ?_⟩
          simp only at hj
          match j, hj with
          | 0, _ => simpa using h
          | 1, _ => exact h3.2
          | 2, _ => exact h4.2
          | 3, _ => exact h6.2
        · exact one
      · exact one
theorem enc_last {r : Nat} (h : 128 ≤ r) : 2 ≤ (Go.Utf8.encode r).data.toList.length ∧ (Go.Utf8.encode r).data.toList.length ≤ 4 ∧ 128 ≤ byt (Go.Utf8.encode r).data.toList ((Go.Utf8.encode r).data.toList.length - 1) := by
  have b : ∀ n : Nat, n < 64 → 128 ≤ ((UInt8.ofNat (128 + n)).toNat : Int) := by intro n hn; simp; omega
  unfold Go.Utf8.encode
  have h0 : ∀ c : Nat, ¬ c < 128 → 2 ≤ (if c < 128 then (⟨#[UInt8.ofNat c]⟩ : ByteArray) else if c < 2048 then ⟨#[UInt8.ofNat (192 + c / 64), UInt8.ofNat (128 + c % 64)]⟩ else if c < 65536 then ⟨#[UInt8.ofNat (224 + c / 4096), UInt8.ofNat (128 + c / 64 % 64), UInt8.ofNat (128 + c % 64)]⟩ else ⟨#[UInt8.ofNat (240 + c / 262144), UInt8.ofNat (128 + c / 4096 % 64), UInt8.ofNat (128 + c / 64 % 64), UInt8.ofNat (128 + c % 64)]⟩).data.toList.length ∧
      (if c < 128 then (⟨#[UInt8.ofNat c]⟩ : ByteArray) else if c < 2048 then ⟨#[UInt8.ofNat (192 + c / 64), UInt8.ofNat (128 + c % 64)]⟩ else if c < 65536 then ⟨#[UInt8.ofNat (224 + c / 4096), UInt8.ofNat (128 + c / 64 % 64), UInt8.ofNat (128 + c % 64)]⟩ else ⟨#[UInt8.ofNat (240 + c / 262144), UInt8.ofNat (128 + c / 4096 % 64), UInt8.ofNat (128 + c / 64 % 64), UInt8.ofNat (128 + c % 64)]⟩).data.toList.length ≤ 4 ∧
      128 ≤ byt (if c < 128 then (⟨#[UInt8.ofNat c]⟩ : ByteArray) else if c < 2048 then ⟨#[UInt8.ofNat (192 + c / 64), UInt8.ofNat (128 + c % 64)]⟩ else if c < 65536 then ⟨#[UInt8.ofNat (224 + c / 4096), UInt8.ofNat (128 + c / 64 % 64), UInt8.ofNat (128 + c % 64)]⟩ else ⟨#[UInt8.ofNat (240 + c / 262144), UInt8.ofNat (128 + c / 4096 % 64), UInt8.ofNat (128 + c / 64 % 64), UInt8.ofNat (128 + c % 64)]⟩).data.toList
        ((if c < 128 then (⟨#[UInt8.ofNat c]⟩ : ByteArray) else if c < 2048 then ⟨#[UInt8.ofNat (192 + c / 64), UInt8.ofNat (128 + c % 64)]⟩ else if c < 65536 then ⟨#[UInt8.ofNat (224 + c / 4096), UInt8.ofNat (128 + c / 64 % 64), UInt8.ofNat (128 + c % 64)]⟩ else ⟨#[UInt8.ofNat (240 + c / 262144), UInt8.ofNat (128 + c / 4096 % 64), UInt8.ofNat (128 + c / 64 % 64), UInt8.ofNat (128 + c % 64)]⟩).data.toList.length - 1) := by
    intro c hc
    rw [if_neg hc]
    split
    · exact ⟨by simp, by simp, b _ (by omega)⟩
    · split
      · exact ⟨by simp, by simp, b _ (by omega)⟩
      · exact ⟨by simp, by simp, b _ (by omega)⟩
  by_cases hv : Go.Utf8.valid (r : Int) = true
  · simp only [hv, if_true, Int.toNat_natCast]
    exact h0 r (by omega)
  · simp only [hv]
    exact h0 65533 (by omega)

def setB (chars : List UInt8) : List Bool := (List.range 256).map fun i => chars.any fun c => c.toNat == i
theorem setB_len {chars} : (setB chars).length = 256 := by simp [setB]
theorem setB_get {chars : List UInt8} {i : Nat} (h : i < 256) : (setB chars).getD i false = chars.any fun c => c.toNat == i := by
  simp [setB, h]
theorem setB_set {chars : List UInt8} {c : UInt8} : (setB chars).set c.toNat true = setB (chars ++ [c]) := by
  apply List.ext_getElem
  · simp [setB]
  · intro i h1 h2
    have hi : i < 256 := by simpa [setB] using h2
    rw [List.getElem_set]
    simp only [setB, List.getElem_map, List.getElem_range, List.any_append, List.any_cons, List.any_nil, Bool.or_false]
    by_cases h : c.toNat = i
    · simp [h]
    · have : (c.toNat == i) = false := by simpa using h
      simp [h, this]
theorem makeASCIISet_l1_ok (s : List UInt8) (hs : s.length < 1000000000) (ha : ∀ b ∈ s, b.toNat < 128) (Q : Out → Prop) : ∀ (rest done : List UInt8) (i : Nat), s.drop i = rest → done.length = i → done ++ rest = s →
    (Q (.nrm, [(2, .bx 0 0)], [.box ((bools (setB s)).map .p)])) →
    Wp Γ strings_makeASCIISet_l1 [(0, .p (.str s)), (2, .bx 0 0), (4, .p (.int .i64 (i : Int)))] [.box ((bools (setB done)).map .p)] (InBlk [2] 0 Q) := by
  intro rest
  induction rest with
  | nil =>
    intro done i h1 h2 h3 hQ
    have h4 : s.length ≤ i := by simpa using h1
    rw [List.append_nil] at h3
    subst h3
    rw [W_loop (L := strings_makeASCIISet_l1) rfl]
    simp (disch := first | assumption | omega | decide | (simp only [List.length_cons, List.length_nil, List.length_append, List.length_replicate, List.length_map, List.length_set, List.length_take, List.length_drop, strs_len, ints_len, bools_len, aggs_len, vpv_len]; done) | (simp only [List.length_cons, List.length_nil, List.length_append, List.length_replicate, List.length_map, List.length_set, List.length_take, List.length_drop, strs_len, ints_len, bools_len, aggs_len, vpv_len]; omega)) only [go_sem]
    exact hQ
  | cons b rest ih =>
    intro done i h1 h2 h3 hQ
    have h4 : i < s.length := by
      by_cases h4 : i < s.length
      · exact h4
      · rw [List.drop_of_length_le (by omega)] at h1; cases h1
    have hb : b.toNat < 128 := ha b (by rw [← h3]; simp)
    have e : byt s i = b.toNat := by
      rw [List.drop_eq_getElem_cons h4] at h1
      cases h1
      simp [byt, List.getElem?_eq_getElem h4]
    have hl := @setB_len done
    rw [W_loop (L := strings_makeASCIISet_l1) rfl]
    simp (disch := first | assumption | omega | decide | (simp only [List.length_cons, List.length_nil, List.length_append, List.length_replicate, List.length_map, List.length_set, List.length_take, List.length_drop, strs_len, ints_len, bools_len, aggs_len, vpv_len]; done) | (simp only [List.length_cons, List.length_nil, List.length_append, List.length_replicate, List.length_map, List.length_set, List.length_take, List.length_drop, strs_len, ints_len, bools_len, aggs_len, vpv_len]; omega)) only [go_sem, e, setB_set]
    refine ih (done ++ [b]) (i + 1) ?_ (by simp [h2]) (by simp [h3]) hQ
    rw [List.drop_eq_getElem_cons h4] at h1
    exact (List.cons.inj h1).2
@[go_sem] theorem res_makeASCIISet (s : List UInt8) (hs : s.length < 1000000000) (ha : ∀ b ∈ s, b.toNat < 128) : res Γ 84 [.str s] = some [.agg (bools (setB s)), .bool true] := by
  have hl := @setB_len s
  have e0 : List.replicate 256 false = setB [] := by decide +kernel
  refine res_code (fn := strings_makeASCIISet) rfl rfl ?_
  simp (disch := first | assumption | omega | decide | (simp only [List.length_cons, List.length_nil, List.length_append, List.length_replicate, List.length_map, List.length_set, List.length_take, List.length_drop, strs_len, ints_len, bools_len, aggs_len, vpv_len]; done) | (simp only [List.length_cons, List.length_nil, List.length_append, List.length_replicate, List.length_map, List.length_set, List.length_take, List.length_drop, strs_len, ints_len, bools_len, aggs_len, vpv_len]; omega)) only [go_sem, strings_makeASCIISet]
  rw [e0]
  refine makeASCIISet_l1_ok s hs ha _ s [] 0 rfl rfl rfl ?_
  simp (disch := first | assumption | omega | decide | (simp only [List.length_cons, List.length_nil, List.length_append, List.length_replicate, List.length_map, List.length_set, List.length_take, List.length_drop, strs_len, ints_len, bools_len, aggs_len, vpv_len]; done) | (simp only [List.length_cons, List.length_nil, List.length_append, List.length_replicate, List.length_map, List.length_set, List.length_take, List.length_drop, strs_len, ints_len, bools_len, aggs_len, vpv_len]; omega)) only [go_sem]
@[go_sem] theorem res_contains (l : List Bool) (c : Int) (hl : l.length = 256) (h0 : 0 ≤ c) (h1 : c < 256) : res Γ 83 [.ptr (bools l), .int .u8 c] = some [.bool (l.getD c.toNat false)] := by
  refine res_code (fn := strings_asciiSet_contains) rfl rfl ?_
  simp (disch := first | assumption | omega | decide | (simp only [List.length_cons, List.length_nil, List.length_append, List.length_replicate, List.length_map, List.length_set, List.length_take, List.length_drop, strs_len, ints_len, bools_len, aggs_len, vpv_len]; done) | (simp only [List.length_cons, List.length_nil, List.length_append, List.length_replicate, List.length_map, List.length_set, List.length_take, List.length_drop, strs_len, ints_len, bools_len, aggs_len, vpv_len]; omega)) only [go_sem, strings_asciiSet_contains]

theorem ixB_none {s : List UInt8} {c : UInt8} : (∀ b ∈ s, b ≠ c) → ixB s c = -1 := by
  induction s with
  | nil => intro _; rfl
  | cons b l ih =>
    intro h
    have h0 : (b == c) = false := by simpa using h b (by simp)
    simp [ixB, h0, ih fun x hx => h x (by simp [hx])]
theorem mem_drop_ascii {s : List UInt8} {c : Int} {n : Nat} (ha : ∀ b ∈ s, b.toNat < 128) (h0 : 128 ≤ c) (h1 : c < 256) : ixB (s.drop n) c.toNat.toUInt8 = -1 := by
  apply ixB_none
  intro b hb h
  have := ha b (List.mem_of_mem_drop hb)
  rw [h] at this
  simp at this
  omega
def validR (r : Int) : Bool := decide ((0 ≤ r ∧ r < 55296) ∨ (57343 < r ∧ r ≤ 1114111))
@[go_sem] theorem res_ValidRune (r : Int) : res Γ 89 [.int .i32 r] = some [.bool (validR r)] := by
  refine res_code (fn := unicode_utf8_ValidRune) rfl rfl ?_
  repeat' (first | (simp (disch := first | assumption | omega | decide | (simp only [List.length_cons, List.length_nil, List.length_append, List.length_replicate, List.length_map, List.length_set, List.length_take, List.length_drop, strs_len, ints_len, bools_len, aggs_len, vpv_len]; done) | (simp only [List.length_cons, List.length_nil, List.length_append, List.length_replicate, List.length_map, List.length_set, List.length_take, List.length_drop, strs_len, ints_len, bools_len, aggs_len, vpv_len]; omega)) only [go_sem, unicode_utf8_ValidRune]) | refine cond_split (fun hc => ?_) (fun hc => ?_) | refine gd_split_f (fun hc => ?_) (fun hc => ?_) | refine gd_split_t (fun hc => ?_) (fun hc => ?_))
  all_goals (try simp only [Option.some.injEq, List.cons.injEq, PV.bool.injEq, and_true, validR])
  all_goals (symm; first | (apply decide_eq_true; omega) | (apply decide_eq_false; omega))
theorem IndexRune_l1_ok (s : List UInt8) (_hs : s.length < 1000000000) (ha : ∀ b ∈ s, b.toNat < 128) (Q : Out → Prop) : ∀ (k i : Nat), i + k = s.length →
    (Q (.nrm, [], [.box (iterCells s s.length)])) →
    Wp Γ strings_IndexRune_l1 [(175, .bx 0 0)] [.box (iterCells s i)] (InBlk [] 9 Q) := by
  intro k
  induction k with
  | zero =>
    intro i hi hQ
    obtain rfl : i = s.length := by omega
    rw [W_loop (L := strings_IndexRune_l1) rfl]
    simp (disch := first | assumption | omega | decide | (simp only [List.length_cons, List.length_nil, List.length_append, List.length_replicate, List.length_map, List.length_set, List.length_take, List.length_drop, strs_len, ints_len, bools_len, aggs_len, vpv_len]; done) | (simp only [List.length_cons, List.length_nil, List.length_append, List.length_replicate, List.length_map, List.length_set, List.length_take, List.length_drop, strs_len, ints_len, bools_len, aggs_len, vpv_len]; omega)) only [go_sem]
    exact hQ
  | succ k ih =>
    intro i hi hQ
    have hb : (s.getD i 0).toNat < 128 := ha _ (by rw [List.getD_eq_getElem?_getD, List.getElem?_eq_getElem (show i < s.length by omega)]; exact List.getElem_mem _)
    have e := rune_ascii hb
    rw [W_loop (L := strings_IndexRune_l1) rfl]
    simp (disch := first | assumption | omega | decide | (simp only [List.length_cons, List.length_nil, List.length_append, List.length_replicate, List.length_map, List.length_set, List.length_take, List.length_drop, strs_len, ints_len, bools_len, aggs_len, vpv_len]; done) | (simp only [List.length_cons, List.length_nil, List.length_append, List.length_replicate, List.length_map, List.length_set, List.length_take, List.length_drop, strs_len, ints_len, bools_len, aggs_len, vpv_len]; omega)) only [go_sem, e]
    exact ih (i + 1) (by omega) hQ
theorem IndexRune_l5_ok (s sub : List UInt8) (last : Nat) (hs : s.length < 1000000000) (ha : ∀ b ∈ s, b.toNat < 128) (hl : last < sub.length) (_hlast : sub.length ≤ 4) (hb : 128 ≤ byt sub last) (Q : Out → Prop)
    (h1 : Q (.nrm, [], [])) (h2 : Q (.ret, [(4, .p (.int .i64 (-1)))], [])) :
    Wp Γ strings_IndexRune_l5 [(0, .p (.str s)), (7, .p (.str sub)), (8, .p (.int .i64 (last : Int))), (9, .p (.int .i64 (last : Int)))] [] (InBlk [] 1 Q) := by
  have hb2 := @byt_le sub last
  by_cases h : last < s.length
  · have hs1 : byt s last < 128 := by
      have := ha _ (List.getElem_mem h)
      simp only [byt, List.getD_eq_getElem?_getD, List.getElem?_eq_getElem h, Option.getD_some]
      omega
    have hx := mem_drop_ascii (n := (((last : Nat) : Int) + 1).toNat) ha hb (by omega)
    rw [W_loop (L := strings_IndexRune_l5) rfl]
    simp (disch := first | assumption | omega | decide | (simp only [List.length_cons, List.length_nil, List.length_append, List.length_replicate, List.length_map, List.length_set, List.length_take, List.length_drop, strs_len, ints_len, bools_len, aggs_len, vpv_len]; done) | (simp only [List.length_cons, List.length_nil, List.length_append, List.length_replicate, List.length_map, List.length_set, List.length_take, List.length_drop, strs_len, ints_len, bools_len, aggs_len, vpv_len]; omega)) only [go_sem, hx]
    exact h2
  · rw [W_loop (L := strings_IndexRune_l5) rfl]
    simp (disch := first | assumption | omega | decide | (simp only [List.length_cons, List.length_nil, List.length_append, List.length_replicate, List.length_map, List.length_set, List.length_take, List.length_drop, strs_len, ints_len, bools_len, aggs_len, vpv_len]; done) | (simp only [List.length_cons, List.length_nil, List.length_append, List.length_replicate, List.length_map, List.length_set, List.length_take, List.length_drop, strs_len, ints_len, bools_len, aggs_len, vpv_len]; omega)) only [go_sem]
    exact h1
set_option maxRecDepth 100000 in
theorem res_IndexRune_other (s : List UInt8) (r : Nat) (hs : s.length < 1000000000) (ha : ∀ b ∈ s, b.toNat < 128) (hr : 128 ≤ r) (hr2 : r < 1114112) : res Γ 47 [.str s, .int .i32 r] = some [.int .i64 (-1)] := by
  have hl := enc_last hr
  refine res_code (fn := strings_IndexRune) rfl rfl ?_
  simp (disch := first | assumption | omega | decide | (simp only [List.length_cons, List.length_nil, List.length_append, List.length_replicate, List.length_map, List.length_set, List.length_take, List.length_drop, strs_len, ints_len, bools_len, aggs_len, vpv_len]; done) | (simp only [List.length_cons, List.length_nil, List.length_append, List.length_replicate, List.length_map, List.length_set, List.length_take, List.length_drop, strs_len, ints_len, bools_len, aggs_len, vpv_len]; omega)) only [go_sem, strings_IndexRune]
  refine cond_split (fun hc => ?_) (fun hc => ?_)
  · simp (disch := first | assumption | omega | decide | (simp only [List.length_cons, List.length_nil, List.length_append, List.length_replicate, List.length_map, List.length_set, List.length_take, List.length_drop, strs_len, ints_len, bools_len, aggs_len, vpv_len]; done) | (simp only [List.length_cons, List.length_nil, List.length_append, List.length_replicate, List.length_map, List.length_set, List.length_take, List.length_drop, strs_len, ints_len, bools_len, aggs_len, vpv_len]; omega)) only [go_sem]
    refine IndexRune_l1_ok s hs ha _ s.length 0 (by omega) ?_
    simp (disch := first | assumption | omega | decide | (simp only [List.length_cons, List.length_nil, List.length_append, List.length_replicate, List.length_map, List.length_set, List.length_take, List.length_drop, strs_len, ints_len, bools_len, aggs_len, vpv_len]; done) | (simp only [List.length_cons, List.length_nil, List.length_append, List.length_replicate, List.length_map, List.length_set, List.length_take, List.length_drop, strs_len, ints_len, bools_len, aggs_len, vpv_len]; omega)) only [go_sem]
  · simp (disch := first | assumption | omega | decide | (simp only [List.length_cons, List.length_nil, List.length_append, List.length_replicate, List.length_map, List.length_set, List.length_take, List.length_drop, strs_len, ints_len, bools_len, aggs_len, vpv_len]; done) | (simp only [List.length_cons, List.length_nil, List.length_append, List.length_replicate, List.length_map, List.length_set, List.length_take, List.length_drop, strs_len, ints_len, bools_len, aggs_len, vpv_len]; omega)) only [go_sem]
    have key := @condC_split
    refine key ?_ ?_ <;> clear key <;> intro hc
    · simp (disch := first | assumption | omega | decide | (simp only [List.length_cons, List.length_nil, List.length_append, List.length_replicate, List.length_map, List.length_set, List.length_take, List.length_drop, strs_len, ints_len, bools_len, aggs_len, vpv_len]; done) | (simp only [List.length_cons, List.length_nil, List.length_append, List.length_replicate, List.length_map, List.length_set, List.length_take, List.length_drop, strs_len, ints_len, bools_len, aggs_len, vpv_len]; omega)) only [go_sem]
    · simp (disch := first | assumption | omega | decide | (simp only [List.length_cons, List.length_nil, List.length_append, List.length_replicate, List.length_map, List.length_set, List.length_take, List.length_drop, strs_len, ints_len, bools_len, aggs_len, vpv_len]; done) | (simp only [List.length_cons, List.length_nil, List.length_append, List.length_replicate, List.length_map, List.length_set, List.length_take, List.length_drop, strs_len, ints_len, bools_len, aggs_len, vpv_len]; omega)) only [go_sem]
      have e : (((Go.Utf8.encode (r : Int)).data.toList.length : Nat) : Int) - 1 = (((Go.Utf8.encode (r : Int)).data.toList.length - 1 : Nat) : Int) := by omega
      rw [e]
      refine IndexRune_l5_ok s _ _ hs ha (by omega) (by omega) hl.2.2 _ ?_ ?_
      · simp (disch := first | assumption | omega | decide | (simp only [List.length_cons, List.length_nil, List.length_append, List.length_replicate, List.length_map, List.length_set, List.length_take, List.length_drop, strs_len, ints_len, bools_len, aggs_len, vpv_len]; done) | (simp only [List.length_cons, List.length_nil, List.length_append, List.length_replicate, List.length_map, List.length_set, List.length_take, List.length_drop, strs_len, ints_len, bools_len, aggs_len, vpv_len]; omega)) only [go_sem]
      · simp (disch := first | assumption | omega | decide | (simp only [List.length_cons, List.length_nil, List.length_append, List.length_replicate, List.length_map, List.length_set, List.length_take, List.length_drop, strs_len, ints_len, bools_len, aggs_len, vpv_len]; done) | (simp only [List.length_cons, List.length_nil, List.length_append, List.length_replicate, List.length_map, List.length_set, List.length_take, List.length_drop, strs_len, ints_len, bools_len, aggs_len, vpv_len]; omega)) only [go_sem]
set_option maxRecDepth 20000 in
theorem res_IndexRune_ascii (s : List UInt8) (r : Nat) (hr : r < 128) : res Γ 47 [.str s, .int .i32 r] = some [.int .i64 (ixB s r.toUInt8)] := by
  refine res_code (fn := strings_IndexRune) rfl rfl ?_
  simp (disch := first | assumption | omega | decide | (simp only [List.length_cons, List.length_nil, List.length_append, List.length_replicate, List.length_map, List.length_set, List.length_take, List.length_drop, strs_len, ints_len, bools_len, aggs_len, vpv_len]; done) | (simp only [List.length_cons, List.length_nil, List.length_append, List.length_replicate, List.length_map, List.length_set, List.length_take, List.length_drop, strs_len, ints_len, bools_len, aggs_len, vpv_len]; omega)) only [go_sem, strings_IndexRune, wrap_u8]
theorem IndexAny_l2_ok (s chars : List UInt8) (hs : s.length < 1000000000) (Q : Out → Prop) : ∀ (k i : Nat), i + k = s.length → (∀ j, j < i → chars.contains (s.getD j 0) = false) →
    (ixP chars.contains s < 0 → Q (.nrm, [], [.box ((bools (setB chars)).map .p)])) → (0 ≤ ixP chars.contains s → Q (.ret, [(4, .p (.int .i64 (ixP chars.contains s)))], [.box ((bools (setB chars)).map .p)])) →
    Wp Γ strings_IndexAny_l2 [(0, .p (.str s)), (6, .bx 0 0), (8, .p (.int .i64 (i : Int)))] [.box ((bools (setB chars)).map .p)] (InBlk [] 0 Q) := by
  have hl := @setB_len chars
  intro k
  induction k with
  | zero =>
    intro i hi hn h1 h2
    obtain rfl : i = s.length := by omega
    rw [W_loop (L := strings_IndexAny_l2) rfl]
    simp (disch := first | assumption | omega | decide | (simp only [List.length_cons, List.length_nil, List.length_append, List.length_replicate, List.length_map, List.length_set, List.length_take, List.length_drop, strs_len, ints_len, bools_len, aggs_len, vpv_len]; done) | (simp only [List.length_cons, List.length_nil, List.length_append, List.length_replicate, List.length_map, List.length_set, List.length_take, List.length_drop, strs_len, ints_len, bools_len, aggs_len, vpv_len]; omega)) only [go_sem]
    exact h1 (by rw [ixP_none hn]; omega)
  | succ k ih =>
    intro i hi hn h1 h2
    have hb := @byt_nonneg s i
    have hb2 := @byt_le s i
    have e : (setB chars).getD (byt s i).toNat false = chars.contains (s.getD i 0) := by
      rw [setB_get (by omega)]
      simp only [byt, Int.toNat_natCast, List.contains_eq_any_beq]
      congr 1
      funext c
      rw [Bool.eq_iff_iff]
      simp only [beq_iff_eq]
      exact ⟨fun h => UInt8.toNat_inj.1 h.symm, fun h => by rw [h]⟩
    rw [W_loop (L := strings_IndexAny_l2) rfl]
    simp (disch := first | assumption | omega | decide | (simp only [List.length_cons, List.length_nil, List.length_append, List.length_replicate, List.length_map, List.length_set, List.length_take, List.length_drop, strs_len, ints_len, bools_len, aggs_len, vpv_len]; done) | (simp only [List.length_cons, List.length_nil, List.length_append, List.length_replicate, List.length_map, List.length_set, List.length_take, List.length_drop, strs_len, ints_len, bools_len, aggs_len, vpv_len]; omega)) only [go_sem, e]
    refine condC_split (fun hc => ?_) (fun hc => ?_)
    · simp (disch := first | assumption | omega | decide | (simp only [List.length_cons, List.length_nil, List.length_append, List.length_replicate, List.length_map, List.length_set, List.length_take, List.length_drop, strs_len, ints_len, bools_len, aggs_len, vpv_len]; done) | (simp only [List.length_cons, List.length_nil, List.length_append, List.length_replicate, List.length_map, List.length_set, List.length_take, List.length_drop, strs_len, ints_len, bools_len, aggs_len, vpv_len]; omega)) only [go_sem]
      rw [ixP_some (by omega) hc hn] at h2
      exact h2 (by omega)
    · simp (disch := first | assumption | omega | decide | (simp only [List.length_cons, List.length_nil, List.length_append, List.length_replicate, List.length_map, List.length_set, List.length_take, List.length_drop, strs_len, ints_len, bools_len, aggs_len, vpv_len]; done) | (simp only [List.length_cons, List.length_nil, List.length_append, List.length_replicate, List.length_map, List.length_set, List.length_take, List.length_drop, strs_len, ints_len, bools_len, aggs_len, vpv_len]; omega)) only [go_sem]
      refine ih (i + 1) (by omega) (fun j hj => ?_) h1 h2
      by_cases h : j = i
      · subst h; exact hc
      · exact hn j (by omega)
end Ab
namespace Ab
open Go (IntKind BinOp UnOp)
theorem ixB_mem {s : List UInt8} {c : UInt8} : 0 ≤ ixB s c ↔ s.contains c = true := by
  induction s with
  | nil => simp [ixB]
  | cons b l ih =>
    have hn := @ixB_nn l c
    simp only [ixB, List.contains_cons, Bool.or_eq_true, ← ih, beq_iff_eq]
    by_cases h : b = c
    · subst h; simp
    · have h' : ¬ c = b := fun e => h e.symm
      simp only [h, h', if_false, false_or]
      split <;> omega
theorem IndexAny_l1_ok (s chars : List UInt8) (_hs : s.length < 1000000000) (hc : chars.length < 1000000000) (ha : ∀ b ∈ chars, b.toNat < 128) (Q : Out → Prop) : ∀ (k i : Nat), i ≤ s.length → s.length - i ≤ k → (∀ j, j < i → chars.contains (s.getD j 0) = false) →
    (ixP chars.contains s < 0 → ∀ H, Q (.nrm, [], H)) → (0 ≤ ixP chars.contains s → ∀ H, Q (.ret, [(4, .p (.int .i64 (ixP chars.contains s)))], H)) →
    Wp Γ strings_IndexAny_l1 [(1, .p (.str chars)), (45, .bx 0 0)] [.box (iterCells s i)] (InBlk [] 2 Q) := by
  intro k
  induction k with
  | zero =>
    intro i hi hk hn h1 h2
    obtain rfl : i = s.length := by omega
    rw [W_loop (L := strings_IndexAny_l1) rfl]
    simp (disch := first | assumption | omega | decide | (simp only [List.length_cons, List.length_nil, List.length_append, List.length_replicate, List.length_map, List.length_set, List.length_take, List.length_drop, strs_len, ints_len, bools_len, aggs_len, vpv_len]; done) | (simp only [List.length_cons, List.length_nil, List.length_append, List.length_replicate, List.length_map, List.length_set, List.length_take, List.length_drop, strs_len, ints_len, bools_len, aggs_len, vpv_len]; omega)) only [go_sem]
    exact h1 (by rw [ixP_none hn]; omega) _
  | succ k ih =>
    intro i hi hk hn h1 h2
    by_cases hlt : i < s.length
    · by_cases hb : (s.getD i 0).toNat < 128
      · have e := rune_ascii hb
        rw [W_loop (L := strings_IndexAny_l1) rfl]
        simp (disch := first | assumption | omega | decide | (simp only [List.length_cons, List.length_nil, List.length_append, List.length_replicate, List.length_map, List.length_set, List.length_take, List.length_drop, strs_len, ints_len, bools_len, aggs_len, vpv_len]; done) | (simp only [List.length_cons, List.length_nil, List.length_append, List.length_replicate, List.length_map, List.length_set, List.length_take, List.length_drop, strs_len, ints_len, bools_len, aggs_len, vpv_len]; omega)) only [go_sem, e, res_IndexRune_ascii]
        have e2 : (s.getD i 0).toNat.toUInt8 = s.getD i 0 := by simp
        rw [e2]
        refine cond_split (fun hc => ?_) (fun hc => ?_)
        · simp (disch := first | assumption | omega | decide | (simp only [List.length_cons, List.length_nil, List.length_append, List.length_replicate, List.length_map, List.length_set, List.length_take, List.length_drop, strs_len, ints_len, bools_len, aggs_len, vpv_len]; done) | (simp only [List.length_cons, List.length_nil, List.length_append, List.length_replicate, List.length_map, List.length_set, List.length_take, List.length_drop, strs_len, ints_len, bools_len, aggs_len, vpv_len]; omega)) only [go_sem]
          rw [ixP_some hlt (ixB_mem.1 hc) hn] at h2
          exact h2 (by omega) _
        · simp (disch := first | assumption | omega | decide | (simp only [List.length_cons, List.length_nil, List.length_append, List.length_replicate, List.length_map, List.length_set, List.length_take, List.length_drop, strs_len, ints_len, bools_len, aggs_len, vpv_len]; done) | (simp only [List.length_cons, List.length_nil, List.length_append, List.length_replicate, List.length_map, List.length_set, List.length_take, List.length_drop, strs_len, ints_len, bools_len, aggs_len, vpv_len]; omega)) only [go_sem]
          refine ih (i + 1) (by omega) (by omega) (fun j hj => ?_) h1 h2
          by_cases h : j = i
          · subst h
            have := mt ixB_mem.2 hc
            simpa using this
          · exact hn j (by omega)
      · obtain ⟨g1, g2, g3, g4, g5⟩ := rune_other hlt hb
        rw [W_loop (L := strings_IndexAny_l1) rfl]
        simp (disch := first | assumption | omega | decide | (simp only [List.length_cons, List.length_nil, List.length_append, List.length_replicate, List.length_map, List.length_set, List.length_take, List.length_drop, strs_len, ints_len, bools_len, aggs_len, vpv_len]; done) | (simp only [List.length_cons, List.length_nil, List.length_append, List.length_replicate, List.length_map, List.length_set, List.length_take, List.length_drop, strs_len, ints_len, bools_len, aggs_len, vpv_len]; omega)) only [go_sem, res_IndexRune_other]
        refine ih _ (by omega) (by omega) (fun j hj => ?_) h1 h2
        by_cases h : j < i
        · exact hn j h
        · have := g5 (j - i) (by omega)
          rw [show i + (j - i) = j by omega] at this
          by_cases hx : chars.contains (s.getD j 0) = true
          · have := ha _ (List.contains_iff_mem.1 hx)
            omega
          · simpa using hx
    · obtain rfl : i = s.length := by omega
      rw [W_loop (L := strings_IndexAny_l1) rfl]
      simp (disch := first | assumption | omega | decide | (simp only [List.length_cons, List.length_nil, List.length_append, List.length_replicate, List.length_map, List.length_set, List.length_take, List.length_drop, strs_len, ints_len, bools_len, aggs_len, vpv_len]; done) | (simp only [List.length_cons, List.length_nil, List.length_append, List.length_replicate, List.length_map, List.length_set, List.length_take, List.length_drop, strs_len, ints_len, bools_len, aggs_len, vpv_len]; omega)) only [go_sem]
      exact h1 (by rw [ixP_none hn]; omega) _
@[go_sem] theorem res_useASCII (n : Int) : res Γ 85 [.int .i64 n] = some [.bool (decide (8 < n))] := by
  refine res_code (fn := strings_shouldUseASCIISet) rfl rfl ?_
  simp (disch := first | assumption | omega | decide | (simp only [List.length_cons, List.length_nil, List.length_append, List.length_replicate, List.length_map, List.length_set, List.length_take, List.length_drop, strs_len, ints_len, bools_len, aggs_len, vpv_len]; done) | (simp only [List.length_cons, List.length_nil, List.length_append, List.length_replicate, List.length_map, List.length_set, List.length_take, List.length_drop, strs_len, ints_len, bools_len, aggs_len, vpv_len]; omega)) only [go_sem, strings_shouldUseASCIISet]
theorem ixP_neg {p s} (h : ixP p s < 0) : ixP p s = -1 := by have := @ixP_range p s; omega
set_option maxRecDepth 10000 in
theorem res_IndexAny (s chars : List UInt8) (hs : s.length < 1000000000) (h2 : 2 ≤ chars.length) (hcl : chars.length < 1000000000) (ha : ∀ b ∈ chars, b.toNat < 128) : res Γ 24 [.str s, .str chars] = some [.int .i64 (ixP chars.contains s)] := by
  have hne : ¬ chars = [] := by intro h; subst h; simp at h2
  have hl := @setB_len chars
  refine res_code (fn := strings_IndexAny) rfl rfl ?_
  simp (disch := first | assumption | omega | decide | (simp only [List.length_cons, List.length_nil, List.length_append, List.length_replicate, List.length_map, List.length_set, List.length_take, List.length_drop, strs_len, ints_len, bools_len, aggs_len, vpv_len]; done) | (simp only [List.length_cons, List.length_nil, List.length_append, List.length_replicate, List.length_map, List.length_set, List.length_take, List.length_drop, strs_len, ints_len, bools_len, aggs_len, vpv_len]; omega)) only [go_sem, strings_IndexAny]
  refine cond_split (fun hc => ?_) (fun hc => ?_)
  · simp (disch := first | assumption | omega | decide | (simp only [List.length_cons, List.length_nil, List.length_append, List.length_replicate, List.length_map, List.length_set, List.length_take, List.length_drop, strs_len, ints_len, bools_len, aggs_len, vpv_len]; done) | (simp only [List.length_cons, List.length_nil, List.length_append, List.length_replicate, List.length_map, List.length_set, List.length_take, List.length_drop, strs_len, ints_len, bools_len, aggs_len, vpv_len]; omega)) only [go_sem]
    refine IndexAny_l2_ok s chars hs _ s.length 0 (by omega) (by omega) (fun h => ?_) (fun h => ?_)
    · simp (disch := first | assumption | omega | decide | (simp only [List.length_cons, List.length_nil, List.length_append, List.length_replicate, List.length_map, List.length_set, List.length_take, List.length_drop, strs_len, ints_len, bools_len, aggs_len, vpv_len]; done) | (simp only [List.length_cons, List.length_nil, List.length_append, List.length_replicate, List.length_map, List.length_set, List.length_take, List.length_drop, strs_len, ints_len, bools_len, aggs_len, vpv_len]; omega)) only [go_sem, ixP_neg h]
    · simp (disch := first | assumption | omega | decide | (simp only [List.length_cons, List.length_nil, List.length_append, List.length_replicate, List.length_map, List.length_set, List.length_take, List.length_drop, strs_len, ints_len, bools_len, aggs_len, vpv_len]; done) | (simp only [List.length_cons, List.length_nil, List.length_append, List.length_replicate, List.length_map, List.length_set, List.length_take, List.length_drop, strs_len, ints_len, bools_len, aggs_len, vpv_len]; omega)) only [go_sem]
  · simp (disch := first | assumption | omega | decide | (simp only [List.length_cons, List.length_nil, List.length_append, List.length_replicate, List.length_map, List.length_set, List.length_take, List.length_drop, strs_len, ints_len, bools_len, aggs_len, vpv_len]; done) | (simp only [List.length_cons, List.length_nil, List.length_append, List.length_replicate, List.length_map, List.length_set, List.length_take, List.length_drop, strs_len, ints_len, bools_len, aggs_len, vpv_len]; omega)) only [go_sem]
    refine IndexAny_l1_ok s chars hs hcl ha _ s.length 0 (by omega) (by omega) (by omega) (fun h H => ?_) (fun h H => ?_)
    · simp (disch := first | assumption | omega | decide | (simp only [List.length_cons, List.length_nil, List.length_append, List.length_replicate, List.length_map, List.length_set, List.length_take, List.length_drop, strs_len, ints_len, bools_len, aggs_len, vpv_len]; done) | (simp only [List.length_cons, List.length_nil, List.length_append, List.length_replicate, List.length_map, List.length_set, List.length_take, List.length_drop, strs_len, ints_len, bools_len, aggs_len, vpv_len]; omega)) only [go_sem, ixP_neg h]
    · simp (disch := first | assumption | omega | decide | (simp only [List.length_cons, List.length_nil, List.length_append, List.length_replicate, List.length_map, List.length_set, List.length_take, List.length_drop, strs_len, ints_len, bools_len, aggs_len, vpv_len]; done) | (simp only [List.length_cons, List.length_nil, List.length_append, List.length_replicate, List.length_map, List.length_set, List.length_take, List.length_drop, strs_len, ints_len, bools_len, aggs_len, vpv_len]; omega)) only [go_sem]
end Ab
namespace Ab
open Go (IntKind BinOp UnOp)
def baseB (s : List UInt8) : List UInt8 :=
  let t := s.drop (lastB s 40 s.length + 1).toNat
  if 0 ≤ ixP (List.contains [44, 41]) t then t.take (ixP (List.contains [44, 41]) t).toNat else t
theorem baseB_len (s : List UInt8) : (baseB s).length ≤ s.length := by
  unfold baseB
  simp only
  split <;> simp <;> omega
@[go_sem] theorem res_fnameBase (s : List UInt8) (hs : s.length < 900000000) : res Γ 2 [.str s] = some [.str (baseB s)] := by
  have h1 := lastB_ge s 40 s.length
  have h2 := @ixP_range (List.contains [44, 41]) (s.drop (lastB s 40 s.length + 1).toNat)
  rw [List.length_drop] at h2
  have e := fun t (ht : List.length t < 1000000000) => res_IndexAny t [44, 41] ht (by decide) (by decide) (by decide)
  refine res_code (fn := fname_Base) rfl rfl ?_
  simp (disch := first | assumption | omega | decide | (simp only [List.length_cons, List.length_nil, List.length_append, List.length_replicate, List.length_map, List.length_set, List.length_take, List.length_drop, strs_len, ints_len, bools_len, aggs_len, vpv_len]; done) | (simp only [List.length_cons, List.length_nil, List.length_append, List.length_replicate, List.length_map, List.length_set, List.length_take, List.length_drop, strs_len, ints_len, bools_len, aggs_len, vpv_len]; omega)) only [go_sem, fname_Base, e]
  refine cond_split (fun hc => ?_) (fun hc => ?_)
  · simp (disch := first | assumption | omega | decide | (simp only [List.length_cons, List.length_nil, List.length_append, List.length_replicate, List.length_map, List.length_set, List.length_take, List.length_drop, strs_len, ints_len, bools_len, aggs_len, vpv_len]; done) | (simp only [List.length_cons, List.length_nil, List.length_append, List.length_replicate, List.length_map, List.length_set, List.length_take, List.length_drop, strs_len, ints_len, bools_len, aggs_len, vpv_len]; omega)) only [go_sem, baseB]
    rw [if_pos hc]
  · simp (disch := first | assumption | omega | decide | (simp only [List.length_cons, List.length_nil, List.length_append, List.length_replicate, List.length_map, List.length_set, List.length_take, List.length_drop, strs_len, ints_len, bools_len, aggs_len, vpv_len]; done) | (simp only [List.length_cons, List.length_nil, List.length_append, List.length_replicate, List.length_map, List.length_set, List.length_take, List.length_drop, strs_len, ints_len, bools_len, aggs_len, vpv_len]; omega)) only [go_sem, baseB]
    rw [if_neg hc]
theorem byt_eq {s : List UInt8} {i : Nat} (b : UInt8) : byt s i = (b.toNat : Int) ↔ s.getD i 0 = b := by
  unfold byt
  exact ⟨fun h => UInt8.toNat_inj.1 (by omega), fun h => by rw [h]⟩
theorem r24_Base_l2_ok (s : List UInt8) (hs : s.length < 900000000) (Q : Out → Prop) : ∀ (k i : Nat), i + k = s.length →
    (Q (.nrm, [(0, .p (.str s)), (3, .p (.int .i64 (lastB s 40 s.length + 1)))], [])) →
    Wp Γ r24_Base_l2 [(0, .p (.str s)), (3, .p (.int .i64 (lastB s 40 i + 1))), (4, .p (.int .i64 (i : Int)))] [] (InBlk [0, 3] 0 Q) := by
  intro k
  induction k with
  | zero =>
    intro i hi hQ
    obtain rfl : i = s.length := by omega
    rw [W_loop (L := r24_Base_l2) rfl]
    simp (disch := first | assumption | omega | decide | (simp only [List.length_cons, List.length_nil, List.length_append, List.length_replicate, List.length_map, List.length_set, List.length_take, List.length_drop, strs_len, ints_len, bools_len, aggs_len, vpv_len]; done) | (simp only [List.length_cons, List.length_nil, List.length_append, List.length_replicate, List.length_map, List.length_set, List.length_take, List.length_drop, strs_len, ints_len, bools_len, aggs_len, vpv_len]; omega)) only [go_sem]
    exact hQ
  | succ k ih =>
    intro i hi hQ
    have e : lastB s 40 (i + 1) = if byt s i = 40 then (i : Int) else lastB s 40 i := rfl
    have hr := lastB_ge s 40 i
    rw [W_loop (L := r24_Base_l2) rfl]
    simp (disch := first | assumption | omega | decide | (simp only [List.length_cons, List.length_nil, List.length_append, List.length_replicate, List.length_map, List.length_set, List.length_take, List.length_drop, strs_len, ints_len, bools_len, aggs_len, vpv_len]; done) | (simp only [List.length_cons, List.length_nil, List.length_append, List.length_replicate, List.length_map, List.length_set, List.length_take, List.length_drop, strs_len, ints_len, bools_len, aggs_len, vpv_len]; omega)) only [go_sem]
    refine cond_split (fun hc => ?_) (fun hc => ?_)
    · rw [if_pos hc] at e
      simp (disch := first | assumption | omega | decide | (simp only [List.length_cons, List.length_nil, List.length_append, List.length_replicate, List.length_map, List.length_set, List.length_take, List.length_drop, strs_len, ints_len, bools_len, aggs_len, vpv_len]; done) | (simp only [List.length_cons, List.length_nil, List.length_append, List.length_replicate, List.length_map, List.length_set, List.length_take, List.length_drop, strs_len, ints_len, bools_len, aggs_len, vpv_len]; omega)) only [go_sem]
      have := ih (i + 1) (by omega) hQ
      rw [e] at this
      exact this
    · rw [if_neg hc] at e
      simp (disch := first | assumption | omega | decide | (simp only [List.length_cons, List.length_nil, List.length_append, List.length_replicate, List.length_map, List.length_set, List.length_take, List.length_drop, strs_len, ints_len, bools_len, aggs_len, vpv_len]; done) | (simp only [List.length_cons, List.length_nil, List.length_append, List.length_replicate, List.length_map, List.length_set, List.length_take, List.length_drop, strs_len, ints_len, bools_len, aggs_len, vpv_len]; omega)) only [go_sem]
      have := ih (i + 1) (by omega) hQ
      rw [e] at this
      exact this
theorem r24_Base_l1_ok (s : List UInt8) (hs : s.length < 900000000) (Q : Out → Prop) : ∀ (k i : Nat), i + k = s.length → (∀ j, j < i → List.contains [44, 41] (s.getD j 0) = false) →
    (ixP (List.contains [44, 41]) s < 0 → Q (.nrm, [(0, .p (.str s))], [])) → (0 ≤ ixP (List.contains [44, 41]) s → Q (.ret, [(2, .p (.str (s.take (ixP (List.contains [44, 41]) s).toNat)))], [])) →
    Wp Γ r24_Base_l1 [(0, .p (.str s)), (5, .p (.int .i64 (i : Int)))] [] (InBlk [0] 2 Q) := by
  intro k
  induction k with
  | zero =>
    intro i hi hn h1 h2
    obtain rfl : i = s.length := by omega
    rw [W_loop (L := r24_Base_l1) rfl]
    simp (disch := first | assumption | omega | decide | (simp only [List.length_cons, List.length_nil, List.length_append, List.length_replicate, List.length_map, List.length_set, List.length_take, List.length_drop, strs_len, ints_len, bools_len, aggs_len, vpv_len]; done) | (simp only [List.length_cons, List.length_nil, List.length_append, List.length_replicate, List.length_map, List.length_set, List.length_take, List.length_drop, strs_len, ints_len, bools_len, aggs_len, vpv_len]; omega)) only [go_sem]
    exact h1 (by rw [ixP_none hn]; omega)
  | succ k ih =>
    intro i hi hn h1 h2
    have key : List.contains [44, 41] (s.getD i 0) = true ↔ (byt s i = 44 ∨ byt s i = 41) := by
      rw [show (44 : Int) = ((44 : UInt8).toNat : Int) from rfl, show (41 : Int) = ((41 : UInt8).toNat : Int) from rfl, byt_eq, byt_eq]
      simp only [List.contains_cons, List.contains_nil, Bool.or_false, Bool.or_eq_true, beq_iff_eq]
    have yes : (byt s i = 44 ∨ byt s i = 41) → Q (.ret, [(2, .p (.str (s.take i)))], []) := fun h => by
      rw [ixP_some (by omega) (key.2 h) hn] at h2
      exact h2 (by omega)
    rw [W_loop (L := r24_Base_l1) rfl]
    simp (disch := first | assumption | omega | decide | (simp only [List.length_cons, List.length_nil, List.length_append, List.length_replicate, List.length_map, List.length_set, List.length_take, List.length_drop, strs_len, ints_len, bools_len, aggs_len, vpv_len]; done) | (simp only [List.length_cons, List.length_nil, List.length_append, List.length_replicate, List.length_map, List.length_set, List.length_take, List.length_drop, strs_len, ints_len, bools_len, aggs_len, vpv_len]; omega)) only [go_sem]
    refine gd_split_f (fun hc => ?_) (fun hc => ?_)
    · simp (disch := first | assumption | omega | decide | (simp only [List.length_cons, List.length_nil, List.length_append, List.length_replicate, List.length_map, List.length_set, List.length_take, List.length_drop, strs_len, ints_len, bools_len, aggs_len, vpv_len]; done) | (simp only [List.length_cons, List.length_nil, List.length_append, List.length_replicate, List.length_map, List.length_set, List.length_take, List.length_drop, strs_len, ints_len, bools_len, aggs_len, vpv_len]; omega)) only [go_sem]
      refine cond_split (fun hc => ?_) (fun hc => ?_)
      · simp (disch := first | assumption | omega | decide | (simp only [List.length_cons, List.length_nil, List.length_append, List.length_replicate, List.length_map, List.length_set, List.length_take, List.length_drop, strs_len, ints_len, bools_len, aggs_len, vpv_len]; done) | (simp only [List.length_cons, List.length_nil, List.length_append, List.length_replicate, List.length_map, List.length_set, List.length_take, List.length_drop, strs_len, ints_len, bools_len, aggs_len, vpv_len]; omega)) only [go_sem]
        exact yes (.inr hc)
      · simp (disch := first | assumption | omega | decide | (simp only [List.length_cons, List.length_nil, List.length_append, List.length_replicate, List.length_map, List.length_set, List.length_take, List.length_drop, strs_len, ints_len, bools_len, aggs_len, vpv_len]; done) | (simp only [List.length_cons, List.length_nil, List.length_append, List.length_replicate, List.length_map, List.length_set, List.length_take, List.length_drop, strs_len, ints_len, bools_len, aggs_len, vpv_len]; omega)) only [go_sem]
        refine ih (i + 1) (by omega) (fun j hj => ?_) h1 h2
        by_cases h : j = i
        · subst h
          rw [Bool.eq_false_iff]
          intro h
          rcases key.1 h with h | h <;> contradiction
        · exact hn j (by omega)
    · simp (disch := first | assumption | omega | decide | (simp only [List.length_cons, List.length_nil, List.length_append, List.length_replicate, List.length_map, List.length_set, List.length_take, List.length_drop, strs_len, ints_len, bools_len, aggs_len, vpv_len]; done) | (simp only [List.length_cons, List.length_nil, List.length_append, List.length_replicate, List.length_map, List.length_set, List.length_take, List.length_drop, strs_len, ints_len, bools_len, aggs_len, vpv_len]; omega)) only [go_sem]
      exact yes (.inl hc)
@[go_sem] theorem res_r24Base (s : List UInt8) (hs : s.length < 900000000) : res Γ 5 [.str s] = some [.str (baseB s)] := by
  have h1 := lastB_ge s 40 s.length
  refine res_code (fn := r24_Base) rfl rfl ?_
  simp (disch := first | assumption | omega | decide | (simp only [List.length_cons, List.length_nil, List.length_append, List.length_replicate, List.length_map, List.length_set, List.length_take, List.length_drop, strs_len, ints_len, bools_len, aggs_len, vpv_len]; done) | (simp only [List.length_cons, List.length_nil, List.length_append, List.length_replicate, List.length_map, List.length_set, List.length_take, List.length_drop, strs_len, ints_len, bools_len, aggs_len, vpv_len]; omega)) only [go_sem, r24_Base]
  refine r24_Base_l2_ok s hs _ s.length 0 (by omega) ?_
  simp (disch := first | assumption | omega | decide | (simp only [List.length_cons, List.length_nil, List.length_append, List.length_replicate, List.length_map, List.length_set, List.length_take, List.length_drop, strs_len, ints_len, bools_len, aggs_len, vpv_len]; done) | (simp only [List.length_cons, List.length_nil, List.length_append, List.length_replicate, List.length_map, List.length_set, List.length_take, List.length_drop, strs_len, ints_len, bools_len, aggs_len, vpv_len]; omega)) only [go_sem]
  refine r24_Base_l1_ok (s.drop (lastB s 40 s.length + 1).toNat) (by rw [List.length_drop]; omega) _ (s.drop (lastB s 40 s.length + 1).toNat).length 0 (by omega) (by omega) (fun h => ?_) (fun h => ?_)
  · simp (disch := first | assumption | omega | decide | (simp only [List.length_cons, List.length_nil, List.length_append, List.length_replicate, List.length_map, List.length_set, List.length_take, List.length_drop, strs_len, ints_len, bools_len, aggs_len, vpv_len]; done) | (simp only [List.length_cons, List.length_nil, List.length_append, List.length_replicate, List.length_map, List.length_set, List.length_take, List.length_drop, strs_len, ints_len, bools_len, aggs_len, vpv_len]; omega)) only [go_sem, baseB]
    rw [if_neg (by omega)]
  · simp (disch := first | assumption | omega | decide | (simp only [List.length_cons, List.length_nil, List.length_append, List.length_replicate, List.length_map, List.length_set, List.length_take, List.length_drop, strs_len, ints_len, bools_len, aggs_len, vpv_len]; done) | (simp only [List.length_cons, List.length_nil, List.length_append, List.length_replicate, List.length_map, List.length_set, List.length_take, List.length_drop, strs_len, ints_len, bools_len, aggs_len, vpv_len]; omega)) only [go_sem, baseB]
    rw [if_pos h]
end Ab
