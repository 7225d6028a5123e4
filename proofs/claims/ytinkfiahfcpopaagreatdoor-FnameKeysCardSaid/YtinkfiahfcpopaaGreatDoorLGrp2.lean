import Derived.Test.YtinkfiahfcpopaaGreatDoorLFname
namespace Ab
open Go (IntKind BinOp UnOp)
def ixP (p : UInt8 → Bool) : List UInt8 → Int
  | [] => -1
  | b :: l => if p b then 0 else if ixP p l = -1 then -1 else ixP p l + 1
theorem ixP_none {p : UInt8 → Bool} : ∀ {s : List UInt8}, (∀ j, j < s.length → p (s.getD j 0) = false) → ixP p s = -1
  | [], _ => rfl
  | b :: l, h => by
    have h0 := h 0 (by simp)
    have := ixP_none (s := l) (p := p) fun j hj => by have := h (j + 1) (by simpa using hj); simpa using this
    simp only [List.getD_cons_zero] at h0
    simp [ixP, h0, this]
theorem ixP_some {p : UInt8 → Bool} : ∀ {s : List UInt8} {i : Nat}, i < s.length → p (s.getD i 0) = true → (∀ j, j < i → p (s.getD j 0) = false) → ixP p s = i
  | [], _, h, _, _ => by simp at h
  | b :: l, 0, _, h, _ => by simp only [List.getD_cons_zero] at h; simp [ixP, h]
  | b :: l, i + 1, hi, h, hn => by
    have h0 := hn 0 (by omega)
    have := ixP_some (s := l) (p := p) (i := i) (by simpa using hi) (by simpa using h) fun j hj => by have := hn (j + 1) (by omega); simpa using this
    simp only [List.getD_cons_zero] at h0
    simp only [ixP, h0, this, Bool.false_eq_true, if_false]
    rw [if_neg (by omega)]; omega
theorem ixP_range {p : UInt8 → Bool} : ∀ {s : List UInt8}, -1 ≤ ixP p s ∧ ixP p s < s.length
  | [] => by simp [ixP]
  | b :: l => by have := ixP_range (p := p) (s := l); simp only [ixP, List.length_cons]; split <;> (try split) <;> omega

theorem get_mk (s : List UInt8) (j : Nat) : (⟨s.toArray⟩ : ByteArray).get! j = s.getD j 0 := by
  simp only [ByteArray.get!, List.getElem!_toArray, List.getD_eq_getElem?_getD]
  by_cases h : j < s.length
  · simp [h]
  · simp [h]; rfl
theorem rune_ascii {s : List UInt8} {i : Nat} (h : (s.getD i 0).toNat < 128) : runeAt s i = ((s.getD i 0).toNat, 1) := by
  unfold runeAt Go.Utf8.decode
  simp only [get_mk, Nat.add_zero]
  rw [if_pos h]
theorem rune_other {s : List UInt8} {i : Nat} (hi : i < s.length) (h : ¬ (s.getD i 0).toNat < 128) :
    128 ≤ (runeAt s i).1 ∧ (runeAt s i).1 < 1114112 ∧ 1 ≤ (runeAt s i).2 ∧ i + (runeAt s i).2 ≤ s.length ∧ ∀ j, j < (runeAt s i).2 → 128 ≤ (s.getD (i + j) 0).toNat := by
  have one : 128 ≤ (65533 : Nat) ∧ (65533 : Nat) < 1114112 ∧ 1 ≤ 1 ∧ i + 1 ≤ s.length ∧ ∀ j, j < 1 → 128 ≤ (s.getD (i + j) 0).toNat := by
    refine ⟨by omega, by omega, by omega, by omega, fun j hj => ?_⟩
    obtain rfl : j = 0 := by omega
    simpa using h
  have hsz : (⟨s.toArray⟩ : ByteArray).size = s.length := by simp [ByteArray.size]
  unfold runeAt Go.Utf8.decode
  simp only [get_mk, Nat.add_zero, hsz]
  rw [if_neg h]
  have hc : ∀ k, (decide (i + k < s.length) && (s.getD (i + k) 0).toNat / 64 == 2) = true → i + k < s.length ∧ 128 ≤ (s.getD (i + k) 0).toNat := by
    intro k hk
    simp only [Bool.and_eq_true, decide_eq_true_eq, beq_iff_eq] at hk
    omega
  split
  · rename_i h2
    simp only [Bool.and_eq_true] at h2
    have h3 := hc 1 (by simpa using h2.2)
    split
    · refine ⟨by assumption, by simp only; omega, by simp only; omega, by simp only; omega, fun j hj => ?_⟩
      simp only at hj
      match j, hj with
      | 0, _ => simpa using h
      | 1, _ => exact h3.2
    · exact one
  · split
    · rename_i h2
      simp only [Bool.and_eq_true] at h2
      have h3 := hc 1 (by simpa using h2.1.2)
      have h4 := hc 2 (by simpa using h2.2)
      split
      · rename_i h5
        simp only [Bool.and_eq_true, decide_eq_true_eq] at h5
        refine ⟨by simp only; omega, by simp only; omega, by simp only; omega, by simp only; omega, fun j hj => ?_⟩
        simp only at hj
        match j, hj with
        | 0, _ => simpa using h
        | 1, _ => exact h3.2
        | 2, _ => exact h4.2
      · exact one
    · split
      · rename_i h2
        simp only [Bool.and_eq_true] at h2
        have h3 := hc 1 (by simpa using h2.1.1.2)
        have h4 := hc 2 (by simpa using h2.1.2)
        have h6 := hc 3 (by simpa using h2.2)
        split
        · rename_i h5
          simp only [Bool.and_eq_true, decide_eq_true_eq, Go.Utf8.valid, Bool.or_eq_true] at h5
          refine ⟨by simp only; omega, by simp only; omega, by simp only; omega, by simp only; omega, fun j hj => ?_⟩
          simp only at hj
          match j, hj with
          | 0, _ => simpa using h
          | 1, _ => exact h3.2
          | 2, _ => exact h4.2
          | 3, _ => exact h6.2
        · exact one
      · exact one
theorem enc_last {r : Nat} (h : 128 ≤ r) : 2 ≤ (Go.Utf8.encode r).data.toList.length ∧ (Go.Utf8.encode r).data.toList.length ≤ 4 ∧ 128 ≤ byt (Go.Utf8.encode r).data.toList ((Go.Utf8.encode r).data.toList.length - 1) := by
  have b : ∀ n : Nat, n < 64 → 128 ≤ ((UInt8.ofNat (128 + n)).toNat : Int) := by intro n hn; simp; omega
  unfold Go.Utf8.encode
  have h0 : ∀ c : Nat, ¬ c < 128 → 2 ≤ (if c < 128 then (⟨#[UInt8.ofNat c]⟩ : ByteArray) else if c < 2048 then ⟨#[UInt8.ofNat (192 + c / 64), UInt8.ofNat (128 + c % 64)]⟩ else if c < 65536 then ⟨#[UInt8.ofNat (224 + c / 4096), UInt8.ofNat (128 + c / 64 % 64), UInt8.ofNat (128 + c % 64)]⟩ else ⟨#[UInt8.ofNat (240 + c / 262144), UInt8.ofNat (128 + c / 4096 % 64), UInt8.ofNat (128 + c / 64 % 64), UInt8.ofNat (128 + c % 64)]⟩).data.toList.length ∧
      (if c < 128 then (⟨#[UInt8.ofNat c]⟩ : ByteArray) else if c < 2048 then ⟨#[UInt8.ofNat (192 + c / 64), UInt8.ofNat (128 + c % 64)]⟩ else if c < 65536 then ⟨#[UInt8.ofNat (224 + c / 4096), UInt8.ofNat (128 + c / 64 % 64), UInt8.ofNat (128 + c % 64)]⟩ else ⟨#[UInt8.ofNat (240 + c / 262144), UInt8.ofNat (128 + c / 4096 % 64), UInt8.ofNat (128 + c / 64 % 64), UInt8.ofNat (128 + c % 64)]⟩).data.toList.length ≤ 4 ∧
      128 ≤ byt (if c < 128 then (⟨#[UInt8.ofNat c]⟩ : ByteArray) else if c < 2048 then ⟨#[UInt8.ofNat (192 + c / 64), UInt8.ofNat (128 + c % 64)]⟩ else if c < 65536 then ⟨#[UInt8.ofNat (224 + c / 4096), UInt8.ofNat (128 + c / 64 % 64), UInt8.ofNat (128 + c % 64)]⟩ else ⟨#[UInt8.ofNat (240 + c / 262144), UInt8.ofNat (128 + c / 4096 % 64), UInt8.ofNat (128 + c / 64 % 64), UInt8.ofNat (128 + c % 64)]⟩).data.toList
        ((if c < 128 then (⟨#[UInt8.ofNat c]⟩ : ByteArray) else if c < 2048 then ⟨#[UInt8.ofNat (192 + c / 64), UInt8.ofNat (128 + c % 64)]⟩ else if c < 65536 then ⟨#[UInt8.ofNat (224 + c / 4096), UInt8.ofNat (128 + c / 64 % 64), UInt8.ofNat (128 + c % 64)]⟩ else ⟨#[UInt8.ofNat (240 + c / 262144), UInt8.ofNat (128 + c / 4096 % 64), UInt8.ofNat (128 + c / 64 % 64), UInt8.ofNat (128 + c % 64)]⟩).data.toList.length - 1) := by
    intro c hc
    rw [if_neg hc]
    split
    · exact ⟨by simp, by simp, b _ (by omega)⟩
    · split
      · exact ⟨by simp, by simp, b _ (by omega)⟩
      · exact ⟨by simp, by simp, b _ (by omega)⟩
  by_cases hv : Go.Utf8.valid (r : Int) = true
  · simp only [hv, if_true, Int.toNat_natCast]
    exact h0 r (by omega)
  · simp only [hv, if_false]
    exact h0 65533 (by omega)

def setB (chars : List UInt8) : List Bool := (List.range 256).map fun i => chars.any fun c => c.toNat == i
theorem setB_len {chars} : (setB chars).length = 256 := by simp [setB]
theorem setB_get {chars : List UInt8} {i : Nat} (h : i < 256) : (setB chars).getD i false = chars.any fun c => c.toNat == i := by
  simp [setB, h]
theorem setB_set {chars : List UInt8} {c : UInt8} : (setB chars).set c.toNat true = setB (chars ++ [c]) := by
  apply List.ext_getElem
  · simp [setB]
  · intro i h1 h2
    have hi : i < 256 := by simpa [setB] using h2
    rw [List.getElem_set]
    simp only [setB, List.getElem_map, List.getElem_range, List.any_append, List.any_cons, List.any_nil, Bool.or_false]
    by_cases h : c.toNat = i
    · simp [h]
    · have : (c.toNat == i) = false := by simpa using h
      simp [h, this]
theorem makeASCIISet_l1_ok (s : List UInt8) (hs : s.length < 1000000000) (ha : ∀ b ∈ s, b.toNat < 128) (Q : Out → Prop) : ∀ (rest done : List UInt8) (i : Nat), s.drop i = rest → done.length = i → done ++ rest = s →
    (Q (.nrm, [(2, .bx 0 0)], [.box ((bools (setB s)).map .p)])) →
    Wp Γ strings_makeASCIISet_l1 [(0, .p (.str s)), (2, .bx 0 0), (4, .p (.int .i64 (i : Int)))] [.box ((bools (setB done)).map .p)] (InBlk [2] 0 Q) := by
  intro rest
  induction rest with
  | nil =>
    intro done i h1 h2 h3 hQ
    have h4 : s.length ≤ i := by simpa using h1
    rw [List.append_nil] at h3
    subst h3
    rw [W_loop (L := strings_makeASCIISet_l1) rfl]
    simp (disch := first | assumption | omega | decide | (simp only [lens] <;> omega) | fail) only [go_sem]
    exact hQ
  | cons b rest ih =>
    intro done i h1 h2 h3 hQ
    have h4 : i < s.length := by
      by_cases h4 : i < s.length
      · exact h4
      · rw [List.drop_of_length_le (by omega)] at h1; cases h1
    have hb : b.toNat < 128 := ha b (by rw [← h3]; simp)
    have e : byt s i = b.toNat := by
      rw [List.drop_eq_getElem_cons h4] at h1
      cases h1
      simp [byt, List.getElem?_eq_getElem h4]
    have hl := @setB_len done
    rw [W_loop (L := strings_makeASCIISet_l1) rfl]
    simp (disch := first | assumption | omega | decide | (simp only [lens] <;> omega) | fail) only [go_sem, e, setB_set]
    refine ih (done ++ [b]) (i + 1) ?_ (by simp [h2]) (by simp [h3]) hQ
    rw [List.drop_eq_getElem_cons h4] at h1
    exact (List.cons.inj h1).2
@[go_sem] theorem res_makeASCIISet (s : List UInt8) (hs : s.length < 1000000000) (ha : ∀ b ∈ s, b.toNat < 128) : res Γ 84 [.str s] = some [.agg (bools (setB s)), .bool true] := by
  have hl := @setB_len s
  have e0 : List.replicate 256 false = setB [] := by decide +kernel
  refine res_code (fn := strings_makeASCIISet) rfl rfl ?_
  simp (disch := first | assumption | omega | decide | (simp only [lens] <;> omega) | fail) only [go_sem, strings_makeASCIISet]
  rw [e0]
  refine makeASCIISet_l1_ok s hs ha _ s [] 0 rfl rfl rfl ?_
  simp (disch := first | assumption | omega | decide | (simp only [lens] <;> omega) | fail) only [go_sem]
@[go_sem] theorem res_contains (l : List Bool) (c : Int) (hl : l.length = 256) (h0 : 0 ≤ c) (h1 : c < 256) : res Γ 83 [.ptr (bools l), .int .u8 c] = some [.bool (l.getD c.toNat false)] := by
  refine res_code (fn := strings_asciiSet_contains) rfl rfl ?_
  simp (disch := first | assumption | omega | decide | (simp only [lens] <;> omega) | fail) only [go_sem, strings_asciiSet_contains]

theorem ixB_none {s : List UInt8} {c : UInt8} : (∀ b ∈ s, b ≠ c) → ixB s c = -1 := by
  induction s with
  | nil => intro _; rfl
  | cons b l ih =>
    intro h
    have h0 : (b == c) = false := by simpa using h b (by simp)
    simp [ixB, h0, ih fun x hx => h x (by simp [hx])]
theorem mem_drop_ascii {s : List UInt8} {c : Int} {n : Nat} (ha : ∀ b ∈ s, b.toNat < 128) (h0 : 128 ≤ c) (h1 : c < 256) : ixB (s.drop n) c.toNat.toUInt8 = -1 := by
  apply ixB_none
  intro b hb h
  have := ha b (List.mem_of_mem_drop hb)
  rw [h] at this
  simp at this
  omega
def validR (r : Int) : Bool := decide ((0 ≤ r ∧ r < 55296) ∨ (57343 < r ∧ r ≤ 1114111))
@[go_sem] theorem res_ValidRune (r : Int) : res Γ 89 [.int .i32 r] = some [.bool (validR r)] := by
  refine res_code (fn := unicode_utf8_ValidRune) rfl rfl ?_
  repeat' (first | (simp (disch := first | assumption | omega | decide | (simp only [lens] <;> omega) | fail) only [go_sem, unicode_utf8_ValidRune]) | refine cond_split (fun hc => ?_) (fun hc => ?_) | refine gd_split_f (fun hc => ?_) (fun hc => ?_) | refine gd_split_t (fun hc => ?_) (fun hc => ?_))
  all_goals (try simp only [Option.some.injEq, List.cons.injEq, PV.bool.injEq, and_true, validR])
  all_goals (symm; first | (apply decide_eq_true; omega) | (apply decide_eq_false; omega))
theorem IndexRune_l1_ok (s : List UInt8) (hs : s.length < 1000000000) (ha : ∀ b ∈ s, b.toNat < 128) (Q : Out → Prop) : ∀ (k i : Nat), i + k = s.length →
    (Q (.nrm, [], [.box (iterCells s s.length)])) →
    Wp Γ strings_IndexRune_l1 [(175, .bx 0 0)] [.box (iterCells s i)] (InBlk [] 9 Q) := by
  intro k
  induction k with
  | zero =>
    intro i hi hQ
    obtain rfl : i = s.length := by omega
    rw [W_loop (L := strings_IndexRune_l1) rfl]
    simp (disch := first | assumption | omega | decide | (simp only [lens] <;> omega) | fail) only [go_sem]
    exact hQ
  | succ k ih =>
    intro i hi hQ
    have hb : (s.getD i 0).toNat < 128 := ha _ (by rw [List.getD_eq_getElem?_getD, List.getElem?_eq_getElem (show i < s.length by omega)]; exact List.getElem_mem _)
    have e := rune_ascii hb
    rw [W_loop (L := strings_IndexRune_l1) rfl]
    simp (disch := first | assumption | omega | decide | (simp only [lens] <;> omega) | fail) only [go_sem, e]
    exact ih (i + 1) (by omega) hQ
theorem IndexRune_l5_ok (s sub : List UInt8) (last : Nat) (hs : s.length < 1000000000) (ha : ∀ b ∈ s, b.toNat < 128) (hl : last < sub.length) (hlast : sub.length ≤ 4) (hb : 128 ≤ byt sub last) (Q : Out → Prop)
    (h1 : Q (.nrm, [], [])) (h2 : Q (.ret, [(4, .p (.int .i64 (-1)))], [])) :
    Wp Γ strings_IndexRune_l5 [(0, .p (.str s)), (7, .p (.str sub)), (8, .p (.int .i64 (last : Int))), (9, .p (.int .i64 (last : Int)))] [] (InBlk [] 1 Q) := by
  have hb2 := @byt_le sub last
  by_cases h : last < s.length
  · have hs1 : byt s last < 128 := by
      have := ha _ (List.getElem_mem h)
      simp only [byt, List.getD_eq_getElem?_getD, List.getElem?_eq_getElem h, Option.getD_some]
      omega
    have hx := mem_drop_ascii (n := (((last : Nat) : Int) + 1).toNat) ha hb (by omega)
    rw [W_loop (L := strings_IndexRune_l5) rfl]
    simp (disch := first | assumption | omega | decide | (simp only [lens] <;> omega) | fail) only [go_sem, hx]
    exact h2
  · rw [W_loop (L := strings_IndexRune_l5) rfl]
    simp (disch := first | assumption | omega | decide | (simp only [lens] <;> omega) | fail) only [go_sem]
    exact h1
set_option maxRecDepth 100000 in
theorem res_IndexRune_other (s : List UInt8) (r : Nat) (hs : s.length < 1000000000) (ha : ∀ b ∈ s, b.toNat < 128) (hr : 128 ≤ r) (hr2 : r < 1114112) : res Γ 47 [.str s, .int .i32 r] = some [.int .i64 (-1)] := by
  have hl := enc_last hr
  refine res_code (fn := strings_IndexRune) rfl rfl ?_
  simp (disch := first | assumption | omega | decide | (simp only [lens] <;> omega) | fail) only [go_sem, strings_IndexRune]
  refine cond_split (fun hc => ?_) (fun hc => ?_)
  · simp (disch := first | assumption | omega | decide | (simp only [lens] <;> omega) | fail) only [go_sem]
    refine IndexRune_l1_ok s hs ha _ s.length 0 (by omega) ?_
    simp (disch := first | assumption | omega | decide | (simp only [lens] <;> omega) | fail) only [go_sem]
  · simp (disch := first | assumption | omega | decide | (simp only [lens] <;> omega) | fail) only [go_sem]
    have key := @condC_split
    refine key ?_ ?_ <;> clear key <;> intro hc
    · simp (disch := first | assumption | omega | decide | (simp only [lens] <;> omega) | fail) only [go_sem]
    · simp (disch := first | assumption | omega | decide | (simp only [lens] <;> omega) | fail) only [go_sem]
      have e : (((Go.Utf8.encode (r : Int)).data.toList.length : Nat) : Int) - 1 = (((Go.Utf8.encode (r : Int)).data.toList.length - 1 : Nat) : Int) := by omega
      rw [e]
      refine IndexRune_l5_ok s _ _ hs ha (by omega) (by omega) hl.2.2 _ ?_ ?_
      · simp (disch := first | assumption | omega | decide | (simp only [lens] <;> omega) | fail) only [go_sem]
      · simp (disch := first | assumption | omega | decide | (simp only [lens] <;> omega) | fail) only [go_sem]
set_option maxRecDepth 20000 in
theorem res_IndexRune_ascii (s : List UInt8) (r : Nat) (hr : r < 128) : res Γ 47 [.str s, .int .i32 r] = some [.int .i64 (ixB s r.toUInt8)] := by
  refine res_code (fn := strings_IndexRune) rfl rfl ?_
  simp (disch := first | assumption | omega | decide | (simp only [lens] <;> omega) | fail) only [go_sem, strings_IndexRune, wrap_u8]
theorem IndexAny_l2_ok (s chars : List UInt8) (hs : s.length < 1000000000) (Q : Out → Prop) : ∀ (k i : Nat), i + k = s.length → (∀ j, j < i → chars.contains (s.getD j 0) = false) →
    (ixP chars.contains s < 0 → Q (.nrm, [], [.box ((bools (setB chars)).map .p)])) → (0 ≤ ixP chars.contains s → Q (.ret, [(4, .p (.int .i64 (ixP chars.contains s)))], [.box ((bools (setB chars)).map .p)])) →
    Wp Γ strings_IndexAny_l2 [(0, .p (.str s)), (6, .bx 0 0), (8, .p (.int .i64 (i : Int)))] [.box ((bools (setB chars)).map .p)] (InBlk [] 0 Q) := by
  have hl := @setB_len chars
  intro k
  induction k with
  | zero =>
    intro i hi hn h1 h2
    obtain rfl : i = s.length := by omega
    rw [W_loop (L := strings_IndexAny_l2) rfl]
    simp (disch := first | assumption | omega | decide | (simp only [lens] <;> omega) | fail) only [go_sem]
    exact h1 (by rw [ixP_none hn]; omega)
  | succ k ih =>
    intro i hi hn h1 h2
    have hb := @byt_nonneg s i
    have hb2 := @byt_le s i
    have e : (setB chars).getD (byt s i).toNat false = chars.contains (s.getD i 0) := by
      rw [setB_get (by omega)]
      simp only [byt, Int.toNat_natCast, List.contains_eq_any_beq]
      congr 1
      funext c
      rw [Bool.eq_iff_iff]
      simp only [beq_iff_eq]
      exact ⟨fun h => UInt8.toNat_inj.1 h.symm, fun h => by rw [h]⟩
    rw [W_loop (L := strings_IndexAny_l2) rfl]
    simp (disch := first | assumption | omega | decide | (simp only [lens] <;> omega) | fail) only [go_sem, e]
    refine condC_split (fun hc => ?_) (fun hc => ?_)
    · simp (disch := first | assumption | omega | decide | (simp only [lens] <;> omega) | fail) only [go_sem]
      rw [ixP_some (by omega) hc hn] at h2
      exact h2 (by omega)
    · simp (disch := first | assumption | omega | decide | (simp only [lens] <;> omega) | fail) only [go_sem]
      refine ih (i + 1) (by omega) (fun j hj => ?_) h1 h2
      by_cases h : j = i
      · subst h; exact hc
      · exact hn j (by omega)
end Ab
namespace Ab
open Go (IntKind BinOp UnOp)
theorem ixB_mem {s : List UInt8} {c : UInt8} : 0 ≤ ixB s c ↔ s.contains c = true := by
  induction s with
  | nil => simp [ixB]
  | cons b l ih =>
    have hn := @ixB_nn l c
    simp only [ixB, List.contains_cons, Bool.or_eq_true, ← ih, beq_iff_eq]
    by_cases h : b = c
    · subst h; simp
    · have h' : ¬ c = b := fun e => h e.symm
      simp only [h, h', if_false, false_or]
      split <;> omega
theorem IndexAny_l1_ok (s chars : List UInt8) (hs : s.length < 1000000000) (hc : chars.length < 1000000000) (ha : ∀ b ∈ chars, b.toNat < 128) (Q : Out → Prop) : ∀ (k i : Nat), i ≤ s.length → s.length - i ≤ k → (∀ j, j < i → chars.contains (s.getD j 0) = false) →
    (ixP chars.contains s < 0 → ∀ H, Q (.nrm, [], H)) → (0 ≤ ixP chars.contains s → ∀ H, Q (.ret, [(4, .p (.int .i64 (ixP chars.contains s)))], H)) →
    Wp Γ strings_IndexAny_l1 [(1, .p (.str chars)), (45, .bx 0 0)] [.box (iterCells s i)] (InBlk [] 2 Q) := by
  intro k
  induction k with
  | zero =>
    intro i hi hk hn h1 h2
    obtain rfl : i = s.length := by omega
    rw [W_loop (L := strings_IndexAny_l1) rfl]
    simp (disch := first | assumption | omega | decide | (simp only [lens] <;> omega) | fail) only [go_sem]
    exact h1 (by rw [ixP_none hn]; omega) _
  | succ k ih =>
    intro i hi hk hn h1 h2
    by_cases hlt : i < s.length
    · by_cases hb : (s.getD i 0).toNat < 128
      · have e := rune_ascii hb
        rw [W_loop (L := strings_IndexAny_l1) rfl]
        simp (disch := first | assumption | omega | decide | (simp only [lens] <;> omega) | fail) only [go_sem, e, res_IndexRune_ascii]
        have e2 : (s.getD i 0).toNat.toUInt8 = s.getD i 0 := by simp
        rw [e2]
        refine cond_split (fun hc => ?_) (fun hc => ?_)
        · simp (disch := first | assumption | omega | decide | (simp only [lens] <;> omega) | fail) only [go_sem]
          rw [ixP_some hlt (ixB_mem.1 hc) hn] at h2
          exact h2 (by omega) _
        · simp (disch := first | assumption | omega | decide | (simp only [lens] <;> omega) | fail) only [go_sem]
          refine ih (i + 1) (by omega) (by omega) (fun j hj => ?_) h1 h2
          by_cases h : j = i
          · subst h
            have := mt ixB_mem.2 hc
            simpa using this
          · exact hn j (by omega)
      · obtain ⟨g1, g2, g3, g4, g5⟩ := rune_other hlt hb
        rw [W_loop (L := strings_IndexAny_l1) rfl]
        simp (disch := first | assumption | omega | decide | (simp only [lens] <;> omega) | fail) only [go_sem, res_IndexRune_other]
        refine ih _ (by omega) (by omega) (fun j hj => ?_) h1 h2
        by_cases h : j < i
        · exact hn j h
        · have := g5 (j - i) (by omega)
          rw [show i + (j - i) = j by omega] at this
          by_cases hx : chars.contains (s.getD j 0) = true
          · have := ha _ (List.contains_iff_mem.1 hx)
            omega
          · simpa using hx
    · obtain rfl : i = s.length := by omega
      rw [W_loop (L := strings_IndexAny_l1) rfl]
      simp (disch := first | assumption | omega | decide | (simp only [lens] <;> omega) | fail) only [go_sem]
      exact h1 (by rw [ixP_none hn]; omega) _
@[go_sem] theorem res_useASCII (n : Int) : res Γ 85 [.int .i64 n] = some [.bool (decide (8 < n))] := by
  refine res_code (fn := strings_shouldUseASCIISet) rfl rfl ?_
  simp (disch := first | assumption | omega | decide | (simp only [lens] <;> omega) | fail) only [go_sem, strings_shouldUseASCIISet]
theorem ixP_neg {p s} (h : ixP p s < 0) : ixP p s = -1 := by have := @ixP_range p s; omega
set_option maxRecDepth 10000 in
theorem res_IndexAny (s chars : List UInt8) (hs : s.length < 1000000000) (h2 : 2 ≤ chars.length) (hcl : chars.length < 1000000000) (ha : ∀ b ∈ chars, b.toNat < 128) : res Γ 24 [.str s, .str chars] = some [.int .i64 (ixP chars.contains s)] := by
  have hne : ¬ chars = [] := by intro h; subst h; simp at h2
  have hl := @setB_len chars
  refine res_code (fn := strings_IndexAny) rfl rfl ?_
  simp (disch := first | assumption | omega | decide | (simp only [lens] <;> omega) | fail) only [go_sem, strings_IndexAny]
  refine cond_split (fun hc => ?_) (fun hc => ?_)
  · simp (disch := first | assumption | omega | decide | (simp only [lens] <;> omega) | fail) only [go_sem]
    refine IndexAny_l2_ok s chars hs _ s.length 0 (by omega) (by omega) (fun h => ?_) (fun h => ?_)
    · simp (disch := first | assumption | omega | decide | (simp only [lens] <;> omega) | fail) only [go_sem, ixP_neg h]
    · simp (disch := first | assumption | omega | decide | (simp only [lens] <;> omega) | fail) only [go_sem]
  · simp (disch := first | assumption | omega | decide | (simp only [lens] <;> omega) | fail) only [go_sem]
    refine IndexAny_l1_ok s chars hs hcl ha _ s.length 0 (by omega) (by omega) (by omega) (fun h H => ?_) (fun h H => ?_)
    · simp (disch := first | assumption | omega | decide | (simp only [lens] <;> omega) | fail) only [go_sem, ixP_neg h]
    · simp (disch := first | assumption | omega | decide | (simp only [lens] <;> omega) | fail) only [go_sem]
end Ab
namespace Ab
open Go (IntKind BinOp UnOp)
def baseB (s : List UInt8) : List UInt8 :=
  let t := s.drop (lastB s 40 s.length + 1).toNat
  if 0 ≤ ixP (List.contains [44, 41]) t then t.take (ixP (List.contains [44, 41]) t).toNat else t
theorem baseB_len (s : List UInt8) : (baseB s).length ≤ s.length := by
  unfold baseB
  simp only
  split <;> simp <;> omega
@[go_sem] theorem res_fnameBase (s : List UInt8) (hs : s.length < 900000000) : res Γ 2 [.str s] = some [.str (baseB s)] := by
  have h1 := lastB_ge s 40 s.length
  have h2 := @ixP_range (List.contains [44, 41]) (s.drop (lastB s 40 s.length + 1).toNat)
  rw [List.length_drop] at h2
  have e := fun t (ht : List.length t < 1000000000) => res_IndexAny t [44, 41] ht (by decide) (by decide) (by decide)
  refine res_code (fn := fname_Base) rfl rfl ?_
  simp (disch := first | assumption | omega | decide | (simp only [lens] <;> omega) | fail) only [go_sem, fname_Base, e]
  refine cond_split (fun hc => ?_) (fun hc => ?_)
  · simp (disch := first | assumption | omega | decide | (simp only [lens] <;> omega) | fail) only [go_sem, baseB]
    rw [if_pos hc]
  · simp (disch := first | assumption | omega | decide | (simp only [lens] <;> omega) | fail) only [go_sem, baseB]
    rw [if_neg hc]
theorem byt_eq {s : List UInt8} {i : Nat} (b : UInt8) : byt s i = (b.toNat : Int) ↔ s.getD i 0 = b := by
  unfold byt
  exact ⟨fun h => UInt8.toNat_inj.1 (by omega), fun h => by rw [h]⟩
theorem r24_Base_l2_ok (s : List UInt8) (hs : s.length < 900000000) (Q : Out → Prop) : ∀ (k i : Nat), i + k = s.length →
    (Q (.nrm, [(0, .p (.str s)), (3, .p (.int .i64 (lastB s 40 s.length + 1)))], [])) →
    Wp Γ r24_Base_l2 [(0, .p (.str s)), (3, .p (.int .i64 (lastB s 40 i + 1))), (4, .p (.int .i64 (i : Int)))] [] (InBlk [0, 3] 0 Q) := by
  intro k
  induction k with
  | zero =>
    intro i hi hQ
    obtain rfl : i = s.length := by omega
    rw [W_loop (L := r24_Base_l2) rfl]
    simp (disch := first | assumption | omega | decide | (simp only [lens] <;> omega) | fail) only [go_sem]
    exact hQ
  | succ k ih =>
    intro i hi hQ
    have e : lastB s 40 (i + 1) = if byt s i = 40 then (i : Int) else lastB s 40 i := rfl
    have hr := lastB_ge s 40 i
    rw [W_loop (L := r24_Base_l2) rfl]
    simp (disch := first | assumption | omega | decide | (simp only [lens] <;> omega) | fail) only [go_sem]
    refine cond_split (fun hc => ?_) (fun hc => ?_)
    · rw [if_pos hc] at e
      simp (disch := first | assumption | omega | decide | (simp only [lens] <;> omega) | fail) only [go_sem]
      have := ih (i + 1) (by omega) hQ
      rw [e] at this
      exact this
    · rw [if_neg hc] at e
      simp (disch := first | assumption | omega | decide | (simp only [lens] <;> omega) | fail) only [go_sem]
      have := ih (i + 1) (by omega) hQ
      rw [e] at this
      exact this
theorem r24_Base_l1_ok (s : List UInt8) (hs : s.length < 900000000) (Q : Out → Prop) : ∀ (k i : Nat), i + k = s.length → (∀ j, j < i → List.contains [44, 41] (s.getD j 0) = false) →
    (ixP (List.contains [44, 41]) s < 0 → Q (.nrm, [(0, .p (.str s))], [])) → (0 ≤ ixP (List.contains [44, 41]) s → Q (.ret, [(2, .p (.str (s.take (ixP (List.contains [44, 41]) s).toNat)))], [])) →
    Wp Γ r24_Base_l1 [(0, .p (.str s)), (5, .p (.int .i64 (i : Int)))] [] (InBlk [0] 2 Q) := by
  intro k
  induction k with
  | zero =>
    intro i hi hn h1 h2
    obtain rfl : i = s.length := by omega
    rw [W_loop (L := r24_Base_l1) rfl]
    simp (disch := first | assumption | omega | decide | (simp only [lens] <;> omega) | fail) only [go_sem]
    exact h1 (by rw [ixP_none hn]; omega)
  | succ k ih =>
    intro i hi hn h1 h2
    have key : List.contains [44, 41] (s.getD i 0) = true ↔ (byt s i = 44 ∨ byt s i = 41) := by
      rw [show (44 : Int) = ((44 : UInt8).toNat : Int) from rfl, show (41 : Int) = ((41 : UInt8).toNat : Int) from rfl, byt_eq, byt_eq]
      simp only [List.contains_cons, List.contains_nil, Bool.or_false, Bool.or_eq_true, beq_iff_eq]
    have yes : (byt s i = 44 ∨ byt s i = 41) → Q (.ret, [(2, .p (.str (s.take i)))], []) := fun h => by
      rw [ixP_some (by omega) (key.2 h) hn] at h2
      exact h2 (by omega)
    rw [W_loop (L := r24_Base_l1) rfl]
    simp (disch := first | assumption | omega | decide | (simp only [lens] <;> omega) | fail) only [go_sem]
    refine gd_split_f (fun hc => ?_) (fun hc => ?_)
    · simp (disch := first | assumption | omega | decide | (simp only [lens] <;> omega) | fail) only [go_sem]
      refine cond_split (fun hc => ?_) (fun hc => ?_)
      · simp (disch := first | assumption | omega | decide | (simp only [lens] <;> omega) | fail) only [go_sem]
        exact yes (.inr hc)
      · simp (disch := first | assumption | omega | decide | (simp only [lens] <;> omega) | fail) only [go_sem]
        refine ih (i + 1) (by omega) (fun j hj => ?_) h1 h2
        by_cases h : j = i
        · subst h
          rw [Bool.eq_false_iff]
          intro h
          rcases key.1 h with h | h <;> contradiction
        · exact hn j (by omega)
    · simp (disch := first | assumption | omega | decide | (simp only [lens] <;> omega) | fail) only [go_sem]
      exact yes (.inl hc)
@[go_sem] theorem res_r24Base (s : List UInt8) (hs : s.length < 900000000) : res Γ 5 [.str s] = some [.str (baseB s)] := by
  have h1 := lastB_ge s 40 s.length
  refine res_code (fn := r24_Base) rfl rfl ?_
  simp (disch := first | assumption | omega | decide | (simp only [lens] <;> omega) | fail) only [go_sem, r24_Base]
  refine r24_Base_l2_ok s hs _ s.length 0 (by omega) ?_
  simp (disch := first | assumption | omega | decide | (simp only [lens] <;> omega) | fail) only [go_sem]
  refine r24_Base_l1_ok (s.drop (lastB s 40 s.length + 1).toNat) (by rw [List.length_drop]; omega) _ (s.drop (lastB s 40 s.length + 1).toNat).length 0 (by omega) (by omega) (fun h => ?_) (fun h => ?_)
  · simp (disch := first | assumption | omega | decide | (simp only [lens] <;> omega) | fail) only [go_sem, baseB]
    rw [if_neg (by omega)]
  · simp (disch := first | assumption | omega | decide | (simp only [lens] <;> omega) | fail) only [go_sem, baseB]
    rw [if_pos h]
end Ab
namespace Ab
open Go (IntKind BinOp UnOp)
def keyB (s : List UInt8) (ns : List Int) : List (List UInt8) := ns.map (nodeB (splitB 46 (baseB s)))
theorem keyB_take {s : List UInt8} {ns : List Int} {i : Nat} (h : i < ns.length) : keyB s (ns.take (i + 1)) = keyB s (ns.take i) ++ [nodeB (splitB 46 (baseB s)) (ns.getD i 0)] := by
  rw [take_snoc 0 h]; simp [keyB]
theorem keyB_len {s : List UInt8} {ns : List Int} : (keyB s ns).length = ns.length := by simp [keyB]
theorem i64_at {ns : List Int} (h : ∀ n ∈ ns, -9223372036854775808 ≤ n ∧ n ≤ 9223372036854775807) (i : Nat) : -9223372036854775808 ≤ ns.getD i 0 ∧ ns.getD i 0 ≤ 9223372036854775807 := by
  by_cases hi : i < ns.length
  · rw [List.getD_eq_getElem?_getD, List.getElem?_eq_getElem hi]; exact h _ (List.getElem_mem hi)
  · rw [List.getD_eq_getElem?_getD, List.getElem?_eq_none (by omega)]; simp
theorem fname_Key_l1_ok {kk : SK} (s : List UInt8) (x1 x2 x3 x4 : PV) (ns : List Int) (hs : s.length < 900000000) (hn : ns.length < 100000000) (hr : ∀ n ∈ ns, -9223372036854775808 ≤ n ∧ n ≤ 9223372036854775807) (Q : Out → Prop) : ∀ (k i : Nat), i + k = ns.length →
    (∀ H, Q (.nrm, [(5, .own 1 ns.length)], [H, .row false 1 (strs (keyB s ns))])) →
    Wp Γ fname_Key_l1 [(2, .bx 0 0), (5, .own 1 i), (8, .p (.sl kk 1 (ints .i64 ns))), (9, .p (.int .i64 (ns.length : Int))), (10, .p (.int .i64 (i : Int)))] [.box [.p (.str s), .p x1, .p x2, .p x3, .p x4], .row false 1 (strs (keyB s (ns.take i)))] (InBlk [5] 0 Q) := by
  have hb := baseB_len s
  intro k
  induction k with
  | zero =>
    intro i hi hQ
    obtain rfl : i = ns.length := by omega
    rw [W_loop (L := fname_Key_l1) rfl]
    simp (disch := first | assumption | omega | decide | (simp only [lens] <;> omega) | fail) only [go_sem]
    rw [List.take_length]
    exact hQ _
  | succ k ih =>
    intro i hi hQ
    obtain ⟨g1, g2⟩ := i64_at hr i
    have g3 : (keyB s (ns.take i)).length = i := by rw [keyB_len, List.length_take]; omega
    rw [W_loop (L := fname_Key_l1) rfl]
    simp (disch := first | assumption | omega | decide | (simp only [lens] <;> omega) | fail) only [go_sem]
    rw [← keyB_take (by omega)]
    exact ih (i + 1) (by omega) hQ
theorem r24_Key_l1_ok {kk : SK} (s : List UInt8) (x1 x2 x3 x4 : PV) (ns : List Int) (hs : s.length < 900000000) (hn : ns.length < 100000000) (hr : ∀ n ∈ ns, -9223372036854775808 ≤ n ∧ n ≤ 9223372036854775807) (Q : Out → Prop) : ∀ (k i : Nat), i + k = ns.length →
    (∀ H, Q (.nrm, [(5, .own 1 ns.length)], [H, .row false 1 (strs (keyB s ns))])) →
    Wp Γ r24_Key_l1 [(1, .p (.sl kk 1 (ints .i64 ns))), (2, .bx 0 0), (5, .own 1 i), (6, .p (.int .i64 (i : Int)))] [.box [.p (.str s), .p x1, .p x2, .p x3, .p x4], .row false 1 (strs (keyB s (ns.take i)))] (InBlk [5] 0 Q) := by
  have hb := baseB_len s
  intro k
  induction k with
  | zero =>
    intro i hi hQ
    obtain rfl : i = ns.length := by omega
    rw [W_loop (L := r24_Key_l1) rfl]
    simp (disch := first | assumption | omega | decide | (simp only [lens] <;> omega) | fail) only [go_sem]
    rw [List.take_length]
    exact hQ _
  | succ k ih =>
    intro i hi hQ
    obtain ⟨g1, g2⟩ := i64_at hr i
    have g3 : (keyB s (ns.take i)).length = i := by rw [keyB_len, List.length_take]; omega
    rw [W_loop (L := r24_Key_l1) rfl]
    simp (disch := first | assumption | omega | decide | (simp only [lens] <;> omega) | fail) only [go_sem]
    rw [← keyB_take (by omega)]
    exact ih (i + 1) (by omega) hQ
theorem splitB_mem (c : UInt8) : ∀ (s x : List UInt8), x ∈ splitB c s → x.length ≤ s.length
  | [], x, h => by simp [splitB] at h; subst h; simp
  | b :: l, x, h => by
    have ih := splitB_mem c l
    simp only [splitB] at h
    split at h
    · simp only [List.mem_cons] at h
      rcases h with rfl | h
      · simp
      · have := ih x h; simp; omega
    · cases hh : splitB c l with
      | nil => rw [hh] at h; simp at h; subst h; simp
      | cons a t =>
        rw [hh] at h ih
        simp only [List.mem_cons] at h
        rcases h with rfl | h
        · have := ih a (by simp); simp; omega
        · have := ih x (by simp [h]); simp; omega
theorem nodeB_len (s : List UInt8) (i : Int) : (nodeB (splitB 46 s) i).length ≤ s.length := by
  unfold nodeB
  simp only
  generalize (if i < 0 then i + ((splitB 46 s).length : Int) else i) = j
  split
  · simp
  · rename_i h
    have hj : j.toNat < (splitB 46 s).length := by omega
    rw [List.getD_eq_getElem?_getD, List.getElem?_eq_getElem hj]
    exact splitB_mem 46 s _ (List.getElem_mem hj)
theorem keyB_join {s : List UInt8} {ns : List Int} (hs : s.length ≤ 100000) (hn : ns.length ≤ 1000) : (joinB [46] (keyB s ns)).length ≤ 1000000000 := by
  have h := joinB_len [46] s.length (keyB s ns) (fun x hx => by
    simp only [keyB, List.mem_map] at hx
    obtain ⟨n, _, rfl⟩ := hx
    exact Nat.le_trans (nodeB_len _ _) (baseB_len s))
  rw [keyB_len] at h
  have : ns.length * (s.length + [46].length) ≤ 1000 * 100001 := Nat.mul_le_mul hn (by simp; omega)
  omega
@[go_sem] theorem res_fnameKey {kk : SK} (s : List UInt8) (x1 x2 x3 x4 : PV) (ns : List Int) (hs : s.length ≤ 100000) (hn : ns.length ≤ 1000) (hr : ∀ n ∈ ns, -9223372036854775808 ≤ n ∧ n ≤ 9223372036854775807) :
    res Γ 6 [.agg [.str s, x1, x2, x3, x4], .sl kk 1 (ints .i64 ns)] = some [.str (joinB [46] (keyB s ns))] := by
  have hj := @keyB_join s ns hs hn
  have hk := @keyB_len s ns
  refine res_code (fn := fname_Key) rfl rfl ?_
  simp (disch := first | assumption | omega | decide | (simp only [lens] <;> omega) | fail) only [go_sem, fname_Key]
  refine fname_Key_l1_ok s x1 x2 x3 x4 ns (by omega) (by omega) hr _ ns.length 0 (by omega) (fun H => ?_)
  simp (disch := first | assumption | omega | decide | (simp only [lens] <;> omega) | fail) only [go_sem]
@[go_sem] theorem res_r24Key {kk : SK} (s : List UInt8) (x1 x2 x3 x4 : PV) (ns : List Int) (hs : s.length ≤ 100000) (hn : ns.length ≤ 1000) (hr : ∀ n ∈ ns, -9223372036854775808 ≤ n ∧ n ≤ 9223372036854775807) :
    res Γ 7 [.agg [.str s, x1, x2, x3, x4], .sl kk 1 (ints .i64 ns)] = some [.str (joinB [46] (keyB s ns))] := by
  have hj := @keyB_join s ns hs hn
  have hk := @keyB_len s ns
  refine res_code (fn := r24_Key) rfl rfl ?_
  simp (disch := first | assumption | omega | decide | (simp only [lens] <;> omega) | fail) only [go_sem, r24_Key]
  refine r24_Key_l1_ok s x1 x2 x3 x4 ns (by omega) (by omega) hr _ ns.length 0 (by omega) (fun H => ?_)
  simp (disch := first | assumption | omega | decide | (simp only [lens] <;> omega) | fail) only [go_sem]
end Ab
namespace Ab
abbrev Key := List UInt8
section
variable {α : Type} (f : α → Key)
def keysG (l : List α) : List Key := l.foldl (fun ks x => if f x ∈ ks then ks else ks ++ [f x]) []
def groupG (k : Key) (l : List α) : List α := l.filter (fun x => decide (f x = k))
variable {f}
theorem keysG_snoc {l : List α} {x : α} : keysG f (l ++ [x]) = if f x ∈ keysG f l then keysG f l else keysG f l ++ [f x] := by
  simp only [keysG, List.foldl_append, List.foldl_cons, List.foldl_nil]; rfl
theorem groupG_snoc {l : List α} {x : α} {k : Key} : groupG f k (l ++ [x]) = if f x = k then groupG f k l ++ [x] else groupG f k l := by
  simp only [groupG, List.filter_append, List.filter_cons, List.filter_nil]
  by_cases h : f x = k <;> simp [h]
theorem snoc_ind {P : List α → Prop} (h0 : P []) (h1 : ∀ l x, P l → P (l ++ [x])) (l : List α) : P l := by
  have : ∀ (n : Nat) (l : List α), l.length = n → P l := by
    intro n
    induction n with
    | zero => intro l h; rw [List.length_eq_zero_iff.1 h]; exact h0
    | succ n ih =>
      intro l h
      rcases List.eq_nil_or_concat l with e | ⟨m, x, e⟩
      · rw [e] at h; cases h
      · rw [e, List.concat_eq_append]
        rw [e, List.concat_eq_append, List.length_append] at h
        simp only [List.length_cons, List.length_nil] at h
        exact h1 m x (ih m (by omega))
  exact this _ l rfl
theorem mem_keysG {l : List α} {k : Key} : k ∈ keysG f l ↔ ∃ x ∈ l, f x = k := by
  induction l using snoc_ind with
  | h0 => simp [keysG]
  | h1 l x ih =>
    rw [keysG_snoc]
    by_cases h : f x ∈ keysG f l
    · rw [if_pos h, ih]
      constructor
      · rintro ⟨y, hy, e⟩; exact ⟨y, by simp [hy], e⟩
      · rintro ⟨y, hy, e⟩
        simp only [List.mem_append, List.mem_cons, List.not_mem_nil, or_false] at hy
        rcases hy with hy | rfl
        · exact ⟨y, hy, e⟩
        · rw [e] at h; exact ih.1 h
    · rw [if_neg h, List.mem_append, ih]
      simp only [List.mem_cons, List.not_mem_nil, or_false]
      constructor
      · rintro (⟨y, hy, e⟩ | rfl)
        · exact ⟨y, by simp [hy], e⟩
        · exact ⟨x, by simp, rfl⟩
      · rintro ⟨y, hy, e⟩
        simp only [List.mem_append, List.mem_cons, List.not_mem_nil, or_false] at hy
        rcases hy with hy | rfl
        · exact .inl ⟨y, hy, e⟩
        · exact .inr e.symm
theorem keysG_nodup {l : List α} : (keysG f l).Nodup := by
  induction l using snoc_ind with
  | h0 => simp [keysG]
  | h1 l x ih =>
    rw [keysG_snoc]
    by_cases h : f x ∈ keysG f l
    · rw [if_pos h]; exact ih
    · rw [if_neg h, List.nodup_append]
      exact ⟨ih, by simp, by intro a ha b hb e; simp only [List.mem_cons, List.not_mem_nil, or_false] at hb; rw [e, hb] at ha; exact h ha⟩
theorem keysG_len {l : List α} : (keysG f l).length ≤ l.length := by
  induction l using snoc_ind with
  | h0 => simp [keysG]
  | h1 l x ih =>
    rw [keysG_snoc]
    by_cases h : f x ∈ keysG f l
    · rw [if_pos h, List.length_append]; simp only [List.length_cons, List.length_nil]; omega
    · rw [if_neg h]; simp only [List.length_append, List.length_cons, List.length_nil]; omega
theorem keysG_nil {l : List α} : keysG f l = [] ↔ l = [] := by
  constructor
  · intro h
    cases l with
    | nil => rfl
    | cons x l =>
      have : f x ∈ keysG f (x :: l) := mem_keysG.2 ⟨x, by simp, rfl⟩
      rw [h] at this; cases this
  · rintro rfl; rfl
theorem mem_groupG {l : List α} {k : Key} {x : α} : x ∈ groupG f k l ↔ x ∈ l ∧ f x = k := by simp [groupG]
theorem groupG_len {l : List α} {k : Key} : (groupG f k l).length ≤ l.length := List.length_filter_le _ _
theorem groupG_pos {l : List α} {k : Key} (h : k ∈ keysG f l) : 0 < (groupG f k l).length := by
  obtain ⟨x, hx, e⟩ := mem_keysG.1 h
  exact List.length_pos_of_mem (mem_groupG.2 ⟨hx, e⟩)
theorem groupG_none {l : List α} {k : Key} (h : k ∉ keysG f l) : groupG f k l = [] := by
  cases hg : groupG f k l with
  | nil => rfl
  | cons x r =>
    have := mem_groupG.1 (show x ∈ groupG f k l by rw [hg]; simp)
    exact absurd (mem_keysG.2 ⟨x, this.1, this.2⟩) h
end
def entsG (q : Key → Nat) (n : Key → Nat) (ks : List Key) : List (PV × AV) := ks.map fun k => (.str k, .own (q k + 2) (n k))
theorem keyEq_str {a b : Key} : keyEq (.str a) (.str b) = some (decide (a = b)) := by
  have : (a == b) = decide (a = b) := by rw [Bool.eq_iff_iff]; simp
  simp only [keyEq, this]
theorem mfind_ents {q n : Key → Nat} {k : Key} : ∀ {ks : List Key}, mfind (.str k) (entsG q n ks) = some (if k ∈ ks then some (.own (q k + 2) (n k)) else none)
  | [] => rfl
  | a :: ks => by
    have ih := @mfind_ents q n k ks
    unfold entsG at ih ⊢
    simp only [List.map_cons, mfind, keyEq_str]
    by_cases h : k = a
    · subst h; simp
    · simp only [h, decide_false, ih, List.mem_cons, false_or]
theorem mput_ents {q n q' n' : Key → Nat} {k : Key} : ∀ {ks : List Key}, ks.Nodup → (∀ a ∈ ks, a ≠ k → q' a = q a ∧ n' a = n a) →
    mput (.str k) (.own (q' k + 2) (n' k)) (entsG q n ks) = some (entsG q' n' (if k ∈ ks then ks else ks ++ [k]))
  | [], _, _ => by simp [entsG, mput]
  | a :: ks, hd, hs => by
    have ih := @mput_ents q n q' n' k ks (List.nodup_cons.1 hd).2 (fun b hb => hs b (by simp [hb]))
    unfold entsG at ih ⊢
    simp only [List.map_cons, mput, keyEq_str]
    by_cases h : k = a
    · subst h
      have hn := (List.nodup_cons.1 hd).1
      simp only [decide_true, List.mem_cons, true_or, if_true, List.map_cons, Option.some.injEq, List.cons.injEq, true_and]
      exact (List.map_congr_left fun b hb => by
        have := hs b (by simp [hb]) (fun e => hn (e ▸ hb))
        rw [this.1, this.2]).symm
    · have ha := hs a (by simp) (fun e => h e.symm)
      simp only [h, decide_false, ih, List.mem_cons, false_or, Option.map_some]
      by_cases hk : k ∈ ks
      · rw [if_pos hk, if_pos hk]; simp [ha.1, ha.2]
      · rw [if_neg hk, if_neg hk]; simp [ha.1, ha.2]
theorem mput_new {q n : Key → Nat} {k : Key} {v : AV} : ∀ {ks : List Key}, k ∉ ks → mput (.str k) v (entsG q n ks) = some (entsG q n ks ++ [(.str k, v)])
  | [], _ => rfl
  | a :: ks, h => by
    have ih := @mput_new q n k v ks (fun hm => h (by simp [hm]))
    unfold entsG at ih ⊢
    have hne : ¬ k = a := fun e => h (by simp [e])
    simp only [List.map_cons, mput, keyEq_str, hne, decide_false, ih, Option.map_some, List.cons_append]
end Ab
namespace Ab
open Go (IntKind BinOp UnOp)
def keyF (ns : List Int) (x : SK × Ser) : Key := joinB [46] (keyB x.2.name ns)
abbrev GEnv (kind : Int) (kk kn : SK) (ns : List Int) (l : List (SK × Ser)) (n : Nat) (i : Int) : Env := [(0, .p (.int .i64 kind)), (1, .p (.sl kn 1 (ints .i64 ns))), (8, .own 0 n), (9, .mp 1), (31, .p (.sl kk 5 (sers l))), (32, .p (.int .i64 (l.length : Int))), (33, .p (.int .i64 i))]
theorem keyF_res {kn : SK} (ns : List Int) (hn : ns.length ≤ 20) (hr : ∀ n ∈ ns, -9223372036854775808 ≤ n ∧ n ≤ 9223372036854775807) (x : SK × Ser) (h : x.2.name.length ≤ 4096) :
    res Γ 6 [.agg [.str x.2.name, .int .i64 x.2.start, .int .i64 x.2.step, .sl x.1 2 (vpv x.2.vals), .int .i64 x.2.cons], .sl kn 1 (ints .i64 ns)] = some [.str (keyF ns x)] :=
  res_fnameKey (kk := kn) x.2.name (.int .i64 x.2.start) (.int .i64 x.2.step) (.sl x.1 2 (vpv x.2.vals)) (.int .i64 x.2.cons) ns (by omega) (by omega) hr
theorem keyF_res7 {kn : SK} (ns : List Int) (hn : ns.length ≤ 20) (hr : ∀ n ∈ ns, -9223372036854775808 ≤ n ∧ n ≤ 9223372036854775807) (x : SK × Ser) (h : x.2.name.length ≤ 4096) :
    res Γ 7 [.agg [.str x.2.name, .int .i64 x.2.start, .int .i64 x.2.step, .sl x.1 2 (vpv x.2.vals), .int .i64 x.2.cons], .sl kn 1 (ints .i64 ns)] = some [.str (keyF ns x)] :=
  res_r24Key (kk := kn) x.2.name (.int .i64 x.2.start) (.int .i64 x.2.step) (.sl x.1 2 (vpv x.2.vals)) (.int .i64 x.2.cons) ns (by omega) (by omega) hr
set_option maxRecDepth 10000 in
theorem fGroup_l2_new {kk kn : SK} (kind : Int) (ns : List Int) (hn : ns.length ≤ 20) (hr : ∀ n ∈ ns, -9223372036854775808 ≤ n ∧ n ≤ 9223372036854775807) (l : List (SK × Ser)) (hl : l.length ≤ 100) (hN : ∀ x ∈ l, x.2.name.length ≤ 4096)
    (Q : Out → Prop) (i : Nat) (hi : i < l.length) (k : Key) (hk : keyF ns (l.getD i noSer) = k) (ks : List Key) (hks : ks.length ≤ 100) (es : List (PV × AV)) (T : List Blk)
    (e1 : mfind (.str k) es = some none) (e2 : ∀ v, mput (.str k) v es = some (es ++ [(.str k, v)]))
    (L : ∀ B, Wp Γ fname_Group_l2 (GEnv kind kk kn ns l (ks.length + 1) ((i : Int) + 1)) (.row false 1 (strs (ks ++ [k])) :: .box (mapCells (es ++ [(.str k, .own (T.length + 3) 1)])) :: (T ++ [B, .row false 5 (sers [l.getD i noSer])])) (InBlk [0, 8, 9] 0 Q)) :
    Wp Γ fname_Group_l2 (GEnv kind kk kn ns l ks.length i) (.row false 1 (strs ks) :: .box (mapCells es) :: T) (InBlk [0, 8, 9] 0 Q) := by
  have hm := ser_mem hi
  obtain ⟨x, hx⟩ : ∃ x, l.getD i noSer = x := ⟨_, rfl⟩
  rw [hx] at hm hk L
  have eK := keyF_res (kn := kn) ns hn hr x (hN x hm)
  rw [hk] at eK
  rw [W_loop (L := fname_Group_l2) rfl]
  simp (disch := first | assumption | omega | decide | (simp only [lens] <;> omega) | fail) only [go_sem, hx, serC, eK, e1, e2, at_last, at_left, set_last, set_left]
  rw [mset_str (by rfl)]
  simp (disch := first | assumption | omega | decide | (simp only [lens] <;> omega) | fail) only [go_sem, e2]
  rw [List.length_append]
  exact L _
set_option maxRecDepth 10000 in
theorem fGroup_l2_old {kk kn : SK} (kind : Int) (ns : List Int) (hn : ns.length ≤ 20) (hr : ∀ n ∈ ns, -9223372036854775808 ≤ n ∧ n ≤ 9223372036854775807) (l : List (SK × Ser)) (hl : l.length ≤ 100) (hN : ∀ x ∈ l, x.2.name.length ≤ 4096)
    (Q : Out → Prop) (i : Nat) (hi : i < l.length) (k : Key) (hk : keyF ns (l.getD i noSer) = k) (ks : List Key) (hks : ks.length ≤ 100) (es es' : List (PV × AV)) (T : List Blk) (q : Nat) (g : List (SK × Ser)) (hT : T[q]? = some (.row false 5 (sers g))) (hg : 0 < g.length) (hg2 : g.length ≤ 100)
    (e1 : mfind (.str k) es = some (some (.own (q + 2) g.length))) (e2 : mput (.str k) (.own (q + 2) (g.length + 1)) es = some es')
    (L : ∀ B, Wp Γ fname_Group_l2 (GEnv kind kk kn ns l ks.length ((i : Int) + 1)) (.row false 1 (strs ks) :: .box (mapCells es') :: (T.set q (.row false 5 (sers (g ++ [l.getD i noSer]))) ++ B)) (InBlk [0, 8, 9] 0 Q)) :
    Wp Γ fname_Group_l2 (GEnv kind kk kn ns l ks.length i) (.row false 1 (strs ks) :: .box (mapCells es) :: T) (InBlk [0, 8, 9] 0 Q) := by
  have hm := ser_mem hi
  obtain ⟨x, hx⟩ : ∃ x, l.getD i noSer = x := ⟨_, rfl⟩
  rw [hx] at hm hk L
  have hq : q < T.length := by
    rcases List.getElem?_eq_some_iff.1 hT with ⟨h, _⟩; exact h
  have eK := keyF_res (kn := kn) ns hn hr x (hN x hm)
  rw [hk] at eK
  rw [W_loop (L := fname_Group_l2) rfl]
  have eR : isnilK false g.length (rowAt (some (Blk.row false 5 (sers g))) g.length) = some (.p (.bool false)) := by
    rw [rowAt_pos sers_len]; exact isnilK_pos hg
  simp (disch := first | assumption | omega | decide | (simp only [lens] <;> omega) | fail) only [go_sem, hx, serC, eK, e1, e2, at_last, at_left, set_last, set_left, hT, eR]
  rw [appK_pos sers_len (by rw [sers_len]; simp only [List.length_cons, List.length_nil]; omega)]
  simp (disch := first | assumption | omega | decide | (simp only [lens] <;> omega) | fail) only [go_sem, at_last, at_left, set_last, set_left]
  rw [mset_str (by rfl)]
  simp (disch := first | assumption | omega | decide | (simp only [lens] <;> omega) | fail) only [go_sem, e2]
  exact L _
abbrev keysT (ns : List Int) (l : List (SK × Ser)) : List Key := keysG (keyF ns) l
abbrev groupT (ns : List Int) (l : List (SK × Ser)) (k : Key) : List (SK × Ser) := groupG (keyF ns) k l
abbrev entsT (ns : List Int) (l : List (SK × Ser)) (q : Key → Nat) : List (PV × AV) := entsG q (fun k => (groupT ns l k).length) (keysT ns l)
abbrev HeapT (ns : List Int) (l : List (SK × Ser)) (q : Key → Nat) (T : List Blk) : Heap := .row false 1 (strs (keysT ns l)) :: .box (mapCells (entsT ns l q)) :: T
structure InvT (ns : List Int) (l : List (SK × Ser)) (q : Key → Nat) (T : List Blk) : Prop where
  row : ∀ k ∈ keysT ns l, T[q k]? = some (.row false 5 (sers (groupT ns l k)))
  inj : ∀ k ∈ keysT ns l, ∀ k' ∈ keysT ns l, q k = q k' → k = k'
theorem InvT.lt {ns l q T} (h : InvT ns l q T) {k} (hk : k ∈ keysT ns l) : q k < T.length := by
  rcases List.getElem?_eq_some_iff.1 (h.row k hk) with ⟨h, _⟩; exact h
theorem InvT.new {ns l q T} (h : InvT ns l q T) {x : SK × Ser} {B : Blk} (hk : keyF ns x ∉ keysT ns l) :
    InvT ns (l ++ [x]) (fun k => if k = keyF ns x then T.length + 1 else q k) (T ++ [B, .row false 5 (sers [x])]) := by
  have e : keysT ns (l ++ [x]) = keysT ns l ++ [keyF ns x] := by unfold keysT; rw [keysG_snoc, if_neg hk]
  constructor
  · intro k hm
    rw [e] at hm
    simp only [List.mem_append, List.mem_cons, List.not_mem_nil, or_false] at hm
    rcases hm with hm | rfl
    · have hne : k ≠ keyF ns x := fun e => hk (e ▸ hm)
      rw [if_neg hne, at_left (h.lt hm), h.row k hm]
      unfold groupT
      rw [groupG_snoc, if_neg (fun e => hne e.symm)]
    · rw [if_pos rfl, List.getElem?_append_right (by omega), show T.length + 1 - T.length = 1 by omega]
      unfold groupT
      rw [groupG_snoc, if_pos rfl, groupG_none hk]
      rfl
  · intro k hm k' hm' hq
    rw [e] at hm hm'
    simp only [List.mem_append, List.mem_cons, List.not_mem_nil, or_false] at hm hm'
    rcases hm with hm | rfl <;> rcases hm' with hm' | rfl
    · have hne : k ≠ keyF ns x := fun e => hk (e ▸ hm)
      have hne' : k' ≠ keyF ns x := fun e => hk (e ▸ hm')
      rw [if_neg hne, if_neg hne'] at hq
      exact h.inj k hm k' hm' hq
    · have hne : k ≠ keyF ns x := fun e => hk (e ▸ hm)
      rw [if_neg hne, if_pos rfl] at hq
      have := h.lt hm; omega
    · have hne' : k' ≠ keyF ns x := fun e => hk (e ▸ hm')
      rw [if_neg hne', if_pos rfl] at hq
      have := h.lt hm'; omega
    · rfl
theorem entsT_new {ns l q T} {x : SK × Ser} (hk : keyF ns x ∉ keysT ns l) :
    entsT ns (l ++ [x]) (fun k => if k = keyF ns x then T else q k) = entsT ns l q ++ [(.str (keyF ns x), .own (T + 2) 1)] := by
  unfold entsT keysT groupT entsG
  rw [keysG_snoc, if_neg hk, List.map_append]
  congr 1
  · apply List.map_congr_left
    intro k hm
    have hne : k ≠ keyF ns x := fun e => hk (e ▸ hm)
    show (PV.str k, AV.own ((if k = keyF ns x then T else q k) + 2) (groupG (keyF ns) k (l ++ [x])).length) = _
    rw [if_neg hne, groupG_snoc, if_neg (fun e => hne e.symm)]
  · simp only [List.map_cons, List.map_nil, if_true]
    rw [groupG_snoc, if_pos rfl, groupG_none hk]
    rfl
theorem InvT.old {ns l q T} (h : InvT ns l q T) {x : SK × Ser} {B : List Blk} (hk : keyF ns x ∈ keysT ns l) :
    InvT ns (l ++ [x]) q (T.set (q (keyF ns x)) (.row false 5 (sers (groupT ns l (keyF ns x) ++ [x]))) ++ B) := by
  have e : keysT ns (l ++ [x]) = keysT ns l := by unfold keysT; rw [keysG_snoc, if_pos hk]
  constructor
  · intro k hm
    rw [e] at hm
    rw [at_left (by rw [List.length_set]; exact h.lt hm)]
    by_cases hq : k = keyF ns x
    · subst hq
      rw [List.getElem?_set_self (h.lt hm)]
      unfold groupT
      rw [groupG_snoc, if_pos rfl]
    · have : q (keyF ns x) ≠ q k := fun e => hq (h.inj _ hk _ hm e).symm
      rw [List.getElem?_set_ne this, h.row k hm]
      unfold groupT
      rw [groupG_snoc, if_neg (fun e => hq e.symm)]
  · rw [e]; exact h.inj
theorem entsT_old {ns l q} {x : SK × Ser} (hk : keyF ns x ∈ keysT ns l) :
    mput (.str (keyF ns x)) (.own (q (keyF ns x) + 2) ((groupT ns l (keyF ns x)).length + 1)) (entsT ns l q) = some (entsT ns (l ++ [x]) q) := by
  have h := @mput_ents q (fun k => (groupT ns l k).length) q (fun k => (groupT ns (l ++ [x]) k).length) (keyF ns x) (keysT ns l) keysG_nodup (fun a ha hne => ⟨rfl, by
    show (groupG _ _ _).length = (groupG _ _ _).length
    rw [groupG_snoc, if_neg (fun e => hne e.symm)]⟩)
  have e1 : (groupT ns (l ++ [x]) (keyF ns x)).length = (groupT ns l (keyF ns x)).length + 1 := by
    unfold groupT
    rw [groupG_snoc, if_pos rfl, List.length_append]; rfl
  have e : keysT ns (l ++ [x]) = keysT ns l := by unfold keysT; rw [keysG_snoc, if_pos hk]
  unfold entsT
  rw [e]
  simp only [e1, if_pos hk] at h
  exact h
theorem fGroup_l2_ok {kk kn : SK} (kind : Int) (ns : List Int) (hn : ns.length ≤ 20) (hr : ∀ n ∈ ns, -9223372036854775808 ≤ n ∧ n ≤ 9223372036854775807) (l : List (SK × Ser)) (hl : l.length ≤ 100) (hN : ∀ x ∈ l, x.2.name.length ≤ 4096)
    (Q : Out → Prop) (hQ : ∀ q T, InvT ns l q T → Q (.nrm, [(0, .p (.int .i64 kind)), (8, .own 0 (keysT ns l).length), (9, .mp 1)], HeapT ns l q T)) :
    ∀ (n i : Nat) (q : Key → Nat) (T : List Blk), i + n = l.length → InvT ns (l.take i) q T →
    Wp Γ fname_Group_l2 (GEnv kind kk kn ns l (keysT ns (l.take i)).length i) (HeapT ns (l.take i) q T) (InBlk [0, 8, 9] 0 Q) := by
  intro n
  induction n with
  | zero =>
    intro i q T hi I
    obtain rfl : i = l.length := by omega
    rw [List.take_length] at I ⊢
    have hQ := hQ q T I
    generalize entsT ns l q = es at *
    generalize keysT ns l = ks at *
    rw [W_loop (L := fname_Group_l2) rfl]
    simp (disch := first | assumption | omega | decide | (simp only [lens] <;> omega) | fail) only [go_sem]
    exact hQ
  | succ n ih =>
    intro i q T hi I
    have hlt : i < l.length := by omega
    have ih := fun q T => ih (i + 1) q T (by omega)
    obtain ⟨x, hx⟩ : ∃ x, l.getD i noSer = x := ⟨_, rfl⟩
    have et : l.take (i + 1) = l.take i ++ [x] := by rw [take_snoc' noSer hlt, hx]
    rw [et] at ih
    have hkl : (keysT ns (l.take i)).length ≤ 100 := by
      have := @keysG_len _ (keyF ns) (l.take i)
      rw [List.length_take] at this
      show (keysG _ _).length ≤ 100
      omega
    by_cases hk : keyF ns x ∈ keysT ns (l.take i)
    · have e0 : keysT ns (l.take i ++ [x]) = keysT ns (l.take i) := by unfold keysT; rw [keysG_snoc, if_pos hk]
      refine fGroup_l2_old kind ns hn hr l hl hN Q i hlt (keyF ns x) (by rw [hx]) _ hkl _ _ T (q (keyF ns x)) (groupT ns (l.take i) (keyF ns x)) (I.row _ hk) (groupG_pos hk)
        (by have := @groupG_len _ (keyF ns) (l.take i) (keyF ns x); rw [List.length_take] at this; show (groupG _ _ _).length ≤ 100; omega) ?_ (entsT_old hk) (fun B => ?_)
      · unfold entsT
        rw [mfind_ents, if_pos hk]
      · have := ih q _ (I.old (x := x) (B := B) hk)
        unfold HeapT at this
        rw [e0] at this
        rw [hx]
        exact this
    · have e0 : keysT ns (l.take i ++ [x]) = keysT ns (l.take i) ++ [keyF ns x] := by unfold keysT; rw [keysG_snoc, if_neg hk]
      refine fGroup_l2_new kind ns hn hr l hl hN Q i hlt (keyF ns x) (by rw [hx]) _ hkl _ T ?_ ?_ (fun B => ?_)
      · unfold entsT
        rw [mfind_ents, if_neg hk]
      · intro v
        exact mput_new hk
      · have := ih _ _ (I.new (x := x) (B := B) hk)
        unfold HeapT at this
        rw [e0, entsT_new hk, List.length_append] at this
        rw [hx]
        exact this
end Ab
