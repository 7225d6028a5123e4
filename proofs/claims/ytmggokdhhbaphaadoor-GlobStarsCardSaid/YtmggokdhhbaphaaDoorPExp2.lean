import Derived.Test.YtmggokdhhbaphaaDoorLGlob6
import Derived.Test.YtmggokdhhbaphaaDoorPExp
/- Patterns in parts; plain ones; braces. -/
namespace Ab
open Go (IntKind BinOp UnOp)
def partOk (p : List UInt8) : Bool := decide (p ≠ []) && (toksF p).isSome
def partsR (s : List UInt8) : List PV := if (splitB 46 s).all partOk = true ∧ (splitB 46 s).length ≤ 20 then [.sl .any 1 (strs (splitB 46 s)), .int .i64 0] else [.sl .nil 1 [], .int .i64 8]
theorem splitB_mem_len {c : UInt8} : ∀ {s p : List UInt8}, p ∈ splitB c s → p.length ≤ s.length
  | [], p, h => by simp [splitB] at h; subst h; exact Nat.le_refl _
  | b :: l, p, h => by
    rw [splitB] at h
    split at h
    · rcases List.mem_cons.1 h with rfl | h
      · simp
      · have := splitB_mem_len h; simp; omega
    · split at h
      · rw [List.mem_singleton] at h; subst h; simp
      · rename_i x t he
        rcases List.mem_cons.1 h with rfl | h
        · have := splitB_mem_len (s := l) (p := x) (c := c) (by rw [he]; simp)
          simp; omega
        · have := splitB_mem_len (s := l) (p := p) (c := c) (by rw [he]; simp [h])
          simp; omega
theorem getD_mem {l : List (List UInt8)} {i : Nat} (h : i < l.length) : l.getD i [] ∈ l := by
  rw [List.getD_eq_getElem?_getD, List.getElem?_eq_getElem h]; simp
theorem drop_all {α : Type} {l : List α} {i : Nat} {f : α → Bool} (d : α) (h : i < l.length) : (l.drop i).all f = (f (l.getD i d) && (l.drop (i + 1)).all f) := by
  rw [List.drop_eq_getElem_cons h, List.all_cons]
  simp [List.getElem?_eq_getElem h]
theorem Parts_l1_ok {kk k2 : SK} (l : List (List UInt8)) (hl : l.length ≤ 900000000) (hm : ∀ p ∈ l, p.length < 900000000) (Q : Out → Prop) : ∀ (n i : Nat), i + n = l.length →
    ((l.drop i).all partOk = false → Q (.ret, [(2, .p (.sl .nil 1 [])), (3, .p (.int .i64 8))], [])) → ((l.drop i).all partOk = true → Q (.nrm, [(4, .p (.sl kk 1 (strs l)))], [])) →
    Wp Γ glob_Parts_l1 [(4, .p (.sl kk 1 (strs l))), (11, .p (.sl k2 1 (strs l))), (12, .p (.int .i64 (l.length : Int))), (13, .p (.int .i64 (i : Int)))] [] (InBlk [4] 0 Q) := by
  intro n
  induction n with
  | zero =>
    intro i hi h1 h2
    obtain rfl : i = l.length := by omega
    rw [W_loop (L := glob_Parts_l1) rfl]
    simp (disch := first | assumption | omega | decide | (simp only [List.length_cons, List.length_nil, List.length_append, List.length_replicate, List.length_map, List.length_set, List.length_take, List.length_drop, strs_len, ints_len, bools_len, aggs_len, vpv_len]; done) | (simp only [List.length_cons, List.length_nil, List.length_append, List.length_replicate, List.length_map, List.length_set, List.length_take, List.length_drop, strs_len, ints_len, bools_len, aggs_len, vpv_len]; omega)) only [go_sem]
    exact h2 (by rw [List.drop_length]; rfl)
  | succ n ih =>
    intro i hi h1 h2
    have hlt : i < l.length := by omega
    have hp := hm _ (getD_mem hlt)
    rw [drop_all [] hlt] at h1 h2
    unfold partOk at h1 h2
    cases ht : toksF (l.getD i []) with
    | none =>
      have e := res_pieces_no _ hp ht
      rw [ht] at h1
      rw [W_loop (L := glob_Parts_l1) rfl]
      simp (disch := first | assumption | omega | decide | (simp only [List.length_cons, List.length_nil, List.length_append, List.length_replicate, List.length_map, List.length_set, List.length_take, List.length_drop, strs_len, ints_len, bools_len, aggs_len, vpv_len]; done) | (simp only [List.length_cons, List.length_nil, List.length_append, List.length_replicate, List.length_map, List.length_set, List.length_take, List.length_drop, strs_len, ints_len, bools_len, aggs_len, vpv_len]; omega)) only [go_sem, e]
      exact h1 (by simp)
    | some t =>
      have e := res_pieces _ hp ht
      rw [ht] at h1 h2
      by_cases h0 : l.getD i [] = []
      · rw [h0] at e h1
        rw [W_loop (L := glob_Parts_l1) rfl]
        simp (disch := first | assumption | omega | decide | (simp only [List.length_cons, List.length_nil, List.length_append, List.length_replicate, List.length_map, List.length_set, List.length_take, List.length_drop, strs_len, ints_len, bools_len, aggs_len, vpv_len]; done) | (simp only [List.length_cons, List.length_nil, List.length_append, List.length_replicate, List.length_map, List.length_set, List.length_take, List.length_drop, strs_len, ints_len, bools_len, aggs_len, vpv_len]; omega)) only [go_sem, h0, e]
        exact h1 (by simp)
      · rw [decide_eq_true h0] at h1 h2
        rw [W_loop (L := glob_Parts_l1) rfl]
        simp (disch := first | assumption | omega | decide | (simp only [List.length_cons, List.length_nil, List.length_append, List.length_replicate, List.length_map, List.length_set, List.length_take, List.length_drop, strs_len, ints_len, bools_len, aggs_len, vpv_len]; done) | (simp only [List.length_cons, List.length_nil, List.length_append, List.length_replicate, List.length_map, List.length_set, List.length_take, List.length_drop, strs_len, ints_len, bools_len, aggs_len, vpv_len]; omega)) only [go_sem, e]
        exact ih (i + 1) (by omega) h1 h2
theorem res_globParts (s : List UInt8) (hs : s.length < 900000000) : res Γ 23 [.str s] = some (partsR s) := by
  have hl := splitB_len 46 s
  have hc := @count_le s 46
  have hm : ∀ p ∈ splitB 46 s, p.length < 900000000 := fun p hp => by have := splitB_mem_len hp; omega
  unfold partsR
  refine res_code (fn := glob_Parts) rfl rfl ?_
  simp (disch := first | assumption | omega | decide | (simp only [List.length_cons, List.length_nil, List.length_append, List.length_replicate, List.length_map, List.length_set, List.length_take, List.length_drop, strs_len, ints_len, bools_len, aggs_len, vpv_len]; done) | (simp only [List.length_cons, List.length_nil, List.length_append, List.length_replicate, List.length_map, List.length_set, List.length_take, List.length_drop, strs_len, ints_len, bools_len, aggs_len, vpv_len]; omega)) only [go_sem, glob_Parts]
  refine Parts_l1_ok (splitB 46 s) (by omega) hm _ (splitB 46 s).length 0 (by omega) (fun h => ?_) (fun h => ?_)
  · rw [List.drop_zero] at h
    simp (disch := first | assumption | omega | decide | (simp only [List.length_cons, List.length_nil, List.length_append, List.length_replicate, List.length_map, List.length_set, List.length_take, List.length_drop, strs_len, ints_len, bools_len, aggs_len, vpv_len]; done) | (simp only [List.length_cons, List.length_nil, List.length_append, List.length_replicate, List.length_map, List.length_set, List.length_take, List.length_drop, strs_len, ints_len, bools_len, aggs_len, vpv_len]; omega)) only [go_sem]
    rw [if_neg (fun h2 => by rw [h] at h2; cases h2.1)]
  · rw [List.drop_zero] at h
    by_cases hn : (splitB 46 s).length ≤ 20
    · simp (disch := first | assumption | omega | decide | (simp only [List.length_cons, List.length_nil, List.length_append, List.length_replicate, List.length_map, List.length_set, List.length_take, List.length_drop, strs_len, ints_len, bools_len, aggs_len, vpv_len]; done) | (simp only [List.length_cons, List.length_nil, List.length_append, List.length_replicate, List.length_map, List.length_set, List.length_take, List.length_drop, strs_len, ints_len, bools_len, aggs_len, vpv_len]; omega)) only [go_sem]
      rw [if_pos ⟨h, hn⟩]
    · simp (disch := first | assumption | omega | decide | (simp only [List.length_cons, List.length_nil, List.length_append, List.length_replicate, List.length_map, List.length_set, List.length_take, List.length_drop, strs_len, ints_len, bools_len, aggs_len, vpv_len]; done) | (simp only [List.length_cons, List.length_nil, List.length_append, List.length_replicate, List.length_map, List.length_set, List.length_take, List.length_drop, strs_len, ints_len, bools_len, aggs_len, vpv_len]; omega)) only [go_sem]
      rw [if_neg (fun h2 => hn h2.2)]
theorem r9_Parts_l1_ok {kk : SK} (l : List (List UInt8)) (hl : l.length ≤ 900000000) (hm : ∀ p ∈ l, p.length < 900000000) (Q : Out → Prop) : ∀ (n i : Nat), i + n = l.length →
    ((l.drop i).all partOk = false → Q (.ret, [(2, .p (.sl .nil 1 [])), (3, .p (.int .i64 8))], [])) → ((l.drop i).all partOk = true → Q (.nrm, [(4, .p (.sl kk 1 (strs l)))], [])) →
    Wp Γ r9_Parts_l1 [(4, .p (.sl kk 1 (strs l))), (5, .p (.int .i64 (i : Int)))] [] (InBlk [4] 0 Q) := by
  intro n
  induction n with
  | zero =>
    intro i hi h1 h2
    obtain rfl : i = l.length := by omega
    rw [W_loop (L := r9_Parts_l1) rfl]
    simp (disch := first | assumption | omega | decide | (simp only [List.length_cons, List.length_nil, List.length_append, List.length_replicate, List.length_map, List.length_set, List.length_take, List.length_drop, strs_len, ints_len, bools_len, aggs_len, vpv_len]; done) | (simp only [List.length_cons, List.length_nil, List.length_append, List.length_replicate, List.length_map, List.length_set, List.length_take, List.length_drop, strs_len, ints_len, bools_len, aggs_len, vpv_len]; omega)) only [go_sem]
    exact h2 (by rw [List.drop_length]; rfl)
  | succ n ih =>
    intro i hi h1 h2
    have hlt : i < l.length := by omega
    have hp := hm _ (getD_mem hlt)
    have e := res_r9simple _ hp
    rw [drop_all [] hlt] at h1 h2
    unfold partOk at h1 h2
    by_cases h0 : l.getD i [] = []
    · rw [h0] at h1
      rw [W_loop (L := r9_Parts_l1) rfl]
      simp (disch := first | assumption | omega | decide | (simp only [List.length_cons, List.length_nil, List.length_append, List.length_replicate, List.length_map, List.length_set, List.length_take, List.length_drop, strs_len, ints_len, bools_len, aggs_len, vpv_len]; done) | (simp only [List.length_cons, List.length_nil, List.length_append, List.length_replicate, List.length_map, List.length_set, List.length_take, List.length_drop, strs_len, ints_len, bools_len, aggs_len, vpv_len]; omega)) only [go_sem, h0]
      exact h1 (by simp)
    · rw [decide_eq_true h0] at h1 h2
      cases ht : (toksF (l.getD i [])).isSome
      · rw [ht] at h1 e
        rw [W_loop (L := r9_Parts_l1) rfl]
        simp (disch := first | assumption | omega | decide | (simp only [List.length_cons, List.length_nil, List.length_append, List.length_replicate, List.length_map, List.length_set, List.length_take, List.length_drop, strs_len, ints_len, bools_len, aggs_len, vpv_len]; done) | (simp only [List.length_cons, List.length_nil, List.length_append, List.length_replicate, List.length_map, List.length_set, List.length_take, List.length_drop, strs_len, ints_len, bools_len, aggs_len, vpv_len]; omega)) only [go_sem, e]
        exact h1 (by simp)
      · rw [ht] at h2 h1 e
        rw [W_loop (L := r9_Parts_l1) rfl]
        simp (disch := first | assumption | omega | decide | (simp only [List.length_cons, List.length_nil, List.length_append, List.length_replicate, List.length_map, List.length_set, List.length_take, List.length_drop, strs_len, ints_len, bools_len, aggs_len, vpv_len]; done) | (simp only [List.length_cons, List.length_nil, List.length_append, List.length_replicate, List.length_map, List.length_set, List.length_take, List.length_drop, strs_len, ints_len, bools_len, aggs_len, vpv_len]; omega)) only [go_sem, e]
        exact ih (i + 1) (by omega) h1 h2
theorem res_r9Parts (s : List UInt8) (hs : s.length < 900000000) : res Γ 22 [.str s] = some (partsR s) := by
  have hl := splitB_len 46 s
  have hc := @count_le s 46
  have hm : ∀ p ∈ splitB 46 s, p.length < 900000000 := fun p hp => by have := splitB_mem_len hp; omega
  unfold partsR
  refine res_code (fn := r9_Parts) rfl rfl ?_
  by_cases hn : (splitB 46 s).length ≤ 20
  · simp (disch := first | assumption | omega | decide | (simp only [List.length_cons, List.length_nil, List.length_append, List.length_replicate, List.length_map, List.length_set, List.length_take, List.length_drop, strs_len, ints_len, bools_len, aggs_len, vpv_len]; done) | (simp only [List.length_cons, List.length_nil, List.length_append, List.length_replicate, List.length_map, List.length_set, List.length_take, List.length_drop, strs_len, ints_len, bools_len, aggs_len, vpv_len]; omega)) only [go_sem, r9_Parts]
    refine r9_Parts_l1_ok (splitB 46 s) (by omega) hm _ (splitB 46 s).length 0 (by omega) (fun h => ?_) (fun h => ?_)
    · rw [List.drop_zero] at h
      simp (disch := first | assumption | omega | decide | (simp only [List.length_cons, List.length_nil, List.length_append, List.length_replicate, List.length_map, List.length_set, List.length_take, List.length_drop, strs_len, ints_len, bools_len, aggs_len, vpv_len]; done) | (simp only [List.length_cons, List.length_nil, List.length_append, List.length_replicate, List.length_map, List.length_set, List.length_take, List.length_drop, strs_len, ints_len, bools_len, aggs_len, vpv_len]; omega)) only [go_sem]
      rw [if_neg (fun h2 => by rw [h] at h2; cases h2.1)]
    · rw [List.drop_zero] at h
      simp (disch := first | assumption | omega | decide | (simp only [List.length_cons, List.length_nil, List.length_append, List.length_replicate, List.length_map, List.length_set, List.length_take, List.length_drop, strs_len, ints_len, bools_len, aggs_len, vpv_len]; done) | (simp only [List.length_cons, List.length_nil, List.length_append, List.length_replicate, List.length_map, List.length_set, List.length_take, List.length_drop, strs_len, ints_len, bools_len, aggs_len, vpv_len]; omega)) only [go_sem]
      rw [if_pos ⟨h, hn⟩]
  · simp (disch := first | assumption | omega | decide | (simp only [List.length_cons, List.length_nil, List.length_append, List.length_replicate, List.length_map, List.length_set, List.length_take, List.length_drop, strs_len, ints_len, bools_len, aggs_len, vpv_len]; done) | (simp only [List.length_cons, List.length_nil, List.length_append, List.length_replicate, List.length_map, List.length_set, List.length_take, List.length_drop, strs_len, ints_len, bools_len, aggs_len, vpv_len]; omega)) only [go_sem, r9_Parts]
    rw [if_neg (fun h2 => hn h2.2)]
/-! ### Plain ones -/
def plainB (s : List UInt8) : Bool := s.all fun c => c == 46 || byteOk c
theorem plain_split : ∀ {s : List UInt8}, (splitB 46 s).all (fun p => p.all byteOk) = plainB s
  | [] => rfl
  | b :: l => by
    have ih := plain_split (s := l)
    have hl := splitB_len 46 l
    unfold plainB at ih ⊢
    rw [splitB, List.all_cons]
    by_cases hb : b = 46
    · subst hb
      rw [if_pos rfl, List.all_cons, ih]
      rfl
    · rw [if_neg hb]
      cases he : splitB 46 l with
      | nil => rw [he] at hl; simp at hl
      | cons x t =>
        rw [he, List.all_cons] at ih
        rw [List.all_cons, List.all_cons, ← ih]
        have : (b == 46) = false := by simpa using hb
        rw [this, Bool.false_or, Bool.and_assoc]
def starC (c : UInt8) : Bool := List.contains [42, 63, 91] c
theorem toks_plain_iff : ∀ (n : Nat) {p : List UInt8}, p.length ≤ n → ((toksF p).isSome && !p.any starC) = p.all byteOk := by
  intro n
  induction n with
  | zero =>
    intro p hp
    have : p = [] := List.eq_nil_of_length_eq_zero (by omega)
    subst this
    rw [toksF]; rfl
  | succ n ih =>
    intro p hp
    cases p with
    | nil => rw [toksF]; rfl
    | cons c r =>
      rw [List.length_cons] at hp
      have ih := ih (p := r) (by omega)
      by_cases hb : byteOk c = true
      · have hs : starC c = false := by
          obtain ⟨h1, h2, h3, _⟩ := byteOk_no hb
          unfold starC
          simp only [List.contains_cons, List.contains_nil, Bool.or_false]
          simp [h1, h2, h3]
        rw [toks_lit hb, Option.isSome_map, List.any_cons, hs, Bool.false_or, ih, List.all_cons, hb, Bool.true_and]
      · rw [List.all_cons, Bool.eq_false_iff.2 hb, Bool.false_and, List.any_cons]
        cases hs : starC c
        · have : toksF (c :: r) = none := by
            unfold starC at hs
            simp only [List.contains_cons, List.contains_nil, Bool.or_false, Bool.or_eq_false_iff, beq_eq_false_iff_ne] at hs
            rw [toksF, if_neg hs.1, if_neg hs.2.1, if_neg hs.2.2, if_neg hb]
          rw [this]; rfl
        · rw [Bool.true_or]; simp
theorem ixP_any_iff {p : UInt8 → Bool} {s : List UInt8} : 0 ≤ ixP p s ↔ s.any p = true := by
  induction s with
  | nil => simp [ixP]
  | cons c r ih =>
    have hr := @ixP_range p r
    have e : ixP p (c :: r) = if p c = true then 0 else if ixP p r = -1 then -1 else ixP p r + 1 := rfl
    rw [e, List.any_cons]
    by_cases hc : p c = true
    · rw [if_pos hc, hc]; simp
    · rw [if_neg hc, Bool.eq_false_iff.2 hc, Bool.false_or, ← ih]
      by_cases h : ixP p r = -1
      · rw [if_pos h, h]
      · rw [if_neg h]; omega
theorem ixP_any {p : UInt8 → Bool} {s : List UInt8} : decide (0 ≤ ixP p s) = s.any p := by
  rw [Bool.eq_iff_iff, decide_eq_true_eq]
  exact ixP_any_iff
theorem res_ContainsAny3 (s : List UInt8) (hs : s.length < 900000000) : res Γ 45 [.str s, .str [42, 63, 91]] = some [.bool (s.any starC)] := by
  have e := res_IndexAny s [42, 63, 91] (by omega) (by decide) (by decide) (by decide)
  refine res_code (fn := strings_ContainsAny) rfl rfl ?_
  simp (disch := first | assumption | omega | decide | (simp only [List.length_cons, List.length_nil, List.length_append, List.length_replicate, List.length_map, List.length_set, List.length_take, List.length_drop, strs_len, ints_len, bools_len, aggs_len, vpv_len]; done) | (simp only [List.length_cons, List.length_nil, List.length_append, List.length_replicate, List.length_map, List.length_set, List.length_take, List.length_drop, strs_len, ints_len, bools_len, aggs_len, vpv_len]; omega)) only [go_sem, strings_ContainsAny, e]
  rw [ixP_any]
  rfl
theorem Plain_l1_ok {kk : SK} (l : List (List UInt8)) (hl : l.length ≤ 900000000) (hm : ∀ p ∈ l, p.length < 900000000) (Q : Out → Prop) : ∀ (n i : Nat), i + n = l.length →
    ((l.drop i).all (fun p => p.all byteOk) = false → Q (.ret, [(2, .p (.bool false))], [])) → ((l.drop i).all (fun p => p.all byteOk) = true → Q (.nrm, [], [])) →
    Wp Γ glob_Plain_l1 [(8, .p (.sl kk 1 (strs l))), (9, .p (.int .i64 (l.length : Int))), (10, .p (.int .i64 (i : Int)))] [] (InBlk [] 0 Q) := by
  intro n
  induction n with
  | zero =>
    intro i hi h1 h2
    obtain rfl : i = l.length := by omega
    rw [W_loop (L := glob_Plain_l1) rfl]
    simp (disch := first | assumption | omega | decide | (simp only [List.length_cons, List.length_nil, List.length_append, List.length_replicate, List.length_map, List.length_set, List.length_take, List.length_drop, strs_len, ints_len, bools_len, aggs_len, vpv_len]; done) | (simp only [List.length_cons, List.length_nil, List.length_append, List.length_replicate, List.length_map, List.length_set, List.length_take, List.length_drop, strs_len, ints_len, bools_len, aggs_len, vpv_len]; omega)) only [go_sem]
    exact h2 (by rw [List.drop_length]; rfl)
  | succ n ih =>
    intro i hi h1 h2
    have hlt : i < l.length := by omega
    have hp := hm _ (getD_mem hlt)
    have e2 := res_ContainsAny3 _ hp
    rw [drop_all [] hlt, ← toks_plain_iff _ (Nat.le_refl _)] at h1 h2
    cases ht : toksF (l.getD i []) with
    | none =>
      have e := res_pieces_no _ hp ht
      rw [ht] at h1
      rw [W_loop (L := glob_Plain_l1) rfl]
      simp (disch := first | assumption | omega | decide | (simp only [List.length_cons, List.length_nil, List.length_append, List.length_replicate, List.length_map, List.length_set, List.length_take, List.length_drop, strs_len, ints_len, bools_len, aggs_len, vpv_len]; done) | (simp only [List.length_cons, List.length_nil, List.length_append, List.length_replicate, List.length_map, List.length_set, List.length_take, List.length_drop, strs_len, ints_len, bools_len, aggs_len, vpv_len]; omega)) only [go_sem, e]
      exact h1 (by simp)
    | some t =>
      have e := res_pieces _ hp ht
      rw [ht] at h1 h2
      cases hs : (l.getD i []).any starC
      · rw [hs] at h1 h2 e2
        rw [W_loop (L := glob_Plain_l1) rfl]
        simp (disch := first | assumption | omega | decide | (simp only [List.length_cons, List.length_nil, List.length_append, List.length_replicate, List.length_map, List.length_set, List.length_take, List.length_drop, strs_len, ints_len, bools_len, aggs_len, vpv_len]; done) | (simp only [List.length_cons, List.length_nil, List.length_append, List.length_replicate, List.length_map, List.length_set, List.length_take, List.length_drop, strs_len, ints_len, bools_len, aggs_len, vpv_len]; omega)) only [go_sem, e, e2]
        exact ih (i + 1) (by omega) h1 h2
      · rw [hs] at h1 e2
        rw [W_loop (L := glob_Plain_l1) rfl]
        simp (disch := first | assumption | omega | decide | (simp only [List.length_cons, List.length_nil, List.length_append, List.length_replicate, List.length_map, List.length_set, List.length_take, List.length_drop, strs_len, ints_len, bools_len, aggs_len, vpv_len]; done) | (simp only [List.length_cons, List.length_nil, List.length_append, List.length_replicate, List.length_map, List.length_set, List.length_take, List.length_drop, strs_len, ints_len, bools_len, aggs_len, vpv_len]; omega)) only [go_sem, e, e2]
        exact h1 (by simp)
theorem res_globPlain (s : List UInt8) (hs : s.length < 900000000) : res Γ 21 [.str s] = some [.bool (plainB s)] := by
  have hl := splitB_len 46 s
  have hc := @count_le s 46
  have hm : ∀ p ∈ splitB 46 s, p.length < 900000000 := fun p hp => by have := splitB_mem_len hp; omega
  rw [← plain_split]
  refine res_code (fn := glob_Plain) rfl rfl ?_
  simp (disch := first | assumption | omega | decide | (simp only [List.length_cons, List.length_nil, List.length_append, List.length_replicate, List.length_map, List.length_set, List.length_take, List.length_drop, strs_len, ints_len, bools_len, aggs_len, vpv_len]; done) | (simp only [List.length_cons, List.length_nil, List.length_append, List.length_replicate, List.length_map, List.length_set, List.length_take, List.length_drop, strs_len, ints_len, bools_len, aggs_len, vpv_len]; omega)) only [go_sem, glob_Plain]
  refine Plain_l1_ok (splitB 46 s) (by omega) hm _ (splitB 46 s).length 0 (by omega) (fun h => ?_) (fun h => ?_)
  · rw [List.drop_zero] at h
    simp (disch := first | assumption | omega | decide | (simp only [List.length_cons, List.length_nil, List.length_append, List.length_replicate, List.length_map, List.length_set, List.length_take, List.length_drop, strs_len, ints_len, bools_len, aggs_len, vpv_len]; done) | (simp only [List.length_cons, List.length_nil, List.length_append, List.length_replicate, List.length_map, List.length_set, List.length_take, List.length_drop, strs_len, ints_len, bools_len, aggs_len, vpv_len]; omega)) only [go_sem, h]
  · rw [List.drop_zero] at h
    simp (disch := first | assumption | omega | decide | (simp only [List.length_cons, List.length_nil, List.length_append, List.length_replicate, List.length_map, List.length_set, List.length_take, List.length_drop, strs_len, ints_len, bools_len, aggs_len, vpv_len]; done) | (simp only [List.length_cons, List.length_nil, List.length_append, List.length_replicate, List.length_map, List.length_set, List.length_take, List.length_drop, strs_len, ints_len, bools_len, aggs_len, vpv_len]; omega)) only [go_sem, h]
theorem r9_Plain_l1_ok (s : List UInt8) (hs : s.length < 900000000) (Q : Out → Prop) : ∀ (n i : Nat), i + n = s.length →
    (plainB (s.drop i) = false → Q (.ret, [(2, .p (.bool false))], [])) → (plainB (s.drop i) = true → Q (.nrm, [], [])) →
    Wp Γ r9_Plain_l1 [(0, .p (.str s)), (3, .p (.int .i64 (i : Int)))] [] (InBlk [] 0 Q) := by
  intro n
  induction n with
  | zero =>
    intro i hi h1 h2
    obtain rfl : i = s.length := by omega
    rw [W_loop (L := r9_Plain_l1) rfl]
    simp (disch := first | assumption | omega | decide | (simp only [List.length_cons, List.length_nil, List.length_append, List.length_replicate, List.length_map, List.length_set, List.length_take, List.length_drop, strs_len, ints_len, bools_len, aggs_len, vpv_len]; done) | (simp only [List.length_cons, List.length_nil, List.length_append, List.length_replicate, List.length_map, List.length_set, List.length_take, List.length_drop, strs_len, ints_len, bools_len, aggs_len, vpv_len]; omega)) only [go_sem]
    exact h2 (by rw [List.drop_length]; rfl)
  | succ n ih =>
    intro i hi h1 h2
    have hlt : i < s.length := by omega
    have b0 := @byt_nonneg s i
    have b1 := @byt_le s i
    have e := res_r8Byte (byt s i) b0 (by omega)
    rw [byteI_byt] at e
    unfold plainB at h1 h2 ih
    rw [drop_all 0 hlt] at h1 h2
    by_cases h46 : byt s i = 46
    · rw [(byt_eqG 46).1 h46] at h1 h2
      rw [W_loop (L := r9_Plain_l1) rfl]
      simp (disch := first | assumption | omega | decide | (simp only [List.length_cons, List.length_nil, List.length_append, List.length_replicate, List.length_map, List.length_set, List.length_take, List.length_drop, strs_len, ints_len, bools_len, aggs_len, vpv_len]; done) | (simp only [List.length_cons, List.length_nil, List.length_append, List.length_replicate, List.length_map, List.length_set, List.length_take, List.length_drop, strs_len, ints_len, bools_len, aggs_len, vpv_len]; omega)) only [go_sem, h46, ne_eq, not_true_eq_false]
      exact ih (i + 1) (by omega) h1 h2
    · rw [show (s.getD i 0 == 46) = false by simpa using byt_ne (b := 46) h46, Bool.false_or] at h1 h2
      cases hb : byteOk (s.getD i 0)
      · rw [hb] at h1 e
        rw [W_loop (L := r9_Plain_l1) rfl]
        simp (disch := first | assumption | omega | decide | (simp only [List.length_cons, List.length_nil, List.length_append, List.length_replicate, List.length_map, List.length_set, List.length_take, List.length_drop, strs_len, ints_len, bools_len, aggs_len, vpv_len]; done) | (simp only [List.length_cons, List.length_nil, List.length_append, List.length_replicate, List.length_map, List.length_set, List.length_take, List.length_drop, strs_len, ints_len, bools_len, aggs_len, vpv_len]; omega)) only [go_sem, e]
        exact h1 rfl
      · rw [hb, Bool.true_and] at h1 h2
        rw [hb] at e
        rw [W_loop (L := r9_Plain_l1) rfl]
        simp (disch := first | assumption | omega | decide | (simp only [List.length_cons, List.length_nil, List.length_append, List.length_replicate, List.length_map, List.length_set, List.length_take, List.length_drop, strs_len, ints_len, bools_len, aggs_len, vpv_len]; done) | (simp only [List.length_cons, List.length_nil, List.length_append, List.length_replicate, List.length_map, List.length_set, List.length_take, List.length_drop, strs_len, ints_len, bools_len, aggs_len, vpv_len]; omega)) only [go_sem, e]
        exact ih (i + 1) (by omega) h1 h2
theorem res_r9Plain (s : List UInt8) (hs : s.length < 900000000) : res Γ 18 [.str s] = some [.bool (plainB s)] := by
  refine res_code (fn := r9_Plain) rfl rfl ?_
  simp (disch := first | assumption | omega | decide | (simp only [List.length_cons, List.length_nil, List.length_append, List.length_replicate, List.length_map, List.length_set, List.length_take, List.length_drop, strs_len, ints_len, bools_len, aggs_len, vpv_len]; done) | (simp only [List.length_cons, List.length_nil, List.length_append, List.length_replicate, List.length_map, List.length_set, List.length_take, List.length_drop, strs_len, ints_len, bools_len, aggs_len, vpv_len]; omega)) only [go_sem, r9_Plain]
  refine r9_Plain_l1_ok s hs _ s.length 0 (by omega) (fun h => ?_) (fun h => ?_)
  · rw [List.drop_zero] at h
    simp (disch := first | assumption | omega | decide | (simp only [List.length_cons, List.length_nil, List.length_append, List.length_replicate, List.length_map, List.length_set, List.length_take, List.length_drop, strs_len, ints_len, bools_len, aggs_len, vpv_len]; done) | (simp only [List.length_cons, List.length_nil, List.length_append, List.length_replicate, List.length_map, List.length_set, List.length_take, List.length_drop, strs_len, ints_len, bools_len, aggs_len, vpv_len]; omega)) only [go_sem, h]
  · rw [List.drop_zero] at h
    simp (disch := first | assumption | omega | decide | (simp only [List.length_cons, List.length_nil, List.length_append, List.length_replicate, List.length_map, List.length_set, List.length_take, List.length_drop, strs_len, ints_len, bools_len, aggs_len, vpv_len]; done) | (simp only [List.length_cons, List.length_nil, List.length_append, List.length_replicate, List.length_map, List.length_set, List.length_take, List.length_drop, strs_len, ints_len, bools_len, aggs_len, vpv_len]; omega)) only [go_sem, h]
/-! ### Braces -/
theorem balanced_l1_ok (s : List UInt8) (hs : s.length < 900000000) (Q : Out → Prop) : ∀ (n i d : Nat), i + n = s.length → d ≤ i →
    (scan d (s.drop i) = false → Q (.ret, [(2, .p (.bool false))], [])) → (∀ d' : Nat, scan d (s.drop i) = (d' == 0) → Q (.nrm, [(3, .p (.int .i64 (d' : Int)))], [])) →
    Wp Γ glob_balanced_l1 [(0, .p (.str s)), (3, .p (.int .i64 (d : Int))), (6, .p (.int .i64 (s.length : Int))), (7, .p (.int .i64 (i : Int)))] [] (InBlk [3] 0 Q) := by
  intro n
  induction n with
  | zero =>
    intro i d hi hd h1 h2
    obtain rfl : i = s.length := by omega
    rw [W_loop (L := glob_balanced_l1) rfl]
    simp (disch := first | assumption | omega | decide | (simp only [List.length_cons, List.length_nil, List.length_append, List.length_replicate, List.length_map, List.length_set, List.length_take, List.length_drop, strs_len, ints_len, bools_len, aggs_len, vpv_len]; done) | (simp only [List.length_cons, List.length_nil, List.length_append, List.length_replicate, List.length_map, List.length_set, List.length_take, List.length_drop, strs_len, ints_len, bools_len, aggs_len, vpv_len]; omega)) only [go_sem]
    exact h2 d (by rw [List.drop_length]; rfl)
  | succ n ih =>
    intro i d hi hd h1 h2
    have hlt : i < s.length := by omega
    rw [drop1 hlt, scan] at h1 h2
    by_cases e1 : byt s i = 123
    · rw [(byt_eqG 123).1 e1, if_pos (by decide)] at h1 h2
      rw [W_loop (L := glob_balanced_l1) rfl]
      simp (disch := first | assumption | omega | decide | (simp only [List.length_cons, List.length_nil, List.length_append, List.length_replicate, List.length_map, List.length_set, List.length_take, List.length_drop, strs_len, ints_len, bools_len, aggs_len, vpv_len]; done) | (simp only [List.length_cons, List.length_nil, List.length_append, List.length_replicate, List.length_map, List.length_set, List.length_take, List.length_drop, strs_len, ints_len, bools_len, aggs_len, vpv_len]; omega)) only [go_sem, e1]
      exact ih (i + 1) (d + 1) (by omega) (by omega) h1 h2
    · rw [if_neg (by simpa using byt_ne (b := 123) e1)] at h1 h2
      by_cases e2 : byt s i = 125
      · rw [if_pos (by simpa using (byt_eqG 125).1 e2)] at h1 h2
        by_cases hd0 : d = 0
        · subst hd0
          rw [W_loop (L := glob_balanced_l1) rfl]
          simp (disch := first | assumption | omega | decide | (simp only [List.length_cons, List.length_nil, List.length_append, List.length_replicate, List.length_map, List.length_set, List.length_take, List.length_drop, strs_len, ints_len, bools_len, aggs_len, vpv_len]; done) | (simp only [List.length_cons, List.length_nil, List.length_append, List.length_replicate, List.length_map, List.length_set, List.length_take, List.length_drop, strs_len, ints_len, bools_len, aggs_len, vpv_len]; omega)) only [go_sem, e2]
          exact h1 rfl
        · rw [decide_eq_true (by omega), Bool.true_and] at h1 h2
          rw [W_loop (L := glob_balanced_l1) rfl]
          simp (disch := first | assumption | omega | decide | (simp only [List.length_cons, List.length_nil, List.length_append, List.length_replicate, List.length_map, List.length_set, List.length_take, List.length_drop, strs_len, ints_len, bools_len, aggs_len, vpv_len]; done) | (simp only [List.length_cons, List.length_nil, List.length_append, List.length_replicate, List.length_map, List.length_set, List.length_take, List.length_drop, strs_len, ints_len, bools_len, aggs_len, vpv_len]; omega)) only [go_sem, e2]
          rw [show (d : Int) - 1 = ((d - 1 : Nat) : Int) by omega]
          exact ih (i + 1) (d - 1) (by omega) (by omega) h1 h2
      · rw [if_neg (by simpa using byt_ne (b := 125) e2)] at h1 h2
        by_cases e3 : byt s i = 44
        · rw [if_pos (by simpa using (byt_eqG 44).1 e3)] at h1 h2
          by_cases hd0 : d = 0
          · subst hd0
            rw [W_loop (L := glob_balanced_l1) rfl]
            simp (disch := first | assumption | omega | decide | (simp only [List.length_cons, List.length_nil, List.length_append, List.length_replicate, List.length_map, List.length_set, List.length_take, List.length_drop, strs_len, ints_len, bools_len, aggs_len, vpv_len]; done) | (simp only [List.length_cons, List.length_nil, List.length_append, List.length_replicate, List.length_map, List.length_set, List.length_take, List.length_drop, strs_len, ints_len, bools_len, aggs_len, vpv_len]; omega)) only [go_sem, e3]
            exact h1 rfl
          · rw [decide_eq_true (by omega), Bool.true_and] at h1 h2
            rw [W_loop (L := glob_balanced_l1) rfl]
            simp (disch := first | assumption | omega | decide | (simp only [List.length_cons, List.length_nil, List.length_append, List.length_replicate, List.length_map, List.length_set, List.length_take, List.length_drop, strs_len, ints_len, bools_len, aggs_len, vpv_len]; done) | (simp only [List.length_cons, List.length_nil, List.length_append, List.length_replicate, List.length_map, List.length_set, List.length_take, List.length_drop, strs_len, ints_len, bools_len, aggs_len, vpv_len]; omega)) only [go_sem, e3]
            exact ih (i + 1) d (by omega) (by omega) h1 h2
        · rw [if_neg (by simpa using byt_ne (b := 44) e3)] at h1 h2
          rw [W_loop (L := glob_balanced_l1) rfl]
          simp (disch := first | assumption | omega | decide | (simp only [List.length_cons, List.length_nil, List.length_append, List.length_replicate, List.length_map, List.length_set, List.length_take, List.length_drop, strs_len, ints_len, bools_len, aggs_len, vpv_len]; done) | (simp only [List.length_cons, List.length_nil, List.length_append, List.length_replicate, List.length_map, List.length_set, List.length_take, List.length_drop, strs_len, ints_len, bools_len, aggs_len, vpv_len]; omega)) only [go_sem]
          exact ih (i + 1) d (by omega) (by omega) h1 h2
theorem nat_beq0 {d : Nat} : decide ((d : Int) = 0) = (d == 0) := by
  cases d with
  | zero => rfl
  | succ d => rw [decide_eq_false (by omega)]; rfl
theorem res_balanced (s : List UInt8) (hs : s.length < 900000000) : res Γ 38 [.str s] = some [.bool (scan 0 s)] := by
  refine res_code (fn := glob_balanced) rfl rfl ?_
  simp (disch := first | assumption | omega | decide | (simp only [List.length_cons, List.length_nil, List.length_append, List.length_replicate, List.length_map, List.length_set, List.length_take, List.length_drop, strs_len, ints_len, bools_len, aggs_len, vpv_len]; done) | (simp only [List.length_cons, List.length_nil, List.length_append, List.length_replicate, List.length_map, List.length_set, List.length_take, List.length_drop, strs_len, ints_len, bools_len, aggs_len, vpv_len]; omega)) only [go_sem, glob_balanced]
  refine balanced_l1_ok s hs _ s.length 0 0 (by omega) (by omega) (fun h => ?_) (fun d h => ?_)
  · rw [List.drop_zero] at h
    simp (disch := first | assumption | omega | decide | (simp only [List.length_cons, List.length_nil, List.length_append, List.length_replicate, List.length_map, List.length_set, List.length_take, List.length_drop, strs_len, ints_len, bools_len, aggs_len, vpv_len]; done) | (simp only [List.length_cons, List.length_nil, List.length_append, List.length_replicate, List.length_map, List.length_set, List.length_take, List.length_drop, strs_len, ints_len, bools_len, aggs_len, vpv_len]; omega)) only [go_sem, h]
  · rw [List.drop_zero] at h
    simp (disch := first | assumption | omega | decide | (simp only [List.length_cons, List.length_nil, List.length_append, List.length_replicate, List.length_map, List.length_set, List.length_take, List.length_drop, strs_len, ints_len, bools_len, aggs_len, vpv_len]; done) | (simp only [List.length_cons, List.length_nil, List.length_append, List.length_replicate, List.length_map, List.length_set, List.length_take, List.length_drop, strs_len, ints_len, bools_len, aggs_len, vpv_len]; omega)) only [go_sem]
    rw [h, nat_beq0]
theorem braces_l1_ok (s : List UInt8) (hs : s.length < 900000000) (Q : Out → Prop) : ∀ (n i d : Nat), i + n = s.length → d ≤ i →
    (scan d (s.drop i) = false → Q (.ret, [(2, .p (.bool false))], [])) → (∀ d' : Nat, scan d (s.drop i) = (d' == 0) → Q (.nrm, [(3, .p (.int .i64 (d' : Int)))], [])) →
    Wp Γ r9_braces_l1 [(0, .p (.str s)), (3, .p (.int .i64 (d : Int))), (4, .p (.int .i64 (i : Int)))] [] (InBlk [3] 0 Q) := by
  intro n
  induction n with
  | zero =>
    intro i d hi hd h1 h2
    obtain rfl : i = s.length := by omega
    rw [W_loop (L := r9_braces_l1) rfl]
    simp (disch := first | assumption | omega | decide | (simp only [List.length_cons, List.length_nil, List.length_append, List.length_replicate, List.length_map, List.length_set, List.length_take, List.length_drop, strs_len, ints_len, bools_len, aggs_len, vpv_len]; done) | (simp only [List.length_cons, List.length_nil, List.length_append, List.length_replicate, List.length_map, List.length_set, List.length_take, List.length_drop, strs_len, ints_len, bools_len, aggs_len, vpv_len]; omega)) only [go_sem]
    exact h2 d (by rw [List.drop_length]; rfl)
  | succ n ih =>
    intro i d hi hd h1 h2
    have hlt : i < s.length := by omega
    rw [drop1 hlt, scan] at h1 h2
    by_cases e1 : byt s i = 123
    · rw [(byt_eqG 123).1 e1, if_pos (by decide)] at h1 h2
      rw [W_loop (L := r9_braces_l1) rfl]
      simp (disch := first | assumption | omega | decide | (simp only [List.length_cons, List.length_nil, List.length_append, List.length_replicate, List.length_map, List.length_set, List.length_take, List.length_drop, strs_len, ints_len, bools_len, aggs_len, vpv_len]; done) | (simp only [List.length_cons, List.length_nil, List.length_append, List.length_replicate, List.length_map, List.length_set, List.length_take, List.length_drop, strs_len, ints_len, bools_len, aggs_len, vpv_len]; omega)) only [go_sem, e1]
      exact ih (i + 1) (d + 1) (by omega) (by omega) h1 h2
    · rw [if_neg (by simpa using byt_ne (b := 123) e1)] at h1 h2
      by_cases e2 : byt s i = 125
      · rw [if_pos (by simpa using (byt_eqG 125).1 e2)] at h1 h2
        by_cases hd0 : d = 0
        · subst hd0
          rw [W_loop (L := r9_braces_l1) rfl]
          simp (disch := first | assumption | omega | decide | (simp only [List.length_cons, List.length_nil, List.length_append, List.length_replicate, List.length_map, List.length_set, List.length_take, List.length_drop, strs_len, ints_len, bools_len, aggs_len, vpv_len]; done) | (simp only [List.length_cons, List.length_nil, List.length_append, List.length_replicate, List.length_map, List.length_set, List.length_take, List.length_drop, strs_len, ints_len, bools_len, aggs_len, vpv_len]; omega)) only [go_sem, e2]
          exact h1 rfl
        · rw [decide_eq_true (by omega), Bool.true_and] at h1 h2
          rw [W_loop (L := r9_braces_l1) rfl]
          simp (disch := first | assumption | omega | decide | (simp only [List.length_cons, List.length_nil, List.length_append, List.length_replicate, List.length_map, List.length_set, List.length_take, List.length_drop, strs_len, ints_len, bools_len, aggs_len, vpv_len]; done) | (simp only [List.length_cons, List.length_nil, List.length_append, List.length_replicate, List.length_map, List.length_set, List.length_take, List.length_drop, strs_len, ints_len, bools_len, aggs_len, vpv_len]; omega)) only [go_sem, e2]
          rw [show (d : Int) - 1 = ((d - 1 : Nat) : Int) by omega]
          exact ih (i + 1) (d - 1) (by omega) (by omega) h1 h2
      · rw [if_neg (by simpa using byt_ne (b := 125) e2)] at h1 h2
        by_cases e3 : byt s i = 44
        · rw [if_pos (by simpa using (byt_eqG 44).1 e3)] at h1 h2
          by_cases hd0 : d = 0
          · subst hd0
            rw [W_loop (L := r9_braces_l1) rfl]
            simp (disch := first | assumption | omega | decide | (simp only [List.length_cons, List.length_nil, List.length_append, List.length_replicate, List.length_map, List.length_set, List.length_take, List.length_drop, strs_len, ints_len, bools_len, aggs_len, vpv_len]; done) | (simp only [List.length_cons, List.length_nil, List.length_append, List.length_replicate, List.length_map, List.length_set, List.length_take, List.length_drop, strs_len, ints_len, bools_len, aggs_len, vpv_len]; omega)) only [go_sem, e3]
            exact h1 rfl
          · rw [decide_eq_true (by omega), Bool.true_and] at h1 h2
            rw [W_loop (L := r9_braces_l1) rfl]
            simp (disch := first | assumption | omega | decide | (simp only [List.length_cons, List.length_nil, List.length_append, List.length_replicate, List.length_map, List.length_set, List.length_take, List.length_drop, strs_len, ints_len, bools_len, aggs_len, vpv_len]; done) | (simp only [List.length_cons, List.length_nil, List.length_append, List.length_replicate, List.length_map, List.length_set, List.length_take, List.length_drop, strs_len, ints_len, bools_len, aggs_len, vpv_len]; omega)) only [go_sem, e3]
            exact ih (i + 1) d (by omega) (by omega) h1 h2
        · rw [if_neg (by simpa using byt_ne (b := 44) e3)] at h1 h2
          rw [W_loop (L := r9_braces_l1) rfl]
          simp (disch := first | assumption | omega | decide | (simp only [List.length_cons, List.length_nil, List.length_append, List.length_replicate, List.length_map, List.length_set, List.length_take, List.length_drop, strs_len, ints_len, bools_len, aggs_len, vpv_len]; done) | (simp only [List.length_cons, List.length_nil, List.length_append, List.length_replicate, List.length_map, List.length_set, List.length_take, List.length_drop, strs_len, ints_len, bools_len, aggs_len, vpv_len]; omega)) only [go_sem]
          exact ih (i + 1) d (by omega) (by omega) h1 h2
theorem res_r9braces (s : List UInt8) (hs : s.length < 900000000) : res Γ 42 [.str s] = some [.bool (scan 0 s)] := by
  refine res_code (fn := r9_braces) rfl rfl ?_
  simp (disch := first | assumption | omega | decide | (simp only [List.length_cons, List.length_nil, List.length_append, List.length_replicate, List.length_map, List.length_set, List.length_take, List.length_drop, strs_len, ints_len, bools_len, aggs_len, vpv_len]; done) | (simp only [List.length_cons, List.length_nil, List.length_append, List.length_replicate, List.length_map, List.length_set, List.length_take, List.length_drop, strs_len, ints_len, bools_len, aggs_len, vpv_len]; omega)) only [go_sem, r9_braces]
  refine braces_l1_ok s hs _ s.length 0 0 (by omega) (by omega) (fun h => ?_) (fun d h => ?_)
  · rw [List.drop_zero] at h
    simp (disch := first | assumption | omega | decide | (simp only [List.length_cons, List.length_nil, List.length_append, List.length_replicate, List.length_map, List.length_set, List.length_take, List.length_drop, strs_len, ints_len, bools_len, aggs_len, vpv_len]; done) | (simp only [List.length_cons, List.length_nil, List.length_append, List.length_replicate, List.length_map, List.length_set, List.length_take, List.length_drop, strs_len, ints_len, bools_len, aggs_len, vpv_len]; omega)) only [go_sem, h]
  · rw [List.drop_zero] at h
    simp (disch := first | assumption | omega | decide | (simp only [List.length_cons, List.length_nil, List.length_append, List.length_replicate, List.length_map, List.length_set, List.length_take, List.length_drop, strs_len, ints_len, bools_len, aggs_len, vpv_len]; done) | (simp only [List.length_cons, List.length_nil, List.length_append, List.length_replicate, List.length_map, List.length_set, List.length_take, List.length_drop, strs_len, ints_len, bools_len, aggs_len, vpv_len]; omega)) only [go_sem]
    rw [h, nat_beq0]
end Ab
/- What comes out of a pattern is no longer than the pattern. Plain Lean. -/
namespace Ab
theorem joinC_len {a : List UInt8} : ∀ {alts : List (List UInt8)}, a ∈ alts → a.length ≤ (joinC alts).length
  | [], h => by cases h
  | [b], h => by rw [List.mem_singleton] at h; subst h; exact Nat.le_refl _
  | b :: c :: r, h => by
    rw [joinC_cons (by simp), List.length_append, List.length_cons]
    rcases List.mem_cons.1 h with rfl | h
    · omega
    · have := joinC_len (alts := c :: r) h
      omega
theorem prodL_mem {a b : List (List UInt8)} {x : List UInt8} (h : x ∈ prodL a b) : ∃ y z, y ∈ a ∧ z ∈ b ∧ x = y ++ z := by
  unfold prodL at h
  obtain ⟨y, hy, hx⟩ := List.mem_flatMap.1 h
  obtain ⟨z, hz, rfl⟩ := List.mem_map.1 hx
  exact ⟨y, z, hy, hz, rfl⟩
theorem exp_le {u : List UInt8} {out : List (List UInt8)} (h : Exp u out) : ∀ x ∈ out, x.length ≤ u.length := by
  induction h with
  | run p hp => intro x hx; rw [List.mem_singleton] at hx; subst hx; exact Nat.le_refl _
  | grp p alts f u l hp ha hf hu ih ihu =>
    intro x hx
    obtain ⟨y, z, hy, hz, rfl⟩ := prodL_mem hx
    rw [List.mem_singleton] at hy
    subst hy
    obtain ⟨v, w, hv, hw, rfl⟩ := prodL_mem hz
    obtain ⟨a, ha', hv⟩ := List.mem_flatMap.1 hv
    have h1 := ih a ha' v hv
    have h2 := joinC_len ha'
    have h3 := ihu w hw
    simp only [List.length_append, List.length_cons]
    omega
theorem prodL_drop {A B : List (List UInt8)} {i : Nat} (h : i < A.length) : prodL (A.drop i) B = B.map (A.getD i [] ++ ·) ++ prodL (A.drop (i + 1)) B := by
  unfold prodL
  rw [List.drop_eq_getElem_cons h, List.flatMap_cons]
  simp [List.getElem?_eq_getElem h]
theorem prodL_end {A B : List (List UInt8)} : prodL (A.drop A.length) B = [] := by
  rw [List.drop_length]; rfl
end Ab
