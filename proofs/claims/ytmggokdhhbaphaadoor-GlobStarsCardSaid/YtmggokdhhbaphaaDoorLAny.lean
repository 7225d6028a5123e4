import Derived.Test.YtmggokdhhbaphaaDoorPGlob
/- Patterns of one part: how they are read. Plain Lean. -/
namespace Ab
/-- So many places from one on are true. -/
def fillN (acc : List Bool) (a : Nat) : Nat → List Bool
  | 0 => acc
  | k + 1 => (fillN acc a k).set (a + k) true
theorem fillN_len {acc a k} : (fillN acc a k).length = acc.length := by
  induction k with
  | zero => rfl
  | succ k ih => rw [fillN, List.length_set, ih]
theorem fillN_get {acc : List Bool} {a k i : Nat} (hi : i < acc.length) : (fillN acc a k).getD i false = (acc.getD i false || (decide (a ≤ i) && decide (i < a + k))) := by
  induction k with
  | zero => simp only [fillN, Nat.add_zero]; by_cases h : a ≤ i <;> by_cases h2 : i < a <;> simp_all <;> omega
  | succ k ih =>
    have hl := @fillN_len acc a k
    simp only [fillN, List.getD_eq_getElem?_getD] at ih ⊢
    by_cases h : a + k = i
    · subst h
      rw [List.getElem?_set_self (by omega)]
      simp
    · rw [List.getElem?_set_ne h, ih]
      congr 1
      by_cases h2 : a ≤ i <;> by_cases h3 : i < a + k <;> simp [h2, h3] <;> omega
def none256 : List Bool := List.replicate 256 false
theorem none256_len : none256.length = 256 := List.length_replicate
theorem none256_get {i : Nat} : none256.getD i false = false := by
  unfold none256
  rw [List.getD_eq_getElem?_getD, List.getElem?_replicate]
  split <;> rfl
/-- The set of a class. -/
def classF : List UInt8 → List Bool → Option (List Bool)
  | [], acc => some acc
  | [a], acc => some (fillN acc a.toNat 1)
  | [a, b], acc => some (fillN (fillN acc a.toNat 1) b.toNat 1)
  | a :: b :: c :: r, acc => if b = 45 then (if c < a then none else classF r (fillN acc a.toNat (c.toNat - a.toNat + 1))) else classF (b :: c :: r) (fillN acc a.toNat 1)
def inF : List UInt8 → UInt8 → Bool
  | [], _ => false
  | [a], x => a == x
  | [a, b], x => a == x || b == x
  | a :: b :: c :: r, x => if b = 45 then ((decide (a ≤ x) && decide (x ≤ c)) || inF r x) else (a == x || inF (b :: c :: r) x)
theorem classF_len : ∀ {l : List UInt8} {acc acc' : List Bool}, classF l acc = some acc' → acc'.length = acc.length
  | [], _, _, h => by simp only [classF, Option.some.injEq] at h; rw [← h]
  | [a], _, _, h => by simp only [classF, Option.some.injEq] at h; rw [← h, fillN_len]
  | [a, b], _, _, h => by simp only [classF, Option.some.injEq] at h; rw [← h, fillN_len, fillN_len]
  | a :: b :: c :: r, acc, acc', h => by
    rw [classF] at h
    split at h
    · split at h
      · cases h
      · rw [classF_len h, fillN_len]
    · rw [classF_len h, fillN_len]
theorem one_get {acc : List Bool} (ha : acc.length = 256) (a x : UInt8) : (fillN acc a.toNat 1).getD x.toNat false = (acc.getD x.toNat false || a == x) := by
  have hx := x.toNat_lt
  rw [fillN_get (by omega)]
  congr 1
  by_cases h : a = x
  · subst h; simp
  · have : a.toNat ≠ x.toNat := fun e => h (UInt8.toNat_inj.1 e)
    rw [beq_false_of_ne h]
    by_cases h1 : a.toNat ≤ x.toNat <;> simp [h1] <;> omega
theorem classF_get : ∀ {l : List UInt8} {acc acc' : List Bool}, classF l acc = some acc' → acc.length = 256 → ∀ x : UInt8, acc'.getD x.toNat false = (acc.getD x.toNat false || inF l x)
  | [], _, _, h, _, x => by simp only [classF, Option.some.injEq] at h; rw [← h]; simp [inF]
  | [a], _, _, h, ha, x => by simp only [classF, Option.some.injEq] at h; rw [← h, one_get ha]; rfl
  | [a, b], _, _, h, ha, x => by simp only [classF, Option.some.injEq] at h; rw [← h, one_get (by rw [fillN_len, ha]), one_get ha, Bool.or_assoc]; rfl
  | a :: b :: c :: r, acc, acc', h, ha, x => by
    rw [classF] at h
    rw [inF]
    split at h
    · rename_i hb
      rw [if_pos hb]
      split at h
      · cases h
      · rename_i hc
        rw [classF_get h (by rw [fillN_len, ha]) x, ← Bool.or_assoc]
        congr 1
        have hx := x.toNat_lt
        rw [fillN_get (by omega)]
        congr 1
        have hca : a.toNat ≤ c.toNat := by
          have := UInt8.not_lt.1 hc
          exact UInt8.le_iff_toNat_le.1 this
        have e1 : decide (a ≤ x) = decide (a.toNat ≤ x.toNat) := decide_eq_decide.2 UInt8.le_iff_toNat_le
        have e2 : decide (x ≤ c) = decide (x.toNat < a.toNat + (c.toNat - a.toNat + 1)) := by
          refine decide_eq_decide.2 ?_
          rw [UInt8.le_iff_toNat_le]; omega
        rw [e1, e2]
    · rename_i hb
      rw [if_neg hb, classF_get h (by rw [fillN_len, ha]) x, one_get ha, Bool.or_assoc]
/-- May a byte stand in a part? -/
def byteOk (c : UInt8) : Bool := (decide (97 ≤ c) && decide (c ≤ 122)) || (decide (65 ≤ c) && decide (c ≤ 90)) || (decide (48 ≤ c) && decide (c ≤ 57)) || c == 95 || c == 45 || c == 58 || c == 35 || c == 37 || c == 64 || c == 61
theorem drop_lt {r : List UInt8} {n : Nat} : (r.drop (n + 1)).length < r.length + 1 := by rw [List.length_drop]; omega
/-- The tokens of a pattern; none: it is none. -/
def toksF : List UInt8 → Option (List Tok)
  | [] => some []
  | c :: r =>
    if c = 42 then (toksF r).map ((true, none256) :: ·)
    else if c = 63 then (toksF r).map ((false, fillN none256 0 256) :: ·)
    else if c = 91 then
      (if ixB r 93 ≤ 0 then none else
        match classF (r.take (ixB r 93).toNat) none256 with
        | none => none
        | some st => (toksF (r.drop ((ixB r 93).toNat + 1))).map ((false, st) :: ·))
    else if byteOk c = true then (toksF r).map ((false, fillN none256 c.toNat 1) :: ·)
    else none
termination_by l => l.length
decreasing_by
  all_goals simp_wf
  all_goals omega
theorem all_get (x : UInt8) : (fillN none256 0 256).getD x.toNat false = true := by
  have hx := x.toNat_lt
  rw [fillN_get (by rw [none256_len]; omega)]
  simp; omega
theorem toks_inT {l : List UInt8} {st : List Bool} (h : classF l none256 = some st) (c : UInt8) : inT (false, st) c = inF l c := by
  unfold inT
  rw [classF_get h none256_len c, none256_get, Bool.false_or]
end Ab
/- Rows of tokens: pointers to flags. -/
namespace Ab
open Go (IntKind BinOp UnOp)
def tokP (t : Tok) : PV := .ptr (bools (t.1 :: t.2))
def ptrs (l : List Tok) : List PV := l.map tokP
theorem ptrs_len {l} : (ptrs l).length = l.length := by simp [ptrs]
theorem ptrs_nil : ptrs [] = [] := rfl
theorem ptrs_app {l l'} : ptrs l ++ ptrs l' = ptrs (l ++ l') := by simp [ptrs]
theorem ptrs_one {l : List Tok} {b : Bool} {s : List Bool} : ptrs l ++ [.ptr (bools (b :: s))] = ptrs (l ++ [(b, s)]) := by simp [ptrs, tokP]
theorem ptrs_get {l : List Tok} {i : Nat} (h : i < l.length) : (ptrs l)[i]? = some (tokP (l.getD i (false, []))) := by simp [ptrs, List.getElem?_eq_getElem h]
theorem iaddr_ptrs {H xs k' k i} (h0 : 0 ≤ i) (h : i < (xs.length : Int)) : iaddrA H 1 (.p (.sl k' 1 (ptrs xs))) (.p (.int k i)) = some (.p (.ptr [tokP (xs.getD i.toNat (false, []))])) := by
  rw [iaddr_sl h0 (ptrs_get (by omega))]; rfl
theorem tok_any {b : Bool} {l : List Bool} : takeP 1 false (bools (b :: l)) = some (.p (.bool b)) := rfl
theorem faddr_tok {H : Heap} {t : Tok} {off : Nat} (h : off < t.2.length + 1) : faddrA H off (.p (tokP t)) = some (.p (.ptr ((bools (t.1 :: t.2)).drop off))) := by
  simp only [tokP, faddrA]
  rw [if_pos (by simp [bools]; omega)]
theorem nilchk_tok {H : Heap} {t : Tok} : nilchkA H (.p (tokP t)) = some (.p (tokP t)) := rfl
theorem tok_drop1 {t : Tok} : (bools (t.1 :: t.2)).drop 1 = bools t.2 := rfl
theorem tok_drop0 {t : Tok} : (bools (t.1 :: t.2)).drop 0 = bools (t.1 :: t.2) := rfl
theorem iaddr_boolsA {n : Nat} {l : List Bool} {k} {i : Int} (h0 : 0 ≤ i) (h1 : i < (n : Int)) (h2 : i.toNat < l.length) : iaddrAA 1 n (.p (.ptr (bools l))) (.p (.int k i)) = some (.p (.ptr ((bools l).drop i.toNat))) := by
  rw [iaddr_P h0 h1 (by rw [bools_len]; omega), Nat.mul_one]
attribute [go_sem] ptrs_len ptrs_app ptrs_one iaddr_ptrs faddr_tok nilchk_tok tok_drop1 tok_drop0 tok_any
end Ab
/- Patterns of one part: how the program reads them. -/
namespace Ab
open Go (IntKind BinOp UnOp)
theorem tn1 {i : Nat} : ((i : Int) + 1).toNat = i + 1 := by omega
theorem tn2 {i : Nat} : ((i : Int) + 2).toNat = i + 2 := by omega
theorem tnA {i n : Nat} : ((i : Int) + (n : Int)).toNat = i + n := by omega
theorem byt_eqG {s : List UInt8} {i : Nat} (b : UInt8) : byt s i = (b.toNat : Int) ↔ s.getD i 0 = b := by
  unfold byt
  exact ⟨fun h => UInt8.toNat_inj.1 (by omega), fun h => by rw [h]⟩
/-- May a byte stand in a part? -/
def byteI (n : Int) : Bool := byteOk n.toNat.toUInt8
theorem byteI_byt {s : List UInt8} {i : Nat} : byteI (byt s i) = byteOk (s.getD i 0) := by
  unfold byteI byt
  rw [Int.toNat_natCast, toU8_nat]
theorem ge_u8 {n : Int} {k : Nat} (h0 : 0 ≤ n) (h1 : n < 256) (hk : k < 256) : decide ((k : Int) ≤ n) = decide (UInt8.ofNat k ≤ n.toNat.toUInt8) := by
  refine decide_eq_decide.2 ?_
  rw [UInt8.le_iff_toNat_le]
  have e1 : (UInt8.ofNat k).toNat = k := by simp; omega
  have e2 : n.toNat.toUInt8.toNat = n.toNat := by simp; omega
  rw [e1, e2]; omega
theorem le_u8 {n : Int} {k : Nat} (h0 : 0 ≤ n) (h1 : n < 256) (hk : k < 256) : decide (n ≤ (k : Int)) = decide (n.toNat.toUInt8 ≤ UInt8.ofNat k) := by
  refine decide_eq_decide.2 ?_
  rw [UInt8.le_iff_toNat_le]
  have e1 : (UInt8.ofNat k).toNat = k := by simp; omega
  have e2 : n.toNat.toUInt8.toNat = n.toNat := by simp; omega
  rw [e1, e2]; omega
theorem eq_u8 {n : Int} {k : Nat} (h0 : 0 ≤ n) (h1 : n < 256) (hk : k < 256) : n = (k : Int) ↔ n.toNat.toUInt8 = UInt8.ofNat k := by
  rw [← UInt8.toNat_inj]
  have e1 : (UInt8.ofNat k).toNat = k := by simp; omega
  have e2 : n.toNat.toUInt8.toNat = n.toNat := by simp; omega
  rw [e1, e2]; omega
theorem byteI_iff {n : Int} (h0 : 0 ≤ n) (h1 : n < 256) : byteI n = true ↔ (97 ≤ n ∧ n ≤ 122) ∨ (65 ≤ n ∧ n ≤ 90) ∨ (48 ≤ n ∧ n ≤ 57) ∨ n = 95 ∨ n = 45 ∨ n = 58 ∨ n = 35 ∨ n = 37 ∨ n = 64 ∨ n = 61 := by
  have a1 := decide_eq_decide.1 (ge_u8 h0 h1 (show 97 < 256 by omega)); have a2 := decide_eq_decide.1 (le_u8 h0 h1 (show 122 < 256 by omega))
  have a3 := decide_eq_decide.1 (ge_u8 h0 h1 (show 65 < 256 by omega)); have a4 := decide_eq_decide.1 (le_u8 h0 h1 (show 90 < 256 by omega))
  have a5 := decide_eq_decide.1 (ge_u8 h0 h1 (show 48 < 256 by omega)); have a6 := decide_eq_decide.1 (le_u8 h0 h1 (show 57 < 256 by omega))
  have b1 := eq_u8 h0 h1 (show 95 < 256 by omega); have b2 := eq_u8 h0 h1 (show 45 < 256 by omega); have b3 := eq_u8 h0 h1 (show 58 < 256 by omega); have b4 := eq_u8 h0 h1 (show 35 < 256 by omega)
  have b5 := eq_u8 h0 h1 (show 37 < 256 by omega); have b6 := eq_u8 h0 h1 (show 64 < 256 by omega); have b7 := eq_u8 h0 h1 (show 61 < 256 by omega)
  unfold byteI byteOk
  simp only [Bool.or_eq_true, Bool.and_eq_true, decide_eq_true_eq, beq_iff_eq]
  generalize n.toNat.toUInt8 = c at *
  constructor
  · rintro (((((((((⟨h, k⟩ | ⟨h, k⟩) | ⟨h, k⟩) | h) | h) | h) | h) | h) | h) | h)
    · exact .inl ⟨a1.2 h, a2.2 k⟩
    · exact .inr (.inl ⟨a3.2 h, a4.2 k⟩)
    · exact .inr (.inr (.inl ⟨a5.2 h, a6.2 k⟩))
    · exact .inr (.inr (.inr (.inl (b1.2 h))))
    · exact .inr (.inr (.inr (.inr (.inl (b2.2 h)))))
    · exact .inr (.inr (.inr (.inr (.inr (.inl (b3.2 h))))))
    · exact .inr (.inr (.inr (.inr (.inr (.inr (.inl (b4.2 h)))))))
    · exact .inr (.inr (.inr (.inr (.inr (.inr (.inr (.inl (b5.2 h))))))))
    · exact .inr (.inr (.inr (.inr (.inr (.inr (.inr (.inr (.inl (b6.2 h)))))))))
    · exact .inr (.inr (.inr (.inr (.inr (.inr (.inr (.inr (.inr (b7.2 h)))))))))
  · rintro (⟨h, k⟩ | ⟨h, k⟩ | ⟨h, k⟩ | h | h | h | h | h | h | h)
    · exact .inl (.inl (.inl (.inl (.inl (.inl (.inl (.inl (.inl ⟨a1.1 h, a2.1 k⟩))))))))
    · exact .inl (.inl (.inl (.inl (.inl (.inl (.inl (.inl (.inr ⟨a3.1 h, a4.1 k⟩))))))))
    · exact .inl (.inl (.inl (.inl (.inl (.inl (.inl (.inr ⟨a5.1 h, a6.1 k⟩)))))))
    · exact .inl (.inl (.inl (.inl (.inl (.inl (.inr (b1.1 h)))))))
    · exact .inl (.inl (.inl (.inl (.inl (.inr (b2.1 h))))))
    · exact .inl (.inl (.inl (.inl (.inr (b3.1 h)))))
    · exact .inl (.inl (.inl (.inr (b4.1 h))))
    · exact .inl (.inl (.inr (b5.1 h)))
    · exact .inl (.inr (b6.1 h))
    · exact .inr (b7.1 h)
theorem byteI_f {n : Int} (h0 : 0 ≤ n) (h1 : n < 256) (h : ¬ ((97 ≤ n ∧ n ≤ 122) ∨ (65 ≤ n ∧ n ≤ 90) ∨ (48 ≤ n ∧ n ≤ 57) ∨ n = 95 ∨ n = 45 ∨ n = 58 ∨ n = 35 ∨ n = 37 ∨ n = 64 ∨ n = 61)) : byteI n = false := by
  cases hb : byteI n
  · rfl
  · exact absurd ((byteI_iff h0 h1).1 hb) h
theorem seven_ix {n : Int} (h0 : 0 ≤ n) (h1 : n < 256) : 0 ≤ ixB [95, 45, 58, 35, 37, 64, 61] n.toNat.toUInt8 ↔ (n = 95 ∨ n = 45 ∨ n = 58 ∨ n = 35 ∨ n = 37 ∨ n = 64 ∨ n = 61) := by
  have b1 := eq_u8 h0 h1 (show 95 < 256 by omega); have b2 := eq_u8 h0 h1 (show 45 < 256 by omega); have b3 := eq_u8 h0 h1 (show 58 < 256 by omega); have b4 := eq_u8 h0 h1 (show 35 < 256 by omega)
  have b5 := eq_u8 h0 h1 (show 37 < 256 by omega); have b6 := eq_u8 h0 h1 (show 64 < 256 by omega); have b7 := eq_u8 h0 h1 (show 61 < 256 by omega)
  generalize n.toNat.toUInt8 = c at *
  have key : ∀ l : List UInt8, 0 ≤ ixB l c ↔ c ∈ l := by
    intro l
    induction l with
    | nil => simp [ixB]
    | cons b l ih =>
      simp only [ixB, List.mem_cons, beq_iff_eq]
      by_cases hb : b = c
      · simp [hb]
      · rw [if_neg hb]
        have hr := @ixB_nn l c
        constructor
        · intro h
          split at h
          · omega
          · exact .inr (ih.1 (by omega))
        · rintro (h | h)
          · exact absurd h.symm hb
          · have := ih.2 h
            rw [if_neg (by omega)]; omega
  rw [key]
  simp only [List.mem_cons, List.not_mem_nil, or_false]
  exact (or_congr b1 (or_congr b2 (or_congr b3 (or_congr b4 (or_congr b5 (or_congr b6 b7)))))).symm
@[go_sem] theorem res_nameIsByte (n : Int) (h0 : 0 ≤ n) (h1 : n < 256) : res Γ 65 [.int .u8 n] = some [.bool (byteI n)] := by
  have h7 := seven_ix h0 h1
  have ht := byteI_iff h0 h1
  have hf := byteI_f h0 h1
  refine res_code (fn := name_isByte) rfl rfl ?_
  repeat' (first | (simp (disch := first | assumption | omega | decide | (simp only [List.length_cons, List.length_nil, List.length_append, List.length_replicate, List.length_map, List.length_set, List.length_take, List.length_drop, strs_len, ints_len, bools_len, aggs_len, vpv_len]; done) | (simp only [List.length_cons, List.length_nil, List.length_append, List.length_replicate, List.length_map, List.length_set, List.length_take, List.length_drop, strs_len, ints_len, bools_len, aggs_len, vpv_len]; omega)) only [go_sem]) | refine cond_split (fun hc => ?_) (fun hc => ?_) | refine gd_split_f (fun hc => ?_) (fun hc => ?_) | refine gd_split_t (fun hc => ?_) (fun hc => ?_))
  simp (disch := first | assumption | omega | decide | (simp only [List.length_cons, List.length_nil, List.length_append, List.length_replicate, List.length_map, List.length_set, List.length_take, List.length_drop, strs_len, ints_len, bools_len, aggs_len, vpv_len]; done) | (simp only [List.length_cons, List.length_nil, List.length_append, List.length_replicate, List.length_map, List.length_set, List.length_take, List.length_drop, strs_len, ints_len, bools_len, aggs_len, vpv_len]; omega)) only [go_sem, name_isByte]
  repeat' (first | (simp (disch := first | assumption | omega | decide | (simp only [List.length_cons, List.length_nil, List.length_append, List.length_replicate, List.length_map, List.length_set, List.length_take, List.length_drop, strs_len, ints_len, bools_len, aggs_len, vpv_len]; done) | (simp only [List.length_cons, List.length_nil, List.length_append, List.length_replicate, List.length_map, List.length_set, List.length_take, List.length_drop, strs_len, ints_len, bools_len, aggs_len, vpv_len]; omega)) only [go_sem]) | refine cond_split (fun hc => ?_) (fun hc => ?_) | refine gd_split_f (fun hc => ?_) (fun hc => ?_) | refine gd_split_t (fun hc => ?_) (fun hc => ?_))
  all_goals first
    | (rw [ht.2 (by omega)]; done)
    | (by_cases h9 : 0 ≤ ixB [95, 45, 58, 35, 37, 64, 61] n.toNat.toUInt8
       · rw [decide_eq_true h9, ht.2 (by have := h7.1 h9; omega)]
       · have h10 := fun h => h9 (h7.2 h)
         rw [decide_eq_false h9, hf (by omega)])
@[go_sem] theorem res_r8Byte (n : Int) (h0 : 0 ≤ n) (h1 : n < 256) : res Γ 43 [.int .u8 n] = some [.bool (byteI n)] := by
  have ht := byteI_iff h0 h1
  have hf := byteI_f h0 h1
  refine res_code (fn := r8_Byte) rfl rfl ?_
  repeat' (first | (simp (disch := first | assumption | omega | decide | (simp only [List.length_cons, List.length_nil, List.length_append, List.length_replicate, List.length_map, List.length_set, List.length_take, List.length_drop, strs_len, ints_len, bools_len, aggs_len, vpv_len]; done) | (simp only [List.length_cons, List.length_nil, List.length_append, List.length_replicate, List.length_map, List.length_set, List.length_take, List.length_drop, strs_len, ints_len, bools_len, aggs_len, vpv_len]; omega)) only [go_sem, r8_Byte]) | refine cond_split (fun hc => ?_) (fun hc => ?_) | refine gd_split_f (fun hc => ?_) (fun hc => ?_) | refine gd_split_t (fun hc => ?_) (fun hc => ?_))
  all_goals first
    | (rw [ht.2 (by omega)]; done)
    | (by_cases h9 : n = 61
       · rw [decide_eq_true h9, ht.2 (by omega)]
       · rw [decide_eq_false h9, hf (by omega)])
theorem single_cut {s : List UInt8} {i : Nat} (h : i < s.length) : (s.take (i + 1)).drop i = [s.getD i 0] := by
  rw [List.take_add_one, List.getElem?_eq_getElem h, List.drop_append_of_le_length (by rw [List.length_take]; omega), List.drop_eq_nil_of_le (by rw [List.length_take]; omega)]
  simp [List.getElem?_eq_getElem h]
theorem split_one {c : UInt8} (h : c ≠ 46) : splitB 46 [c] = [[c]] := by simp [splitB, h]
theorem byt_self {c : UInt8} : byteI (byt [c] 0) = byteOk c := by rw [byteI_byt]; rfl
@[go_sem] theorem res_nameIs1 (c : UInt8) : res Γ 56 [.str [c]] = some [.bool (byteOk c)] := by
  have hb : 0 ≤ byt [c] 0 := byt_nonneg
  have hb2 : byt [c] 0 < 256 := by have := @byt_le [c] 0; omega
  by_cases h : c = 46
  · subst h
    have e : splitB 46 [46] = [[], []] := by decide
    refine res_code (fn := name_Is) rfl rfl ?_
    simp (disch := first | assumption | omega | decide | (simp only [List.length_cons, List.length_nil, List.length_append, List.length_replicate, List.length_map, List.length_set, List.length_take, List.length_drop, strs_len, ints_len, bools_len, aggs_len, vpv_len]; done) | (simp only [List.length_cons, List.length_nil, List.length_append, List.length_replicate, List.length_map, List.length_set, List.length_take, List.length_drop, strs_len, ints_len, bools_len, aggs_len, vpv_len]; omega)) only [go_sem, name_Is, e]
    rw [W_loop (L := name_Is_l2) rfl]
    simp (disch := first | assumption | omega | decide | (simp only [List.length_cons, List.length_nil, List.length_append, List.length_replicate, List.length_map, List.length_set, List.length_take, List.length_drop, strs_len, ints_len, bools_len, aggs_len, vpv_len]; done) | (simp only [List.length_cons, List.length_nil, List.length_append, List.length_replicate, List.length_map, List.length_set, List.length_take, List.length_drop, strs_len, ints_len, bools_len, aggs_len, vpv_len]; omega)) only [go_sem, strs, List.map_cons, List.map_nil, iaddr_lit, PV.cells]
    rfl
  · refine res_code (fn := name_Is) rfl rfl ?_
    simp (disch := first | assumption | omega | decide | (simp only [List.length_cons, List.length_nil, List.length_append, List.length_replicate, List.length_map, List.length_set, List.length_take, List.length_drop, strs_len, ints_len, bools_len, aggs_len, vpv_len]; done) | (simp only [List.length_cons, List.length_nil, List.length_append, List.length_replicate, List.length_map, List.length_set, List.length_take, List.length_drop, strs_len, ints_len, bools_len, aggs_len, vpv_len]; omega)) only [go_sem, name_Is, split_one h]
    rw [W_loop (L := name_Is_l2) rfl]
    simp (disch := first | assumption | omega | decide | (simp only [List.length_cons, List.length_nil, List.length_append, List.length_replicate, List.length_map, List.length_set, List.length_take, List.length_drop, strs_len, ints_len, bools_len, aggs_len, vpv_len]; done) | (simp only [List.length_cons, List.length_nil, List.length_append, List.length_replicate, List.length_map, List.length_set, List.length_take, List.length_drop, strs_len, ints_len, bools_len, aggs_len, vpv_len]; omega)) only [go_sem, strs, List.map_cons, List.map_nil, iaddr_lit, PV.cells, List.cons_ne_nil]
    rw [W_loop (L := name_Is_l1) rfl]
    cases hc : byteOk c
    · simp (disch := first | assumption | omega | decide | (simp only [List.length_cons, List.length_nil, List.length_append, List.length_replicate, List.length_map, List.length_set, List.length_take, List.length_drop, strs_len, ints_len, bools_len, aggs_len, vpv_len]; done) | (simp only [List.length_cons, List.length_nil, List.length_append, List.length_replicate, List.length_map, List.length_set, List.length_take, List.length_drop, strs_len, ints_len, bools_len, aggs_len, vpv_len]; omega)) only [go_sem, byt_self, hc]
    · simp (disch := first | assumption | omega | decide | (simp only [List.length_cons, List.length_nil, List.length_append, List.length_replicate, List.length_map, List.length_set, List.length_take, List.length_drop, strs_len, ints_len, bools_len, aggs_len, vpv_len]; done) | (simp only [List.length_cons, List.length_nil, List.length_append, List.length_replicate, List.length_map, List.length_set, List.length_take, List.length_drop, strs_len, ints_len, bools_len, aggs_len, vpv_len]; omega)) only [go_sem, byt_self, hc]
      rw [W_loop (L := name_Is_l1) rfl]
      simp (disch := first | assumption | omega | decide | (simp only [List.length_cons, List.length_nil, List.length_append, List.length_replicate, List.length_map, List.length_set, List.length_take, List.length_drop, strs_len, ints_len, bools_len, aggs_len, vpv_len]; done) | (simp only [List.length_cons, List.length_nil, List.length_append, List.length_replicate, List.length_map, List.length_set, List.length_take, List.length_drop, strs_len, ints_len, bools_len, aggs_len, vpv_len]; omega)) only [go_sem]
      rw [W_loop (L := name_Is_l2) rfl]
      simp (disch := first | assumption | omega | decide | (simp only [List.length_cons, List.length_nil, List.length_append, List.length_replicate, List.length_map, List.length_set, List.length_take, List.length_drop, strs_len, ints_len, bools_len, aggs_len, vpv_len]; done) | (simp only [List.length_cons, List.length_nil, List.length_append, List.length_replicate, List.length_map, List.length_set, List.length_take, List.length_drop, strs_len, ints_len, bools_len, aggs_len, vpv_len]; omega)) only [go_sem]
end Ab
/- strings.IndexAny, where what is looked for is ASCII. -/
namespace Ab
open Go (IntKind BinOp UnOp)
/-- Where the first byte stands that is wanted: -1: nowhere. -/
def ixP (p : UInt8 → Bool) : List UInt8 → Int
  | [] => -1
  | b :: l => if p b then 0 else if ixP p l = -1 then -1 else ixP p l + 1
theorem ixP_none {p : UInt8 → Bool} : ∀ {s : List UInt8}, (∀ j, j < s.length → p (s.getD j 0) = false) → ixP p s = -1
  | [], _ => rfl
  | b :: l, h => by
    have h0 := h 0 (by simp)
    have := ixP_none (s := l) (p := p) fun j hj => by have := h (j + 1) (by simpa using hj); simpa using this
    simp only [List.getD_cons_zero] at h0
    simp [ixP, h0, this]
theorem ixP_some {p : UInt8 → Bool} : ∀ {s : List UInt8} {i : Nat}, i < s.length → p (s.getD i 0) = true → (∀ j, j < i → p (s.getD j 0) = false) → ixP p s = i
  | [], _, h, _, _ => by simp at h
  | b :: l, 0, _, h, _ => by simp only [List.getD_cons_zero] at h; simp [ixP, h]
  | b :: l, i + 1, hi, h, hn => by
    have h0 := hn 0 (by omega)
    have := ixP_some (s := l) (p := p) (i := i) (by simpa using hi) (by simpa using h) fun j hj => by have := hn (j + 1) (by omega); simpa using this
    simp only [List.getD_cons_zero] at h0
    simp only [ixP, h0, this, Bool.false_eq_true, if_false]
    rw [if_neg (by omega)]; omega
theorem ixP_range {p : UInt8 → Bool} : ∀ {s : List UInt8}, -1 ≤ ixP p s ∧ ixP p s < s.length
  | [] => by simp [ixP]
  | b :: l => by have := ixP_range (p := p) (s := l); simp only [ixP, List.length_cons]; split <;> (try split) <;> omega

/-! ### Runes -/
theorem get_mk (s : List UInt8) (j : Nat) : (⟨s.toArray⟩ : ByteArray).get! j = s.getD j 0 := by
  simp only [ByteArray.get!, List.getElem!_toArray, List.getD_eq_getElem?_getD]
  by_cases h : j < s.length
  · simp [h]
  · simp [h]; rfl
theorem rune_ascii {s : List UInt8} {i : Nat} (h : (s.getD i 0).toNat < 128) : runeAt s i = ((s.getD i 0).toNat, 1) := by
  unfold runeAt Go.Utf8.decode
  simp only [get_mk, Nat.add_zero]
  rw [if_pos h]
theorem rune_other {s : List UInt8} {i : Nat} (hi : i < s.length) (h : ¬ (s.getD i 0).toNat < 128) :
    128 ≤ (runeAt s i).1 ∧ (runeAt s i).1 < 1114112 ∧ 1 ≤ (runeAt s i).2 ∧ i + (runeAt s i).2 ≤ s.length ∧ ∀ j, j < (runeAt s i).2 → 128 ≤ (s.getD (i + j) 0).toNat := by
  have one : 128 ≤ (65533 : Nat) ∧ (65533 : Nat) < 1114112 ∧ 1 ≤ 1 ∧ i + 1 ≤ s.length ∧ ∀ j, j < 1 → 128 ≤ (s.getD (i + j) 0).toNat := by
    refine ⟨by omega, by omega, by omega, by omega, fun j hj => ?_⟩
    obtain rfl : j = 0 := by omega
    simpa using h
  have hsz : (⟨s.toArray⟩ : ByteArray).size = s.length := by simp [ByteArray.size]
  unfold runeAt Go.Utf8.decode
  simp only [get_mk, Nat.add_zero, hsz]
  rw [if_neg h]
  have hc : ∀ k, (decide (i + k < s.length) && (s.getD (i + k) 0).toNat / 64 == 2) = true → i + k < s.length ∧ 128 ≤ (s.getD (i + k) 0).toNat := by
    intro k hk
    simp only [Bool.and_eq_true, decide_eq_true_eq, beq_iff_eq] at hk
    omega
  split
  · rename_i h2
    simp only [Bool.and_eq_true] at h2
    have h3 := hc 1 (by simpa using h2.2)
    split
    · refine ⟨by assumption, by simp only; omega, by simp only; omega, by simp only; omega, fun j hj => ?_⟩
      simp only at hj
      match j, hj with
      | 0, _ => simpa using h
      | 1, _ => exact h3.2
    · exact one
  · split
    · rename_i h2
      simp only [Bool.and_eq_true] at h2
      have h3 := hc 1 (by simpa using h2.1.2)
      have h4 := hc 2 (by simpa using h2.2)
      split
      · rename_i h5
        simp only [Bool.and_eq_true, decide_eq_true_eq] at h5
        refine ⟨by simp only; omega, by simp only; omega, by simp only; omega, by simp only; omega, fun j hj => ?_⟩
        simp only at hj
        match j, hj with
        | 0, _ => simpa using h
        | 1, _ => exact h3.2
        | 2, _ => exact h4.2
      · exact one
    · split
      · rename_i h2
        simp only [Bool.and_eq_true] at h2
        have h3 := hc 1 (by simpa using h2.1.1.2)
        have h4 := hc 2 (by simpa using h2.1.2)
        have h6 := hc 3 (by simpa using h2.2)
        split
        · rename_i h5
          simp only [Bool.and_eq_true, decide_eq_true_eq, Go.Utf8.valid, Bool.or_eq_true] at h5
          refine ⟨by simp only; omega, by simp only; omega, by simp only; omega, by simp only; omega, fun j hj => ?_⟩
          simp only at hj
          match j, hj with
          | 0, _ => simpa using h
          | 1, _ => exact h3.2
          | 2, _ => exact h4.2
          | 3, _ => exact h6.2
        · exact one
      · exact one
theorem enc_last {r : Nat} (h : 128 ≤ r) : 2 ≤ (Go.Utf8.encode r).data.toList.length ∧ (Go.Utf8.encode r).data.toList.length ≤ 4 ∧ 128 ≤ byt (Go.Utf8.encode r).data.toList ((Go.Utf8.encode r).data.toList.length - 1) := by
  have b : ∀ n : Nat, n < 64 → 128 ≤ ((UInt8.ofNat (128 + n)).toNat : Int) := by intro n hn; simp; omega
  unfold Go.Utf8.encode
  have h0 : ∀ c : Nat, ¬ c < 128 → 2 ≤ (if c < 128 then (⟨#[UInt8.ofNat c]⟩ : ByteArray) else if c < 2048 then ⟨#[UInt8.ofNat (192 + c / 64), UInt8.ofNat (128 + c % 64)]⟩ else if c < 65536 then ⟨#[UInt8.ofNat (224 + c / 4096), UInt8.ofNat (128 + c / 64 % 64), UInt8.ofNat (128 + c % 64)]⟩ else ⟨#[UInt8.ofNat (240 + c / 262144), UInt8.ofNat (128 + c / 4096 % 64), UInt8.ofNat (128 + c / 64 % 64), UInt8.ofNat (128 + c % 64)]⟩).data.toList.length ∧
      (if c < 128 then (⟨#[UInt8.ofNat c]⟩ : ByteArray) else if c < 2048 then ⟨#[UInt8.ofNat (192 + c / 64), UInt8.ofNat (128 + c % 64)]⟩ else if c < 65536 then ⟨#[UInt8.ofNat (224 + c / 4096), UInt8.ofNat (128 + c / 64 % 64), UInt8.ofNat (128 + c % 64)]⟩ else ⟨#[UInt8.ofNat (240 + c / 262144), UInt8.ofNat (128 + c / 4096 % 64), UInt8.ofNat (128 + c / 64 % 64), UInt8.ofNat (128 + c % 64)]⟩).data.toList.length ≤ 4 ∧
      128 ≤ byt (if c < 128 then (⟨#[UInt8.ofNat c]⟩ : ByteArray) else if c < 2048 then ⟨#[UInt8.ofNat (192 + c / 64), UInt8.ofNat (128 + c % 64)]⟩ else if c < 65536 then ⟨#[UInt8.ofNat (224 + c / 4096), UInt8.ofNat (128 + c / 64 % 64), UInt8.ofNat (128 + c % 64)]⟩ else ⟨#[UInt8.ofNat (240 + c / 262144), UInt8.ofNat (128 + c / 4096 % 64), UInt8.ofNat (128 + c / 64 % 64), UInt8.ofNat (128 + c % 64)]⟩).data.toList
        ((if c < 128 then (⟨#[UInt8.ofNat c]⟩ : ByteArray) else if c < 2048 then ⟨#[UInt8.ofNat (192 + c / 64), UInt8.ofNat (128 + c % 64)]⟩ else if c < 65536 then ⟨#[UInt8.ofNat (224 + c / 4096), UInt8.ofNat (128 + c / 64 % 64), UInt8.ofNat (128 + c % 64)]⟩ else ⟨#[UInt8.ofNat (240 + c / 262144), UInt8.ofNat (128 + c / 4096 % 64), UInt8.ofNat (128 + c / 64 % 64), UInt8.ofNat (128 + c % 64)]⟩).data.toList.length - 1) := by
    intro c hc
    rw [if_neg hc]
    split
    · exact ⟨by simp, by simp, b _ (by omega)⟩
    · split
      · exact ⟨by simp, by simp, b _ (by omega)⟩
      · exact ⟨by simp, by simp, b _ (by omega)⟩
  by_cases hv : Go.Utf8.valid (r : Int) = true
  · simp only [hv, if_true, Int.toNat_natCast]
    exact h0 r (by omega)
  · simp only [hv]
    exact h0 65533 (by omega)

/-! ### Sets of ASCII bytes -/
def setB (chars : List UInt8) : List Bool := (List.range 256).map fun i => chars.any fun c => c.toNat == i
theorem setB_len {chars} : (setB chars).length = 256 := by simp [setB]
theorem setB_get {chars : List UInt8} {i : Nat} (h : i < 256) : (setB chars).getD i false = chars.any fun c => c.toNat == i := by
  simp [setB, h]
theorem setB_set {chars : List UInt8} {c : UInt8} : (setB chars).set c.toNat true = setB (chars ++ [c]) := by
  apply List.ext_getElem
  · simp [setB]
  · intro i h1 h2
    have hi : i < 256 := by simpa [setB] using h2
    rw [List.getElem_set]
    simp only [setB, List.getElem_map, List.getElem_range, List.any_append, List.any_cons, List.any_nil, Bool.or_false]
    by_cases h : c.toNat = i
    · simp [h]
    · have : (c.toNat == i) = false := by simpa using h
      simp [h, this]
theorem makeASCIISet_l1_ok (s : List UInt8) (hs : s.length < 1000000000) (ha : ∀ b ∈ s, b.toNat < 128) (Q : Out → Prop) : ∀ (rest done : List UInt8) (i : Nat), s.drop i = rest → done.length = i → done ++ rest = s →
    (Q (.nrm, [(2, .bx 0 0)], [.box ((bools (setB s)).map .p)])) →
    Wp Γ strings_makeASCIISet_l1 [(0, .p (.str s)), (2, .bx 0 0), (4, .p (.int .i64 (i : Int)))] [.box ((bools (setB done)).map .p)] (InBlk [2] 0 Q) := by
  intro rest
  induction rest with
  | nil =>
    intro done i h1 h2 h3 hQ
    have h4 : s.length ≤ i := by simpa using h1
    rw [List.append_nil] at h3
    subst h3
    rw [W_loop (L := strings_makeASCIISet_l1) rfl]
    simp (disch := first | assumption | omega | decide | (simp only [List.length_cons, List.length_nil, List.length_append, List.length_replicate, List.length_map, List.length_set, List.length_take, List.length_drop, strs_len, ints_len, bools_len, aggs_len, vpv_len]; done) | (simp only [List.length_cons, List.length_nil, List.length_append, List.length_replicate, List.length_map, List.length_set, List.length_take, List.length_drop, strs_len, ints_len, bools_len, aggs_len, vpv_len]; omega)) only [go_sem]
    exact hQ
  | cons b rest ih =>
    intro done i h1 h2 h3 hQ
    have h4 : i < s.length := by
      by_cases h4 : i < s.length
      · exact h4
      · rw [List.drop_of_length_le (by omega)] at h1; cases h1
    have hb : b.toNat < 128 := ha b (by rw [← h3]; simp)
    have e : byt s i = b.toNat := by
      rw [List.drop_eq_getElem_cons h4] at h1
      cases h1
      simp [byt, List.getElem?_eq_getElem h4]
    have hl := @setB_len done
    rw [W_loop (L := strings_makeASCIISet_l1) rfl]
    simp (disch := first | assumption | omega | decide | (simp only [List.length_cons, List.length_nil, List.length_append, List.length_replicate, List.length_map, List.length_set, List.length_take, List.length_drop, strs_len, ints_len, bools_len, aggs_len, vpv_len]; done) | (simp only [List.length_cons, List.length_nil, List.length_append, List.length_replicate, List.length_map, List.length_set, List.length_take, List.length_drop, strs_len, ints_len, bools_len, aggs_len, vpv_len]; omega)) only [go_sem, e, setB_set]
    refine ih (done ++ [b]) (i + 1) ?_ (by simp [h2]) (by simp [h3]) hQ
    rw [List.drop_eq_getElem_cons h4] at h1
    exact (List.cons.inj h1).2
@[go_sem] theorem res_makeASCIISet (s : List UInt8) (hs : s.length < 1000000000) (ha : ∀ b ∈ s, b.toNat < 128) : res Γ 84 [.str s] = some [.agg (bools (setB s)), .bool true] := by
  have hl := @setB_len s
  have e0 : List.replicate 256 false = setB [] := by decide +kernel
  refine res_code (fn := strings_makeASCIISet) rfl rfl ?_
  simp (disch := first | assumption | omega | decide | (simp only [List.length_cons, List.length_nil, List.length_append, List.length_replicate, List.length_map, List.length_set, List.length_take, List.length_drop, strs_len, ints_len, bools_len, aggs_len, vpv_len]; done) | (simp only [List.length_cons, List.length_nil, List.length_append, List.length_replicate, List.length_map, List.length_set, List.length_take, List.length_drop, strs_len, ints_len, bools_len, aggs_len, vpv_len]; omega)) only [go_sem, strings_makeASCIISet]
  rw [e0]
  refine makeASCIISet_l1_ok s hs ha _ s [] 0 rfl rfl rfl ?_
  simp (disch := first | assumption | omega | decide | (simp only [List.length_cons, List.length_nil, List.length_append, List.length_replicate, List.length_map, List.length_set, List.length_take, List.length_drop, strs_len, ints_len, bools_len, aggs_len, vpv_len]; done) | (simp only [List.length_cons, List.length_nil, List.length_append, List.length_replicate, List.length_map, List.length_set, List.length_take, List.length_drop, strs_len, ints_len, bools_len, aggs_len, vpv_len]; omega)) only [go_sem]
@[go_sem] theorem res_contains (l : List Bool) (c : Int) (hl : l.length = 256) (h0 : 0 ≤ c) (h1 : c < 256) : res Γ 83 [.ptr (bools l), .int .u8 c] = some [.bool (l.getD c.toNat false)] := by
  refine res_code (fn := strings_asciiSet_contains) rfl rfl ?_
  simp (disch := first | assumption | omega | decide | (simp only [List.length_cons, List.length_nil, List.length_append, List.length_replicate, List.length_map, List.length_set, List.length_take, List.length_drop, strs_len, ints_len, bools_len, aggs_len, vpv_len]; done) | (simp only [List.length_cons, List.length_nil, List.length_append, List.length_replicate, List.length_map, List.length_set, List.length_take, List.length_drop, strs_len, ints_len, bools_len, aggs_len, vpv_len]; omega)) only [go_sem, strings_asciiSet_contains]

/-! ### One rune in an ASCII text -/
theorem ixB_none {s : List UInt8} {c : UInt8} : (∀ b ∈ s, b ≠ c) → ixB s c = -1 := by
  induction s with
  | nil => intro _; rfl
  | cons b l ih =>
    intro h
    have h0 : (b == c) = false := by simpa using h b (by simp)
    simp [ixB, h0, ih fun x hx => h x (by simp [hx])]
theorem mem_drop_ascii {s : List UInt8} {c : Int} {n : Nat} (ha : ∀ b ∈ s, b.toNat < 128) (h0 : 128 ≤ c) (h1 : c < 256) : ixB (s.drop n) c.toNat.toUInt8 = -1 := by
  apply ixB_none
  intro b hb h
  have := ha b (List.mem_of_mem_drop hb)
  rw [h] at this
  simp at this
  omega
theorem wrap_i32 {x : Int} (h0 : -2147483648 ≤ x) (h1 : x ≤ 2147483647) : IntKind.i32.wrap x = x := by
  simp only [IntKind.wrap, IntKind.bits, IntKind.signed, Bool.true_and, decide_eq_true_eq, ge_iff_le]
  have e : (2 : Int) ^ 32 = 4294967296 := by decide
  have e2 : (2 : Int) ^ (32 - 1) = 2147483648 := by decide
  rw [e, e2]
  split <;> omega
def validR (r : Int) : Bool := decide ((0 ≤ r ∧ r < 55296) ∨ (57343 < r ∧ r ≤ 1114111))
@[go_sem] theorem res_ValidRune (r : Int) : res Γ 89 [.int .i32 r] = some [.bool (validR r)] := by
  refine res_code (fn := unicode_utf8_ValidRune) rfl rfl ?_
  repeat' (first | (simp (disch := first | assumption | omega | decide | (simp only [List.length_cons, List.length_nil, List.length_append, List.length_replicate, List.length_map, List.length_set, List.length_take, List.length_drop, strs_len, ints_len, bools_len, aggs_len, vpv_len]; done) | (simp only [List.length_cons, List.length_nil, List.length_append, List.length_replicate, List.length_map, List.length_set, List.length_take, List.length_drop, strs_len, ints_len, bools_len, aggs_len, vpv_len]; omega)) only [go_sem, unicode_utf8_ValidRune]) | refine cond_split (fun hc => ?_) (fun hc => ?_) | refine gd_split_f (fun hc => ?_) (fun hc => ?_) | refine gd_split_t (fun hc => ?_) (fun hc => ?_))
  all_goals (try simp only [Option.some.injEq, List.cons.injEq, PV.bool.injEq, and_true, validR])
  all_goals (symm; first | (apply decide_eq_true; omega) | (apply decide_eq_false; omega))
theorem IndexRune_l1_ok (s : List UInt8) (_hs : s.length < 1000000000) (ha : ∀ b ∈ s, b.toNat < 128) (Q : Out → Prop) : ∀ (k i : Nat), i + k = s.length →
    (Q (.nrm, [], [.box (iterCells s s.length)])) →
    Wp Γ strings_IndexRune_l1 [(175, .bx 0 0)] [.box (iterCells s i)] (InBlk [] 9 Q) := by
  intro k
  induction k with
  | zero =>
    intro i hi hQ
    obtain rfl : i = s.length := by omega
    rw [W_loop (L := strings_IndexRune_l1) rfl]
    simp (disch := first | assumption | omega | decide | (simp only [List.length_cons, List.length_nil, List.length_append, List.length_replicate, List.length_map, List.length_set, List.length_take, List.length_drop, strs_len, ints_len, bools_len, aggs_len, vpv_len]; done) | (simp only [List.length_cons, List.length_nil, List.length_append, List.length_replicate, List.length_map, List.length_set, List.length_take, List.length_drop, strs_len, ints_len, bools_len, aggs_len, vpv_len]; omega)) only [go_sem]
    exact hQ
  | succ k ih =>
    intro i hi hQ
    have hb : (s.getD i 0).toNat < 128 := ha _ (by rw [List.getD_eq_getElem?_getD, List.getElem?_eq_getElem (show i < s.length by omega)]; exact List.getElem_mem _)
    have e := rune_ascii hb
    rw [W_loop (L := strings_IndexRune_l1) rfl]
    simp (disch := first | assumption | omega | decide | (simp only [List.length_cons, List.length_nil, List.length_append, List.length_replicate, List.length_map, List.length_set, List.length_take, List.length_drop, strs_len, ints_len, bools_len, aggs_len, vpv_len]; done) | (simp only [List.length_cons, List.length_nil, List.length_append, List.length_replicate, List.length_map, List.length_set, List.length_take, List.length_drop, strs_len, ints_len, bools_len, aggs_len, vpv_len]; omega)) only [go_sem, e]
    exact ih (i + 1) (by omega) hQ
theorem IndexRune_l5_ok (s sub : List UInt8) (last : Nat) (hs : s.length < 1000000000) (ha : ∀ b ∈ s, b.toNat < 128) (hl : last < sub.length) (_hlast : sub.length ≤ 4) (hb : 128 ≤ byt sub last) (Q : Out → Prop)
    (h1 : Q (.nrm, [], [])) (h2 : Q (.ret, [(4, .p (.int .i64 (-1)))], [])) :
    Wp Γ strings_IndexRune_l5 [(0, .p (.str s)), (7, .p (.str sub)), (8, .p (.int .i64 (last : Int))), (9, .p (.int .i64 (last : Int)))] [] (InBlk [] 1 Q) := by
  have hb2 := @byt_le sub last
  by_cases h : last < s.length
  · have hs1 : byt s last < 128 := by
      have := ha _ (List.getElem_mem h)
      simp only [byt, List.getD_eq_getElem?_getD, List.getElem?_eq_getElem h, Option.getD_some]
      omega
    have hx := mem_drop_ascii (n := (((last : Nat) : Int) + 1).toNat) ha hb (by omega)
    rw [W_loop (L := strings_IndexRune_l5) rfl]
    simp (disch := first | assumption | omega | decide | (simp only [List.length_cons, List.length_nil, List.length_append, List.length_replicate, List.length_map, List.length_set, List.length_take, List.length_drop, strs_len, ints_len, bools_len, aggs_len, vpv_len]; done) | (simp only [List.length_cons, List.length_nil, List.length_append, List.length_replicate, List.length_map, List.length_set, List.length_take, List.length_drop, strs_len, ints_len, bools_len, aggs_len, vpv_len]; omega)) only [go_sem, hx]
    exact h2
  · rw [W_loop (L := strings_IndexRune_l5) rfl]
    simp (disch := first | assumption | omega | decide | (simp only [List.length_cons, List.length_nil, List.length_append, List.length_replicate, List.length_map, List.length_set, List.length_take, List.length_drop, strs_len, ints_len, bools_len, aggs_len, vpv_len]; done) | (simp only [List.length_cons, List.length_nil, List.length_append, List.length_replicate, List.length_map, List.length_set, List.length_take, List.length_drop, strs_len, ints_len, bools_len, aggs_len, vpv_len]; omega)) only [go_sem]
    exact h1
set_option maxRecDepth 100000 in
theorem res_IndexRune_other (s : List UInt8) (r : Nat) (hs : s.length < 1000000000) (ha : ∀ b ∈ s, b.toNat < 128) (hr : 128 ≤ r) (hr2 : r < 1114112) : res Γ 47 [.str s, .int .i32 r] = some [.int .i64 (-1)] := by
  have hl := enc_last hr
  refine res_code (fn := strings_IndexRune) rfl rfl ?_
  simp (disch := first | assumption | omega | decide | (simp only [List.length_cons, List.length_nil, List.length_append, List.length_replicate, List.length_map, List.length_set, List.length_take, List.length_drop, strs_len, ints_len, bools_len, aggs_len, vpv_len]; done) | (simp only [List.length_cons, List.length_nil, List.length_append, List.length_replicate, List.length_map, List.length_set, List.length_take, List.length_drop, strs_len, ints_len, bools_len, aggs_len, vpv_len]; omega)) only [go_sem, strings_IndexRune]
  refine cond_split (fun hc => ?_) (fun hc => ?_)
  · simp (disch := first | assumption | omega | decide | (simp only [List.length_cons, List.length_nil, List.length_append, List.length_replicate, List.length_map, List.length_set, List.length_take, List.length_drop, strs_len, ints_len, bools_len, aggs_len, vpv_len]; done) | (simp only [List.length_cons, List.length_nil, List.length_append, List.length_replicate, List.length_map, List.length_set, List.length_take, List.length_drop, strs_len, ints_len, bools_len, aggs_len, vpv_len]; omega)) only [go_sem]
    refine IndexRune_l1_ok s hs ha _ s.length 0 (by omega) ?_
    simp (disch := first | assumption | omega | decide | (simp only [List.length_cons, List.length_nil, List.length_append, List.length_replicate, List.length_map, List.length_set, List.length_take, List.length_drop, strs_len, ints_len, bools_len, aggs_len, vpv_len]; done) | (simp only [List.length_cons, List.length_nil, List.length_append, List.length_replicate, List.length_map, List.length_set, List.length_take, List.length_drop, strs_len, ints_len, bools_len, aggs_len, vpv_len]; omega)) only [go_sem]
  · simp (disch := first | assumption | omega | decide | (simp only [List.length_cons, List.length_nil, List.length_append, List.length_replicate, List.length_map, List.length_set, List.length_take, List.length_drop, strs_len, ints_len, bools_len, aggs_len, vpv_len]; done) | (simp only [List.length_cons, List.length_nil, List.length_append, List.length_replicate, List.length_map, List.length_set, List.length_take, List.length_drop, strs_len, ints_len, bools_len, aggs_len, vpv_len]; omega)) only [go_sem]
    have key := @condC_split
    refine key ?_ ?_ <;> clear key <;> intro hc
    · simp (disch := first | assumption | omega | decide | (simp only [List.length_cons, List.length_nil, List.length_append, List.length_replicate, List.length_map, List.length_set, List.length_take, List.length_drop, strs_len, ints_len, bools_len, aggs_len, vpv_len]; done) | (simp only [List.length_cons, List.length_nil, List.length_append, List.length_replicate, List.length_map, List.length_set, List.length_take, List.length_drop, strs_len, ints_len, bools_len, aggs_len, vpv_len]; omega)) only [go_sem]
    · simp (disch := first | assumption | omega | decide | (simp only [List.length_cons, List.length_nil, List.length_append, List.length_replicate, List.length_map, List.length_set, List.length_take, List.length_drop, strs_len, ints_len, bools_len, aggs_len, vpv_len]; done) | (simp only [List.length_cons, List.length_nil, List.length_append, List.length_replicate, List.length_map, List.length_set, List.length_take, List.length_drop, strs_len, ints_len, bools_len, aggs_len, vpv_len]; omega)) only [go_sem]
      have e : (((Go.Utf8.encode (r : Int)).data.toList.length : Nat) : Int) - 1 = (((Go.Utf8.encode (r : Int)).data.toList.length - 1 : Nat) : Int) := by omega
      rw [e]
      refine IndexRune_l5_ok s _ _ hs ha (by omega) (by omega) hl.2.2 _ ?_ ?_
      · simp (disch := first | assumption | omega | decide | (simp only [List.length_cons, List.length_nil, List.length_append, List.length_replicate, List.length_map, List.length_set, List.length_take, List.length_drop, strs_len, ints_len, bools_len, aggs_len, vpv_len]; done) | (simp only [List.length_cons, List.length_nil, List.length_append, List.length_replicate, List.length_map, List.length_set, List.length_take, List.length_drop, strs_len, ints_len, bools_len, aggs_len, vpv_len]; omega)) only [go_sem]
      · simp (disch := first | assumption | omega | decide | (simp only [List.length_cons, List.length_nil, List.length_append, List.length_replicate, List.length_map, List.length_set, List.length_take, List.length_drop, strs_len, ints_len, bools_len, aggs_len, vpv_len]; done) | (simp only [List.length_cons, List.length_nil, List.length_append, List.length_replicate, List.length_map, List.length_set, List.length_take, List.length_drop, strs_len, ints_len, bools_len, aggs_len, vpv_len]; omega)) only [go_sem]
set_option maxRecDepth 20000 in
theorem res_IndexRune_ascii (s : List UInt8) (r : Nat) (hr : r < 128) : res Γ 47 [.str s, .int .i32 r] = some [.int .i64 (ixB s r.toUInt8)] := by
  refine res_code (fn := strings_IndexRune) rfl rfl ?_
  simp (disch := first | assumption | omega | decide | (simp only [List.length_cons, List.length_nil, List.length_append, List.length_replicate, List.length_map, List.length_set, List.length_take, List.length_drop, strs_len, ints_len, bools_len, aggs_len, vpv_len]; done) | (simp only [List.length_cons, List.length_nil, List.length_append, List.length_replicate, List.length_map, List.length_set, List.length_take, List.length_drop, strs_len, ints_len, bools_len, aggs_len, vpv_len]; omega)) only [go_sem, strings_IndexRune, wrap_u8]
/-! ### strings.IndexAny -/
theorem IndexAny_l2_ok (s chars : List UInt8) (hs : s.length < 1000000000) (Q : Out → Prop) : ∀ (k i : Nat), i + k = s.length → (∀ j, j < i → chars.contains (s.getD j 0) = false) →
    (ixP chars.contains s < 0 → Q (.nrm, [], [.box ((bools (setB chars)).map .p)])) → (0 ≤ ixP chars.contains s → Q (.ret, [(4, .p (.int .i64 (ixP chars.contains s)))], [.box ((bools (setB chars)).map .p)])) →
    Wp Γ strings_IndexAny_l2 [(0, .p (.str s)), (6, .bx 0 0), (8, .p (.int .i64 (i : Int)))] [.box ((bools (setB chars)).map .p)] (InBlk [] 0 Q) := by
  have hl := @setB_len chars
  intro k
  induction k with
  | zero =>
    intro i hi hn h1 h2
    obtain rfl : i = s.length := by omega
    rw [W_loop (L := strings_IndexAny_l2) rfl]
    simp (disch := first | assumption | omega | decide | (simp only [List.length_cons, List.length_nil, List.length_append, List.length_replicate, List.length_map, List.length_set, List.length_take, List.length_drop, strs_len, ints_len, bools_len, aggs_len, vpv_len]; done) | (simp only [List.length_cons, List.length_nil, List.length_append, List.length_replicate, List.length_map, List.length_set, List.length_take, List.length_drop, strs_len, ints_len, bools_len, aggs_len, vpv_len]; omega)) only [go_sem]
    exact h1 (by rw [ixP_none hn]; omega)
  | succ k ih =>
    intro i hi hn h1 h2
    have hb := @byt_nonneg s i
    have hb2 := @byt_le s i
    have e : (setB chars).getD (byt s i).toNat false = chars.contains (s.getD i 0) := by
      rw [setB_get (by omega)]
      simp only [byt, Int.toNat_natCast, List.contains_eq_any_beq]
      congr 1
      funext c
      rw [Bool.eq_iff_iff]
      simp only [beq_iff_eq]
      exact ⟨fun h => UInt8.toNat_inj.1 h.symm, fun h => by rw [h]⟩
    rw [W_loop (L := strings_IndexAny_l2) rfl]
    simp (disch := first | assumption | omega | decide | (simp only [List.length_cons, List.length_nil, List.length_append, List.length_replicate, List.length_map, List.length_set, List.length_take, List.length_drop, strs_len, ints_len, bools_len, aggs_len, vpv_len]; done) | (simp only [List.length_cons, List.length_nil, List.length_append, List.length_replicate, List.length_map, List.length_set, List.length_take, List.length_drop, strs_len, ints_len, bools_len, aggs_len, vpv_len]; omega)) only [go_sem, e]
    refine condC_split (fun hc => ?_) (fun hc => ?_)
    · simp (disch := first | assumption | omega | decide | (simp only [List.length_cons, List.length_nil, List.length_append, List.length_replicate, List.length_map, List.length_set, List.length_take, List.length_drop, strs_len, ints_len, bools_len, aggs_len, vpv_len]; done) | (simp only [List.length_cons, List.length_nil, List.length_append, List.length_replicate, List.length_map, List.length_set, List.length_take, List.length_drop, strs_len, ints_len, bools_len, aggs_len, vpv_len]; omega)) only [go_sem]
      rw [ixP_some (by omega) hc hn] at h2
      exact h2 (by omega)
    · simp (disch := first | assumption | omega | decide | (simp only [List.length_cons, List.length_nil, List.length_append, List.length_replicate, List.length_map, List.length_set, List.length_take, List.length_drop, strs_len, ints_len, bools_len, aggs_len, vpv_len]; done) | (simp only [List.length_cons, List.length_nil, List.length_append, List.length_replicate, List.length_map, List.length_set, List.length_take, List.length_drop, strs_len, ints_len, bools_len, aggs_len, vpv_len]; omega)) only [go_sem]
      refine ih (i + 1) (by omega) (fun j hj => ?_) h1 h2
      by_cases h : j = i
      · subst h; exact hc
      · exact hn j (by omega)
end Ab
