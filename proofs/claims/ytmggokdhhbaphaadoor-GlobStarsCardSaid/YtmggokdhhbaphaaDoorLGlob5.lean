import Derived.Test.YtmggokdhhbaphaaDoorLAny
import Derived.Test.YtmggokdhhbaphaaDoorPExp
/- Plain patterns, stars, choices: what the laws on patterns say, in plain Lean. -/
namespace Ab
theorem byteOk_no {c : UInt8} (h : byteOk c = true) : c ≠ 42 ∧ c ≠ 63 ∧ c ≠ 91 ∧ c ≠ 46 ∧ special c = false := by
  refine ⟨?_, ?_, ?_, ?_, ?_⟩
  · rintro rfl; revert h; decide
  · rintro rfl; revert h; decide
  · rintro rfl; revert h; decide
  · rintro rfl; revert h; decide
  · cases hs : special c
    · rfl
    · exfalso
      simp only [special, Bool.or_eq_true, beq_iff_eq] at hs
      rcases hs with (rfl | rfl) | rfl <;> revert h <;> decide
def single (c : UInt8) : Tok := (false, fillN none256 c.toNat 1)
theorem single_in {c x : UInt8} : inT (single c) x = (c == x) := by
  unfold inT single
  rw [one_get none256_len, none256_get, Bool.false_or]
theorem toks_lit {c : UInt8} {r : List UInt8} (h : byteOk c = true) : toksF (c :: r) = (toksF r).map (single c :: ·) := by
  obtain ⟨h1, h2, h3, _⟩ := byteOk_no h
  rw [toksF, if_neg h1, if_neg h2, if_neg h3, if_pos h]
  rfl
theorem toks_plain : ∀ {p r : List UInt8} {t : List Tok}, (∀ c ∈ p, byteOk c = true) → toksF r = some t → toksF (p ++ r) = some (p.map single ++ t)
  | [], _, _, _, h => h
  | c :: p, r, t, hp, h => by
    rw [List.cons_append, toks_lit (hp c (by simp)), toks_plain (fun x hx => hp x (by simp [hx])) h]
    rfl
theorem toks_star {r : List UInt8} {t : List Tok} (h : toksF r = some t) : toksF (42 :: r) = some ((true, none256) :: t) := by
  rw [toksF, if_pos rfl, h]; rfl
theorem toks_nil : toksF [] = some [] := by rw [toksF]
theorem toks_all {p : List UInt8} (hp : ∀ c ∈ p, byteOk c = true) : toksF p = some (p.map single) := by
  have := toks_plain hp toks_nil
  simpa using this
theorem Mt_singles {p s : List UInt8} : Mt (p.map single) s ↔ s = p := by
  induction p generalizing s with
  | nil => rfl
  | cons c p ih =>
    rw [List.map_cons, Mt_set rfl]
    constructor
    · rintro ⟨x, r, rfl, hx, hr⟩
      rw [single_in, beq_iff_eq] at hx
      rw [ih] at hr
      rw [hx, hr]
    · rintro rfl
      exact ⟨c, p, rfl, by rw [single_in]; simp, ih.2 rfl⟩
/-- Begins with one text, ends in another one, and is long enough. -/
def wantS (a b s : List UInt8) : Prop := a.length + b.length ≤ s.length ∧ s.take a.length = a ∧ s.drop (s.length - b.length) = b
theorem Mt_onestar {a b s : List UInt8} : Mt (a.map single ++ (true, none256) :: b.map single) s ↔ wantS a b s := by
  rw [Mt_app]
  constructor
  · rintro ⟨x, y, rfl, h1, h2⟩
    rw [Mt_singles] at h1
    subst h1
    obtain ⟨j, hj, h3⟩ := (Mt_star rfl).1 h2
    rw [Mt_singles] at h3
    have hl := congrArg List.length h3
    rw [List.length_drop] at hl
    refine ⟨by rw [List.length_append]; omega, by simp, ?_⟩
    rw [List.length_append, show x.length + y.length - b.length = x.length + j by omega, ← List.drop_drop, List.drop_left]
    exact h3
  · rintro ⟨h1, h2, h3⟩
    refine ⟨a, s.drop a.length, ?_, Mt_singles.2 rfl, (Mt_star rfl).2 ⟨s.length - a.length - b.length, by rw [List.length_drop]; omega, ?_⟩⟩
    · conv => lhs; rw [← List.take_append_drop a.length s, h2]
    · rw [Mt_singles, List.drop_drop, show a.length + (s.length - a.length - b.length) = s.length - b.length by omega]
      exact h3
theorem Mt_twostars {a b s : List UInt8} : Mt (a.map single ++ (true, none256) :: (true, none256) :: b.map single) s ↔ wantS a b s := by
  rw [← Mt_onestar, Mt_app, Mt_app]
  constructor
  · rintro ⟨x, y, rfl, h1, h2⟩
    refine ⟨x, y, rfl, h1, ?_⟩
    obtain ⟨j, hj, h3⟩ := (Mt_star rfl).1 h2
    obtain ⟨k, hk, h4⟩ := (Mt_star rfl).1 h3
    rw [List.length_drop] at hk
    exact (Mt_star rfl).2 ⟨j + k, by omega, by rw [List.drop_drop] at h4; exact h4⟩
  · rintro ⟨x, y, rfl, h1, h2⟩
    exact ⟨x, y, rfl, h1, (Mt_star rfl).2 ⟨0, by omega, by simpa using h2⟩⟩
/-- Letters from 'a' on. -/
def letterB (j : Nat) : UInt8 := UInt8.ofNat (97 + j)
theorem letter_ok {j : Nat} (h : j < 8) : byteOk (letterB j) = true := by
  have : j = 0 ∨ j = 1 ∨ j = 2 ∨ j = 3 ∨ j = 4 ∨ j = 5 ∨ j = 6 ∨ j = 7 := by omega
  rcases this with rfl | rfl | rfl | rfl | rfl | rfl | rfl | rfl <;> decide
def altsK (k : Nat) : List (List UInt8) := (List.range k).map fun j => [letterB j]
/-- Choices side by side. -/
def choiceT : List Nat → List UInt8
  | [] => []
  | k :: r => 123 :: (joinC (altsK k) ++ 125 :: choiceT r)
theorem choice_exp : ∀ {l : List Nat}, (∀ k ∈ l, 1 ≤ k ∧ k ≤ 8) → ∃ out, Exp (choiceT l) out ∧ out.length = l.foldr (· * ·) 1 ∧ ∀ x ∈ out, x.length = l.length ∧ ∀ c ∈ x, byteOk c = true
  | [], _ => ⟨_, .run [] (by simp), rfl, fun x hx => by rw [List.mem_singleton] at hx; subst hx; exact ⟨rfl, by simp⟩⟩
  | k :: r, h => by
    obtain ⟨out, h1, h2, h3⟩ := choice_exp (l := r) fun x hx => h x (by simp [hx])
    obtain ⟨k1, k2⟩ := h k (by simp)
    have hne : altsK k ≠ [] := by
      intro e
      have := congrArg List.length e
      simp [altsK] at this
      omega
    have ha : ∀ a ∈ altsK k, Exp a [a] := fun a ha => by
      obtain ⟨j, hj, rfl⟩ := List.mem_map.1 ha
      rw [List.mem_range] at hj
      refine .run _ fun c hc => ?_
      rw [List.mem_singleton] at hc
      subst hc
      exact (byteOk_no (letter_ok (by omega))).2.2.2.2
    have e : (altsK k).flatMap (fun a => [a]) = altsK k := by
      generalize altsK k = z
      induction z with
      | nil => rfl
      | cons a z ih => rw [List.flatMap_cons, ih]; rfl
    refine ⟨_, .grp [] (altsK k) (fun a => [a]) (choiceT r) out (by simp) hne ha h1, ?_, ?_⟩
    · rw [e, prodL_len, prodL_len, h2]
      simp [altsK]
    · rw [e, prodL_nil_left]
      intro x hx
      unfold prodL at hx
      obtain ⟨a, ha', hx⟩ := List.mem_flatMap.1 hx
      obtain ⟨y, hy, rfl⟩ := List.mem_map.1 hx
      obtain ⟨j, hj, rfl⟩ := List.mem_map.1 ha'
      rw [List.mem_range] at hj
      obtain ⟨g1, g2⟩ := h3 y hy
      refine ⟨by simp [g1], fun c hc => ?_⟩
      rcases List.mem_append.1 hc with hc | hc
      · rw [List.mem_singleton] at hc; subst hc; exact letter_ok (by omega)
      · exact g2 c hc
/-- What comes out of a pattern is known by the pattern. -/
theorem capped (l : List Nat) (M : Nat) (h : ∀ k ∈ l, 1 ≤ k) : ∀ a, 1 ≤ a → a ≤ M → l.foldl (fun a k => min M (a * k)) a = min M (a * l.foldr (· * ·) 1) := by
  induction l with
  | nil => intro a h1 h2; simp; omega
  | cons k l ih =>
    intro a h1 h2
    have hk := h k (by simp)
    have hm : 1 ≤ a * k := Nat.mul_pos h1 hk
    rw [List.foldl_cons, ih (fun x hx => h x (by simp [hx])) (min M (a * k)) (by omega) (by omega), List.foldr_cons, ← Nat.mul_assoc]
    by_cases hc : a * k ≤ M
    · rw [Nat.min_eq_right hc]
    · have hp : 1 ≤ l.foldr (· * ·) 1 := by
        clear ih h2 h1 hc hm
        induction l with
        | nil => simp
        | cons x l ih => rw [List.foldr_cons]; exact Nat.mul_pos (h x (by simp)) (ih fun y hy => h y (by simp only [List.mem_cons] at hy ⊢; rcases hy with rfl | hy; exact .inl rfl; exact .inr (.inr hy)))
      rw [Nat.min_eq_left (by omega : M ≤ a * k)]
      have e1 : M ≤ M * l.foldr (· * ·) 1 := Nat.le_mul_of_pos_right M hp
      have e2 : a * k ≤ a * k * l.foldr (· * ·) 1 := Nat.le_mul_of_pos_right _ hp
      omega
theorem scan_lit {c : UInt8} {d : Nat} {r : List UInt8} (h : special c = false) : scan d (c :: r) = scan d r := by
  simp only [special, Bool.or_eq_false_iff] at h
  obtain ⟨⟨h1, h2⟩, h3⟩ := h
  simp only [scan, h1, h2, h3, Bool.false_eq_true, if_false]
theorem scan_run {d : Nat} : ∀ {p r : List UInt8}, (∀ c ∈ p, special c = false) → scan d (p ++ r) = scan d r
  | [], _, _ => rfl
  | c :: p, r, h => by rw [List.cons_append, scan_lit (h c (by simp)), scan_run fun x hx => h x (by simp [hx])]
theorem scan_alts {d : Nat} : ∀ {alts : List (List UInt8)} {r : List UInt8}, (∀ a ∈ alts, ∀ d r, scan d (a ++ r) = scan d r) → scan (d + 1) (joinC alts ++ r) = scan (d + 1) r
  | [], _, _ => rfl
  | [a], r, h => h a (by simp) _ _
  | a :: b :: s, r, h => by
    rw [joinC_cons (by simp), List.append_assoc, h a (by simp), List.cons_append]
    have : scan (d + 1) (44 :: (joinC (b :: s) ++ r)) = scan (d + 1) (joinC (b :: s) ++ r) := by
      rw [scan]
      simp
    rw [this, scan_alts fun x hx => h x (by simp only [List.mem_cons] at hx ⊢; exact .inr hx)]
theorem exp_scan {u : List UInt8} {l : List (List UInt8)} (h : Exp u l) : ∀ d r, scan d (u ++ r) = scan d r := by
  induction h with
  | run p hp => exact fun d r => scan_run hp
  | grp p alts f u l hp ha hf _ ih ihu =>
    intro d r
    rw [List.append_assoc, scan_run hp, List.cons_append]
    have e1 : scan d (123 :: ((joinC alts ++ 125 :: u) ++ r)) = scan (d + 1) ((joinC alts ++ 125 :: u) ++ r) := by rw [scan]; simp
    rw [e1, List.append_assoc, scan_alts ih, List.cons_append]
    have e2 : scan (d + 1) (125 :: (u ++ r)) = scan d (u ++ r) := by rw [scan]; simp
    rw [e2, ihu]
theorem scan_of_exp {s : List UInt8} {l : List (List UInt8)} (h : Exp s l) : scan 0 s = true := by
  have := exp_scan h 0 []
  rw [List.append_nil] at this
  rw [this]; rfl
end Ab
/- Patterns of one part: whether a text is one of it. -/
namespace Ab
open Go (IntKind BinOp UnOp)
theorem lex3 {P : Nat → Nat → Nat → Prop} (h : ∀ a b c, (∀ a' b' c', a' < a → P a' b' c') → (∀ b' c', b' < b → P a b' c') → (∀ c', c' < c → P a b c') → P a b c) : ∀ a b c, P a b c := by
  intro a
  induction a using Nat.strongRecOn with
  | ind a iha =>
    intro b
    induction b using Nat.strongRecOn with
    | ind b ihb =>
      intro c
      induction c using Nat.strongRecOn with
      | ind c ihc => exact h a b c (fun a' b' c' h => iha a' h b' c') (fun b' c' h => ihb b' h c') (fun c' h => ihc c' h)
theorem toks_len : ∀ (n : Nat) {s : List UInt8} {t : List Tok}, s.length ≤ n → toksF s = some t → (∀ x ∈ t, x.2.length = 256) ∧ t.length ≤ s.length := by
  intro n
  induction n with
  | zero =>
    intro s t hn h
    have : s = [] := List.eq_nil_of_length_eq_zero (by omega)
    subst this
    rw [toksF] at h
    cases h
    exact ⟨(fun _ hx => absurd hx List.not_mem_nil), Nat.le_refl _⟩
  | succ n ih =>
    intro s t hn h
    cases s with
    | nil =>
      rw [toksF] at h
      cases h
      exact ⟨(fun _ hx => absurd hx List.not_mem_nil), Nat.le_refl _⟩
    | cons c r =>
      rw [List.length_cons] at hn
      have step : ∀ (x : Tok) (r' : List UInt8), x.2.length = 256 → r'.length ≤ r.length → (toksF r').map (x :: ·) = some t → (∀ x ∈ t, x.2.length = 256) ∧ t.length ≤ (c :: r).length := by
        intro x r' hx hr ht
        obtain ⟨u, hu, rfl⟩ := Option.map_eq_some_iff.1 ht
        obtain ⟨k1, k2⟩ := ih (by omega) hu
        refine ⟨fun y hy => ?_, by simp; omega⟩
        rcases List.mem_cons.1 hy with rfl | hy
        · exact hx
        · exact k1 y hy
      rw [toksF] at h
      split at h
      · exact step _ _ none256_len (Nat.le_refl _) h
      · split at h
        · exact step _ _ (by rw [fillN_len, none256_len]) (Nat.le_refl _) h
        · split at h
          · split at h
            · cases h
            · split at h
              · cases h
              · rename_i st hc
                exact step _ _ (by rw [classF_len hc, none256_len]) (by rw [List.length_drop]; omega) h
          · split at h
            · exact step _ _ (by rw [fillN_len, none256_len]) (Nat.le_refl _) h
            · cases h
theorem getD_some {T : List Tok} {i : Nat} (h : i < T.length) : T[i]? = some (T.getD i (false, [])) := by
  rw [List.getD_eq_getElem?_getD, List.getElem?_eq_getElem h]; rfl
theorem tokmem {T : List Tok} {i : Nat} (h : i < T.length) : T.getD i (false, []) ∈ T := by
  rw [List.getD_eq_getElem?_getD, List.getElem?_eq_getElem h]; simp
theorem Match_l2_ok {kk : SK} (T : List Tok) (S : List UInt8) (hT : T.length < 900000000) (h256 : ∀ x ∈ T, x.2.length = 256) (hs : S.length < 900000000) (Q : Out → Prop)
    (hret : ¬ Mt T S → Q (.ret, [(4, .p (.bool false))], [])) (hend : ∀ at_ st fr : Nat, Greedy T S at_ st fr S.length → Q (.nrm, [(5, .p (.sl kk 1 (ptrs T))), (7, .p (.int .i64 (at_ : Int)))], [])) :
    ∀ a b c : Nat, ∀ at_ st fr i : Nat, a = T.length - st → b = S.length - fr → c = S.length - i → Greedy T S at_ st fr i →
    Wp Γ glob_Match_l2 [(1, .p (.str S)), (5, .p (.sl kk 1 (ptrs T))), (7, .p (.int .i64 (at_ : Int))), (8, .p (.int .i64 ((st : Int) - 1))), (9, .p (.int .i64 (fr : Int))), (10, .p (.int .i64 (i : Int)))] [] (InBlk [5, 7] 0 Q) := by
  refine lex3 fun a b c iha ihb ihc at_ st fr i ea eb ec g => ?_
  have gi := g.hi
  have ga := g.ha
  have hpl := @ptrs_len T
  by_cases hi : i < S.length
  · have b0 := @byt_nonneg S i
    have b1 := @byt_le S i
    have hfr : 0 < st → fr ≤ i := fun h => (g.some h).2.1
    have hst : 0 < st → st ≤ at_ := fun h => (g.some h).1
    have back : Stuck T S at_ i → 0 < st → Wp Γ glob_Match_l2 [(1, .p (.str S)), (5, .p (.sl kk 1 (ptrs T))), (7, .p (.int .i64 ((st : Int) - 1 + 1))), (8, .p (.int .i64 ((st : Int) - 1))), (9, .p (.int .i64 ((fr : Int) + 1))), (10, .p (.int .i64 ((fr : Int) + 1)))] [] (InBlk [5, 7] 0 Q) := by
      intro hk h0
      have g2 := greedy_back g h0 hk
      have hf := hfr h0
      have := ihb (S.length - (fr + 1)) (S.length - (fr + 1)) (by omega) st st (fr + 1) (fr + 1) ea rfl rfl g2
      rw [show ((st : Int) - 1 + 1) = (st : Int) by omega]
      exact this
    have no : Stuck T S at_ i → st = 0 → Q (.ret, [(4, .p (.bool false))], []) := by
      intro hk h0
      subst h0
      exact hret (greedy_fail g hk)
    by_cases ha : at_ < T.length
    · have e1 := getD_some ha
      have hm := h256 _ (tokmem ha)
      obtain ⟨an, stt, htk⟩ : ∃ an stt, T.getD at_ (false, []) = (an, stt) := ⟨_, _, rfl⟩
      rw [htk] at e1 hm
      dsimp only at hm
      cases hany : an with
      | true =>
        have g2 := greedy_star g e1 (t := (an, stt)) hany
        have : Wp Γ glob_Match_l2 [(1, .p (.str S)), (5, .p (.sl kk 1 (ptrs T))), (7, .p (.int .i64 ((at_ : Int) + 1))), (8, .p (.int .i64 (at_ : Int))), (9, .p (.int .i64 (i : Int))), (10, .p (.int .i64 (i : Int)))] [] (InBlk [5, 7] 0 Q) := by
          have := iha (T.length - (at_ + 1)) (S.length - i) (S.length - i) (by have := hst; omega) (at_ + 1) (at_ + 1) i i rfl rfl rfl g2
          rw [show (((at_ + 1 : Nat)) : Int) - 1 = (at_ : Int) by omega] at this
          exact this
        rw [W_loop (L := glob_Match_l2) rfl]
        simp (disch := first | assumption | omega | decide | (simp only [List.length_cons, List.length_nil, List.length_append, List.length_replicate, List.length_map, List.length_set, List.length_take, List.length_drop, strs_len, ints_len, bools_len, aggs_len, vpv_len]; done) | (simp only [List.length_cons, List.length_nil, List.length_append, List.length_replicate, List.length_map, List.length_set, List.length_take, List.length_drop, strs_len, ints_len, bools_len, aggs_len, vpv_len]; omega)) only [go_sem, tokP, htk, hm, hany, bools_cons]
        exact this
      | false =>
        have bS : (S.getD i 0).toNat < stt.length := by rw [hm]; exact UInt8.toNat_lt _
        have bS2 : (S.getD i 0).toNat < 256 := UInt8.toNat_lt _
        cases hin : stt.getD (S.getD i 0).toNat false with
        | true =>
          have g2 := greedy_set g e1 (t := (an, stt)) hany (c := S.getD i 0) (by rw [List.getD_eq_getElem?_getD, List.getElem?_eq_getElem hi]; rfl) hin
          have := ihc (S.length - (i + 1)) (by omega) (at_ + 1) st fr (i + 1) ea eb rfl g2
          rw [W_loop (L := glob_Match_l2) rfl]
          simp (disch := first | assumption | omega | decide | (simp only [List.length_cons, List.length_nil, List.length_append, List.length_replicate, List.length_map, List.length_set, List.length_take, List.length_drop, strs_len, ints_len, bools_len, aggs_len, vpv_len]; done) | (simp only [List.length_cons, List.length_nil, List.length_append, List.length_replicate, List.length_map, List.length_set, List.length_take, List.length_drop, strs_len, ints_len, bools_len, aggs_len, vpv_len]; omega)) only [go_sem, tokP, htk, hm, hany, bools_cons, getD_u8, hin]
          exact this
        | false =>
          have hk : Stuck T S at_ i := ⟨.inr ⟨_, S.getD i 0, e1, hany, by rw [List.getD_eq_getElem?_getD, List.getElem?_eq_getElem hi]; rfl, hin⟩, hi⟩
          by_cases h0 : st = 0
          · have := no hk h0
            rw [W_loop (L := glob_Match_l2) rfl]
            simp (disch := first | assumption | omega | decide | (simp only [List.length_cons, List.length_nil, List.length_append, List.length_replicate, List.length_map, List.length_set, List.length_take, List.length_drop, strs_len, ints_len, bools_len, aggs_len, vpv_len]; done) | (simp only [List.length_cons, List.length_nil, List.length_append, List.length_replicate, List.length_map, List.length_set, List.length_take, List.length_drop, strs_len, ints_len, bools_len, aggs_len, vpv_len]; omega)) only [go_sem, tokP, htk, hm, hany, bools_cons, getD_u8, hin]
            exact this
          · have := back hk (by omega)
            have hf := hfr (by omega)
            rw [W_loop (L := glob_Match_l2) rfl]
            simp (disch := first | assumption | omega | decide | (simp only [List.length_cons, List.length_nil, List.length_append, List.length_replicate, List.length_map, List.length_set, List.length_take, List.length_drop, strs_len, ints_len, bools_len, aggs_len, vpv_len]; done) | (simp only [List.length_cons, List.length_nil, List.length_append, List.length_replicate, List.length_map, List.length_set, List.length_take, List.length_drop, strs_len, ints_len, bools_len, aggs_len, vpv_len]; omega)) only [go_sem, tokP, htk, hm, hany, bools_cons, getD_u8, hin]
            exact this
    · have hk : Stuck T S at_ i := ⟨.inl (by omega), hi⟩
      by_cases h0 : st = 0
      · have := no hk h0
        rw [W_loop (L := glob_Match_l2) rfl]
        simp (disch := first | assumption | omega | decide | (simp only [List.length_cons, List.length_nil, List.length_append, List.length_replicate, List.length_map, List.length_set, List.length_take, List.length_drop, strs_len, ints_len, bools_len, aggs_len, vpv_len]; done) | (simp only [List.length_cons, List.length_nil, List.length_append, List.length_replicate, List.length_map, List.length_set, List.length_take, List.length_drop, strs_len, ints_len, bools_len, aggs_len, vpv_len]; omega)) only [go_sem]
        exact this
      · have := back hk (by omega)
        have hf := hfr (by omega)
        rw [W_loop (L := glob_Match_l2) rfl]
        simp (disch := first | assumption | omega | decide | (simp only [List.length_cons, List.length_nil, List.length_append, List.length_replicate, List.length_map, List.length_set, List.length_take, List.length_drop, strs_len, ints_len, bools_len, aggs_len, vpv_len]; done) | (simp only [List.length_cons, List.length_nil, List.length_append, List.length_replicate, List.length_map, List.length_set, List.length_take, List.length_drop, strs_len, ints_len, bools_len, aggs_len, vpv_len]; omega)) only [go_sem]
        exact this
  · obtain rfl : i = S.length := by omega
    rw [W_loop (L := glob_Match_l2) rfl]
    simp (disch := first | assumption | omega | decide | (simp only [List.length_cons, List.length_nil, List.length_append, List.length_replicate, List.length_map, List.length_set, List.length_take, List.length_drop, strs_len, ints_len, bools_len, aggs_len, vpv_len]; done) | (simp only [List.length_cons, List.length_nil, List.length_append, List.length_replicate, List.length_map, List.length_set, List.length_take, List.length_drop, strs_len, ints_len, bools_len, aggs_len, vpv_len]; omega)) only [go_sem]
    exact hend at_ st fr g
theorem Match_l1_ok {kk : SK} (T : List Tok) (hT : T.length < 900000000) (h256 : ∀ x ∈ T, x.2.length = 256) (Q : Out → Prop) : ∀ d at_ : Nat, at_ + d = T.length →
    (∀ j : Nat, (j = T.length ↔ ∀ t ∈ T.drop at_, t.1 = true) → j ≤ T.length → Q (.nrm, [(5, .p (.sl kk 1 (ptrs T))), (7, .p (.int .i64 (j : Int)))], [])) →
    Wp Γ glob_Match_l1 [(5, .p (.sl kk 1 (ptrs T))), (7, .p (.int .i64 (at_ : Int)))] [] (InBlk [5, 7] 3 Q) := by
  have hpl := @ptrs_len T
  intro d
  induction d with
  | zero =>
    intro at_ ha hQ
    obtain rfl : at_ = T.length := by omega
    rw [W_loop (L := glob_Match_l1) rfl]
    simp (disch := first | assumption | omega | decide | (simp only [List.length_cons, List.length_nil, List.length_append, List.length_replicate, List.length_map, List.length_set, List.length_take, List.length_drop, strs_len, ints_len, bools_len, aggs_len, vpv_len]; done) | (simp only [List.length_cons, List.length_nil, List.length_append, List.length_replicate, List.length_map, List.length_set, List.length_take, List.length_drop, strs_len, ints_len, bools_len, aggs_len, vpv_len]; omega)) only [go_sem]
    exact hQ T.length ⟨(fun _ t ht => by rw [List.drop_length] at ht; cases ht), fun _ => rfl⟩ (Nat.le_refl _)
  | succ d ih =>
    intro at_ ha hQ
    have hlt : at_ < T.length := by omega
    have hm := h256 _ (tokmem hlt)
    obtain ⟨an, stt, htk⟩ : ∃ an stt, T.getD at_ (false, []) = (an, stt) := ⟨_, _, rfl⟩
    rw [htk] at hm
    dsimp only at hm
    have hd : T.drop at_ = T.getD at_ (false, []) :: T.drop (at_ + 1) := by
      rw [List.drop_eq_getElem_cons hlt]
      simp [List.getElem?_eq_getElem hlt]
    rw [htk] at hd
    cases hany : an with
    | true =>
      rw [W_loop (L := glob_Match_l1) rfl]
      simp (disch := first | assumption | omega | decide | (simp only [List.length_cons, List.length_nil, List.length_append, List.length_replicate, List.length_map, List.length_set, List.length_take, List.length_drop, strs_len, ints_len, bools_len, aggs_len, vpv_len]; done) | (simp only [List.length_cons, List.length_nil, List.length_append, List.length_replicate, List.length_map, List.length_set, List.length_take, List.length_drop, strs_len, ints_len, bools_len, aggs_len, vpv_len]; omega)) only [go_sem, tokP, htk, hm, hany, bools_cons]
      refine ih (at_ + 1) (by omega) (fun j h1 h2 => hQ j ?_ h2)
      rw [h1, hd]
      simp [hany]
    | false =>
      rw [W_loop (L := glob_Match_l1) rfl]
      simp (disch := first | assumption | omega | decide | (simp only [List.length_cons, List.length_nil, List.length_append, List.length_replicate, List.length_map, List.length_set, List.length_take, List.length_drop, strs_len, ints_len, bools_len, aggs_len, vpv_len]; done) | (simp only [List.length_cons, List.length_nil, List.length_append, List.length_replicate, List.length_map, List.length_set, List.length_take, List.length_drop, strs_len, ints_len, bools_len, aggs_len, vpv_len]; omega)) only [go_sem, tokP, htk, hm, hany, bools_cons]
      refine hQ at_ ⟨fun h => absurd h (by omega), fun h => ?_⟩ (by omega)
      have := h (an, stt) (by rw [hd]; simp)
      rw [hany] at this; cases this
/-- Is a text one of a pattern? -/
noncomputable def matchB (p s : List UInt8) : Bool := match toksF p with | none => false | some t => mtD t s
theorem res_globMatch (p s : List UInt8) (hp : p.length < 900000000) (hs : s.length < 900000000) : res Γ 17 [.str p, .str s] = some [.bool (matchB p s)] := by
  unfold matchB
  cases ht : toksF p with
  | none =>
    have e := res_pieces_no p hp ht
    refine res_code (fn := glob_Match) rfl rfl ?_
    simp (disch := first | assumption | omega | decide | (simp only [List.length_cons, List.length_nil, List.length_append, List.length_replicate, List.length_map, List.length_set, List.length_take, List.length_drop, strs_len, ints_len, bools_len, aggs_len, vpv_len]; done) | (simp only [List.length_cons, List.length_nil, List.length_append, List.length_replicate, List.length_map, List.length_set, List.length_take, List.length_drop, strs_len, ints_len, bools_len, aggs_len, vpv_len]; omega)) only [go_sem, glob_Match, e]
  | some T =>
    have e := res_pieces p hp ht
    obtain ⟨h256, hl⟩ := toks_len p.length (Nat.le_refl _) ht
    have hpl := @ptrs_len T
    refine res_code (fn := glob_Match) rfl rfl ?_
    simp (disch := first | assumption | omega | decide | (simp only [List.length_cons, List.length_nil, List.length_append, List.length_replicate, List.length_map, List.length_set, List.length_take, List.length_drop, strs_len, ints_len, bools_len, aggs_len, vpv_len]; done) | (simp only [List.length_cons, List.length_nil, List.length_append, List.length_replicate, List.length_map, List.length_set, List.length_take, List.length_drop, strs_len, ints_len, bools_len, aggs_len, vpv_len]; omega)) only [go_sem, glob_Match, e]
    refine Match_l2_ok T s (by omega) h256 hs _ (fun hn => ?_) (fun at_ st fr g => ?_) _ _ _ 0 0 0 0 rfl rfl rfl greedy_zero
    · have : mtD T s = false := by
        cases h : mtD T s
        · rfl
        · exact absurd (mtD_iff.1 h) hn
      simp (disch := first | assumption | omega | decide | (simp only [List.length_cons, List.length_nil, List.length_append, List.length_replicate, List.length_map, List.length_set, List.length_take, List.length_drop, strs_len, ints_len, bools_len, aggs_len, vpv_len]; done) | (simp only [List.length_cons, List.length_nil, List.length_append, List.length_replicate, List.length_map, List.length_set, List.length_take, List.length_drop, strs_len, ints_len, bools_len, aggs_len, vpv_len]; omega)) only [go_sem, this]
    · have ga := g.ha
      simp (disch := first | assumption | omega | decide | (simp only [List.length_cons, List.length_nil, List.length_append, List.length_replicate, List.length_map, List.length_set, List.length_take, List.length_drop, strs_len, ints_len, bools_len, aggs_len, vpv_len]; done) | (simp only [List.length_cons, List.length_nil, List.length_append, List.length_replicate, List.length_map, List.length_set, List.length_take, List.length_drop, strs_len, ints_len, bools_len, aggs_len, vpv_len]; omega)) only [go_sem]
      refine Match_l1_ok T (by omega) h256 _ (T.length - at_) at_ (by omega) (fun j h1 h2 => ?_)
      simp (disch := first | assumption | omega | decide | (simp only [List.length_cons, List.length_nil, List.length_append, List.length_replicate, List.length_map, List.length_set, List.length_take, List.length_drop, strs_len, ints_len, bools_len, aggs_len, vpv_len]; done) | (simp only [List.length_cons, List.length_nil, List.length_append, List.length_replicate, List.length_map, List.length_set, List.length_take, List.length_drop, strs_len, ints_len, bools_len, aggs_len, vpv_len]; omega)) only [go_sem]
      have := greedy_end g
      rw [← h1, ← mtD_iff] at this
      cases hm : mtD T s
      · rw [decide_eq_false]
        intro h
        have := this.2 (by omega)
        rw [hm] at this; cases this
      · rw [decide_eq_true]
        have := this.1 hm
        omega
end Ab
/- Patterns of one part: the reference's way. -/
namespace Ab
open Go (IntKind BinOp UnOp)
/-- May this stand in brackets? -/
def okC : List UInt8 → Bool
  | a :: b :: c :: r => if b = 45 then (if c < a then false else okC r) else okC (b :: c :: r)
  | _ => true
theorem classF_ok : ∀ {l : List UInt8} {acc : List Bool}, (classF l acc).isSome = okC l
  | [], _ => rfl
  | [a], _ => rfl
  | [a, b], _ => rfl
  | a :: b :: c :: r, acc => by
    rw [classF_3, okC]
    split
    · split
      · rfl
      · exact classF_ok
    · exact classF_ok
theorem drop3e {s : List UInt8} {i e : Nat} (h : i + 2 < e) (he : e ≤ s.length) : (s.take e).drop i = s.getD i 0 :: s.getD (i + 1) 0 :: s.getD (i + 2) 0 :: (s.take e).drop (i + 3) := by
  rw [drop3 (by rw [List.length_take]; omega)]
  have g : ∀ j, j < e → (s.take e).getD j 0 = s.getD j 0 := fun j hj => by
    rw [List.getD_eq_getElem?_getD, List.getElem?_take, if_pos hj, List.getD_eq_getElem?_getD]
  rw [g i (by omega), g (i + 1) (by omega), g (i + 2) (by omega)]
theorem drop1e {s : List UInt8} {i e : Nat} (h : i < e) (he : e ≤ s.length) : (s.take e).drop i = s.getD i 0 :: (s.take e).drop (i + 1) := by
  rw [drop1 (by rw [List.length_take]; omega)]
  rw [List.getD_eq_getElem?_getD, List.getElem?_take, if_pos h, List.getD_eq_getElem?_getD]
theorem okC_short {a : UInt8} {r : List UInt8} (h : r.length < 2) : okC (a :: r) = okC r := by
  match r, h with
  | [], _ => rfl
  | [b], _ => rfl
theorem r9_class_l1_ok (s : List UInt8) (e : Nat) (he : e ≤ s.length) (hs : s.length < 900000000) (Q : Out → Prop) : ∀ (n i : Nat), e ≤ i + n → i ≤ e →
    (okC ((s.take e).drop i) = false → Q (.ret, [(4, .p (.int .i64 (-1)))], [])) → (okC ((s.take e).drop i) = true → Q (.nrm, [(5, .p (.int .i64 (e : Int)))], [])) →
    Wp Γ r9_class_l1 [(0, .p (.str s)), (5, .p (.int .i64 (e : Int))), (6, .p (.int .i64 (i : Int)))] [] (InBlk [5] 2 Q) := by
  intro n
  induction n with
  | zero =>
    intro i hn hi h1 h2
    obtain rfl : i = e := by omega
    rw [W_loop (L := r9_class_l1) rfl]
    simp (disch := first | assumption | omega | decide | (simp only [List.length_cons, List.length_nil, List.length_append, List.length_replicate, List.length_map, List.length_set, List.length_take, List.length_drop, strs_len, ints_len, bools_len, aggs_len, vpv_len]; done) | (simp only [List.length_cons, List.length_nil, List.length_append, List.length_replicate, List.length_map, List.length_set, List.length_take, List.length_drop, strs_len, ints_len, bools_len, aggs_len, vpv_len]; omega)) only [go_sem]
    exact h2 (by rw [List.drop_eq_nil_of_le (by rw [List.length_take]; omega)]; rfl)
  | succ n ih =>
    intro i hn hi h1 h2
    by_cases hlt : i < e
    · have b0 := @byt_nonneg s i
      by_cases h3 : i + 2 < e
      · rw [drop3e h3 he, okC] at h1 h2
        by_cases h45 : byt s (i + 1) = 45
        · have e45 : s.getD (i + 1) 0 = 45 := (byt_eqG 45).1 h45
          rw [if_pos e45] at h1 h2
          by_cases hc : byt s (i + 2) < byt s i
          · rw [if_pos (byt_lt_iff.1 hc)] at h1
            rw [W_loop (L := r9_class_l1) rfl]
            simp (disch := first | assumption | omega | decide | (simp only [List.length_cons, List.length_nil, List.length_append, List.length_replicate, List.length_map, List.length_set, List.length_take, List.length_drop, strs_len, ints_len, bools_len, aggs_len, vpv_len]; done) | (simp only [List.length_cons, List.length_nil, List.length_append, List.length_replicate, List.length_map, List.length_set, List.length_take, List.length_drop, strs_len, ints_len, bools_len, aggs_len, vpv_len]; omega)) only [go_sem, tn1, tn2]
            exact h1 rfl
          · rw [if_neg (fun h => hc (byt_lt_iff.2 h))] at h1 h2
            rw [W_loop (L := r9_class_l1) rfl]
            simp (disch := first | assumption | omega | decide | (simp only [List.length_cons, List.length_nil, List.length_append, List.length_replicate, List.length_map, List.length_set, List.length_take, List.length_drop, strs_len, ints_len, bools_len, aggs_len, vpv_len]; done) | (simp only [List.length_cons, List.length_nil, List.length_append, List.length_replicate, List.length_map, List.length_set, List.length_take, List.length_drop, strs_len, ints_len, bools_len, aggs_len, vpv_len]; omega)) only [go_sem, tn1, tn2]
            exact ih (i + 3) (by omega) (by omega) h1 h2
        · have e45 : ¬ s.getD (i + 1) 0 = 45 := fun h => h45 ((byt_eqG 45).2 h)
          rw [if_neg e45] at h1 h2
          have ed : s.getD (i + 1) 0 :: s.getD (i + 2) 0 :: (s.take e).drop (i + 3) = (s.take e).drop (i + 1) := by
            have := drop3e h3 he
            rw [drop1e hlt he] at this
            exact (List.cons.inj this).2.symm
          rw [ed] at h1 h2
          rw [W_loop (L := r9_class_l1) rfl]
          simp (disch := first | assumption | omega | decide | (simp only [List.length_cons, List.length_nil, List.length_append, List.length_replicate, List.length_map, List.length_set, List.length_take, List.length_drop, strs_len, ints_len, bools_len, aggs_len, vpv_len]; done) | (simp only [List.length_cons, List.length_nil, List.length_append, List.length_replicate, List.length_map, List.length_set, List.length_take, List.length_drop, strs_len, ints_len, bools_len, aggs_len, vpv_len]; omega)) only [go_sem, tn1]
          exact ih (i + 1) (by omega) (by omega) h1 h2
      · rw [drop1e hlt he, okC_short (by rw [List.length_drop, List.length_take]; omega)] at h1 h2
        rw [W_loop (L := r9_class_l1) rfl]
        simp (disch := first | assumption | omega | decide | (simp only [List.length_cons, List.length_nil, List.length_append, List.length_replicate, List.length_map, List.length_set, List.length_take, List.length_drop, strs_len, ints_len, bools_len, aggs_len, vpv_len]; done) | (simp only [List.length_cons, List.length_nil, List.length_append, List.length_replicate, List.length_map, List.length_set, List.length_take, List.length_drop, strs_len, ints_len, bools_len, aggs_len, vpv_len]; omega)) only [go_sem]
        exact ih (i + 1) (by omega) (by omega) h1 h2
    · obtain rfl : i = e := by omega
      rw [W_loop (L := r9_class_l1) rfl]
      simp (disch := first | assumption | omega | decide | (simp only [List.length_cons, List.length_nil, List.length_append, List.length_replicate, List.length_map, List.length_set, List.length_take, List.length_drop, strs_len, ints_len, bools_len, aggs_len, vpv_len]; done) | (simp only [List.length_cons, List.length_nil, List.length_append, List.length_replicate, List.length_map, List.length_set, List.length_take, List.length_drop, strs_len, ints_len, bools_len, aggs_len, vpv_len]; omega)) only [go_sem]
      exact h2 (by rw [List.drop_eq_nil_of_le (by rw [List.length_take]; omega)]; rfl)
/-- The first place of a byte from one on; else the end. -/
def endAt (s : List UInt8) (i : Nat) (c : UInt8) : Nat := if ixB (s.drop i) c < 0 then s.length else i + (ixB (s.drop i) c).toNat
theorem ixB_cons {b c : UInt8} {l : List UInt8} : ixB (b :: l) c = if b = c then 0 else if ixB l c = -1 then -1 else ixB l c + 1 := by
  simp only [ixB, beq_iff_eq]
theorem endAt_hit {s : List UInt8} {i : Nat} {c : UInt8} (h : i < s.length) (hc : s.getD i 0 = c) : endAt s i c = i := by
  unfold endAt
  rw [drop1 h, ixB_cons, if_pos hc]
  rfl
theorem endAt_miss {s : List UInt8} {i : Nat} {c : UInt8} (h : i < s.length) (hc : s.getD i 0 ≠ c) : endAt s i c = endAt s (i + 1) c := by
  unfold endAt
  rw [drop1 h, ixB_cons, if_neg hc]
  have := @ixB_nn (s.drop (i + 1)) c
  by_cases hx : ixB (s.drop (i + 1)) c = -1
  · rw [if_pos hx, if_pos (by omega), if_pos (by omega)]
  · rw [if_neg hx, if_neg (by omega), if_neg (by omega)]; omega
theorem endAt_le {s : List UInt8} {i : Nat} {c : UInt8} (h : i ≤ s.length) : i ≤ endAt s i c ∧ endAt s i c ≤ s.length := by
  unfold endAt
  have := @ixB_nn (s.drop i) c
  rw [List.length_drop] at this
  split <;> omega
theorem r9_class_l2_ok (s : List UInt8) (at_ : Nat) (hs : s.length < 900000000) (Q : Out → Prop) : ∀ (n i : Nat), s.length ≤ i + n → i ≤ s.length →
    Q (.nrm, [(0, .p (.str s)), (1, .p (.int .i64 (at_ : Int))), (5, .p (.int .i64 (endAt s i 93 : Int)))], []) →
    Wp Γ r9_class_l2 [(0, .p (.str s)), (1, .p (.int .i64 (at_ : Int))), (5, .p (.int .i64 (i : Int)))] [] (InBlk [0, 1, 5] 0 Q) := by
  have e0 : endAt s s.length 93 = s.length := by
    unfold endAt
    rw [List.drop_length]
    rfl
  intro n
  induction n with
  | zero =>
    intro i hn hi h1
    obtain rfl : i = s.length := by omega
    rw [e0] at h1
    rw [W_loop (L := r9_class_l2) rfl]
    simp (disch := first | assumption | omega | decide | (simp only [List.length_cons, List.length_nil, List.length_append, List.length_replicate, List.length_map, List.length_set, List.length_take, List.length_drop, strs_len, ints_len, bools_len, aggs_len, vpv_len]; done) | (simp only [List.length_cons, List.length_nil, List.length_append, List.length_replicate, List.length_map, List.length_set, List.length_take, List.length_drop, strs_len, ints_len, bools_len, aggs_len, vpv_len]; omega)) only [go_sem]
    exact h1
  | succ n ih =>
    intro i hn hi h1
    by_cases hlt : i < s.length
    · by_cases hb : byt s i = 93
      · rw [endAt_hit hlt ((byt_eqG 93).1 hb)] at h1
        rw [W_loop (L := r9_class_l2) rfl]
        simp (disch := first | assumption | omega | decide | (simp only [List.length_cons, List.length_nil, List.length_append, List.length_replicate, List.length_map, List.length_set, List.length_take, List.length_drop, strs_len, ints_len, bools_len, aggs_len, vpv_len]; done) | (simp only [List.length_cons, List.length_nil, List.length_append, List.length_replicate, List.length_map, List.length_set, List.length_take, List.length_drop, strs_len, ints_len, bools_len, aggs_len, vpv_len]; omega)) only [go_sem, hb, ne_eq, not_true_eq_false]
        exact h1
      · rw [endAt_miss hlt (byt_ne (b := 93) hb)] at h1
        rw [W_loop (L := r9_class_l2) rfl]
        simp (disch := first | assumption | omega | decide | (simp only [List.length_cons, List.length_nil, List.length_append, List.length_replicate, List.length_map, List.length_set, List.length_take, List.length_drop, strs_len, ints_len, bools_len, aggs_len, vpv_len]; done) | (simp only [List.length_cons, List.length_nil, List.length_append, List.length_replicate, List.length_map, List.length_set, List.length_take, List.length_drop, strs_len, ints_len, bools_len, aggs_len, vpv_len]; omega)) only [go_sem]
        exact ih (i + 1) (by omega) (by omega) h1
    · obtain rfl : i = s.length := by omega
      rw [e0] at h1
      rw [W_loop (L := r9_class_l2) rfl]
      simp (disch := first | assumption | omega | decide | (simp only [List.length_cons, List.length_nil, List.length_append, List.length_replicate, List.length_map, List.length_set, List.length_take, List.length_drop, strs_len, ints_len, bools_len, aggs_len, vpv_len]; done) | (simp only [List.length_cons, List.length_nil, List.length_append, List.length_replicate, List.length_map, List.length_set, List.length_take, List.length_drop, strs_len, ints_len, bools_len, aggs_len, vpv_len]; omega)) only [go_sem]
      exact h1
/-- Where a class ends; below 0: it is none. -/
def classE (s : List UInt8) (i : Nat) : Int := if s.length ≤ endAt s (i + 1) 93 then -1 else if endAt s (i + 1) 93 = i + 1 then -1 else if okC ((s.take (endAt s (i + 1) 93)).drop (i + 1)) = true then (endAt s (i + 1) 93 : Int) else -1
theorem res_r9class (s : List UInt8) (hs : s.length < 900000000) (i : Nat) (hi : i < s.length) : res Γ 58 [.str s, .int .i64 (i : Int)] = some [.int .i64 (classE s i)] := by
  have he := endAt_le (s := s) (i := i + 1) (c := 93) (by omega)
  refine res_code (fn := r9_class) rfl rfl ?_
  simp (disch := first | assumption | omega | decide | (simp only [List.length_cons, List.length_nil, List.length_append, List.length_replicate, List.length_map, List.length_set, List.length_take, List.length_drop, strs_len, ints_len, bools_len, aggs_len, vpv_len]; done) | (simp only [List.length_cons, List.length_nil, List.length_append, List.length_replicate, List.length_map, List.length_set, List.length_take, List.length_drop, strs_len, ints_len, bools_len, aggs_len, vpv_len]; omega)) only [go_sem, r9_class]
  refine r9_class_l2_ok s i hs _ s.length (i + 1) (by omega) (by omega) ?_
  unfold classE
  generalize endAt s (i + 1) 93 = e at *
  by_cases h1 : s.length ≤ e
  · rw [if_pos h1]
    simp (disch := first | assumption | omega | decide | (simp only [List.length_cons, List.length_nil, List.length_append, List.length_replicate, List.length_map, List.length_set, List.length_take, List.length_drop, strs_len, ints_len, bools_len, aggs_len, vpv_len]; done) | (simp only [List.length_cons, List.length_nil, List.length_append, List.length_replicate, List.length_map, List.length_set, List.length_take, List.length_drop, strs_len, ints_len, bools_len, aggs_len, vpv_len]; omega)) only [go_sem]
  · rw [if_neg h1]
    by_cases h2 : e = i + 1
    · rw [if_pos h2]
      subst h2
      simp (disch := first | assumption | omega | decide | (simp only [List.length_cons, List.length_nil, List.length_append, List.length_replicate, List.length_map, List.length_set, List.length_take, List.length_drop, strs_len, ints_len, bools_len, aggs_len, vpv_len]; done) | (simp only [List.length_cons, List.length_nil, List.length_append, List.length_replicate, List.length_map, List.length_set, List.length_take, List.length_drop, strs_len, ints_len, bools_len, aggs_len, vpv_len]; omega)) only [go_sem]
    · rw [if_neg h2]
      simp (disch := first | assumption | omega | decide | (simp only [List.length_cons, List.length_nil, List.length_append, List.length_replicate, List.length_map, List.length_set, List.length_take, List.length_drop, strs_len, ints_len, bools_len, aggs_len, vpv_len]; done) | (simp only [List.length_cons, List.length_nil, List.length_append, List.length_replicate, List.length_map, List.length_set, List.length_take, List.length_drop, strs_len, ints_len, bools_len, aggs_len, vpv_len]; omega)) only [go_sem]
      refine r9_class_l1_ok s e he.2 hs _ e (i + 1) (by omega) (by omega) (fun h => ?_) (fun h => ?_)
      · simp (disch := first | assumption | omega | decide | (simp only [List.length_cons, List.length_nil, List.length_append, List.length_replicate, List.length_map, List.length_set, List.length_take, List.length_drop, strs_len, ints_len, bools_len, aggs_len, vpv_len]; done) | (simp only [List.length_cons, List.length_nil, List.length_append, List.length_replicate, List.length_map, List.length_set, List.length_take, List.length_drop, strs_len, ints_len, bools_len, aggs_len, vpv_len]; omega)) only [go_sem, h]
      · simp (disch := first | assumption | omega | decide | (simp only [List.length_cons, List.length_nil, List.length_append, List.length_replicate, List.length_map, List.length_set, List.length_take, List.length_drop, strs_len, ints_len, bools_len, aggs_len, vpv_len]; done) | (simp only [List.length_cons, List.length_nil, List.length_append, List.length_replicate, List.length_map, List.length_set, List.length_take, List.length_drop, strs_len, ints_len, bools_len, aggs_len, vpv_len]; omega)) only [go_sem, h]
theorem inF_3 {a b c x : UInt8} {r : List UInt8} : inF (a :: b :: c :: r) x = if b = 45 then ((decide (a ≤ x) && decide (x ≤ c)) || inF r x) else (a == x || inF (b :: c :: r) x) := by
  rw [inF]
theorem inF_short {a x : UInt8} {r : List UInt8} (h : r.length < 2) : inF (a :: r) x = (a == x || inF r x) := by
  match r, h with
  | [], _ => simp [inF]
  | [b], _ => simp [inF]
theorem byt_le_iff {s : List UInt8} {i j : Nat} {t : List UInt8} : byt s i ≤ byt t j ↔ s.getD i 0 ≤ t.getD j 0 := by
  rw [UInt8.le_iff_toNat_le]; unfold byt; omega
theorem r9_in_l1_ok (s : List UInt8) (e : Nat) (he : e ≤ s.length) (hs : s.length < 900000000) (c : UInt8) (Q : Out → Prop) : ∀ (n i : Nat), e ≤ i + n → i ≤ e →
    (inF ((s.take e).drop i) c = true → Q (.ret, [(8, .p (.bool true))], [])) → (inF ((s.take e).drop i) c = false → Q (.nrm, [], [])) →
    Wp Γ r9_in_l1 [(0, .p (.str s)), (2, .p (.int .i64 (e : Int))), (3, .p (.int .u8 (c.toNat : Int))), (9, .p (.int .i64 (i : Int)))] [] (InBlk [] 0 Q) := by
  have done : ∀ i, ¬ i < e → inF ((s.take e).drop i) c = false := fun i hi => by
    rw [List.drop_eq_nil_of_le (by rw [List.length_take]; omega)]; rfl
  have eqi : ∀ i, (s.getD i 0 == c) = true ↔ byt s i = (c.toNat : Int) := fun i => by
    rw [byt_eqG, beq_iff_eq]
  have lei : ∀ i, s.getD i 0 ≤ c ↔ byt s i ≤ (c.toNat : Int) := fun i => by
    rw [UInt8.le_iff_toNat_le]; unfold byt; omega
  have gei : ∀ i, c ≤ s.getD i 0 ↔ (c.toNat : Int) ≤ byt s i := fun i => by
    rw [UInt8.le_iff_toNat_le]; unfold byt; omega
  have hcl := c.toNat_lt
  intro n
  induction n with
  | zero =>
    intro i hn hi h1 h2
    obtain rfl : i = e := by omega
    rw [W_loop (L := r9_in_l1) rfl]
    simp (disch := first | assumption | omega | decide | (simp only [List.length_cons, List.length_nil, List.length_append, List.length_replicate, List.length_map, List.length_set, List.length_take, List.length_drop, strs_len, ints_len, bools_len, aggs_len, vpv_len]; done) | (simp only [List.length_cons, List.length_nil, List.length_append, List.length_replicate, List.length_map, List.length_set, List.length_take, List.length_drop, strs_len, ints_len, bools_len, aggs_len, vpv_len]; omega)) only [go_sem]
    exact h2 (done _ (by omega))
  | succ n ih =>
    intro i hn hi h1 h2
    by_cases hlt : i < e
    · have b0 := @byt_nonneg s i
      have one : inF ((s.take e).drop i) c = (s.getD i 0 == c || inF ((s.take e).drop (i + 1)) c) → ¬ (i + 2 < e ∧ byt s (i + 1) = 45) → Wp Γ r9_in_l1 [(0, .p (.str s)), (2, .p (.int .i64 (e : Int))), (3, .p (.int .u8 (c.toNat : Int))), (9, .p (.int .i64 (i : Int)))] [] (InBlk [] 0 Q) := by
        intro ho hno
        rw [ho] at h1 h2
        by_cases hb : byt s i = (c.toNat : Int)
        · rw [(eqi i).2 hb] at h1
          by_cases h3 : i + 2 < e
          · have h45 : ¬ byt s (i + 1) = 45 := fun h => hno ⟨h3, h⟩
            rw [W_loop (L := r9_in_l1) rfl]
            simp (disch := first | assumption | omega | decide | (simp only [List.length_cons, List.length_nil, List.length_append, List.length_replicate, List.length_map, List.length_set, List.length_take, List.length_drop, strs_len, ints_len, bools_len, aggs_len, vpv_len]; done) | (simp only [List.length_cons, List.length_nil, List.length_append, List.length_replicate, List.length_map, List.length_set, List.length_take, List.length_drop, strs_len, ints_len, bools_len, aggs_len, vpv_len]; omega)) only [go_sem, tn1]
            exact h1 rfl
          · rw [W_loop (L := r9_in_l1) rfl]
            simp (disch := first | assumption | omega | decide | (simp only [List.length_cons, List.length_nil, List.length_append, List.length_replicate, List.length_map, List.length_set, List.length_take, List.length_drop, strs_len, ints_len, bools_len, aggs_len, vpv_len]; done) | (simp only [List.length_cons, List.length_nil, List.length_append, List.length_replicate, List.length_map, List.length_set, List.length_take, List.length_drop, strs_len, ints_len, bools_len, aggs_len, vpv_len]; omega)) only [go_sem]
            exact h1 rfl
        · have hb' : (s.getD i 0 == c) = false := by
            cases h : (s.getD i 0 == c)
            · rfl
            · exact absurd ((eqi i).1 h) hb
          rw [hb', Bool.false_or] at h1 h2
          by_cases h3 : i + 2 < e
          · have h45 : ¬ byt s (i + 1) = 45 := fun h => hno ⟨h3, h⟩
            rw [W_loop (L := r9_in_l1) rfl]
            simp (disch := first | assumption | omega | decide | (simp only [List.length_cons, List.length_nil, List.length_append, List.length_replicate, List.length_map, List.length_set, List.length_take, List.length_drop, strs_len, ints_len, bools_len, aggs_len, vpv_len]; done) | (simp only [List.length_cons, List.length_nil, List.length_append, List.length_replicate, List.length_map, List.length_set, List.length_take, List.length_drop, strs_len, ints_len, bools_len, aggs_len, vpv_len]; omega)) only [go_sem, tn1]
            exact ih (i + 1) (by omega) (by omega) h1 h2
          · rw [W_loop (L := r9_in_l1) rfl]
            simp (disch := first | assumption | omega | decide | (simp only [List.length_cons, List.length_nil, List.length_append, List.length_replicate, List.length_map, List.length_set, List.length_take, List.length_drop, strs_len, ints_len, bools_len, aggs_len, vpv_len]; done) | (simp only [List.length_cons, List.length_nil, List.length_append, List.length_replicate, List.length_map, List.length_set, List.length_take, List.length_drop, strs_len, ints_len, bools_len, aggs_len, vpv_len]; omega)) only [go_sem]
            exact ih (i + 1) (by omega) (by omega) h1 h2
      by_cases h3 : i + 2 < e
      · by_cases h45 : byt s (i + 1) = 45
        · have e45 : s.getD (i + 1) 0 = 45 := (byt_eqG 45).1 h45
          rw [drop3e h3 he, inF_3, if_pos e45] at h1 h2
          by_cases hx : byt s i ≤ (c.toNat : Int)
          · rw [decide_eq_true ((lei i).2 hx), Bool.true_and] at h1 h2
            by_cases hy : (c.toNat : Int) ≤ byt s (i + 2)
            · rw [decide_eq_true ((gei (i + 2)).2 hy), Bool.true_or] at h1
              rw [W_loop (L := r9_in_l1) rfl]
              simp (disch := first | assumption | omega | decide | (simp only [List.length_cons, List.length_nil, List.length_append, List.length_replicate, List.length_map, List.length_set, List.length_take, List.length_drop, strs_len, ints_len, bools_len, aggs_len, vpv_len]; done) | (simp only [List.length_cons, List.length_nil, List.length_append, List.length_replicate, List.length_map, List.length_set, List.length_take, List.length_drop, strs_len, ints_len, bools_len, aggs_len, vpv_len]; omega)) only [go_sem, tn1, tn2]
              exact h1 rfl
            · rw [decide_eq_false (fun h => hy ((gei (i + 2)).1 h)), Bool.false_or] at h1 h2
              rw [W_loop (L := r9_in_l1) rfl]
              simp (disch := first | assumption | omega | decide | (simp only [List.length_cons, List.length_nil, List.length_append, List.length_replicate, List.length_map, List.length_set, List.length_take, List.length_drop, strs_len, ints_len, bools_len, aggs_len, vpv_len]; done) | (simp only [List.length_cons, List.length_nil, List.length_append, List.length_replicate, List.length_map, List.length_set, List.length_take, List.length_drop, strs_len, ints_len, bools_len, aggs_len, vpv_len]; omega)) only [go_sem, tn1, tn2]
              exact ih (i + 3) (by omega) (by omega) h1 h2
          · rw [decide_eq_false (fun h => hx ((lei i).1 h)), Bool.false_and, Bool.false_or] at h1 h2
            rw [W_loop (L := r9_in_l1) rfl]
            simp (disch := first | assumption | omega | decide | (simp only [List.length_cons, List.length_nil, List.length_append, List.length_replicate, List.length_map, List.length_set, List.length_take, List.length_drop, strs_len, ints_len, bools_len, aggs_len, vpv_len]; done) | (simp only [List.length_cons, List.length_nil, List.length_append, List.length_replicate, List.length_map, List.length_set, List.length_take, List.length_drop, strs_len, ints_len, bools_len, aggs_len, vpv_len]; omega)) only [go_sem, tn1]
            exact ih (i + 3) (by omega) (by omega) h1 h2
        · have e45 : ¬ s.getD (i + 1) 0 = 45 := fun h => h45 ((byt_eqG 45).2 h)
          refine one ?_ (fun h => h45 h.2)
          have ed : s.getD (i + 1) 0 :: s.getD (i + 2) 0 :: (s.take e).drop (i + 3) = (s.take e).drop (i + 1) := by
            have := drop3e h3 he
            rw [drop1e hlt he] at this
            exact (List.cons.inj this).2.symm
          rw [drop3e h3 he, inF_3, if_neg e45, ed]
      · refine one ?_ (fun h => h3 h.1)
        rw [drop1e hlt he, inF_short (by rw [List.length_drop, List.length_take]; omega)]
    · rw [W_loop (L := r9_in_l1) rfl]
      simp (disch := first | assumption | omega | decide | (simp only [List.length_cons, List.length_nil, List.length_append, List.length_replicate, List.length_map, List.length_set, List.length_take, List.length_drop, strs_len, ints_len, bools_len, aggs_len, vpv_len]; done) | (simp only [List.length_cons, List.length_nil, List.length_append, List.length_replicate, List.length_map, List.length_set, List.length_take, List.length_drop, strs_len, ints_len, bools_len, aggs_len, vpv_len]; omega)) only [go_sem]
      exact h2 (done i hlt)
theorem res_r9in (s : List UInt8) (e : Nat) (he : e ≤ s.length) (hs : s.length < 900000000) (c : UInt8) (i : Nat) (hi : i < e) : res Γ 59 [.str s, .int .i64 (i : Int), .int .i64 (e : Int), .int .u8 (c.toNat : Int)] = some [.bool (inF ((s.take e).drop (i + 1)) c)] := by
  refine res_code (fn := r9_in) rfl rfl ?_
  simp (disch := first | assumption | omega | decide | (simp only [List.length_cons, List.length_nil, List.length_append, List.length_replicate, List.length_map, List.length_set, List.length_take, List.length_drop, strs_len, ints_len, bools_len, aggs_len, vpv_len]; done) | (simp only [List.length_cons, List.length_nil, List.length_append, List.length_replicate, List.length_map, List.length_set, List.length_take, List.length_drop, strs_len, ints_len, bools_len, aggs_len, vpv_len]; omega)) only [go_sem, r9_in]
  refine r9_in_l1_ok s e he hs c _ e (i + 1) (by omega) (by omega) (fun h => ?_) (fun h => ?_)
  · simp (disch := first | assumption | omega | decide | (simp only [List.length_cons, List.length_nil, List.length_append, List.length_replicate, List.length_map, List.length_set, List.length_take, List.length_drop, strs_len, ints_len, bools_len, aggs_len, vpv_len]; done) | (simp only [List.length_cons, List.length_nil, List.length_append, List.length_replicate, List.length_map, List.length_set, List.length_take, List.length_drop, strs_len, ints_len, bools_len, aggs_len, vpv_len]; omega)) only [go_sem, h]
  · simp (disch := first | assumption | omega | decide | (simp only [List.length_cons, List.length_nil, List.length_append, List.length_replicate, List.length_map, List.length_set, List.length_take, List.length_drop, strs_len, ints_len, bools_len, aggs_len, vpv_len]; done) | (simp only [List.length_cons, List.length_nil, List.length_append, List.length_replicate, List.length_map, List.length_set, List.length_take, List.length_drop, strs_len, ints_len, bools_len, aggs_len, vpv_len]; omega)) only [go_sem, h]
end Ab
