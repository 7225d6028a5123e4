import Derived.Test.YtmggokdhhbaphaaDoorLGlob9
/- Patterns with choices: all that comes out of one, by the program. -/
namespace Ab
open Go (IntKind BinOp UnOp)
def RowMain (u : List UInt8) (out : List (List UInt8)) : Prop := ∀ (s : List UInt8) (at_ : Nat) (rest : List UInt8) (l : List (List UInt8)) (b : Bool) (env : Env) (H : Heap) (Q : Out → Prop), s.length ≤ 900000 → at_ ≤ s.length → s.drop at_ = u ++ rest → Stop rest →
  rNorm env H (stV b l) (stH b s at_ l) → 0 < l.length → l.length ≤ 512 → (∀ x ∈ l, x.length ≤ at_) →
  (l.length * out.length ≤ 512 → Q (.ret, [(2, stV (b && u.isEmpty) (prodL l out))], stH (b && u.isEmpty) s ((at_ + u.length : Nat) : Int) (prodL l out)) ∧ Q (.nrm, [(3, stV (b && u.isEmpty) (prodL l out))], stH (b && u.isEmpty) s ((at_ + u.length : Nat) : Int) (prodL l out))) →
  (512 < l.length * out.length → ∀ at2 : Nat, at2 ≤ s.length + u.length → Q (.nrm, [(3, .p (.sl .nil 1 []))], [rdB s at2 true])) →
  Wp Γ glob_reader_row_l1 env H (InBlk [3] 0 Q)
theorem stop_special {r : List UInt8} (h : Stop r) : r = [] ∨ ∃ c t, r = c :: t ∧ special c = true := by
  rcases h with h | ⟨c, t, h, hc⟩
  · exact .inl h
  · refine .inr ⟨c, t, h, ?_⟩
    rcases hc with rfl | rfl <;> rfl
theorem rowres_of {u : List UInt8} {out : List (List UInt8)} (h : RowMain u out) : RowRes u out := by
  intro s at_ rest hs ha hd hst
  have hN : rNorm [(0, .bx 0 0), (3, .p (.sl .tight 1 [.str []]))] [rdB s at_ false] (stV true [[]]) (stH true s at_ [[]]) := by
    unfold stV stH
    simp (disch := first | assumption | omega | decide | (simp only [List.length_cons, List.length_nil, List.length_append, List.length_replicate, List.length_map, List.length_set, List.length_take, List.length_drop, strs_len, ints_len, bools_len, aggs_len, vpv_len]; done) | (simp only [List.length_cons, List.length_nil, List.length_append, List.length_replicate, List.length_map, List.length_set, List.length_take, List.length_drop, strs_len, ints_len, bools_len, aggs_len, vpv_len]; omega)) only [go_sem, rNorm]
    rfl
  have hN' : ∀ x y : AV, rNorm [(3, .p (.sl .tight 1 [.str []])), (6, x), (0, .bx 0 0), (2, y)] [rdB s at_ false] (stV true [[]]) (stH true s at_ [[]]) := fun x y => by
    unfold stV stH
    simp (disch := first | assumption | omega | decide | (simp only [List.length_cons, List.length_nil, List.length_append, List.length_replicate, List.length_map, List.length_set, List.length_take, List.length_drop, strs_len, ints_len, bools_len, aggs_len, vpv_len]; done) | (simp only [List.length_cons, List.length_nil, List.length_append, List.length_replicate, List.length_map, List.length_set, List.length_take, List.length_drop, strs_len, ints_len, bools_len, aggs_len, vpv_len]; omega)) only [go_sem, rNorm]
    rfl
  have e1 : ∀ n, ([[]] : List (List UInt8)).length * n = n := fun n => Nat.one_mul n
  constructor
  · intro ho
    refine resM_code (fn := glob_reader_row) rfl rfl ?_
    simp (disch := first | assumption | omega | decide | (simp only [List.length_cons, List.length_nil, List.length_append, List.length_replicate, List.length_map, List.length_set, List.length_take, List.length_drop, strs_len, ints_len, bools_len, aggs_len, vpv_len]; done) | (simp only [List.length_cons, List.length_nil, List.length_append, List.length_replicate, List.length_map, List.length_set, List.length_take, List.length_drop, strs_len, ints_len, bools_len, aggs_len, vpv_len]; omega)) only [go_sem, glob_reader_row]
    refine h s at_ rest [[]] true _ _ _ hs ha hd hst hN (by simp) (by simp) (by simp) (fun _ => ?_) (fun h' => ?_)
    · rw [prodL_nil_left, Bool.true_and]
      cases u.isEmpty
      · unfold stV stH
        constructor <;> simp (disch := first | assumption | omega | decide | (simp only [List.length_cons, List.length_nil, List.length_append, List.length_replicate, List.length_map, List.length_set, List.length_take, List.length_drop, strs_len, ints_len, bools_len, aggs_len, vpv_len]; done) | (simp only [List.length_cons, List.length_nil, List.length_append, List.length_replicate, List.length_map, List.length_set, List.length_take, List.length_drop, strs_len, ints_len, bools_len, aggs_len, vpv_len]; omega)) only [go_sem]
      · unfold stV stH
        constructor <;> simp (disch := first | assumption | omega | decide | (simp only [List.length_cons, List.length_nil, List.length_append, List.length_replicate, List.length_map, List.length_set, List.length_take, List.length_drop, strs_len, ints_len, bools_len, aggs_len, vpv_len]; done) | (simp only [List.length_cons, List.length_nil, List.length_append, List.length_replicate, List.length_map, List.length_set, List.length_take, List.length_drop, strs_len, ints_len, bools_len, aggs_len, vpv_len]; omega)) only [go_sem]
    · rw [e1] at h'; omega
  · intro ho
    have key := callK (Γ := Γ) (f := 37) (fn := glob_reader_row) (args := [.bx 0 0]) (HL := [rdB s at_ false]) (K := fun vs h => ∃ at2 : Nat, at2 ≤ s.length + u.length ∧ tidy 1 (vs, h) = some ([.p (.sl .nil 1 [])], [rdB s at2 true])) rfl rfl (by
      simp (disch := first | assumption | omega | decide | (simp only [List.length_cons, List.length_nil, List.length_append, List.length_replicate, List.length_map, List.length_set, List.length_take, List.length_drop, strs_len, ints_len, bools_len, aggs_len, vpv_len]; done) | (simp only [List.length_cons, List.length_nil, List.length_append, List.length_replicate, List.length_map, List.length_set, List.length_take, List.length_drop, strs_len, ints_len, bools_len, aggs_len, vpv_len]; omega)) only [go_sem, glob_reader_row]
      refine h s at_ rest [[]] true _ _ _ hs ha hd hst hN (by simp) (by simp) (by simp) (fun h' => ?_) (fun _ at2 h2 => ?_)
      · rw [e1] at h'; omega
      · simp (disch := first | assumption | omega | decide | (simp only [List.length_cons, List.length_nil, List.length_append, List.length_replicate, List.length_map, List.length_set, List.length_take, List.length_drop, strs_len, ints_len, bools_len, aggs_len, vpv_len]; done) | (simp only [List.length_cons, List.length_nil, List.length_append, List.length_replicate, List.length_map, List.length_set, List.length_take, List.length_drop, strs_len, ints_len, bools_len, aggs_len, vpv_len]; omega)) only [go_sem]
        exact ⟨at2, h2, rfl⟩)
    obtain ⟨n, vs, h2, h3, at2, h4, h5⟩ := key
    exact ⟨at2, h4, resM_of ⟨n, (vs, h2), h3, h5⟩⟩
theorem prodL_pos {a b : List (List UInt8)} (ha : 0 < a.length) (hb : 0 < b.length) : 0 < (prodL a b).length := by rw [prodL_len]; exact Nat.mul_pos ha hb
theorem prodL_le {a b : List (List UInt8)} {n m : Nat} (ha : ∀ x ∈ a, x.length ≤ n) (hb : ∀ x ∈ b, x.length ≤ m) : ∀ x ∈ prodL a b, x.length ≤ n + m := by
  intro x hx
  obtain ⟨y, z, hy, hz, rfl⟩ := prodL_mem hx
  have := ha y hy
  have := hb z hz
  rw [List.length_append]; omega
theorem row_main {u : List UInt8} {out : List (List UInt8)} (h : Exp u out) : RowMain u out := by
  induction h with
  | run p hp =>
    intro s at_ rest l b env H Q hs ha hd hst hN l0 l512 hx fin ovr
    by_cases h0 : p = []
    · subst h0
      rw [prodL_nil_right] at fin
      have fin := fin (by simpa using l512)
      rw [show (b && ([] : List UInt8).isEmpty) = b by simp] at fin
      exact row_end (by omega) ha hN (by rw [hd]; exact hst) fin
    · have fin := fin (by simpa using l512)
      have hb : (b && p.isEmpty) = false := by
        cases p with
        | nil => exact absurd rfl h0
        | cons c p => simp
      rw [hb] at fin
      have hl : at_ + p.length ≤ s.length := by
        have e := congrArg List.length hd
        rw [List.length_drop, List.length_append] at e; omega
      refine row_lit hs hd hp h0 (stop_special hst) l512 hx hN fun env H hN2 => ?_
      exact row_end (by omega) hl hN2 (by rw [← List.drop_drop, hd, List.drop_left]; exact hst) fin
  | grp p alts f u l0 hp ha0 hf hu ih ihu =>
    intro s at_ rest l b env H Q hs ha hd hst hN lp l512 hx fin ovr
    have hR : ∀ a ∈ alts, RowRes a (f a) := fun a h => rowres_of (ih a h)
    have hu0 := exp_pos hu
    have hul := exp_le hu
    have hne : (b && (p ++ 123 :: (joinC alts ++ 125 :: u)).isEmpty) = false := by
      cases p <;> simp
    rw [hne] at fin
    have hdl := congrArg List.length hd
    rw [List.length_drop] at hdl
    simp only [List.length_append, List.length_cons] at hdl
    have hCl : ∀ y ∈ alts.flatMap f, y.length ≤ (joinC alts).length := fun y hy => by
      obtain ⟨a, h1, h2⟩ := List.mem_flatMap.1 hy
      have := exp_le (hf a h1) y h2
      have := joinC_len h1
      omega
    have hC0 : 0 < (alts.flatMap f).length := by
      cases alts with
      | nil => exact absurd rfl ha0
      | cons a as =>
        rw [List.flatMap_cons, List.length_append]
        have := exp_pos (hf a (by simp))
        omega
    have eout : ∀ l : List (List UInt8), prodL l (prodL [p] (prodL (alts.flatMap f) l0)) = prodL (prodL (prodL l [p]) (alts.flatMap f)) l0 := fun l => by
      rw [prodL_assoc, prodL_assoc]
    rw [eout] at fin
    have olen : (prodL [p] (prodL (alts.flatMap f) l0)).length = (alts.flatMap f).length * l0.length := by
      rw [prodL_len, prodL_len]; simp
    rw [olen] at fin ovr
    have hul2 : (p ++ 123 :: (joinC alts ++ 125 :: u)).length = p.length + ((joinC alts).length + (u.length + 1) + 1) := by
      simp only [List.length_append, List.length_cons]
    rw [hul2] at fin ovr
    have G : ∀ (b1 : Bool) (env : Env) (H : Heap), (∀ x ∈ prodL l [p], x.length ≤ at_ + p.length) → rNorm env H (stV b1 (prodL l [p])) (stH b1 s ((at_ + p.length : Nat) : Int) (prodL l [p])) → Wp Γ glob_reader_row_l1 env H (InBlk [3] 0 Q) := by
      intro b1 env H hx1 hN1
      have pl := @prodL_one_len l p
      have hd1 : s.drop (at_ + p.length) = 123 :: (joinC alts ++ 125 :: (u ++ rest)) := by
        rw [← List.drop_drop, hd, List.append_assoc, List.drop_left]
        simp
      obtain ⟨C1, C2⟩ := choice_res f hs ha0 hR hd1
      by_cases hC : (alts.flatMap f).length ≤ 512
      · refine row_grp hs hd1 (by omega) (fun x h => by have := hx1 x h; omega) hN1 (by omega) (C1 hC) (fun _ h2 => ⟨fun y hy => by have := hCl y hy; omega, fun env H hN2 => ?_⟩) (fun h => ?_)
        · rw [pl] at h2
          have hat : at_ + p.length + 1 + (joinC alts).length + 1 ≤ s.length := by omega
          refine ihu s (at_ + p.length + 1 + (joinC alts).length + 1) rest (prodL (prodL l [p]) (alts.flatMap f)) false env H Q hs hat ?_ hst hN2 (prodL_pos (by omega) hC0) (by rw [prodL_len, pl]; exact h2) ?_ (fun h3 => ?_) (fun h3 at2 h4 => ?_)
          · have e : at_ + p.length + 1 + (joinC alts).length + 1 = (at_ + p.length) + ((joinC alts).length + 2) := by omega
            rw [e, ← List.drop_drop, hd1, show (joinC alts).length + 2 = (joinC alts).length + 1 + 1 from rfl, List.drop_succ_cons]
            rw [List.drop_append, List.drop_eq_nil_of_le (by omega), List.nil_append, Nat.add_sub_cancel_left]
            rfl
          · intro x h
            have := prodL_le hx1 hCl x h
            omega
          · rw [prodL_len, pl, Nat.mul_assoc] at h3
            have fin := fin h3
            have e : at_ + (p.length + ((joinC alts).length + (u.length + 1) + 1)) = at_ + p.length + 1 + (joinC alts).length + 1 + u.length := by omega
            rw [e] at fin
            exact fin
          · rw [prodL_len, pl, Nat.mul_assoc] at h3
            exact ovr h3 at2 (by omega)
        · rcases h with h | h
          · cases h
          · rw [pl] at h
            have h2 : l.length * (alts.flatMap f).length ≤ l.length * ((alts.flatMap f).length * l0.length) := Nat.mul_le_mul_left _ (Nat.le_mul_of_pos_right _ hu0)
            exact ovr (by omega) (at_ + p.length + 1 + (joinC alts).length + 1) (by omega)
      · obtain ⟨at2, xs, k1, k2, k3⟩ := C2 (by omega)
        refine row_grp hs hd1 (by omega) (fun x h => by have := hx1 x h; omega) hN1 k2 k3 (fun h => by cases h) (fun _ => ?_)
        have h2 : (alts.flatMap f).length ≤ (alts.flatMap f).length * l0.length := Nat.le_mul_of_pos_right _ hu0
        have h3 : (alts.flatMap f).length * l0.length ≤ l.length * ((alts.flatMap f).length * l0.length) := Nat.le_mul_of_pos_left _ lp
        exact ovr (by omega) at2 (by omega)
    by_cases h0 : p = []
    · subst h0
      have e : prodL l [[]] = l := prodL_nil_right l
      rw [e] at G
      exact G b env H hx hN
    · refine row_lit hs (r := 123 :: (joinC alts ++ 125 :: (u ++ rest))) (by rw [hd, List.append_assoc]; simp) hp h0 (.inr ⟨123, _, rfl, rfl⟩) l512 hx hN fun env H hN2 => ?_
      exact G false env H (prodL_le hx fun x h => by rw [List.mem_singleton] at h; subst h; exact Nat.le_refl _) hN2
/-! ### Expand -/
def okE (p : List UInt8) : Bool := decide (p ≠ []) && (splitB 46 p).all fun q => (toksF q).isSome
theorem Exp_l1_ok {k1 k2 : SK} (v : AV) (a b : Int) (row : AV) (B : Heap) (l : List (List UInt8)) (hl : l.length ≤ 900000001) (hm : ∀ p ∈ l, p.length < 900000000) (Q : Out → Prop) : ∀ (n i : Nat), i + n = l.length →
    ((l.drop i).all (fun q => (toksF q).isSome) = false → Q (.ret, [(2, .p (.sl .nil 1 [])), (3, .p (.int .i64 8))], B)) →
    ((l.drop i).all (fun q => (toksF q).isSome) = true → Q (.nrm, [(5, v), (29, row), (30, .p (.int .i64 a)), (31, .p (.int .i64 b))], B)) →
    Wp Γ glob_Expand_l1 [(5, v), (29, row), (30, .p (.int .i64 a)), (31, .p (.int .i64 b)), (38, .p (.sl k1 1 (strs l))), (39, .p (.int .i64 (l.length : Int))), (40, .p (.int .i64 (i : Int)))] B (InBlk [5, 29, 30, 31] 2 Q) := by
  intro n
  induction n with
  | zero =>
    intro i hi h1 h2
    obtain rfl : i = l.length := by omega
    rw [W_loop (L := glob_Expand_l1) rfl]
    simp (disch := first | assumption | omega | decide | (simp only [List.length_cons, List.length_nil, List.length_append, List.length_replicate, List.length_map, List.length_set, List.length_take, List.length_drop, strs_len, ints_len, bools_len, aggs_len, vpv_len]; done) | (simp only [List.length_cons, List.length_nil, List.length_append, List.length_replicate, List.length_map, List.length_set, List.length_take, List.length_drop, strs_len, ints_len, bools_len, aggs_len, vpv_len]; omega)) only [go_sem]
    exact h2 (by rw [List.drop_length]; rfl)
  | succ n ih =>
    intro i hi h1 h2
    have hlt : i < l.length := by omega
    have hp := hm _ (getD_mem hlt)
    rw [drop_all [] hlt] at h1 h2
    cases ht : toksF (l.getD i []) with
    | none =>
      have e := res_pieces_no _ hp ht
      rw [ht] at h1
      rw [W_loop (L := glob_Expand_l1) rfl]
      simp (disch := first | assumption | omega | decide | (simp only [List.length_cons, List.length_nil, List.length_append, List.length_replicate, List.length_map, List.length_set, List.length_take, List.length_drop, strs_len, ints_len, bools_len, aggs_len, vpv_len]; done) | (simp only [List.length_cons, List.length_nil, List.length_append, List.length_replicate, List.length_map, List.length_set, List.length_take, List.length_drop, strs_len, ints_len, bools_len, aggs_len, vpv_len]; omega)) only [go_sem, e]
      exact h1 rfl
    | some t =>
      have e := res_pieces _ hp ht
      rw [ht] at h1 h2
      rw [W_loop (L := glob_Expand_l1) rfl]
      simp (disch := first | assumption | omega | decide | (simp only [List.length_cons, List.length_nil, List.length_append, List.length_replicate, List.length_map, List.length_set, List.length_take, List.length_drop, strs_len, ints_len, bools_len, aggs_len, vpv_len]; done) | (simp only [List.length_cons, List.length_nil, List.length_append, List.length_replicate, List.length_map, List.length_set, List.length_take, List.length_drop, strs_len, ints_len, bools_len, aggs_len, vpv_len]; omega)) only [go_sem, e]
      exact ih (i + 1) (by omega) h1 h2
theorem Exp_l2_ok (fr : Bool) (bx : Blk) (l : List (List UInt8)) (hl : l.length ≤ 512) (hm : ∀ p ∈ l, p.length < 900000000) (Q : Out → Prop) : ∀ (n i : Nat), i + n = l.length →
    ((l.drop i).all okE = false → Q (.ret, [(2, .p (.sl .nil 1 [])), (3, .p (.int .i64 8))], [bx, .row fr 1 (strs l)])) →
    ((l.drop i).all okE = true → Q (.nrm, [(5, .own 1 l.length)], [bx, .row fr 1 (strs l)])) →
    Wp Γ glob_Expand_l2 [(5, .own 1 l.length), (29, .own 1 l.length), (30, .p (.int .i64 (l.length : Int))), (31, .p (.int .i64 (i : Int)))] [bx, .row fr 1 (strs l)] (InBlk [5] 0 Q) := by
  intro n
  induction n with
  | zero =>
    intro i hi h1 h2
    obtain rfl : i = l.length := by omega
    rw [W_loop (L := glob_Expand_l2) rfl]
    simp (disch := first | assumption | omega | decide | (simp only [List.length_cons, List.length_nil, List.length_append, List.length_replicate, List.length_map, List.length_set, List.length_take, List.length_drop, strs_len, ints_len, bools_len, aggs_len, vpv_len]; done) | (simp only [List.length_cons, List.length_nil, List.length_append, List.length_replicate, List.length_map, List.length_set, List.length_take, List.length_drop, strs_len, ints_len, bools_len, aggs_len, vpv_len]; omega)) only [go_sem]
    exact h2 (by rw [List.drop_length]; rfl)
  | succ n ih =>
    intro i hi h1 h2
    have hlt : i < l.length := by omega
    have hp := hm _ (getD_mem hlt)
    rw [drop_all [] hlt] at h1 h2
    unfold okE at h1 h2
    have hsl := splitB_len 46 (l.getD i [])
    have hsc := @count_le (l.getD i []) 46
    by_cases h0 : l.getD i [] = []
    · rw [h0] at h1
      rw [W_loop (L := glob_Expand_l2) rfl]
      simp (disch := first | assumption | omega | decide | (simp only [List.length_cons, List.length_nil, List.length_append, List.length_replicate, List.length_map, List.length_set, List.length_take, List.length_drop, strs_len, ints_len, bools_len, aggs_len, vpv_len]; done) | (simp only [List.length_cons, List.length_nil, List.length_append, List.length_replicate, List.length_map, List.length_set, List.length_take, List.length_drop, strs_len, ints_len, bools_len, aggs_len, vpv_len]; omega)) only [go_sem, h0]
      exact h1 rfl
    · rw [decide_eq_true h0, Bool.true_and] at h1 h2
      rw [W_loop (L := glob_Expand_l2) rfl]
      simp (disch := first | assumption | omega | decide | (simp only [List.length_cons, List.length_nil, List.length_append, List.length_replicate, List.length_map, List.length_set, List.length_take, List.length_drop, strs_len, ints_len, bools_len, aggs_len, vpv_len]; done) | (simp only [List.length_cons, List.length_nil, List.length_append, List.length_replicate, List.length_map, List.length_set, List.length_take, List.length_drop, strs_len, ints_len, bools_len, aggs_len, vpv_len]; omega)) only [go_sem]
      refine Exp_l1_ok (k1 := .any) (k2 := .any) _ _ _ _ _ (splitB 46 (l.getD i [])) (by omega) (fun p hp' => by have := splitB_mem_len hp'; omega) _ (splitB 46 (l.getD i [])).length 0 (by omega) (fun h => ?_) (fun h => ?_)
      · rw [List.drop_zero] at h
        simp (disch := first | assumption | omega | decide | (simp only [List.length_cons, List.length_nil, List.length_append, List.length_replicate, List.length_map, List.length_set, List.length_take, List.length_drop, strs_len, ints_len, bools_len, aggs_len, vpv_len]; done) | (simp only [List.length_cons, List.length_nil, List.length_append, List.length_replicate, List.length_map, List.length_set, List.length_take, List.length_drop, strs_len, ints_len, bools_len, aggs_len, vpv_len]; omega)) only [go_sem]
        exact h1 (by rw [h]; rfl)
      · rw [List.drop_zero] at h
        rw [h, Bool.true_and] at h1 h2
        simp (disch := first | assumption | omega | decide | (simp only [List.length_cons, List.length_nil, List.length_append, List.length_replicate, List.length_map, List.length_set, List.length_take, List.length_drop, strs_len, ints_len, bools_len, aggs_len, vpv_len]; done) | (simp only [List.length_cons, List.length_nil, List.length_append, List.length_replicate, List.length_map, List.length_set, List.length_take, List.length_drop, strs_len, ints_len, bools_len, aggs_len, vpv_len]; omega)) only [go_sem]
        exact ih (i + 1) (by omega) h1 h2
/-- All that comes out; the error. -/
def expandR (_s : List UInt8) (out : List (List UInt8)) : List PV := if 512 < out.length then [.sl .nil 1 [], .int .i64 13] else if out.all okE = true then [.sl .any 1 (strs out), .int .i64 0] else [.sl .nil 1 [], .int .i64 8]
theorem res_globExpand_no (s : List UInt8) (hs : s.length < 900000000) (h : 4096 < s.length ∨ scan 0 s = false) : res Γ 16 [.str s] = some [.sl .nil 1 [], .int .i64 8] := by
  have e := res_balanced s hs
  refine res_code (fn := glob_Expand) rfl rfl ?_
  by_cases hl : 4096 < s.length
  · simp (disch := first | assumption | omega | decide | (simp only [List.length_cons, List.length_nil, List.length_append, List.length_replicate, List.length_map, List.length_set, List.length_take, List.length_drop, strs_len, ints_len, bools_len, aggs_len, vpv_len]; done) | (simp only [List.length_cons, List.length_nil, List.length_append, List.length_replicate, List.length_map, List.length_set, List.length_take, List.length_drop, strs_len, ints_len, bools_len, aggs_len, vpv_len]; omega)) only [go_sem, glob_Expand]
  · have h := h.resolve_left hl
    rw [h] at e
    simp (disch := first | assumption | omega | decide | (simp only [List.length_cons, List.length_nil, List.length_append, List.length_replicate, List.length_map, List.length_set, List.length_take, List.length_drop, strs_len, ints_len, bools_len, aggs_len, vpv_len]; done) | (simp only [List.length_cons, List.length_nil, List.length_append, List.length_replicate, List.length_map, List.length_set, List.length_take, List.length_drop, strs_len, ints_len, bools_len, aggs_len, vpv_len]; omega)) only [go_sem, glob_Expand, e]
theorem res_globExpand (s : List UInt8) (hs : s.length ≤ 4096) {out : List (List UInt8)} (h : Exp s out) : res Γ 16 [.str s] = some (expandR s out) := by
  have e := res_balanced s (by omega)
  rw [scan_of_exp h] at e
  obtain ⟨R1, R2⟩ := rowres_of (row_main h) s 0 [] (by omega) (by omega) (by rw [List.append_nil]; rfl) (.inl rfl)
  have st1 : stillF Γ 1 37 = true := rfl
  have hle := exp_le h
  unfold expandR
  by_cases ho : 512 < out.length
  · obtain ⟨at2, _, R⟩ := R2 ho
    rw [if_pos ho]
    have R : resM Γ 1 37 [.bx 0 0] [rdB s 0 false] = some ([.p (.sl .nil 1 [])], [rdB s at2 true]) := R
    refine res_code (fn := glob_Expand) rfl rfl ?_
    simp (disch := first | assumption | omega | decide | (simp only [List.length_cons, List.length_nil, List.length_append, List.length_replicate, List.length_map, List.length_set, List.length_take, List.length_drop, strs_len, ints_len, bools_len, aggs_len, vpv_len]; done) | (simp only [List.length_cons, List.length_nil, List.length_append, List.length_replicate, List.length_map, List.length_set, List.length_take, List.length_drop, strs_len, ints_len, bools_len, aggs_len, vpv_len]; omega)) only [go_sem, glob_Expand, e, R, st1]
  · rw [if_neg ho]
    have R := R1 (by omega)
    have R : resM Γ 1 37 [.bx 0 0] [rdB s 0 false] = some ([stV s.isEmpty out], stH s.isEmpty s ((0 + s.length : Nat) : Int) out) := R
    generalize ((0 + s.length : Nat) : Int) = at2 at R
    cases hse : s.isEmpty
    · rw [hse] at R
      unfold stV stH at R
      refine res_code (fn := glob_Expand) rfl rfl ?_
      simp (disch := first | assumption | omega | decide | (simp only [List.length_cons, List.length_nil, List.length_append, List.length_replicate, List.length_map, List.length_set, List.length_take, List.length_drop, strs_len, ints_len, bools_len, aggs_len, vpv_len]; done) | (simp only [List.length_cons, List.length_nil, List.length_append, List.length_replicate, List.length_map, List.length_set, List.length_take, List.length_drop, strs_len, ints_len, bools_len, aggs_len, vpv_len]; omega)) only [go_sem, glob_Expand, e, R, st1]
      refine Exp_l2_ok false _ out (by omega) (fun p hp => by have := hle p hp; omega) _ out.length 0 (by omega) (fun h => ?_) (fun h => ?_)
      · rw [List.drop_zero] at h
        rw [if_neg (by rw [h]; decide)]
        simp (disch := first | assumption | omega | decide | (simp only [List.length_cons, List.length_nil, List.length_append, List.length_replicate, List.length_map, List.length_set, List.length_take, List.length_drop, strs_len, ints_len, bools_len, aggs_len, vpv_len]; done) | (simp only [List.length_cons, List.length_nil, List.length_append, List.length_replicate, List.length_map, List.length_set, List.length_take, List.length_drop, strs_len, ints_len, bools_len, aggs_len, vpv_len]; omega)) only [go_sem]
      · rw [List.drop_zero] at h
        rw [if_pos h]
        simp (disch := first | assumption | omega | decide | (simp only [List.length_cons, List.length_nil, List.length_append, List.length_replicate, List.length_map, List.length_set, List.length_take, List.length_drop, strs_len, ints_len, bools_len, aggs_len, vpv_len]; done) | (simp only [List.length_cons, List.length_nil, List.length_append, List.length_replicate, List.length_map, List.length_set, List.length_take, List.length_drop, strs_len, ints_len, bools_len, aggs_len, vpv_len]; omega)) only [go_sem]
    · rw [hse] at R
      have : s = [] := by simpa using hse
      subst this
      have : out = [[]] := by
        generalize hz : ([] : List UInt8) = z at h
        cases h with
        | run p hp => rw [← hz]
        | grp p alts f u l hp ha hf hu => cases p <;> cases hz
      subst this
      unfold stV stH at R
      rw [if_neg (by decide)]
      refine res_code (fn := glob_Expand) rfl rfl ?_
      simp (disch := first | assumption | omega | decide | (simp only [List.length_cons, List.length_nil, List.length_append, List.length_replicate, List.length_map, List.length_set, List.length_take, List.length_drop, strs_len, ints_len, bools_len, aggs_len, vpv_len]; done) | (simp only [List.length_cons, List.length_nil, List.length_append, List.length_replicate, List.length_map, List.length_set, List.length_take, List.length_drop, strs_len, ints_len, bools_len, aggs_len, vpv_len]; omega)) only [go_sem, glob_Expand, e, R, st1]
      rw [W_loop (L := glob_Expand_l2) rfl]
      simp (disch := first | assumption | omega | decide | (simp only [List.length_cons, List.length_nil, List.length_append, List.length_replicate, List.length_map, List.length_set, List.length_take, List.length_drop, strs_len, ints_len, bools_len, aggs_len, vpv_len]; done) | (simp only [List.length_cons, List.length_nil, List.length_append, List.length_replicate, List.length_map, List.length_set, List.length_take, List.length_drop, strs_len, ints_len, bools_len, aggs_len, vpv_len]; omega)) only [go_sem, strs_single, iaddr_lit, PV.cells]
end Ab
