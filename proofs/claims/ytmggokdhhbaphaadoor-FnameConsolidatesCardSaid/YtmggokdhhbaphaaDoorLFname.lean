/- Joined names; what a series is called: packages name, fname and their references. -/
import Derived.Test.YtmggokdhhbaphaaDoorLName
namespace Ab
open Go (IntKind BinOp UnOp)
theorem joinB_snoc (sep x : List UInt8) : ∀ l : List (List UInt8), l ≠ [] → joinB sep (l ++ [x]) = joinB sep l ++ (sep ++ x)
  | [], h => absurd rfl h
  | [a], _ => by simp [joinB]
  | a :: b :: r, _ => by
    have := joinB_snoc sep x (b :: r) (by simp)
    simp only [List.cons_append, joinB, List.append_assoc] at this ⊢
    rw [this]
theorem joinB_len (sep : List UInt8) (m : Nat) : ∀ l : List (List UInt8), (∀ x ∈ l, x.length ≤ m) → (joinB sep l).length ≤ l.length * (m + sep.length)
  | [], _ => by simp [joinB]
  | [a], h => by have := h a (by simp); simp [joinB]; omega
  | a :: b :: r, h => by
    have h1 := h a (by simp)
    have := joinB_len sep m (b :: r) (fun x hx => h x (by simp at hx ⊢; exact .inr hx))
    simp only [joinB, List.length_append, List.length_cons] at this ⊢
    rw [Nat.add_mul (r.length + 1) 1]
    omega
theorem joinB_take (sep : List UInt8) (l : List (List UInt8)) : ∀ i, (joinB sep (l.take i)).length ≤ (joinB sep l).length := by
  have key : ∀ (b a : List (List UInt8)), (joinB sep a).length ≤ (joinB sep (a ++ b)).length := by
    intro b
    induction b with
    | nil => intro a; simp
    | cons x b ih =>
      intro a
      have h1 := ih (a ++ [x])
      rw [List.append_assoc] at h1
      refine Nat.le_trans ?_ h1
      by_cases ha : a = []
      · subst ha; simp [joinB]
      · rw [joinB_snoc sep x a ha]; simp
  intro i
  have := key (l.drop i) (l.take i)
  rwa [List.take_append_drop] at this
theorem take_snoc {α : Type} {l : List α} {i : Nat} (d : α) (h : i < l.length) : l.take (i + 1) = l.take i ++ [l.getD i d] := by
  rw [List.take_add_one, List.getElem?_eq_getElem h]
  simp [List.getElem?_eq_getElem h]
theorem r8_Join_l1_ok {kk : SK} (l : List (List UInt8)) (hl : l.length < 1000000000) (hj : (joinB [46] l).length ≤ 1000000000) (Q : Out → Prop) : ∀ (k i : Nat), i + k = l.length →
    (Q (.nrm, [(3, .p (.str (joinB [46] l)))], [])) →
    Wp Γ r8_Join_l1 [(0, .p (.sl kk 1 (strs l))), (3, .p (.str (joinB [46] (l.take i)))), (4, .p (.int .i64 (i : Int)))] [] (InBlk [3] 0 Q) := by
  intro k
  induction k with
  | zero =>
    intro i hi hQ
    obtain rfl : i = l.length := by omega
    rw [W_loop (L := r8_Join_l1) rfl]
    simp (disch := first | assumption | omega | (simp only [List.length_cons, List.length_nil, List.length_append, List.length_replicate, List.length_map, List.length_set, List.length_take, List.length_drop, strs_len, ints_len, bools_len, aggs_len]; done) | (simp only [List.length_cons, List.length_nil, List.length_append, List.length_replicate, List.length_map, List.length_set, List.length_take, List.length_drop, strs_len, ints_len, bools_len, aggs_len]; omega)) only [go_sem]
    rw [List.take_length]
    exact hQ
  | succ k ih =>
    intro i hi hQ
    have h1 := joinB_take [46] l i
    have h2 := joinB_take [46] l (i + 1)
    rw [take_snoc [] (by omega)] at h2
    have hne : 0 < i → l.take i ≠ [] := fun h0 h => by have := congrArg List.length h; rw [List.length_take, List.length_nil] at this; omega
    have e : (joinB [46] (l.take (i + 1))) = if i = 0 then l.getD i [] else joinB [46] (l.take i) ++ 46 :: l.getD i [] := by
      rw [take_snoc [] (by omega)]
      split
      · rename_i h; subst h; simp [joinB]
      · rw [joinB_snoc _ _ _ (hne (by omega))]; rfl
    rw [W_loop (L := r8_Join_l1) rfl]
    simp (disch := first | assumption | omega | (simp only [List.length_cons, List.length_nil, List.length_append, List.length_replicate, List.length_map, List.length_set, List.length_take, List.length_drop, strs_len, ints_len, bools_len, aggs_len]; done) | (simp only [List.length_cons, List.length_nil, List.length_append, List.length_replicate, List.length_map, List.length_set, List.length_take, List.length_drop, strs_len, ints_len, bools_len, aggs_len]; omega)) only [go_sem]
    refine cond_split (fun hc => ?_) (fun hc => ?_)
    · rw [if_neg (by omega)] at e
      rw [joinB_snoc _ _ _ (hne (by omega))] at h2
      simp only [List.length_append, List.length_cons, List.length_nil] at h2
      simp (disch := first | assumption | omega | (simp only [List.length_cons, List.length_nil, List.length_append, List.length_replicate, List.length_map, List.length_set, List.length_take, List.length_drop, strs_len, ints_len, bools_len, aggs_len]; done) | (simp only [List.length_cons, List.length_nil, List.length_append, List.length_replicate, List.length_map, List.length_set, List.length_take, List.length_drop, strs_len, ints_len, bools_len, aggs_len]; omega)) only [go_sem]
      rw [← e]
      exact ih (i + 1) (by omega) hQ
    · obtain rfl : i = 0 := by omega
      simp only [List.take_zero, joinB, List.nil_append] at h2 ⊢
      simp (disch := first | assumption | omega | (simp only [List.length_cons, List.length_nil, List.length_append, List.length_replicate, List.length_map, List.length_set, List.length_take, List.length_drop, strs_len, ints_len, bools_len, aggs_len]; done) | (simp only [List.length_cons, List.length_nil, List.length_append, List.length_replicate, List.length_map, List.length_set, List.length_take, List.length_drop, strs_len, ints_len, bools_len, aggs_len]; omega)) only [go_sem]
      rw [if_pos rfl] at e
      rw [← e]
      exact ih 1 (by omega) hQ
@[go_sem] theorem res_r8Join {kk : SK} (l : List (List UInt8)) (hl : l.length < 1000000000) (hj : (joinB [46] l).length ≤ 1000000000) : res Γ 26 [.sl kk 1 (strs l)] = some [.str (joinB [46] l)] := by
  refine res_code (fn := r8_Join) rfl rfl ?_
  simp (disch := first | assumption | omega | (simp only [List.length_cons, List.length_nil, List.length_append, List.length_replicate, List.length_map, List.length_set, List.length_take, List.length_drop, strs_len, ints_len, bools_len, aggs_len]; done) | (simp only [List.length_cons, List.length_nil, List.length_append, List.length_replicate, List.length_map, List.length_set, List.length_take, List.length_drop, strs_len, ints_len, bools_len, aggs_len]; omega)) only [go_sem, r8_Join]
  refine r8_Join_l1_ok l hl hj _ l.length 0 (by omega) ?_
  simp (disch := first | assumption | omega | (simp only [List.length_cons, List.length_nil, List.length_append, List.length_replicate, List.length_map, List.length_set, List.length_take, List.length_drop, strs_len, ints_len, bools_len, aggs_len]; done) | (simp only [List.length_cons, List.length_nil, List.length_append, List.length_replicate, List.length_map, List.length_set, List.length_take, List.length_drop, strs_len, ints_len, bools_len, aggs_len]; omega)) only [go_sem]
theorem strsIn_strs (l : List (List UInt8)) : strsIn (strs l) = some l := by
  induction l with
  | nil => rfl
  | cons a l ih => simp only [strs, List.map_cons, strsIn] at ih ⊢; rw [ih]; rfl
@[go_sem] theorem res_Join {kk : SK} (l : List (List UInt8)) (sep : List UInt8) (hl : l.length < 1000000000) (hj : (joinB sep l).length ≤ 1000000000) : res Γ 48 [.sl kk 1 (strs l), .str sep] = some [.str (joinB sep l)] := by
  refine res_of (RunP_prim (g := joinG) rfl ?_)
  simp only [joinG, strsIn_strs]
  rw [if_pos ⟨hj, by omega⟩]
@[go_sem] theorem res_nameJoin {kk : SK} (l : List (List UInt8)) (hl : l.length < 1000000000) (hj : (joinB [46] l).length ≤ 1000000000) : res Γ 1 [.sl kk 1 (strs l)] = some [.str (joinB [46] l)] := by
  refine res_code (fn := name_Join) rfl rfl ?_
  simp (disch := first | assumption | omega | (simp only [List.length_cons, List.length_nil, List.length_append, List.length_replicate, List.length_map, List.length_set, List.length_take, List.length_drop, strs_len, ints_len, bools_len, aggs_len]; done) | (simp only [List.length_cons, List.length_nil, List.length_append, List.length_replicate, List.length_map, List.length_set, List.length_take, List.length_drop, strs_len, ints_len, bools_len, aggs_len]; omega)) only [go_sem, name_Join]
end Ab
