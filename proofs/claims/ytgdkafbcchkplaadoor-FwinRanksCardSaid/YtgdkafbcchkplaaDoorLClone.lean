import Derived.Test.YtgdkafbcchkplaaDoorLMed
import Derived.Test.YtgdkafbcchkplaaDoorAbPrim
import Derived.Test.YtgdkafbcchkplaaDoorLVrow
import Derived.Test.YtgdkafbcchkplaaDoorLKnown21
import Derived.Test.YtgdkafbcchkplaaDoorPSer
import Derived.Test.YtgdkafbcchkplaaDoorAbY9
import Derived.Shelf.SlSortCmp.NoneTotal
import Derived.Test.YtgdkafbcchkplaaDoorCode
import Derived.Test.YtgdkafbcchkplaaDoorLBuck
/- The one at so many of a hundred. -/
namespace Ab
open Go (IntKind BinOp UnOp)
def rankV (p : Val) (l : List Val) : Val :=
  let o := sortI (nums l)
  if p.1 = true ∧ 0 ≤ p.2 ∧ p.2 ≤ 100000000 ∧ o.length ≠ 0 then (true, o.getD (max 1 ((p.2 * o.length + 100000000 - 1) / 100000000) - 1).toNat 0) else noV
theorem rank_lt {p : Int} {n : Nat} (h0 : 0 ≤ p) (h1 : p ≤ 100000000) (hn : n ≠ 0) : 0 ≤ p * n ∧ p * n ≤ 100000000 * n ∧ (max 1 ((p * n + 100000000 - 1) / 100000000) - 1).toNat < n := by
  have a : 0 ≤ p * n := Int.mul_nonneg h0 (by omega)
  have b : p * n ≤ 100000000 * n := Int.mul_le_mul_of_nonneg_right h1 (by omega)
  generalize p * n = q at *
  omega
theorem res_fwinRank {kk : SK} (p : Val) (l : List Val) (hl : l.length < 1000000000) : res Γ 204 [.agg [.bool p.1, .int .i64 p.2], .sl kk 2 (vpv l)] = some [.agg [.bool (rankV p l).1, .int .i64 (rankV p l).2]] := by
  have hk := knL_len l
  have hs := @sortO_len l
  have e := res_fwinSorted (kk := kk) l hl
  have hw : (sortV l).length = (sortI (nums l)).length := toV_len
  have eg : ∀ j, j < (sortI (nums l)).length → (sortV l).getD j (false, 0) = (true, (sortI (nums l)).getD j 0) := fun j h => toV_getD h
  have q : rankV p l = if p.1 = true ∧ 0 ≤ p.2 ∧ p.2 ≤ 100000000 ∧ (sortI (nums l)).length ≠ 0 then (true, (sortI (nums l)).getD (max 1 ((p.2 * (sortI (nums l)).length + 100000000 - 1) / 100000000) - 1).toNat 0) else noV := rfl
  have ei : res Γ 137 [.int .i64 100] = some [.agg [.bool true, .int .i64 100000000]] := res_fixedInt (n := 100) (by omega)
  rw [q]
  obtain ⟨b, n⟩ := p
  generalize sortI (nums l) = o at *
  refine res_code (fn := fwin_Rank) rfl rfl ?_
  by_cases h : b = true ∧ 0 ≤ n ∧ n ≤ 100000000 ∧ o.length ≠ 0
  · rw [if_pos h]
    obtain ⟨rfl, h0, h1, h2⟩ := h
    obtain ⟨r1, r2, r3⟩ := rank_lt h0 h1 h2
    have e0 := eg _ r3
    have r4 : 0 ≤ max 1 ((n * (o.length : Int) + 100000000 - 1) / 100000000) - 1 := by omega
    have w0 := wrap_i64 (x := (n * (o.length : Int) + 100000000 - 1) / 100000000) (by omega) (by omega)
    have m0 := map_quo (k := .i64) (a := n * (o.length : Int) + 100000000 - 1) (b := 100000000) (by omega) (by omega) w0
    have r5 : max 1 ((n * (o.length : Int) + 100000000 - 1) / 100000000) - 1 < (o.length : Int) := by omega
    have r6 : 1 ≤ max 1 ((n * (o.length : Int) + 100000000 - 1) / 100000000) := by omega
    generalize hm : max 1 ((n * (o.length : Int) + 100000000 - 1) / 100000000) = m at *
    simp (disch := first | assumption | omega | decide | (simp only [List.length_cons, List.length_nil, List.length_append, List.length_replicate, List.length_map, List.length_set, List.length_take, List.length_drop, strs_len, ints_len, bools_len, aggs_len, vpv_len]; done) | (simp only [List.length_cons, List.length_nil, List.length_append, List.length_replicate, List.length_map, List.length_set, List.length_take, List.length_drop, strs_len, ints_len, bools_len, aggs_len, vpv_len]; omega)) only [go_sem, fwin_Rank, ei, e, hw, m0, hm, e0, valP]
  · rw [if_neg h]
    cases b
    · simp (disch := first | assumption | omega | decide | (simp only [List.length_cons, List.length_nil, List.length_append, List.length_replicate, List.length_map, List.length_set, List.length_take, List.length_drop, strs_len, ints_len, bools_len, aggs_len, vpv_len]; done) | (simp only [List.length_cons, List.length_nil, List.length_append, List.length_replicate, List.length_map, List.length_set, List.length_take, List.length_drop, strs_len, ints_len, bools_len, aggs_len, vpv_len]; omega)) only [go_sem, fwin_Rank, ei, e, hw, noV]
    · simp only [true_and] at h
      repeat' (first | (simp (disch := first | assumption | omega | decide | (simp only [List.length_cons, List.length_nil, List.length_append, List.length_replicate, List.length_map, List.length_set, List.length_take, List.length_drop, strs_len, ints_len, bools_len, aggs_len, vpv_len]; done) | (simp only [List.length_cons, List.length_nil, List.length_append, List.length_replicate, List.length_map, List.length_set, List.length_take, List.length_drop, strs_len, ints_len, bools_len, aggs_len, vpv_len]; omega)) only [go_sem, fwin_Rank, ei, e, hw, noV]) | refine cond_split (fun hc => ?_) (fun hc => ?_) | refine gd_split_f (fun hc => ?_) (fun hc => ?_) | refine gd_split_t (fun hc => ?_) (fun hc => ?_))
      all_goals first | (exfalso; omega) | skip
theorem knV_small {n : Int} (h0 : 0 ≤ n) (h1 : n ≤ 100000000) : knV (true, n) = true := by
  rw [knV_iff]
  refine ⟨rfl, ?_⟩
  show -maxN ≤ n ∧ n ≤ maxN
  unfold maxN
  omega
end Ab
/- Numbers in order of size: the first is the least, the last the greatest, half of them are not above the one in the middle. Plain Lean. -/
namespace Ab
theorem insI_permP (n : Int) : ∀ o : List Int, (insI n o).Perm (n :: o)
  | [] => .refl _
  | m :: r => by
    unfold insI
    split
    · exact ((insI_permP n r).cons m).trans (.swap n m r)
    · exact .refl _
theorem sortI_permP (l : List Int) : (sortI l).Perm l := by
  have : ∀ (l o : List Int), (l.foldl (fun o n => insI n o) o).Perm (o ++ l) := by
    intro l
    induction l with
    | nil => intro o; rw [List.append_nil]; exact .refl _
    | cons n l ih =>
      intro o
      rw [List.foldl_cons]
      refine (ih _).trans ?_
      refine ((insI_permP n o).append_right l).trans ?_
      exact List.perm_middle.symm
  exact this l []
theorem insI_sortedP (n : Int) : ∀ o : List Int, o.Pairwise (· ≤ ·) → (insI n o).Pairwise (· ≤ ·)
  | [], _ => by simp [insI]
  | m :: r, h => by
    rw [List.pairwise_cons] at h
    unfold insI
    split
    · rename_i hm
      rw [List.pairwise_cons]
      refine ⟨fun x hx => ?_, insI_sortedP n r h.2⟩
      rcases List.mem_cons.1 ((insI_permP n r).mem_iff.1 hx) with rfl | hx
      · exact hm
      · exact h.1 x hx
    · rename_i hm
      rw [List.pairwise_cons, List.pairwise_cons]
      refine ⟨fun x hx => ?_, h⟩
      rcases List.mem_cons.1 hx with rfl | hx
      · omega
      · have := h.1 x hx; omega
theorem sortI_sortedP (l : List Int) : (sortI l).Pairwise (· ≤ ·) := by
  have : ∀ (l o : List Int), o.Pairwise (· ≤ ·) → (l.foldl (fun o n => insI n o) o).Pairwise (· ≤ ·) := by
    intro l
    induction l with
    | nil => exact fun o h => h
    | cons n l ih => exact fun o h => ih _ (insI_sortedP n o h)
  exact this l [] .nil
theorem sortI_lengthP (l : List Int) : (sortI l).length = l.length := (sortI_permP l).length_eq
theorem sorted_leP {o : List Int} (h : o.Pairwise (· ≤ ·)) {i j : Nat} (hij : i ≤ j) (hj : j < o.length) : o.getD i 0 ≤ o.getD j 0 := by
  rw [List.getD_eq_getElem?_getD, List.getD_eq_getElem?_getD, List.getElem?_eq_getElem hj, List.getElem?_eq_getElem (by omega)]
  simp only [Option.getD_some]
  rcases Nat.lt_or_ge i j with h' | h'
  · exact List.pairwise_iff_getElem.1 h i j (by omega) hj h'
  · have e : i = j := by omega
    subst e; exact Int.le_refl _
theorem getD_mem' {o : List Int} {i : Nat} (h : i < o.length) : o.getD i 0 ∈ o := by
  rw [List.getD_eq_getElem?_getD, List.getElem?_eq_getElem h]; exact List.getElem_mem h
theorem mem_getD' {o : List Int} {x : Int} (h : x ∈ o) : ∃ i, i < o.length ∧ o.getD i 0 = x := by
  obtain ⟨i, hi, rfl⟩ := List.getElem_of_mem h
  exact ⟨i, hi, by rw [List.getD_eq_getElem?_getD, List.getElem?_eq_getElem hi]; rfl⟩
/-- The greatest of known values. -/
theorem maxV_spec : ∀ (k : List Val) (b : Val), (∀ v ∈ b :: k, v.1 = true) → maxV b k ∈ b :: k ∧ ∀ v ∈ b :: k, v.2 ≤ (maxV b k).2
  | [], b, _ => ⟨by simp [maxV], by simp [maxV]⟩
  | v :: k, b, h => by
    unfold maxV
    rw [List.foldl_cons]
    split
    · rename_i hlt
      obtain ⟨h1, h2⟩ := maxV_spec k v fun x hx => h x (by simp only [List.mem_cons] at hx ⊢; exact .inr hx)
      refine ⟨List.mem_cons_of_mem _ h1, fun x hx => ?_⟩
      rcases List.mem_cons.1 hx with rfl | hx
      · have := h2 v (by simp)
        show x.2 ≤ (maxV v k).2
        omega
      · exact h2 x hx
    · rename_i hge
      obtain ⟨h1, h2⟩ := maxV_spec k b fun x hx => h x (by simp only [List.mem_cons] at hx ⊢; rcases hx with h | h; exact .inl h; exact .inr (.inr h))
      refine ⟨?_, fun x hx => ?_⟩
      · rcases List.mem_cons.1 h1 with h | h
        · show maxV b k ∈ _
          rw [h]; simp
        · exact List.mem_cons_of_mem _ (List.mem_cons_of_mem _ h)
      · rcases List.mem_cons.1 hx with rfl | hx
        · exact h2 x (by simp)
        · rcases List.mem_cons.1 hx with rfl | hx
          · have := h2 b (by simp)
            show x.2 ≤ (maxV b k).2
            omega
          · exact h2 x (by simp [hx])
theorem minV_spec : ∀ (k : List Val) (b : Val), (∀ v ∈ b :: k, v.1 = true) → minV b k ∈ b :: k ∧ ∀ v ∈ b :: k, (minV b k).2 ≤ v.2
  | [], b, _ => ⟨by simp [minV], by simp [minV]⟩
  | v :: k, b, h => by
    unfold minV
    rw [List.foldl_cons]
    split
    · rename_i hlt
      obtain ⟨h1, h2⟩ := minV_spec k v fun x hx => h x (by simp only [List.mem_cons] at hx ⊢; exact .inr hx)
      refine ⟨List.mem_cons_of_mem _ h1, fun x hx => ?_⟩
      rcases List.mem_cons.1 hx with rfl | hx
      · have := h2 v (by simp)
        show (minV v k).2 ≤ x.2
        omega
      · exact h2 x hx
    · rename_i hge
      obtain ⟨h1, h2⟩ := minV_spec k b fun x hx => h x (by simp only [List.mem_cons] at hx ⊢; rcases hx with h | h; exact .inl h; exact .inr (.inr h))
      refine ⟨?_, fun x hx => ?_⟩
      · rcases List.mem_cons.1 h1 with h | h
        · show minV b k ∈ _
          rw [h]; simp
        · exact List.mem_cons_of_mem _ (List.mem_cons_of_mem _ h)
      · rcases List.mem_cons.1 hx with rfl | hx
        · exact h2 x (by simp)
        · rcases List.mem_cons.1 hx with rfl | hx
          · have := h2 b (by simp)
            show (minV b k).2 ≤ x.2
            omega
          · exact h2 x (by simp [hx])
theorem knL_true {l : List Val} : ∀ v ∈ knL l, v.1 = true := fun v hv => (knV_iff.1 (knL_mem hv)).1
theorem agg4_sorted (l : List Val) (o : List Int) (ho : o = sortI ((knL l).map (·.2))) : aggV 4 l = if o.length = 0 then noV else (true, o.getD (o.length - 1) 0) := by
  have hl : o.length = (knL l).length := by rw [ho, sortI_lengthP, List.length_map]
  have hs : o.Pairwise (· ≤ ·) := by rw [ho]; exact sortI_sortedP _
  have hp : o.Perm ((knL l).map (·.2)) := by rw [ho]; exact sortI_permP _
  have hk := @knL_true l
  unfold aggV
  cases h : knL l with
  | nil => rw [h] at hl; rw [if_pos (by simpa using hl)]
  | cons b k =>
    rw [h] at hl hp hk
    simp only [List.length_cons] at hl
    rw [if_neg (by omega)]
    show maxV b k = _
    obtain ⟨h1, h2⟩ := maxV_spec k b hk
    have h3 := hk _ h1
    have m1 := hp.mem_iff.1 (getD_mem' (o := o) (i := o.length - 1) (by omega))
    obtain ⟨v, hv, e⟩ := List.mem_map.1 m1
    have g1 := h2 v hv
    obtain ⟨i, hi, ei⟩ := mem_getD' (hp.mem_iff.2 (List.mem_map_of_mem h1))
    have g2 := sorted_leP hs (show i ≤ o.length - 1 by omega) (by omega)
    refine Prod.ext h3 ?_
    simp only at e ei ⊢
    omega
theorem agg5_sorted (l : List Val) (o : List Int) (ho : o = sortI ((knL l).map (·.2))) : aggV 5 l = if o.length = 0 then noV else (true, o.getD 0 0) := by
  have hl : o.length = (knL l).length := by rw [ho, sortI_lengthP, List.length_map]
  have hs : o.Pairwise (· ≤ ·) := by rw [ho]; exact sortI_sortedP _
  have hp : o.Perm ((knL l).map (·.2)) := by rw [ho]; exact sortI_permP _
  have hk := @knL_true l
  unfold aggV
  cases h : knL l with
  | nil => rw [h] at hl; rw [if_pos (by simpa using hl)]
  | cons b k =>
    rw [h] at hl hp hk
    simp only [List.length_cons] at hl
    rw [if_neg (by omega)]
    show minV b k = _
    obtain ⟨h1, h2⟩ := minV_spec k b hk
    have h3 := hk _ h1
    have m1 := hp.mem_iff.1 (getD_mem' (o := o) (i := 0) (by omega))
    obtain ⟨v, hv, e⟩ := List.mem_map.1 m1
    have g1 := h2 v hv
    obtain ⟨i, hi, ei⟩ := mem_getD' (hp.mem_iff.2 (List.mem_map_of_mem h1))
    have g2 := sorted_leP hs (show 0 ≤ i by omega) hi
    refine Prod.ext h3 ?_
    simp only at e ei ⊢
    omega
/-- As many are not above the one at a place as stand up to it. -/
theorem count_sorted {o : List Int} (h : o.Pairwise (· ≤ ·)) {r : Nat} (hr : r < o.length) : r + 1 ≤ o.countP (fun x => decide (x ≤ o.getD r 0)) := by
  have e : o.countP (fun x => decide (x ≤ o.getD r 0)) = (o.take (r + 1)).countP (fun x => decide (x ≤ o.getD r 0)) + (o.drop (r + 1)).countP (fun x => decide (x ≤ o.getD r 0)) := by
    rw [← List.countP_append, List.take_append_drop]
  have e2 : (o.take (r + 1)).countP (fun x => decide (x ≤ o.getD r 0)) = (o.take (r + 1)).length := by
    rw [List.countP_eq_length]
    intro x hx
    obtain ⟨i, hi, rfl⟩ := List.getElem_of_mem hx
    rw [List.length_take] at hi
    rw [List.getElem_take]
    have := sorted_leP h (show i ≤ r by omega) hr
    rw [List.getD_eq_getElem?_getD, List.getElem?_eq_getElem (by omega)] at this
    simpa using this
  rw [e, e2, List.length_take]
  omega
end Ab
/- FwinRanks. -/
namespace Ab
open Go (IntKind BinOp UnOp)
theorem res_r1Less (a b : Val) : res Γ 211 [.agg [.bool a.1, .int .i64 a.2], .agg [.bool b.1, .int .i64 b.2]] = some [.bool (lessV a b)] := by
  obtain ⟨x, n⟩ := a
  obtain ⟨y, m⟩ := b
  unfold lessV
  refine res_code (fn := r1_Less) rfl rfl ?_
  cases h : knV (x, n)
  · simp (disch := first | assumption | omega | decide | (simp only [List.length_cons, List.length_nil, List.length_append, List.length_replicate, List.length_map, List.length_set, List.length_take, List.length_drop, strs_len, ints_len, bools_len, aggs_len, vpv_len]; done) | (simp only [List.length_cons, List.length_nil, List.length_append, List.length_replicate, List.length_map, List.length_set, List.length_take, List.length_drop, strs_len, ints_len, bools_len, aggs_len, vpv_len]; omega)) only [go_sem, r1_Less, h]
  · cases h' : knV (y, m)
    · simp (disch := first | assumption | omega | decide | (simp only [List.length_cons, List.length_nil, List.length_append, List.length_replicate, List.length_map, List.length_set, List.length_take, List.length_drop, strs_len, ints_len, bools_len, aggs_len, vpv_len]; done) | (simp only [List.length_cons, List.length_nil, List.length_append, List.length_replicate, List.length_map, List.length_set, List.length_take, List.length_drop, strs_len, ints_len, bools_len, aggs_len, vpv_len]; omega)) only [go_sem, r1_Less, h, h']
    · simp (disch := first | assumption | omega | decide | (simp only [List.length_cons, List.length_nil, List.length_append, List.length_replicate, List.length_map, List.length_set, List.length_take, List.length_drop, strs_len, ints_len, bools_len, aggs_len, vpv_len]; done) | (simp only [List.length_cons, List.length_nil, List.length_append, List.length_replicate, List.length_map, List.length_set, List.length_take, List.length_drop, strs_len, ints_len, bools_len, aggs_len, vpv_len]; omega)) only [go_sem, r1_Less, h, h']
theorem rank_hundred (l : List Val) : rankV (true, 100000000) l = aggV 4 l := by
  rw [agg4_sorted l (sortI (nums l)) rfl]
  have q : rankV (true, 100000000) l = if true = true ∧ (0 : Int) ≤ 100000000 ∧ (100000000 : Int) ≤ 100000000 ∧ (sortI (nums l)).length ≠ 0 then (true, (sortI (nums l)).getD (max 1 ((100000000 * ((sortI (nums l)).length : Int) + 100000000 - 1) / 100000000) - 1).toNat 0) else noV := rfl
  rw [q]
  generalize sortI (nums l) = o
  by_cases h : o.length = 0
  · rw [if_pos h, if_neg (fun hh => hh.2.2.2 h)]
  · rw [if_neg h, if_pos ⟨rfl, by omega, by omega, h⟩]
    have e : (max 1 ((100000000 * (o.length : Int) + 100000000 - 1) / 100000000) - 1).toNat = o.length - 1 := by omega
    rw [e]
theorem rank_zero (l : List Val) : rankV (true, 0) l = aggV 5 l := by
  rw [agg5_sorted l (sortI (nums l)) rfl]
  have q : rankV (true, 0) l = if true = true ∧ (0 : Int) ≤ 0 ∧ (0 : Int) ≤ 100000000 ∧ (sortI (nums l)).length ≠ 0 then (true, (sortI (nums l)).getD (max 1 ((0 * ((sortI (nums l)).length : Int) + 100000000 - 1) / 100000000) - 1).toNat 0) else noV := rfl
  rw [q]
  generalize sortI (nums l) = o
  by_cases h : o.length = 0
  · rw [if_pos h, if_neg (fun hh => hh.2.2.2 h)]
  · rw [if_neg h, if_pos ⟨rfl, by omega, by omega, h⟩]
    have e : (max 1 ((0 * (o.length : Int) + 100000000 - 1) / 100000000) - 1).toNat = 0 := by omega
    rw [e]
theorem rank_half (l : List Val) : (knL l).length ≤ 2 * (knL l).countP (fun v => !lessV (rankV (true, 50000000) l) v) := by
  have hp := sortI_permP (nums l)
  have hs := sortI_sortedP (nums l)
  have hl := @sortO_len l
  have q : rankV (true, 50000000) l = if true = true ∧ (0 : Int) ≤ 50000000 ∧ (50000000 : Int) ≤ 100000000 ∧ (sortI (nums l)).length ≠ 0 then (true, (sortI (nums l)).getD (max 1 ((50000000 * ((sortI (nums l)).length : Int) + 100000000 - 1) / 100000000) - 1).toNat 0) else noV := rfl
  rw [q]
  generalize sortI (nums l) = o at *
  by_cases h : o.length = 0
  · omega
  · rw [if_pos ⟨rfl, by omega, by omega, h⟩]
    generalize hr : (max 1 ((50000000 * (o.length : Int) + 100000000 - 1) / 100000000) - 1).toNat = r
    have hr1 : r < o.length := by omega
    have hr2 : o.length ≤ 2 * (r + 1) := by omega
    have c := count_sorted hs hr1
    rw [hp.countP_eq, nums, List.countP_map] at c
    have m : (knL l).countP ((fun x => decide (x ≤ o.getD r 0)) ∘ fun x => x.2) ≤ (knL l).countP (fun v => !lessV (true, o.getD r 0) v) := by
      refine List.countP_mono_left fun v hv => ?_
      simp only [Function.comp_apply, decide_eq_true_eq, lessV, Bool.not_eq_true', Bool.and_eq_false_imp, decide_eq_false_iff_not]
      intro a b
      omega
    omega
theorem Ranks_l1_ok {k1 : SK} (z : Val) (k : List Val) (hl : k.length < 1000) (a b c : AV) (B1 B2 : Blk) (Q : Out → Prop) : ∀ (d i : Nat), i + d = k.length →
    Q (.nrm, [(0, a), (3, .p (.sl k1 2 (vpv k))), (4, b), (5, c), (7, .p (.int .i64 (k.countP (fun v => !lessV z v) : Nat)))], [B1, B2, .box [.p (.bool z.1), .p (.int .i64 z.2)]]) →
    Wp Γ l21_FwinRanks_l1 [(0, a), (3, .p (.sl k1 2 (vpv k))), (4, b), (5, c), (6, .bx 2 0), (7, .p (.int .i64 ((k.take i).countP (fun v => !lessV z v) : Nat))), (8, .p (.int .i64 (i : Int)))] [B1, B2, .box [.p (.bool z.1), .p (.int .i64 z.2)]]
      (InBlk [0, 3, 4, 5, 7] 0 Q) := by
  intro d
  induction d with
  | zero =>
    intro i hi hQ
    obtain rfl : i = k.length := by omega
    rw [W_loop (L := l21_FwinRanks_l1) rfl]
    simp (disch := first | assumption | omega | decide | (simp only [List.length_cons, List.length_nil, List.length_append, List.length_replicate, List.length_map, List.length_set, List.length_take, List.length_drop, strs_len, ints_len, bools_len, aggs_len, vpv_len]; done) | (simp only [List.length_cons, List.length_nil, List.length_append, List.length_replicate, List.length_map, List.length_set, List.length_take, List.length_drop, strs_len, ints_len, bools_len, aggs_len, vpv_len]; omega)) only [go_sem]
    rw [List.take_length]
    exact hQ
  | succ d ih =>
    intro i hi hQ
    have h : i < k.length := by omega
    have e := res_r1Less z (k.getD i (false, 0))
    have hc : (k.take i).countP (fun v => !lessV z v) ≤ 1000 := by
      have := List.countP_le_length (p := fun v => !lessV z v) (l := k.take i)
      rw [List.length_take] at this
      omega
    have ih := ih (i + 1) (by omega) hQ
    rw [take_snoc' (false, 0) h, List.countP_append] at ih
    rw [W_loop (L := l21_FwinRanks_l1) rfl]
    cases hb : lessV z (k.getD i (false, 0))
    · simp only [List.countP_cons, List.countP_nil, hb, Bool.not_false, if_true, Nat.zero_add] at ih
      simp (disch := first | assumption | omega | decide | (simp only [List.length_cons, List.length_nil, List.length_append, List.length_replicate, List.length_map, List.length_set, List.length_take, List.length_drop, strs_len, ints_len, bools_len, aggs_len, vpv_len]; done) | (simp only [List.length_cons, List.length_nil, List.length_append, List.length_replicate, List.length_map, List.length_set, List.length_take, List.length_drop, strs_len, ints_len, bools_len, aggs_len, vpv_len]; omega)) only [go_sem, valP, e, hb]
      exact ih
    · simp only [List.countP_cons, List.countP_nil, hb, Bool.not_true, Bool.false_eq_true, if_false, Nat.add_zero] at ih
      simp (disch := first | assumption | omega | decide | (simp only [List.length_cons, List.length_nil, List.length_append, List.length_replicate, List.length_map, List.length_set, List.length_take, List.length_drop, strs_len, ints_len, bools_len, aggs_len, vpv_len]; done) | (simp only [List.length_cons, List.length_nil, List.length_append, List.length_replicate, List.length_map, List.length_set, List.length_take, List.length_drop, strs_len, ints_len, bools_len, aggs_len, vpv_len]; omega)) only [go_sem, valP, e, hb]
      exact ih
theorem res_FwinRanksA {k : SK} (l : List Val) (h0 : l.length ≤ Go.maxLen) (_ : ∀ x ∈ l, -9223372036854775808 ≤ x.2 ∧ x.2 ≤ 9223372036854775807) : res Γ 213 [.sl k 2 (vpv l)] = some [.bool true] := by
  have h0 : l.length ≤ 9223372036854775807 := h0
  have hk := res_known21
  by_cases h : 100 < l.length
  · refine res_code (fn := l21_FwinRanks) rfl rfl ?_
    simp (disch := first | assumption | omega | decide | (simp only [List.length_cons, List.length_nil, List.length_append, List.length_replicate, List.length_map, List.length_set, List.length_take, List.length_drop, strs_len, ints_len, bools_len, aggs_len, vpv_len]; done) | (simp only [List.length_cons, List.length_nil, List.length_append, List.length_replicate, List.length_map, List.length_set, List.length_take, List.length_drop, strs_len, ints_len, bools_len, aggs_len, vpv_len]; omega)) only [go_sem, l21_FwinRanks]
  · have hkl := knL_len l
    have i1 : res Γ 129 [.int .i64 100] = some [.agg [.bool true, .int .i64 100000000]] := res_r1Int (n := 100) (by omega)
    have i2 : res Γ 129 [.int .i64 50] = some [.agg [.bool true, .int .i64 50000000]] := res_r1Int (n := 50) (by omega)
    have i3 : res Γ 134 [.int .i64 0] = some [.agg [.bool true, .int .i64 0]] := res_r1Of 0
    have x := res_fwinRank (kk := k) (true, 100000000) l (by omega)
    have y := res_fwinRank (kk := k) (true, 0) l (by omega)
    have z := res_fwinRank (kk := k) (true, 50000000) l (by omega)
    have c1 := res_r6Of (kk := k) 4 (by omega) l (by omega)
    have c2 := res_r6Of (kk := k) 5 (by omega) l (by omega)
    have hh := rank_half l
    have hc := List.countP_le_length (p := fun v => !lessV (rankV (true, 50000000) l) v) (l := knL l)
    rw [rank_hundred] at x
    rw [rank_zero] at y
    have l1 := fun a b c B1 B2 Q => Ranks_l1_ok (k1 := .any) (rankV (true, 50000000) l) (knL l) (by omega) a b c B1 B2 Q (knL l).length 0 (by omega)
    simp only [List.take_zero, List.countP_nil] at l1
    generalize rankV (true, 50000000) l = zz at *
    refine res_code (fn := l21_FwinRanks) rfl rfl ?_
    simp (disch := first | assumption | omega | decide | (simp only [List.length_cons, List.length_nil, List.length_append, List.length_replicate, List.length_map, List.length_set, List.length_take, List.length_drop, strs_len, ints_len, bools_len, aggs_len, vpv_len]; done) | (simp only [List.length_cons, List.length_nil, List.length_append, List.length_replicate, List.length_map, List.length_set, List.length_take, List.length_drop, strs_len, ints_len, bools_len, aggs_len, vpv_len]; omega)) only [go_sem, l21_FwinRanks, i1, i2, i3, x, y, z]
    refine l1 _ _ _ _ _ _ ?_
    simp (disch := first | assumption | omega | decide | (simp only [List.length_cons, List.length_nil, List.length_append, List.length_replicate, List.length_map, List.length_set, List.length_take, List.length_drop, strs_len, ints_len, bools_len, aggs_len, vpv_len]; done) | (simp only [List.length_cons, List.length_nil, List.length_append, List.length_replicate, List.length_map, List.length_set, List.length_take, List.length_drop, strs_len, ints_len, bools_len, aggs_len, vpv_len]; omega)) only [go_sem, c1, c2, hk]
end Ab
/- Functions of the library that make a row or change one: slices.Clone, slices.SortFunc. -/
namespace Ab
open Go (IntKind BinOp UnOp World Value Addr Obj undef maxLen Program TypeId Oper Op Operand Act Sem Next Result execOp Builtin Calls Ending Exit)
open Go.Sort Go.RowKit Go.Proofs

/-! ### Numbers in order -/
theorem insI_perm (n : Int) : ∀ l : List Int, (insI n l).Perm (n :: l)
  | [] => .refl _
  | m :: r => by
    unfold insI
    split
    · exact ((insI_perm n r).cons m).trans (.swap n m r)
    · exact .refl _
theorem sortI_perm_go : ∀ (l o : List Int), (l.foldl (fun o n => insI n o) o).Perm (l ++ o)
  | [], o => .refl _
  | n :: l, o => by
    rw [List.foldl_cons]
    refine (sortI_perm_go l _).trans ?_
    refine ((insI_perm n o).append_left l).trans ?_
    simp only [List.cons_append]
    exact List.perm_middle
theorem sortI_perm (l : List Int) : (sortI l).Perm l := by
  have := sortI_perm_go l []
  rwa [List.append_nil] at this
theorem insI_sorted {n : Int} : ∀ {l : List Int}, l.Pairwise (· ≤ ·) → (insI n l).Pairwise (· ≤ ·)
  | [], _ => by simp [insI]
  | m :: r, h => by
    obtain ⟨h1, h2⟩ := List.pairwise_cons.1 h
    unfold insI
    split
    · rename_i hle
      refine List.pairwise_cons.2 ⟨fun x hx => ?_, insI_sorted h2⟩
      rcases List.mem_cons.1 ((insI_perm n r).mem_iff.1 hx) with rfl | hx
      · exact hle
      · exact h1 x hx
    · rename_i hle
      refine List.pairwise_cons.2 ⟨fun x hx => ?_, h⟩
      rcases List.mem_cons.1 hx with rfl | hx
      · omega
      · have := h1 x hx; omega
theorem sortI_sorted (l : List Int) : (sortI l).Pairwise (· ≤ ·) := by
  have : ∀ (l o : List Int), o.Pairwise (· ≤ ·) → (l.foldl (fun o n => insI n o) o).Pairwise (· ≤ ·) := by
    intro l
    induction l with
    | nil => exact fun _ h => h
    | cons n l ih => exact fun o h => ih _ (insI_sorted h)
  exact this l [] .nil
theorem sortI_len (l : List Int) : (sortI l).length = l.length := (sortI_perm l).length_eq
theorem ltI (x y : Int) : ltOf (fun x y : Int => Go.Lib.compareInt x y) x y = decide (x < y) := by
  unfold ltOf Go.Lib.compareInt
  by_cases h1 : x < y
  · simp [h1]
  · by_cases h2 : y < x <;> simp [h1, h2]
theorem swoI : SWO (ltOf fun x y : Int => Go.Lib.compareInt x y) where
  irrefl x := by rw [ltI]; simp
  trans x y z h1 h2 := by rw [ltI] at *; simp at *; omega
  ntrans x y z h1 h2 := by rw [ltI] at *; simp at *; omega
theorem sortI_eq (l : List Int) : (l.mergeSort fun x y => !(ltOf fun x y : Int => Go.Lib.compareInt x y) y x) = sortI l := by
  have e : (fun x y => !(ltOf fun x y : Int => Go.Lib.compareInt x y) y x) = fun x y : Int => decide (x ≤ y) := by
    funext x y
    rw [ltI, Bool.eq_iff_iff]
    simp
  rw [e]
  have h1 : (l.mergeSort fun x y : Int => decide (x ≤ y)).Pairwise (· ≤ ·) := by
    have := List.pairwise_mergeSort (le := fun x y : Int => decide (x ≤ y)) (fun a b c h1 h2 => by simp at *; omega) (fun a b => by simp; omega) l
    exact this.imp fun h => by simpa using h
  refine List.Perm.eq_of_pairwise (le := (· ≤ ·)) (fun a b _ _ h1 h2 => by omega) h1 (sortI_sorted l) ?_
  exact (List.mergeSort_perm l _).trans (sortI_perm l).symm

theorem intsIn_spec : ∀ {xs : List PV} {ns}, intsIn xs = some ns → xs = ns.map fun n => .agg [.bool true, .int .i64 n]
  | [], ns, h => by simp only [intsIn, Option.some.injEq] at h; subst h; rfl
  | x :: xs, ns, h => by
    unfold intsIn at h
    split at h
    · rename_i e; cases e
    · rename_i n r e
      cases e
      obtain ⟨ms, h1, rfl⟩ := Option.map_eq_some_iff.1 h
      rw [intsIn_spec h1]; rfl
    · cases h

theorem relb {ν : Nat → Nat} {w : World} {S : Nat → Prop} {b : Bool} {u : Value} (h : RelP ν w S (.bool b) u) : u = .bool b := by cases h; rfl
theorem reli {ν : Nat → Nat} {w : World} {S : Nat → Prop} {k : IntKind} {n : Int} {u : Value} (h : RelP ν w S (.int k n) u) : u = .int k n := by cases h; rfl
theorem relf {ν : Nat → Nat} {w : World} {S S' : Nat → Prop} {x c : PV} {j : Nat} {u : Value} (hf : flat x = true) (hc : x.cells[j]? = some c) (h : RelP ν w S c u) : RelP ν w S' c u := by
  refine flat1_rel ?_ h
  cases x with
  | agg cs => exact List.all_eq_true.1 hf c (List.mem_of_getElem? hc)
  | _ =>
    cases j with
    | zero => simp only [PV.cells, List.getElem?_cons_zero, Option.some.injEq] at hc; subst hc; exact hf
    | succ j => simp [PV.cells] at hc
/-! ### slices.SortFunc -/
def encV (n : Int) : List Value := [.bool true, .int .i64 n]
structure SortOk (P : Program) (f c : Nat) : Prop where
  enters : Enters P f
  none : ∀ p cap fv w, Calls P f #[.slice p 0 cap, fv] w fun e w' => e = .returned (.tuple #[]) ∧ w' = w
  some : ∀ (blk cap : Nat) (d : Array Int) (w : World), HoldsK encV 2 w blk 0 d → blk < w.heap.size → d.size < 4611686018427387904 →
    Calls P f #[.slice (some ⟨blk, 0, Option.none⟩) d.size cap, .func (.func c) #[] #[]] w fun e w' => e = .returned (.tuple #[]) ∧ ∃ n os, w' = sortWorldK encV 2 w blk 0 n (d.toList.mergeSort fun x y => !(ltOf fun x y : Int => Go.Lib.compareInt x y) y x).toArray os

theorem toArray_size2 (l : List Int) : l.toArray.size = l.length := by simp
theorem flat_get (l : List Int) {t : Nat} (h : t < l.length * 2) : (flatK encV 2 l.toArray)[t]! = if t % 2 = 0 then .bool true else .int .i64 (l.getD (t / 2) 0) := by
  rw [get_flatK encV 2 l.toArray t (by simpa using h)]
  have hd : t / 2 < l.length := by omega
  have e : l.toArray[t / 2]! = l.getD (t / 2) 0 := by
    rw [getElem!_pos _ _ (by simpa using hd)]
    simp [List.getElem?_eq_getElem hd]
  rw [e]
  have : t % 2 = 0 ∨ t % 2 = 1 := by omega
  rcases this with h | h <;> simp [h, encV]

section
variable {Γ : Ctx} {N : Names} {P : Program} {f c : Nat}
theorem upd_sort (h : SortOk P (N.fn f) (N.fn c)) : UpdOk Γ N P f (sortG c) := by
  intro ps sz xs ys hg hyl hlim w S u us cells hS hgl hrow hfl hsep ha
  have lim_eq : lim = 1073741824 := rfl
  unfold sortG at hg
  split at hg
  rotate_left
  · cases hg
  rename_i xs k
  split at hg
  rotate_left
  · cases hg
  rename_i hk
  subst hk
  obtain ⟨ns, hns, rfl⟩ := Option.map_eq_some_iff.1 hg
  have hxs := intsIn_spec hns
  subst hxs
  match us, ha with
  | [v], ⟨hv, _⟩ =>
  have ev : v = .func (.func (N.fn k)) #[] #[] := by
    cases hv with
    | clo _ _ us h1 h2 h3 =>
      have : us = #[] := Array.eq_empty_of_size_eq_zero (by simpa using h1)
      rw [this]
  subst ev
  -- the cells
  have hcell : ∀ t, t < ns.length * 2 → cells.getD t undef = if t % 2 = 0 then .bool true else .int .i64 (ns.getD (t / 2) 0) := by
    intro t ht
    have hd : t / 2 < ns.length := by omega
    have hx : (ns.map fun n => PV.agg [.bool true, .int .i64 n])[t / 2]? = some (.agg [.bool true, .int .i64 (ns.getD (t / 2) 0)]) := by
      simp [List.getElem?_eq_getElem hd]
    have h01 : t % 2 = 0 ∨ t % 2 = 1 := by omega
    have et : t / 2 * 2 + t % 2 = t := by omega
    rcases h01 with h0 | h0
    · have := hfl.2 (t / 2) _ 0 (.bool true) hx rfl
      rw [show t / 2 * 2 + 0 = t by omega] at this
      rw [if_pos h0]; exact relb this
    · have := hfl.2 (t / 2) _ 1 (.int .i64 (ns.getD (t / 2) 0)) hx rfl
      rw [show t / 2 * 2 + 1 = t by omega] at this
      rw [if_neg (by omega)]; exact reli this
  simp only [List.length_map] at hrow hlim hyl
  obtain ⟨hcl, hrow⟩ := hrow
  by_cases hz : ns = []
  · subst hz
    have hu : ∃ p cap, u = .slice p 0 cap := by
      rcases hrow with ⟨_, a, rfl⟩ | ⟨g, cap, cur, e, rfl, _⟩
      · exact ⟨a, 0, rfl⟩
      · exact ⟨_, cap, rfl⟩
    obtain ⟨p, cap, rfl⟩ := hu
    refine .inl ⟨h.enters _ _, (h.none p cap _ w).mono ?_⟩
    rintro e w' ⟨rfl, rfl⟩
    exact ⟨_, rfl, rfl, rfl, rfl, rfl, Nat.le_refl _, fun _ _ _ => rfl, cells, ⟨hcl, hrow⟩, hfl⟩
  · have hpos : 0 < ns.length := List.length_pos_iff.2 hz
    obtain ⟨g, cap, cur, e, rfl, hc0, hgx, hnc, hcm, hcs, htk⟩ : ∃ g cap cur e, u = .slice (some ⟨g, 0, Option.none⟩) ns.length cap ∧ 0 < cap ∧ w.heap[g]? = some (.cells cur e (0, 0)) ∧ ns.length ≤ cap ∧ cap ≤ maxLen ∧ cur.size = cap * 2 ∧ cur.toList.take (ns.length * 2) = cells := by
      rcases hrow with ⟨h0, _⟩ | h
      · omega
      · exact h
    have hgl' : g < w.heap.size := (Array.getElem?_eq_some_iff.1 hgx).1
    have hcur : ∀ t, t < ns.length * 2 → cur[t]? = some (if t % 2 = 0 then .bool true else .int .i64 (ns.getD (t / 2) 0)) := fun t ht => by
      have h1 := hcell t ht
      rw [← htk, List.getD_eq_getElem?_getD, List.getElem?_take, if_pos ht] at h1
      have hlt : t < cur.size := by omega
      have e2 : cur.toList[t]? = cur[t]? := by simp
      rw [e2, Array.getElem?_eq_getElem hlt, Option.getD_some] at h1
      rw [Array.getElem?_eq_getElem hlt, h1]
    have hH : HoldsK encV 2 w g 0 ns.toArray := by
      intro j hj
      have hj : j < ns.length * 2 := by simpa using hj
      rw [flat_get ns hj, Nat.zero_add]
      refine ⟨?_, by simp [World.frozen?, hgx]⟩
      simp only [World.cell?, hgx, Option.isSome_none, Bool.false_eq_true, if_false, id]
      exact hcur j hj
    have hcon := h.some g cap ns.toArray w hH hgl' (by simp; omega)
    rw [toArray_size2] at hcon
    refine .inl ⟨h.enters _ _, hcon.mono ?_⟩
    rintro e' w' ⟨rfl, n, os, rfl⟩
    rw [List.toList_toArray, sortI_eq]
    have hblk : ∀ b, b < w.heap.size → (sortWorldK encV 2 w g 0 n (sortI ns).toArray os).heap[b]? = (w.heap.modify g (onCells (putCells id 0 (flatK encV 2 (sortI ns).toArray))))[b]? := fun b hb => by
      simp only [sortWorldK, grow, putRowK, putRow, mapBlock, Go.Sort.ahead]
      rw [Array.getElem?_append_left (by simpa using hb)]
    refine ⟨_, rfl, rfl, rfl, rfl, rfl, ?_, fun b hb hne => ?_, ?_⟩
    · simp [sortWorldK, grow, putRowK, putRow, mapBlock, Go.Sort.ahead]
    · have hne' : g ≠ b := fun e => hne (by subst e; simp only [blkOf]; rw [if_neg (by omega)])
      rw [hblk b hb, Array.getElem?_modify, if_neg hne']
    · have hg' : (sortWorldK encV 2 w g 0 n (sortI ns).toArray os).heap[g]? = some (.cells (putCells id 0 (flatK encV 2 (sortI ns).toArray) cur) e (0, 0)) := by
        rw [hblk g hgl', Array.getElem?_modify, if_pos rfl, hgx]; rfl
      have hlen : (sortI ns).length = ns.length := sortI_len ns
      have hput : ∀ t, t < ns.length * 2 → (putCells id 0 (flatK encV 2 (sortI ns).toArray) cur)[t]? = some (if t % 2 = 0 then .bool true else .int .i64 ((sortI ns).getD (t / 2) 0)) := fun t ht => by
        have hlt : t < cur.size := by omega
        simp only [putCells, Array.getElem?_mapIdx, Array.getElem?_eq_getElem hlt, Option.map_some]
        rw [if_pos ⟨Nat.zero_le _, by simp; omega⟩, Nat.sub_zero, flat_get _ (by omega)]; rfl
      have hget : ∀ t, t < ns.length * 2 → ((putCells id 0 (flatK encV 2 (sortI ns).toArray) cur).toList.take (ns.length * 2)).getD t undef = if t % 2 = 0 then .bool true else .int .i64 ((sortI ns).getD (t / 2) 0) := fun t ht => by
        rw [List.getD_eq_getElem?_getD, List.getElem?_take, if_pos ht]
        have e2 : (putCells id 0 (flatK encV 2 (sortI ns).toArray) cur).toList[t]? = (putCells id 0 (flatK encV 2 (sortI ns).toArray) cur)[t]? := by simp
        rw [e2, hput t ht, Option.getD_some]
      have hsz : (putCells id 0 (flatK encV 2 (sortI ns).toArray) cur).size = cur.size := by simp [putCells]
      refine ⟨(putCells id 0 (flatK encV 2 (sortI ns).toArray) cur).toList.take (ns.length * 2), ⟨by simp only [List.length_map, List.length_take, Array.length_toList]; omega, .inr ⟨g, cap, _, e, by simp [hlen], hc0, hg', by simp; omega, hcm, by omega, by simp [hlen]⟩⟩, fun x hx => ?_, fun i x j cc hx hc => ?_⟩
      · obtain ⟨m, _, rfl⟩ := List.mem_map.1 hx
        exact ⟨rfl, by simp [PV.cells, PV.one]⟩
      · rw [List.getElem?_map, Option.map_eq_some_iff] at hx
        obtain ⟨m, hm, rfl⟩ := hx
        have hi : i < ns.length := by rw [← hlen]; exact (List.getElem?_eq_some_iff.1 hm).1
        have hmd : (sortI ns).getD i 0 = m := by rw [List.getD_eq_getElem?_getD, hm]; rfl
        match j with
        | 0 =>
          simp only [PV.cells, List.getElem?_cons_zero, Option.some.injEq] at hc; subst hc
          rw [hget _ (by omega), if_pos (by omega)]; exact .bool _
        | 1 =>
          simp only [PV.cells, List.getElem?_cons_succ, List.getElem?_cons_zero, Option.some.injEq] at hc; subst hc
          rw [hget _ (by omega), if_neg (by omega), show (i * 2 + 1) / 2 = i by omega, hmd]; exact .int _ _
        | j + 2 => simp [PV.cells] at hc

/-! ### slices.Clone -/
/-- The abstract program of one function alone. -/
def onlyΓ (f : Nat) (fn : AFn) : Ctx := ⟨fun k => if k = f then some (.code fn) else none, fun _ => none⟩
theorem known_only {fn : AFn} (hm : P.follows .mixedOrders = true) {g : Go.Func} (hg : P.funcs[N.fn f]? = some g) (hc : chkF P N g fn = true) : Known (onlyΓ f fn) N P where
  mixed := hm
  code k fn' h := by
    simp only [onlyΓ] at h
    split at h
    · rename_i e; subst e; simp only [Option.some.injEq, Fn.code.injEq] at h; subst h; exact ⟨g, hg, hc⟩
    · cases h
  prim k g h := by simp only [onlyΓ] at h; split at h <;> cases h
  fresh k g h := by simp only [onlyΓ] at h; split at h <;> cases h
  upd k g h := by simp only [onlyΓ] at h; split at h <;> cases h
/-- A function that copies a slice's elements: what its code answers at nil and at what is not nil. -/
structure CloneOk (P : Program) (N : Names) (f n : Nat) (fn : AFn) : Prop where
  mixed : P.follows .mixedOrders = true
  chk : ∃ g, P.funcs[N.fn f]? = some g ∧ chkF P N g fn = true
  pos : 0 < n
  nil : ∃ m h, callOf (onlyΓ f fn) (ev (onlyΓ f fn) m) f [.p (.sl .nil n [])] [] = some ([.p (.sl .nil n [])], h)
  mem : ∀ xs : List PV, xs.length ≤ lim → ∃ m h, callOf (onlyΓ f fn) (ev (onlyΓ f fn) m) f [.p (.sl .mem n xs)] [] = some ([.own 0 xs.length], h) ∧ h[0]? = some (.row false n xs)
theorem fresh_clone {n : Nat} {fn : AFn} (h : CloneOk P N f n fn) : FreshOk Γ N P f (cloneG n) := by
  intro ps r hg w S us hS hgl ha
  obtain ⟨g, hg1, hg2⟩ := h.chk
  have K := known_only (f := f) h.mixed hg1 hg2
  have hgl0 : GlRel (onlyΓ f fn) N w S := ⟨(fun k cs hk => by cases hk), (fun k cs hk => by cases hk)⟩
  unfold cloneG at hg
  split at hg
  rotate_left
  · cases hg
  rename_i k sz xs
  simp only [Option.ite_none_right_eq_some, Option.some.injEq] at hg
  obtain ⟨⟨rfl, h0, hlim, hflat⟩, rfl⟩ := hg
  match us, ha with
  | [u], ⟨hu, _⟩ =>
  have no : ∀ g, ¬ alive (fun _ => undef) [] g := fun g h => by obtain ⟨id, h1, h2⟩ := h; simp at h2
  have hu2 := hu
  generalize hxs : xs = xs' at hu2
  cases hu2 with
  | sl _ _ _ a cap ws k1 k2 k3 k4 k5 k6 k7 k8 =>
  subst hxs
  by_cases ha : a = none
  · subst ha
    obtain ⟨e1, _, e3⟩ := k4 (.inr rfl)
    subst e1 e3
    obtain ⟨m, hh, hc⟩ := h.nil
    have hn : RelP N.fn w S (.sl .nil sz []) (.slice none 0 0) := .sl .nil sz [] none 0 (fun _ _ => undef) (Nat.le_refl _) (Nat.zero_le _) (by simp) (by simp) (by simp) (by simp) (by simp) (by simp)
    refine (all_ok K m f _ _ _ _ hc w S (fun _ => undef) [.slice none 0 0] (rel_nil hS) hgl0 ⟨.p _ _ hn, trivial⟩).mono ?_
    rintro v w' ⟨vs, S', μ', rfl, hrun, _, hvs⟩
    match vs, hvs with
    | [v], ⟨hv, _⟩ =>
    have hv := hv.p_inv
    have ev : v = .slice none 0 0 := by
      generalize hz : ([] : List PV) = zs at hv
      cases hv with
      | sl _ _ _ a cap _ _ _ _ q4 _ _ _ _ => subst hz; obtain ⟨_, rfl, rfl⟩ := q4 (.inl rfl); rfl
    subst ev
    exact ⟨[], ⟨hrun.ext.os, hrun.ext.tape, hrun.ext.output, hrun.ext.size, fun g hg => hrun.ext.keep g hg (no g)⟩, ⟨by simp, .inl ⟨rfl, none, rfl⟩⟩, rfl, ⟨by simp, by simp⟩, fun g hg => by simp [resVal, blkOf] at hg⟩
  · obtain ⟨m, hh, hc, hrow⟩ := h.mem xs hlim
    have hm : RelP N.fn w S (.sl .mem sz xs) (.slice a xs.length cap) := .sl .mem sz xs a cap ws k1 k2 k3 (fun h => by rcases h with h | h; cases h; exact absurd h ha) (fun _ => ⟨by cases a <;> simp_all, fun h => by cases h⟩) k6 k7 k8
    refine (all_ok K m f _ _ _ _ hc w S (fun _ => undef) [.slice a xs.length cap] (rel_nil hS) hgl0 ⟨.p _ _ hm, trivial⟩).mono ?_
    rintro v w' ⟨vs, S', μ', rfl, hrun, _, hvs⟩
    match vs, hvs with
    | [v], ⟨hv, _⟩ =>
    have hv1 := hv.one rfl
    cases hv with
    | own _ _ _ _ q1 q2 =>
    have ev : v = μ' 0 := (q1 _ _ _ hrow).2 rfl
    obtain ⟨_, _, cells, b1, b2, b3, _⟩ := hrun.rel.blk 0 _ hrow
    subst ev
    refine ⟨cells, ⟨hrun.ext.os, hrun.ext.tape, hrun.ext.output, hrun.ext.size, fun g hg => hrun.ext.keep g hg (no g)⟩, b1, hv1, ⟨b2, fun i x j c hx hc => ?_⟩, fun g hg => ?_⟩
    · exact relf (List.all_eq_true.1 hflat x (List.mem_of_getElem? hx)) hc (b3 i x j c hx hc)
    · rcases Nat.lt_or_ge g w.heap.size with hl | hl
      · exact absurd (hrun.ext.own g ⟨0, hg, .inr ⟨sz, xs, hrow⟩⟩ hl) (no g)
      · exact hl
end
end Ab
/- slices.Clone: its code's answers at nil and at what is not nil. -/
namespace Ab
theorem clone_nil {f : Nat} : ∃ m h, callOf (onlyΓ f slices_Clone_api_Val_api_Val) (ev (onlyΓ f slices_Clone_api_Val_api_Val) m) f [.p (.sl .nil 2 [])] [] = some ([.p (.sl .nil 2 [])], h) := by
  obtain ⟨n, vs, h, h1, h2⟩ := callK (Γ := onlyΓ f slices_Clone_api_Val_api_Val) (f := f) (fn := slices_Clone_api_Val_api_Val) (args := [.p (.sl .nil 2 [])]) (HL := []) (K := fun vs _ => vs = [.p (.sl .nil 2 [])]) (by simp [onlyΓ]) rfl (by
    simp (disch := first | assumption | omega | decide | (simp only [List.length_cons, List.length_nil, List.length_append, List.length_replicate, List.length_map, List.length_set, List.length_take, List.length_drop, strs_len, ints_len, bools_len, aggs_len, vpv_len]; done) | (simp only [List.length_cons, List.length_nil, List.length_append, List.length_replicate, List.length_map, List.length_set, List.length_take, List.length_drop, strs_len, ints_len, bools_len, aggs_len, vpv_len]; omega)) only [go_sem, slices_Clone_api_Val_api_Val])
  exact ⟨n, h, by rw [h1, h2]⟩
theorem clone_mem {f : Nat} (xs : List PV) (hx : xs.length ≤ lim) : ∃ m h, callOf (onlyΓ f slices_Clone_api_Val_api_Val) (ev (onlyΓ f slices_Clone_api_Val_api_Val) m) f [.p (.sl .mem 2 xs)] [] = some ([.own 0 xs.length], h) ∧ h[0]? = some (.row false 2 xs) := by
  have hx : xs.length ≤ 1073741824 := hx
  obtain ⟨n, vs, h, h1, h2, h3⟩ := callK (Γ := onlyΓ f slices_Clone_api_Val_api_Val) (f := f) (fn := slices_Clone_api_Val_api_Val) (args := [.p (.sl .mem 2 xs)]) (HL := []) (K := fun vs h => vs = [.own 0 xs.length] ∧ h[0]? = some (.row false 2 xs)) (by simp [onlyΓ]) rfl (by
    simp (disch := first | assumption | omega | decide | (simp only [List.length_cons, List.length_nil, List.length_append, List.length_replicate, List.length_map, List.length_set, List.length_take, List.length_drop, strs_len, ints_len, bools_len, aggs_len, vpv_len]; done) | (simp only [List.length_cons, List.length_nil, List.length_append, List.length_replicate, List.length_map, List.length_set, List.length_take, List.length_drop, strs_len, ints_len, bools_len, aggs_len, vpv_len]; omega)) only [go_sem, slices_Clone_api_Val_api_Val])
  exact ⟨n, h, by rw [h1, h2], h3⟩
end Ab
