import Derived.Test.YtjkkipfigangaaaGreatDoorPSer
import Derived.Test.YtjkkipfigangaaaGreatDoorAbRel
namespace Ab
def commonV (a b : Nat) : Nat := if Nat.lcm a b ≤ 16777216 then Nat.lcm a b else 0
theorem lcm_eq {a b : Nat} (ha : 0 < a) : Nat.lcm a b = a / Nat.gcd a b * b := by
  unfold Nat.lcm
  have hg : 0 < Nat.gcd a b := Nat.gcd_pos_of_pos_left b ha
  obtain ⟨k, hk⟩ := Nat.gcd_dvd_left a b
  have e : a / Nat.gcd a b = k := by
    conv => lhs; arg 1; rw [hk]
    exact Nat.mul_div_cancel_left k hg
  rw [e]
  conv => lhs; arg 1; arg 1; rw [hk]
  rw [Nat.mul_assoc]
  exact Nat.mul_div_cancel_left _ hg
theorem lcm_eq' {a b : Nat} (hb : 0 < b) : Nat.lcm a b = a * (b / Nat.gcd b a) := by
  rw [Nat.lcm_comm, lcm_eq hb, Nat.mul_comm]
theorem common_lt {a b : Nat} (ha : 0 < a) (hb : 0 < b) : 16777216 / b < a / Nat.gcd a b ↔ ¬ Nat.lcm a b ≤ 16777216 := by
  rw [lcm_eq ha, Nat.div_lt_iff_lt_mul hb]
  omega
theorem common_lt' {a b : Nat} (ha : 0 < a) (hb : 0 < b) : 16777216 / a < b / Nat.gcd b a ↔ ¬ Nat.lcm a b ≤ 16777216 := by
  rw [lcm_eq' hb, Nat.div_lt_iff_lt_mul ha, Nat.mul_comm (b / _) a]
  omega
theorem lcm_pos' {a b : Nat} (ha : 0 < a) (hb : 0 < b) : 0 < Nat.lcm a b := Nat.lcm_pos ha hb
def stepT (st : Nat) (s : Ser) : Nat := if st = 0 then 0 else commonV st s.step.toNat
def stepJ (l : List Ser) : Nat := l.foldl stepT 1
def startJ (m : Int) (l : List Ser) : Int := l.foldl (fun m s => min m s.start) m
def endJ (l : List Ser) : Int := l.foldl (fun m s => max m (endS s)) 0
theorem stepT_zero (l : List Ser) : l.foldl stepT 0 = 0 := by
  induction l with
  | nil => rfl
  | cons s l ih => rw [List.foldl_cons]; exact ih
theorem stepJ_snoc {l : List Ser} {s : Ser} : stepJ (l ++ [s]) = stepT (stepJ l) s := by unfold stepJ; rw [List.foldl_append]; rfl
theorem startJ_snoc {m : Int} {l : List Ser} {s : Ser} : startJ m (l ++ [s]) = min (startJ m l) s.start := by unfold startJ; rw [List.foldl_append]; rfl
theorem endJ_snoc {l : List Ser} {s : Ser} : endJ (l ++ [s]) = max (endJ l) (endS s) := by unfold endJ; rw [List.foldl_append]; rfl
theorem stepJ_le (l : List Ser) : stepJ l ≤ 16777216 := by
  have : ∀ (l : List Ser) (a : Nat), a ≤ 16777216 → l.foldl stepT a ≤ 16777216 := by
    intro l
    induction l with
    | nil => exact fun a h => h
    | cons s l ih =>
      intro a h
      rw [List.foldl_cons]
      refine ih _ ?_
      unfold stepT commonV
      split
      · omega
      · split <;> omega
  exact this l 1 (by omega)
theorem startJ_le {m : Int} {l : List Ser} : startJ m l ≤ m ∧ ∀ s ∈ l, startJ m l ≤ s.start := by
  induction l generalizing m with
  | nil => exact ⟨Int.le_refl _, fun s h => by cases h⟩
  | cons s l ih =>
    obtain ⟨h1, h2⟩ := ih (m := min m s.start)
    have e : startJ m (s :: l) = startJ (min m s.start) l := rfl
    rw [e]
    refine ⟨by omega, fun x hx => ?_⟩
    rcases List.mem_cons.1 hx with rfl | hx
    · omega
    · exact h2 x hx
theorem startJ_ge {m : Int} {l : List Ser} (hm : 0 ≤ m) (h : ∀ s ∈ l, 0 ≤ s.start) : 0 ≤ startJ m l := by
  induction l generalizing m with
  | nil => exact hm
  | cons s l ih =>
    have e : startJ m (s :: l) = startJ (min m s.start) l := rfl
    rw [e]
    exact ih (by have := h s (by simp); omega) fun x hx => h x (by simp [hx])
theorem startJ_cons {m : Int} {s : Ser} {l : List Ser} (h : s.start ≤ m) : startJ m (s :: l) = startJ s.start (s :: l) := by
  have e : ∀ m, startJ m (s :: l) = startJ (min m s.start) l := fun _ => rfl
  rw [e, e, Int.min_eq_right h, Int.min_self]
theorem endJ_ge {l : List Ser} : 0 ≤ endJ l ∧ ∀ s ∈ l, endS s ≤ endJ l := by
  have : ∀ (l : List Ser) (a : Int), a ≤ l.foldl (fun m s => max m (endS s)) a ∧ ∀ s ∈ l, endS s ≤ l.foldl (fun m s => max m (endS s)) a := by
    intro l
    induction l with
    | nil => exact fun a => ⟨Int.le_refl _, fun s h => by cases h⟩
    | cons s l ih =>
      intro a
      rw [List.foldl_cons]
      obtain ⟨h1, h2⟩ := ih (max a (endS s))
      refine ⟨by omega, fun x hx => ?_⟩
      rcases List.mem_cons.1 hx with rfl | hx
      · omega
      · exact h2 x hx
  exact this l 0
theorem endJ_le {l : List Ser} {B : Int} (hB : 0 ≤ B) (h : ∀ s ∈ l, endS s ≤ B) : endJ l ≤ B := by
  have : ∀ (l : List Ser) (a : Int), a ≤ B → (∀ s ∈ l, endS s ≤ B) → l.foldl (fun m s => max m (endS s)) a ≤ B := by
    intro l
    induction l with
    | nil => exact fun a h _ => h
    | cons s l ih =>
      intro a ha h
      rw [List.foldl_cons]
      exact ih _ (by have := h s (by simp); omega) fun x hx => h x (by simp [hx])
  exact this l 0 hB h
def begJ (l : List Ser) : Int := startJ 4294967295 l - startJ 4294967295 l % (stepJ l : Int)
def manyJ (l : List Ser) : Int := (endJ l - begJ l + (stepJ l : Int) - 1) / (stepJ l : Int)
def errJ (l : List Ser) : Int := if l.all isS = false then 1 else if l = [] then 0 else if stepJ l = 0 then 13 else if 131072 < manyJ l then 13 else 0
def joinJ (l : List (SK × Ser)) : List (SK × Ser) := l.map fun x => (if (manyJ (l.map (·.2))).toNat = 0 then .nil else .any, fitS x.2 (begJ (l.map (·.2))) (stepJ (l.map (·.2))) (manyJ (l.map (·.2))).toNat)
end Ab
namespace Ab
open Go (IntKind BinOp UnOp)
theorem knL_take {l : List Val} {i : Nat} (h : i < l.length) : knL (l.take (i + 1)) = if knV (l.getD i (false, 0)) = true then knL (l.take i) ++ [l.getD i (false, 0)] else knL (l.take i) := by
  rw [take_snoc' (false, 0) h]
  unfold knL
  rw [List.filter_append]
  split
  · rename_i hk; rw [List.filter_cons_of_pos hk]; rfl
  · rename_i hk; rw [List.filter_cons_of_neg hk]; simp
theorem knL_len (l : List Val) : (knL l).length ≤ l.length := List.length_filter_le _ _
theorem knL_take_len (l : List Val) (i : Nat) : (knL (l.take i)).length ≤ i := by
  have := knL_len (l.take i)
  rw [List.length_take] at this
  omega
theorem agg_Known_l1_ok {kk : SK} (l : List Val) (hl : l.length < 1000000000) (Q : Out → Prop) : ∀ (k i : Nat) (T : Heap), i + k = l.length →
    (∀ T, Q (.nrm, [(3, .own 0 (knL l).length)], .row false 2 (vpv (knL l)) :: T)) →
    Wp Γ agg_Known_l1 [(3, .own 0 (knL (l.take i)).length), (6, .p (.sl kk 2 (vpv l))), (7, .p (.int .i64 (l.length : Int))), (8, .p (.int .i64 (i : Int)))] (.row false 2 (vpv (knL (l.take i))) :: T) (InBlk [3] 0 Q) := by
  intro k
  induction k with
  | zero =>
    intro i T hi hQ
    obtain rfl : i = l.length := by omega
    rw [W_loop (L := agg_Known_l1) rfl]
    simp (disch := first | assumption | omega | decide | (simp only [List.length_cons, List.length_nil, List.length_append, List.length_replicate, List.length_map, List.length_set, List.length_take, List.length_drop, strs_len, ints_len, bools_len, aggs_len, vpv_len]; done) | (simp only [List.length_cons, List.length_nil, List.length_append, List.length_replicate, List.length_map, List.length_set, List.length_take, List.length_drop, strs_len, ints_len, bools_len, aggs_len, vpv_len]; omega)) only [go_sem]
    rw [List.take_length]
    exact hQ _
  | succ k ih =>
    intro i T hi hQ
    have g := knL_take_len l i
    have e := knL_take (l := l) (i := i) (by omega)
    have hw : (vpv (knL (l.take i))).length = (knL (l.take i)).length := vpv_len
    rw [W_loop (L := agg_Known_l1) rfl]
    simp (disch := first | assumption | omega | decide | (simp only [List.length_cons, List.length_nil, List.length_append, List.length_replicate, List.length_map, List.length_set, List.length_take, List.length_drop, strs_len, ints_len, bools_len, aggs_len, vpv_len]; done) | (simp only [List.length_cons, List.length_nil, List.length_append, List.length_replicate, List.length_map, List.length_set, List.length_take, List.length_drop, strs_len, ints_len, bools_len, aggs_len, vpv_len]; omega)) only [go_sem, valP]
    generalize hx : l.getD i (false, 0) = x at e ⊢
    obtain ⟨b, n⟩ := x
    cases b
    · have hk : knV (false, n) = false := rfl
      rw [hk, if_neg (by simp)] at e
      simp (disch := first | assumption | omega | decide | (simp only [List.length_cons, List.length_nil, List.length_append, List.length_replicate, List.length_map, List.length_set, List.length_take, List.length_drop, strs_len, ints_len, bools_len, aggs_len, vpv_len]; done) | (simp only [List.length_cons, List.length_nil, List.length_append, List.length_replicate, List.length_map, List.length_set, List.length_take, List.length_drop, strs_len, ints_len, bools_len, aggs_len, vpv_len]; omega)) only [go_sem]
      rw [← e]
      exact ih (i + 1) _ (by omega) hQ
    · cases hv : isV (true, n)
      · have hk : knV (true, n) = false := by simp [knV, hv]
        rw [hk, if_neg (by simp)] at e
        simp (disch := first | assumption | omega | decide | (simp only [List.length_cons, List.length_nil, List.length_append, List.length_replicate, List.length_map, List.length_set, List.length_take, List.length_drop, strs_len, ints_len, bools_len, aggs_len, vpv_len]; done) | (simp only [List.length_cons, List.length_nil, List.length_append, List.length_replicate, List.length_map, List.length_set, List.length_take, List.length_drop, strs_len, ints_len, bools_len, aggs_len, vpv_len]; omega)) only [go_sem, hv]
        rw [← e]
        exact ih (i + 1) _ (by omega) hQ
      · have hk : knV (true, n) = true := by simp [knV, hv]
        rw [hk, if_pos rfl] at e
        simp (disch := first | assumption | omega | decide | (simp only [List.length_cons, List.length_nil, List.length_append, List.length_replicate, List.length_map, List.length_set, List.length_take, List.length_drop, strs_len, ints_len, bools_len, aggs_len, vpv_len]; done) | (simp only [List.length_cons, List.length_nil, List.length_append, List.length_replicate, List.length_map, List.length_set, List.length_take, List.length_drop, strs_len, ints_len, bools_len, aggs_len, vpv_len]; omega)) only [go_sem, hv]
        rw [← e, show (knL (l.take i)).length + 1 = (knL (l.take (i + 1))).length by rw [e]; simp]
        exact ih (i + 1) _ (by omega) hQ
@[go_sem] theorem res_aggKnown {kk : SK} (l : List Val) (hl : l.length < 1000000000) : res Γ 140 [.sl kk 2 (vpv l)] = some [.sl .any 2 (vpv (knL l))] := by
  have hw : (vpv (knL l)).length = (knL l).length := vpv_len
  refine res_code (fn := agg_Known) rfl rfl ?_
  simp (disch := first | assumption | omega | decide | (simp only [List.length_cons, List.length_nil, List.length_append, List.length_replicate, List.length_map, List.length_set, List.length_take, List.length_drop, strs_len, ints_len, bools_len, aggs_len, vpv_len]; done) | (simp only [List.length_cons, List.length_nil, List.length_append, List.length_replicate, List.length_map, List.length_set, List.length_take, List.length_drop, strs_len, ints_len, bools_len, aggs_len, vpv_len]; omega)) only [go_sem, agg_Known]
  refine agg_Known_l1_ok l hl _ l.length 0 [] (by omega) (fun T => ?_)
  simp (disch := first | assumption | omega | decide | (simp only [List.length_cons, List.length_nil, List.length_append, List.length_replicate, List.length_map, List.length_set, List.length_take, List.length_drop, strs_len, ints_len, bools_len, aggs_len, vpv_len]; done) | (simp only [List.length_cons, List.length_nil, List.length_append, List.length_replicate, List.length_map, List.length_set, List.length_take, List.length_drop, strs_len, ints_len, bools_len, aggs_len, vpv_len]; omega)) only [go_sem]
theorem r6_Known_l1_ok {kk : SK} (l : List Val) (hl : l.length < 1000000000) (Q : Out → Prop) : ∀ (k i : Nat), i + k = l.length →
    (Q (.nrm, [(3, .own 0 (knL l).length)], [.row false 2 (vpv (knL l))])) →
    Wp Γ r6_Known_l1 [(0, .p (.sl kk 2 (vpv l))), (3, .own 0 (knL (l.take i)).length), (4, .p (.int .i64 (i : Int)))] [.row false 2 (vpv (knL (l.take i)))] (InBlk [3] 0 Q) := by
  intro k
  induction k with
  | zero =>
    intro i hi hQ
    obtain rfl : i = l.length := by omega
    rw [W_loop (L := r6_Known_l1) rfl]
    simp (disch := first | assumption | omega | decide | (simp only [List.length_cons, List.length_nil, List.length_append, List.length_replicate, List.length_map, List.length_set, List.length_take, List.length_drop, strs_len, ints_len, bools_len, aggs_len, vpv_len]; done) | (simp only [List.length_cons, List.length_nil, List.length_append, List.length_replicate, List.length_map, List.length_set, List.length_take, List.length_drop, strs_len, ints_len, bools_len, aggs_len, vpv_len]; omega)) only [go_sem]
    rw [List.take_length]
    exact hQ
  | succ k ih =>
    intro i hi hQ
    have g := knL_take_len l i
    have e := knL_take (l := l) (i := i) (by omega)
    have hw : (vpv (knL (l.take i))).length = (knL (l.take i)).length := vpv_len
    rw [W_loop (L := r6_Known_l1) rfl]
    simp (disch := first | assumption | omega | decide | (simp only [List.length_cons, List.length_nil, List.length_append, List.length_replicate, List.length_map, List.length_set, List.length_take, List.length_drop, strs_len, ints_len, bools_len, aggs_len, vpv_len]; done) | (simp only [List.length_cons, List.length_nil, List.length_append, List.length_replicate, List.length_map, List.length_set, List.length_take, List.length_drop, strs_len, ints_len, bools_len, aggs_len, vpv_len]; omega)) only [go_sem, valP]
    cases hk : knV (l.getD i (false, 0))
    · rw [hk, if_neg (by simp)] at e
      simp (disch := first | assumption | omega | decide | (simp only [List.length_cons, List.length_nil, List.length_append, List.length_replicate, List.length_map, List.length_set, List.length_take, List.length_drop, strs_len, ints_len, bools_len, aggs_len, vpv_len]; done) | (simp only [List.length_cons, List.length_nil, List.length_append, List.length_replicate, List.length_map, List.length_set, List.length_take, List.length_drop, strs_len, ints_len, bools_len, aggs_len, vpv_len]; omega)) only [go_sem]
      rw [← e]
      exact ih (i + 1) (by omega) hQ
    · rw [hk, if_pos rfl] at e
      simp (disch := first | assumption | omega | decide | (simp only [List.length_cons, List.length_nil, List.length_append, List.length_replicate, List.length_map, List.length_set, List.length_take, List.length_drop, strs_len, ints_len, bools_len, aggs_len, vpv_len]; done) | (simp only [List.length_cons, List.length_nil, List.length_append, List.length_replicate, List.length_map, List.length_set, List.length_take, List.length_drop, strs_len, ints_len, bools_len, aggs_len, vpv_len]; omega)) only [go_sem, valP]
      rw [← e, show (knL (l.take i)).length + 1 = (knL (l.take (i + 1))).length by rw [e]; simp]
      exact ih (i + 1) (by omega) hQ
@[go_sem] theorem res_r6Known {kk : SK} (l : List Val) (hl : l.length < 1000000000) : res Γ 131 [.sl kk 2 (vpv l)] = some [.sl .any 2 (vpv (knL l))] := by
  have hw : (vpv (knL l)).length = (knL l).length := vpv_len
  refine res_code (fn := r6_Known) rfl rfl ?_
  simp (disch := first | assumption | omega | decide | (simp only [List.length_cons, List.length_nil, List.length_append, List.length_replicate, List.length_map, List.length_set, List.length_take, List.length_drop, strs_len, ints_len, bools_len, aggs_len, vpv_len]; done) | (simp only [List.length_cons, List.length_nil, List.length_append, List.length_replicate, List.length_map, List.length_set, List.length_take, List.length_drop, strs_len, ints_len, bools_len, aggs_len, vpv_len]; omega)) only [go_sem, r6_Known]
  refine r6_Known_l1_ok l hl _ l.length 0 (by omega) ?_
  simp (disch := first | assumption | omega | decide | (simp only [List.length_cons, List.length_nil, List.length_append, List.length_replicate, List.length_map, List.length_set, List.length_take, List.length_drop, strs_len, ints_len, bools_len, aggs_len, vpv_len]; done) | (simp only [List.length_cons, List.length_nil, List.length_append, List.length_replicate, List.length_map, List.length_set, List.length_take, List.length_drop, strs_len, ints_len, bools_len, aggs_len, vpv_len]; omega)) only [go_sem]
end Ab
namespace Ab
open Go (IntKind BinOp UnOp)
def addT (l : List Val) (i : Nat) : Val := addV (l.take i)
theorem addT_succ {l : List Val} {i : Nat} (h : i < l.length) : addT l (i + 1) = sumV (addT l i) (l.getD i (false, 0)) := by
  unfold addT addV
  rw [take_snoc' (false, 0) h, List.foldl_append]; rfl
theorem fixed_Add_l1_ok {kk : SK} (l : List Val) (hl : l.length < 1000000000) (B : Blk) (hB : ∃ a b, B = .box [.p a, .p b]) (Q : Out → Prop) : ∀ (k i : Nat) (T : Heap), i + k = l.length →
    (∀ T, Q (.nrm, [(2, .bx 0 0), (3, .bx 1 0)], B :: .box [.p (.bool (addV l).1), .p (.int .i64 (addV l).2)] :: T)) →
    Wp Γ fixed_Add_l1 [(2, .bx 0 0), (3, .bx 1 0), (7, .p (.sl kk 2 (vpv l))), (8, .p (.int .i64 (l.length : Int))), (9, .p (.int .i64 (i : Int)))] (B :: .box [.p (.bool (addT l i).1), .p (.int .i64 (addT l i).2)] :: T) (InBlk [2, 3] 0 Q) := by
  obtain ⟨a, b, rfl⟩ := hB
  intro k
  induction k with
  | zero =>
    intro i T hi hQ
    obtain rfl : i = l.length := by omega
    rw [W_loop (L := fixed_Add_l1) rfl]
    simp (disch := first | assumption | omega | decide | (simp only [List.length_cons, List.length_nil, List.length_append, List.length_replicate, List.length_map, List.length_set, List.length_take, List.length_drop, strs_len, ints_len, bools_len, aggs_len, vpv_len]; done) | (simp only [List.length_cons, List.length_nil, List.length_append, List.length_replicate, List.length_map, List.length_set, List.length_take, List.length_drop, strs_len, ints_len, bools_len, aggs_len, vpv_len]; omega)) only [go_sem]
    have := hQ []
    rw [show addV l = addT l l.length by rw [addT, List.take_length]] at this
    exact this
  | succ k ih =>
    intro i T hi hQ
    have e := addT_succ (l := l) (i := i) (by omega)
    rw [W_loop (L := fixed_Add_l1) rfl]
    simp (disch := first | assumption | omega | decide | (simp only [List.length_cons, List.length_nil, List.length_append, List.length_replicate, List.length_map, List.length_set, List.length_take, List.length_drop, strs_len, ints_len, bools_len, aggs_len, vpv_len]; done) | (simp only [List.length_cons, List.length_nil, List.length_append, List.length_replicate, List.length_map, List.length_set, List.length_take, List.length_drop, strs_len, ints_len, bools_len, aggs_len, vpv_len]; omega)) only [go_sem, valP]
    rw [← e]
    exact ih (i + 1) _ (by omega) hQ
@[go_sem] theorem res_fixedAdd {kk : SK} (l : List Val) (hl : l.length < 1000000000) : res Γ 136 [.sl kk 2 (vpv l)] = some [.agg [.bool (addV l).1, .int .i64 (addV l).2]] := by
  refine res_code (fn := fixed_Add) rfl rfl ?_
  simp (disch := first | assumption | omega | decide | (simp only [List.length_cons, List.length_nil, List.length_append, List.length_replicate, List.length_map, List.length_set, List.length_take, List.length_drop, strs_len, ints_len, bools_len, aggs_len, vpv_len]; done) | (simp only [List.length_cons, List.length_nil, List.length_append, List.length_replicate, List.length_map, List.length_set, List.length_take, List.length_drop, strs_len, ints_len, bools_len, aggs_len, vpv_len]; omega)) only [go_sem, fixed_Add]
  refine fixed_Add_l1_ok l hl _ ⟨_, _, rfl⟩ _ l.length 0 [] (by omega) (fun T => ?_)
  simp (disch := first | assumption | omega | decide | (simp only [List.length_cons, List.length_nil, List.length_append, List.length_replicate, List.length_map, List.length_set, List.length_take, List.length_drop, strs_len, ints_len, bools_len, aggs_len, vpv_len]; done) | (simp only [List.length_cons, List.length_nil, List.length_append, List.length_replicate, List.length_map, List.length_set, List.length_take, List.length_drop, strs_len, ints_len, bools_len, aggs_len, vpv_len]; omega)) only [go_sem]
theorem r1_Add_l1_ok {kk : SK} (l : List Val) (hl : l.length < 1000000000) (B : Blk) (hB : ∃ a b, B = .box [.p a, .p b]) (Q : Out → Prop) : ∀ (k i : Nat), i + k = l.length →
    (Q (.nrm, [(2, .bx 0 0), (3, .bx 1 0)], [B, .box [.p (.bool (addV l).1), .p (.int .i64 (addV l).2)]])) →
    Wp Γ r1_Add_l1 [(0, .p (.sl kk 2 (vpv l))), (2, .bx 0 0), (3, .bx 1 0), (4, .p (.int .i64 (i : Int)))] [B, .box [.p (.bool (addT l i).1), .p (.int .i64 (addT l i).2)]] (InBlk [2, 3] 0 Q) := by
  obtain ⟨a, b, rfl⟩ := hB
  intro k
  induction k with
  | zero =>
    intro i hi hQ
    obtain rfl : i = l.length := by omega
    rw [W_loop (L := r1_Add_l1) rfl]
    simp (disch := first | assumption | omega | decide | (simp only [List.length_cons, List.length_nil, List.length_append, List.length_replicate, List.length_map, List.length_set, List.length_take, List.length_drop, strs_len, ints_len, bools_len, aggs_len, vpv_len]; done) | (simp only [List.length_cons, List.length_nil, List.length_append, List.length_replicate, List.length_map, List.length_set, List.length_take, List.length_drop, strs_len, ints_len, bools_len, aggs_len, vpv_len]; omega)) only [go_sem]
    rw [show addV l = addT l l.length by rw [addT, List.take_length]] at hQ
    exact hQ
  | succ k ih =>
    intro i hi hQ
    have e := addT_succ (l := l) (i := i) (by omega)
    rw [W_loop (L := r1_Add_l1) rfl]
    simp (disch := first | assumption | omega | decide | (simp only [List.length_cons, List.length_nil, List.length_append, List.length_replicate, List.length_map, List.length_set, List.length_take, List.length_drop, strs_len, ints_len, bools_len, aggs_len, vpv_len]; done) | (simp only [List.length_cons, List.length_nil, List.length_append, List.length_replicate, List.length_map, List.length_set, List.length_take, List.length_drop, strs_len, ints_len, bools_len, aggs_len, vpv_len]; omega)) only [go_sem, valP]
    rw [← e]
    exact ih (i + 1) (by omega) hQ
@[go_sem] theorem res_r1Add {kk : SK} (l : List Val) (hl : l.length < 1000000000) : res Γ 128 [.sl kk 2 (vpv l)] = some [.agg [.bool (addV l).1, .int .i64 (addV l).2]] := by
  refine res_code (fn := r1_Add) rfl rfl ?_
  simp (disch := first | assumption | omega | decide | (simp only [List.length_cons, List.length_nil, List.length_append, List.length_replicate, List.length_map, List.length_set, List.length_take, List.length_drop, strs_len, ints_len, bools_len, aggs_len, vpv_len]; done) | (simp only [List.length_cons, List.length_nil, List.length_append, List.length_replicate, List.length_map, List.length_set, List.length_take, List.length_drop, strs_len, ints_len, bools_len, aggs_len, vpv_len]; omega)) only [go_sem, r1_Add]
  refine r1_Add_l1_ok l hl _ ⟨_, _, rfl⟩ _ l.length 0 (by omega) ?_
  simp (disch := first | assumption | omega | decide | (simp only [List.length_cons, List.length_nil, List.length_append, List.length_replicate, List.length_map, List.length_set, List.length_take, List.length_drop, strs_len, ints_len, bools_len, aggs_len, vpv_len]; done) | (simp only [List.length_cons, List.length_nil, List.length_append, List.length_replicate, List.length_map, List.length_set, List.length_take, List.length_drop, strs_len, ints_len, bools_len, aggs_len, vpv_len]; omega)) only [go_sem]
theorem agg2_nil {kind : Int} {l : List Val} (h : knL l = []) : aggV kind l = (false, 0) := by unfold aggV; rw [h]; rfl
theorem res_aggOf2 {kk : SK} (l : List Val) (hl : l.length < 1000000000) : res Γ 132 [.int .i64 2, .sl kk 2 (vpv l)] = some [.agg [.bool (aggV 2 l).1, .int .i64 (aggV 2 l).2]] := by
  have hk := knL_len l
  refine res_code (fn := agg_Of) rfl rfl ?_
  simp (disch := first | assumption | omega | decide | (simp only [List.length_cons, List.length_nil, List.length_append, List.length_replicate, List.length_map, List.length_set, List.length_take, List.length_drop, strs_len, ints_len, bools_len, aggs_len, vpv_len]; done) | (simp only [List.length_cons, List.length_nil, List.length_append, List.length_replicate, List.length_map, List.length_set, List.length_take, List.length_drop, strs_len, ints_len, bools_len, aggs_len, vpv_len]; omega)) only [go_sem, agg_Of]
  cases h : knL l with
  | nil =>
    simp (disch := first | assumption | omega | decide | (simp only [List.length_cons, List.length_nil, List.length_append, List.length_replicate, List.length_map, List.length_set, List.length_take, List.length_drop, strs_len, ints_len, bools_len, aggs_len, vpv_len]; done) | (simp only [List.length_cons, List.length_nil, List.length_append, List.length_replicate, List.length_map, List.length_set, List.length_take, List.length_drop, strs_len, ints_len, bools_len, aggs_len, vpv_len]; omega)) only [go_sem, agg2_nil h]
  | cons b k =>
    have e : aggV 2 l = addV (b :: k) := by unfold aggV; rw [h]; rfl
    rw [h] at hk
    simp only [List.length_cons] at hk
    simp (disch := first | assumption | omega | decide | (simp only [List.length_cons, List.length_nil, List.length_append, List.length_replicate, List.length_map, List.length_set, List.length_take, List.length_drop, strs_len, ints_len, bools_len, aggs_len, vpv_len]; done) | (simp only [List.length_cons, List.length_nil, List.length_append, List.length_replicate, List.length_map, List.length_set, List.length_take, List.length_drop, strs_len, ints_len, bools_len, aggs_len, vpv_len]; omega)) only [go_sem, e, valP]
def bestV (kind : Int) (b : Val) (l : List Val) : Val := l.foldl (fun b v => if (kind = 4 ∧ b.2 < v.2) ∨ (kind = 5 ∧ v.2 < b.2) then v else b) b
theorem bestV_succ {kind : Int} {b : Val} {l : List Val} {i : Nat} (h : i < l.length) : bestV kind b (l.take (i + 1)) = if (kind = 4 ∧ (bestV kind b (l.take i)).2 < (l.getD i (false, 0)).2) ∨ (kind = 5 ∧ (l.getD i (false, 0)).2 < (bestV kind b (l.take i)).2) then l.getD i (false, 0) else bestV kind b (l.take i) := by
  unfold bestV
  rw [take_snoc' (false, 0) h, List.foldl_append]; rfl
theorem bestV_4 (b : Val) (l : List Val) : bestV 4 b l = maxV b l := by
  unfold bestV maxV; congr 1; funext b v; simp
theorem bestV_5 (b : Val) (l : List Val) : bestV 5 b l = minV b l := by
  unfold bestV minV; congr 1; funext b v; simp
theorem bestV_known {kind : Int} {b : Val} (hb : knV b = true) : ∀ {l : List Val}, (∀ v ∈ l, knV v = true) → knV (bestV kind b l) = true := by
  intro l
  induction l generalizing b with
  | nil => exact fun _ => hb
  | cons x l ih =>
    intro h
    unfold bestV at *
    rw [List.foldl_cons]
    split
    · exact ih (h x (by simp)) fun v hv => h v (by simp [hv])
    · exact ih hb fun v hv => h v (by simp [hv])
theorem r6_Of_l1_ok {kk : SK} (kind : Int) (b : Val) (l : List Val) (hl : l.length < 1000000000) (B : Blk) (Q : Out → Prop) : ∀ (k i : Nat), i + k = l.length →
    (Q (.nrm, [(0, .p (.int .i64 kind)), (4, .bx 0 0), (5, .p (.sl kk 2 (vpv (b :: l)))), (6, .bx 1 0)], [B, .box [.p (.bool (bestV kind b l).1), .p (.int .i64 (bestV kind b l).2)]])) →
    Wp Γ r6_Of_l1 [(0, .p (.int .i64 kind)), (4, .bx 0 0), (5, .p (.sl kk 2 (vpv (b :: l)))), (6, .bx 1 0), (7, .p (.int .i64 ((i + 1 : Nat) : Int)))] [B, .box [.p (.bool (bestV kind b (l.take i)).1), .p (.int .i64 (bestV kind b (l.take i)).2)]] (InBlk [0, 4, 5, 6] 0 Q) := by
  intro k
  induction k with
  | zero =>
    intro i hi hQ
    obtain rfl : i = l.length := by omega
    rw [W_loop (L := r6_Of_l1) rfl]
    simp (disch := first | assumption | omega | decide | (simp only [List.length_cons, List.length_nil, List.length_append, List.length_replicate, List.length_map, List.length_set, List.length_take, List.length_drop, strs_len, ints_len, bools_len, aggs_len, vpv_len]; done) | (simp only [List.length_cons, List.length_nil, List.length_append, List.length_replicate, List.length_map, List.length_set, List.length_take, List.length_drop, strs_len, ints_len, bools_len, aggs_len, vpv_len]; omega)) only [go_sem]
    rw [List.take_length]
    exact hQ
  | succ k ih =>
    intro i hi hQ
    have e := bestV_succ (kind := kind) (b := b) (l := l) (i := i) (by omega)
    have ih := ih (i + 1) (by omega) hQ
    rw [e] at ih
    rw [W_loop (L := r6_Of_l1) rfl]
    by_cases h4 : kind = 4
    · by_cases hlt : (bestV kind b (l.take i)).2 < (l.getD i (false, 0)).2
      · rw [if_pos (.inl ⟨h4, hlt⟩)] at ih
        simp (disch := first | assumption | omega | decide | (simp only [List.length_cons, List.length_nil, List.length_append, List.length_replicate, List.length_map, List.length_set, List.length_take, List.length_drop, strs_len, ints_len, bools_len, aggs_len, vpv_len]; done) | (simp only [List.length_cons, List.length_nil, List.length_append, List.length_replicate, List.length_map, List.length_set, List.length_take, List.length_drop, strs_len, ints_len, bools_len, aggs_len, vpv_len]; omega)) only [go_sem, valP]
        exact ih
      · rw [if_neg (by rintro (⟨_, h⟩ | ⟨h, _⟩) <;> omega)] at ih
        simp (disch := first | assumption | omega | decide | (simp only [List.length_cons, List.length_nil, List.length_append, List.length_replicate, List.length_map, List.length_set, List.length_take, List.length_drop, strs_len, ints_len, bools_len, aggs_len, vpv_len]; done) | (simp only [List.length_cons, List.length_nil, List.length_append, List.length_replicate, List.length_map, List.length_set, List.length_take, List.length_drop, strs_len, ints_len, bools_len, aggs_len, vpv_len]; omega)) only [go_sem, valP]
        exact ih
    · by_cases h5 : kind = 5
      · by_cases hlt : (l.getD i (false, 0)).2 < (bestV kind b (l.take i)).2
        · rw [if_pos (.inr ⟨h5, hlt⟩)] at ih
          simp (disch := first | assumption | omega | decide | (simp only [List.length_cons, List.length_nil, List.length_append, List.length_replicate, List.length_map, List.length_set, List.length_take, List.length_drop, strs_len, ints_len, bools_len, aggs_len, vpv_len]; done) | (simp only [List.length_cons, List.length_nil, List.length_append, List.length_replicate, List.length_map, List.length_set, List.length_take, List.length_drop, strs_len, ints_len, bools_len, aggs_len, vpv_len]; omega)) only [go_sem, valP]
          exact ih
        · rw [if_neg (by rintro (⟨h, _⟩ | ⟨_, h⟩) <;> omega)] at ih
          simp (disch := first | assumption | omega | decide | (simp only [List.length_cons, List.length_nil, List.length_append, List.length_replicate, List.length_map, List.length_set, List.length_take, List.length_drop, strs_len, ints_len, bools_len, aggs_len, vpv_len]; done) | (simp only [List.length_cons, List.length_nil, List.length_append, List.length_replicate, List.length_map, List.length_set, List.length_take, List.length_drop, strs_len, ints_len, bools_len, aggs_len, vpv_len]; omega)) only [go_sem, valP]
          exact ih
      · rw [if_neg (by rintro (⟨h, _⟩ | ⟨h, _⟩) <;> contradiction)] at ih
        simp (disch := first | assumption | omega | decide | (simp only [List.length_cons, List.length_nil, List.length_append, List.length_replicate, List.length_map, List.length_set, List.length_take, List.length_drop, strs_len, ints_len, bools_len, aggs_len, vpv_len]; done) | (simp only [List.length_cons, List.length_nil, List.length_append, List.length_replicate, List.length_map, List.length_set, List.length_take, List.length_drop, strs_len, ints_len, bools_len, aggs_len, vpv_len]; omega)) only [go_sem]
        exact ih
theorem agg2_cons {l : List Val} {b : Val} {k : List Val} (h : knL l = b :: k) : aggV 2 l = addV (b :: k) ∧ aggV 4 l = bestV 4 b k ∧ aggV 5 l = bestV 5 b k := by
  refine ⟨?_, ?_, ?_⟩
  · unfold aggV; rw [h]; rfl
  · unfold aggV; rw [h, bestV_4]; rfl
  · unfold aggV; rw [h, bestV_5]; rfl
theorem res_r6Of {kk : SK} (kind : Int) (hkind : kind = 2 ∨ kind = 4 ∨ kind = 5) (l : List Val) (hl : l.length < 1000000000) : res Γ 122 [.int .i64 kind, .sl kk 2 (vpv l)] = some [.agg [.bool (aggV kind l).1, .int .i64 (aggV kind l).2]] := by
  have hk := knL_len l
  refine res_code (fn := r6_Of) rfl rfl ?_
  simp (disch := first | assumption | omega | decide | (simp only [List.length_cons, List.length_nil, List.length_append, List.length_replicate, List.length_map, List.length_set, List.length_take, List.length_drop, strs_len, ints_len, bools_len, aggs_len, vpv_len]; done) | (simp only [List.length_cons, List.length_nil, List.length_append, List.length_replicate, List.length_map, List.length_set, List.length_take, List.length_drop, strs_len, ints_len, bools_len, aggs_len, vpv_len]; omega)) only [go_sem, r6_Of]
  cases h : knL l with
  | nil =>
    simp (disch := first | assumption | omega | decide | (simp only [List.length_cons, List.length_nil, List.length_append, List.length_replicate, List.length_map, List.length_set, List.length_take, List.length_drop, strs_len, ints_len, bools_len, aggs_len, vpv_len]; done) | (simp only [List.length_cons, List.length_nil, List.length_append, List.length_replicate, List.length_map, List.length_set, List.length_take, List.length_drop, strs_len, ints_len, bools_len, aggs_len, vpv_len]; omega)) only [go_sem, agg2_nil h]
  | cons b k =>
    obtain ⟨e2, e4, e5⟩ := agg2_cons h
    rw [h] at hk
    simp only [List.length_cons] at hk
    repeat' (first | (simp (disch := first | assumption | omega | decide | (simp only [List.length_cons, List.length_nil, List.length_append, List.length_replicate, List.length_map, List.length_set, List.length_take, List.length_drop, strs_len, ints_len, bools_len, aggs_len, vpv_len]; done) | (simp only [List.length_cons, List.length_nil, List.length_append, List.length_replicate, List.length_map, List.length_set, List.length_take, List.length_drop, strs_len, ints_len, bools_len, aggs_len, vpv_len]; omega)) only [go_sem, valP]) | refine cond_split (fun hc => ?_) (fun hc => ?_) | refine gd_split_f (fun hc => ?_) (fun hc => ?_) | refine gd_split_t (fun hc => ?_) (fun hc => ?_))
    · refine r6_Of_l1_ok kind b k (by omega) _ _ k.length 0 (by omega) ?_
      rcases hkind with rfl | rfl | rfl
      · simp (disch := first | assumption | omega | decide | (simp only [List.length_cons, List.length_nil, List.length_append, List.length_replicate, List.length_map, List.length_set, List.length_take, List.length_drop, strs_len, ints_len, bools_len, aggs_len, vpv_len]; done) | (simp only [List.length_cons, List.length_nil, List.length_append, List.length_replicate, List.length_map, List.length_set, List.length_take, List.length_drop, strs_len, ints_len, bools_len, aggs_len, vpv_len]; omega)) only [go_sem, e2]
      · simp (disch := first | assumption | omega | decide | (simp only [List.length_cons, List.length_nil, List.length_append, List.length_replicate, List.length_map, List.length_set, List.length_take, List.length_drop, strs_len, ints_len, bools_len, aggs_len, vpv_len]; done) | (simp only [List.length_cons, List.length_nil, List.length_append, List.length_replicate, List.length_map, List.length_set, List.length_take, List.length_drop, strs_len, ints_len, bools_len, aggs_len, vpv_len]; omega)) only [go_sem, e4]
      · simp (disch := first | assumption | omega | decide | (simp only [List.length_cons, List.length_nil, List.length_append, List.length_replicate, List.length_map, List.length_set, List.length_take, List.length_drop, strs_len, ints_len, bools_len, aggs_len, vpv_len]; done) | (simp only [List.length_cons, List.length_nil, List.length_append, List.length_replicate, List.length_map, List.length_set, List.length_take, List.length_drop, strs_len, ints_len, bools_len, aggs_len, vpv_len]; omega)) only [go_sem, e5]
    all_goals trace_state

theorem agg_Of_l1_ok {kk : SK} (l : List Val) (b : Val) (hb : knV b = true) (hk : ∀ v ∈ l, knV v = true) (hl : l.length < 1000000000) (B : Blk) (hB : ∃ a b, B = .box [.p a, .p b]) (Q : Out → Prop) : ∀ (k i : Nat) (T : Heap), i + k = l.length →
    (∀ T, Q (.nrm, [(4, .bx 0 0), (6, .bx 1 0)], B :: .box [.p (.bool (bestV 4 b l).1), .p (.int .i64 (bestV 4 b l).2)] :: T)) →
    Wp Γ agg_Of_l1 [(4, .bx 0 0), (6, .bx 1 0), (43, .p (.sl kk 2 (vpv l))), (44, .p (.int .i64 (l.length : Int))), (45, .p (.int .i64 (i : Int)))] (B :: .box [.p (.bool (bestV 4 b (l.take i)).1), .p (.int .i64 (bestV 4 b (l.take i)).2)] :: T) (InBlk [4, 6] 1 Q) := by
  obtain ⟨a1, a2, rfl⟩ := hB
  intro k
  induction k with
  | zero =>
    intro i T hi hQ
    obtain rfl : i = l.length := by omega
    rw [W_loop (L := agg_Of_l1) rfl]
    simp (disch := first | assumption | omega | decide | (simp only [List.length_cons, List.length_nil, List.length_append, List.length_replicate, List.length_map, List.length_set, List.length_take, List.length_drop, strs_len, ints_len, bools_len, aggs_len, vpv_len]; done) | (simp only [List.length_cons, List.length_nil, List.length_append, List.length_replicate, List.length_map, List.length_set, List.length_take, List.length_drop, strs_len, ints_len, bools_len, aggs_len, vpv_len]; omega)) only [go_sem]
    rw [List.take_length]
    exact hQ []
  | succ k ih =>
    intro i T hi hQ
    have e := bestV_succ (kind := 4) (b := b) (l := l) (i := i) (by omega)
    have g1 := bestV_known (kind := 4) hb (l := l.take i) fun v hv => hk v (List.mem_of_mem_take hv)
    have g2 : knV (l.getD i (false, 0)) = true := hk _ (by rw [List.getD_eq_getElem?_getD, List.getElem?_eq_getElem (show i < l.length by omega)]; exact List.getElem_mem _)
    have e2 : lessV (bestV 4 b (l.take i)) (l.getD i (false, 0)) = decide ((bestV 4 b (l.take i)).2 < (l.getD i (false, 0)).2) := by simp only [lessV, g1, g2, Bool.true_and]
    have ih := fun T => ih (i + 1) T (by omega) hQ
    rw [e] at ih
    rw [W_loop (L := agg_Of_l1) rfl]
    simp (disch := first | assumption | omega | decide | (simp only [List.length_cons, List.length_nil, List.length_append, List.length_replicate, List.length_map, List.length_set, List.length_take, List.length_drop, strs_len, ints_len, bools_len, aggs_len, vpv_len]; done) | (simp only [List.length_cons, List.length_nil, List.length_append, List.length_replicate, List.length_map, List.length_set, List.length_take, List.length_drop, strs_len, ints_len, bools_len, aggs_len, vpv_len]; omega)) only [go_sem, valP, e2]
    refine cond_split (fun hc => ?_) (fun hc => ?_)
    · rw [if_pos (.inl ⟨rfl, hc⟩)] at ih
      simp (disch := first | assumption | omega | decide | (simp only [List.length_cons, List.length_nil, List.length_append, List.length_replicate, List.length_map, List.length_set, List.length_take, List.length_drop, strs_len, ints_len, bools_len, aggs_len, vpv_len]; done) | (simp only [List.length_cons, List.length_nil, List.length_append, List.length_replicate, List.length_map, List.length_set, List.length_take, List.length_drop, strs_len, ints_len, bools_len, aggs_len, vpv_len]; omega)) only [go_sem]
      exact ih _
    · rw [if_neg (by rintro (⟨_, h⟩ | ⟨h, _⟩) <;> omega)] at ih
      simp (disch := first | assumption | omega | decide | (simp only [List.length_cons, List.length_nil, List.length_append, List.length_replicate, List.length_map, List.length_set, List.length_take, List.length_drop, strs_len, ints_len, bools_len, aggs_len, vpv_len]; done) | (simp only [List.length_cons, List.length_nil, List.length_append, List.length_replicate, List.length_map, List.length_set, List.length_take, List.length_drop, strs_len, ints_len, bools_len, aggs_len, vpv_len]; omega)) only [go_sem]
      exact ih _
theorem agg_Of_l2_ok {kk : SK} (l : List Val) (b : Val) (hb : knV b = true) (hk : ∀ v ∈ l, knV v = true) (hl : l.length < 1000000000) (B : Blk) (hB : ∃ a b, B = .box [.p a, .p b]) (Q : Out → Prop) : ∀ (k i : Nat) (T : Heap), i + k = l.length →
    (∀ T, Q (.nrm, [(4, .bx 0 0), (6, .bx 1 0)], B :: .box [.p (.bool (bestV 5 b l).1), .p (.int .i64 (bestV 5 b l).2)] :: T)) →
    Wp Γ agg_Of_l2 [(4, .bx 0 0), (6, .bx 1 0), (57, .p (.sl kk 2 (vpv l))), (58, .p (.int .i64 (l.length : Int))), (59, .p (.int .i64 (i : Int)))] (B :: .box [.p (.bool (bestV 5 b (l.take i)).1), .p (.int .i64 (bestV 5 b (l.take i)).2)] :: T) (InBlk [4, 6] 3 Q) := by
  obtain ⟨a1, a2, rfl⟩ := hB
  intro k
  induction k with
  | zero =>
    intro i T hi hQ
    obtain rfl : i = l.length := by omega
    rw [W_loop (L := agg_Of_l2) rfl]
    simp (disch := first | assumption | omega | decide | (simp only [List.length_cons, List.length_nil, List.length_append, List.length_replicate, List.length_map, List.length_set, List.length_take, List.length_drop, strs_len, ints_len, bools_len, aggs_len, vpv_len]; done) | (simp only [List.length_cons, List.length_nil, List.length_append, List.length_replicate, List.length_map, List.length_set, List.length_take, List.length_drop, strs_len, ints_len, bools_len, aggs_len, vpv_len]; omega)) only [go_sem]
    rw [List.take_length]
    exact hQ []
  | succ k ih =>
    intro i T hi hQ
    have e := bestV_succ (kind := 5) (b := b) (l := l) (i := i) (by omega)
    have g1 := bestV_known (kind := 5) hb (l := l.take i) fun v hv => hk v (List.mem_of_mem_take hv)
    have g2 : knV (l.getD i (false, 0)) = true := hk _ (by rw [List.getD_eq_getElem?_getD, List.getElem?_eq_getElem (show i < l.length by omega)]; exact List.getElem_mem _)
    have e2 : lessV (l.getD i (false, 0)) (bestV 5 b (l.take i)) = decide ((l.getD i (false, 0)).2 < (bestV 5 b (l.take i)).2) := by simp only [lessV, g1, g2, Bool.true_and]
    have ih := fun T => ih (i + 1) T (by omega) hQ
    rw [e] at ih
    rw [W_loop (L := agg_Of_l2) rfl]
    simp (disch := first | assumption | omega | decide | (simp only [List.length_cons, List.length_nil, List.length_append, List.length_replicate, List.length_map, List.length_set, List.length_take, List.length_drop, strs_len, ints_len, bools_len, aggs_len, vpv_len]; done) | (simp only [List.length_cons, List.length_nil, List.length_append, List.length_replicate, List.length_map, List.length_set, List.length_take, List.length_drop, strs_len, ints_len, bools_len, aggs_len, vpv_len]; omega)) only [go_sem, valP, e2]
    refine cond_split (fun hc => ?_) (fun hc => ?_)
    · rw [if_pos (.inr ⟨rfl, hc⟩)] at ih
      simp (disch := first | assumption | omega | decide | (simp only [List.length_cons, List.length_nil, List.length_append, List.length_replicate, List.length_map, List.length_set, List.length_take, List.length_drop, strs_len, ints_len, bools_len, aggs_len, vpv_len]; done) | (simp only [List.length_cons, List.length_nil, List.length_append, List.length_replicate, List.length_map, List.length_set, List.length_take, List.length_drop, strs_len, ints_len, bools_len, aggs_len, vpv_len]; omega)) only [go_sem]
      exact ih _
    · rw [if_neg (by rintro (⟨h, _⟩ | ⟨_, h⟩) <;> omega)] at ih
      simp (disch := first | assumption | omega | decide | (simp only [List.length_cons, List.length_nil, List.length_append, List.length_replicate, List.length_map, List.length_set, List.length_take, List.length_drop, strs_len, ints_len, bools_len, aggs_len, vpv_len]; done) | (simp only [List.length_cons, List.length_nil, List.length_append, List.length_replicate, List.length_map, List.length_set, List.length_take, List.length_drop, strs_len, ints_len, bools_len, aggs_len, vpv_len]; omega)) only [go_sem]
      exact ih _
theorem bestV_self4 (b : Val) (l : List Val) : bestV 4 b (b :: l) = bestV 4 b l := by
  unfold bestV
  rw [List.foldl_cons, if_neg (by rintro (⟨_, h⟩ | ⟨h, _⟩) <;> omega)]
theorem bestV_self5 (b : Val) (l : List Val) : bestV 5 b (b :: l) = bestV 5 b l := by
  unfold bestV
  rw [List.foldl_cons, if_neg (by rintro (⟨h, _⟩ | ⟨_, h⟩) <;> omega)]
theorem res_aggOf4 {kk : SK} (l : List Val) (hl : l.length < 1000000000) : res Γ 132 [.int .i64 4, .sl kk 2 (vpv l)] = some [.agg [.bool (aggV 4 l).1, .int .i64 (aggV 4 l).2]] := by
  have hk := knL_len l
  have hm := fun v => @knL_mem l v
  refine res_code (fn := agg_Of) rfl rfl ?_
  simp (disch := first | assumption | omega | decide | (simp only [List.length_cons, List.length_nil, List.length_append, List.length_replicate, List.length_map, List.length_set, List.length_take, List.length_drop, strs_len, ints_len, bools_len, aggs_len, vpv_len]; done) | (simp only [List.length_cons, List.length_nil, List.length_append, List.length_replicate, List.length_map, List.length_set, List.length_take, List.length_drop, strs_len, ints_len, bools_len, aggs_len, vpv_len]; omega)) only [go_sem, agg_Of]
  cases h : knL l with
  | nil =>
    simp (disch := first | assumption | omega | decide | (simp only [List.length_cons, List.length_nil, List.length_append, List.length_replicate, List.length_map, List.length_set, List.length_take, List.length_drop, strs_len, ints_len, bools_len, aggs_len, vpv_len]; done) | (simp only [List.length_cons, List.length_nil, List.length_append, List.length_replicate, List.length_map, List.length_set, List.length_take, List.length_drop, strs_len, ints_len, bools_len, aggs_len, vpv_len]; omega)) only [go_sem, agg2_nil h]
  | cons b k =>
    obtain ⟨e2, e4, e5⟩ := agg2_cons h
    rw [h] at hk hm
    simp only [List.length_cons] at hk
    simp (disch := first | assumption | omega | decide | (simp only [List.length_cons, List.length_nil, List.length_append, List.length_replicate, List.length_map, List.length_set, List.length_take, List.length_drop, strs_len, ints_len, bools_len, aggs_len, vpv_len]; done) | (simp only [List.length_cons, List.length_nil, List.length_append, List.length_replicate, List.length_map, List.length_set, List.length_take, List.length_drop, strs_len, ints_len, bools_len, aggs_len, vpv_len]; omega)) only [go_sem, valP]
    refine agg_Of_l1_ok (b :: k) b (hm b (by simp)) hm (by simp; omega) _ ⟨_, _, rfl⟩ _ (b :: k).length 0 [] (by omega) (fun T => ?_)
    simp (disch := first | assumption | omega | decide | (simp only [List.length_cons, List.length_nil, List.length_append, List.length_replicate, List.length_map, List.length_set, List.length_take, List.length_drop, strs_len, ints_len, bools_len, aggs_len, vpv_len]; done) | (simp only [List.length_cons, List.length_nil, List.length_append, List.length_replicate, List.length_map, List.length_set, List.length_take, List.length_drop, strs_len, ints_len, bools_len, aggs_len, vpv_len]; omega)) only [go_sem, e4, bestV_self4]
theorem res_aggOf5 {kk : SK} (l : List Val) (hl : l.length < 1000000000) : res Γ 132 [.int .i64 5, .sl kk 2 (vpv l)] = some [.agg [.bool (aggV 5 l).1, .int .i64 (aggV 5 l).2]] := by
  have hk := knL_len l
  have hm := fun v => @knL_mem l v
  refine res_code (fn := agg_Of) rfl rfl ?_
  simp (disch := first | assumption | omega | decide | (simp only [List.length_cons, List.length_nil, List.length_append, List.length_replicate, List.length_map, List.length_set, List.length_take, List.length_drop, strs_len, ints_len, bools_len, aggs_len, vpv_len]; done) | (simp only [List.length_cons, List.length_nil, List.length_append, List.length_replicate, List.length_map, List.length_set, List.length_take, List.length_drop, strs_len, ints_len, bools_len, aggs_len, vpv_len]; omega)) only [go_sem, agg_Of]
  cases h : knL l with
  | nil =>
    simp (disch := first | assumption | omega | decide | (simp only [List.length_cons, List.length_nil, List.length_append, List.length_replicate, List.length_map, List.length_set, List.length_take, List.length_drop, strs_len, ints_len, bools_len, aggs_len, vpv_len]; done) | (simp only [List.length_cons, List.length_nil, List.length_append, List.length_replicate, List.length_map, List.length_set, List.length_take, List.length_drop, strs_len, ints_len, bools_len, aggs_len, vpv_len]; omega)) only [go_sem, agg2_nil h]
  | cons b k =>
    obtain ⟨e2, e4, e5⟩ := agg2_cons h
    rw [h] at hk hm
    simp only [List.length_cons] at hk
    simp (disch := first | assumption | omega | decide | (simp only [List.length_cons, List.length_nil, List.length_append, List.length_replicate, List.length_map, List.length_set, List.length_take, List.length_drop, strs_len, ints_len, bools_len, aggs_len, vpv_len]; done) | (simp only [List.length_cons, List.length_nil, List.length_append, List.length_replicate, List.length_map, List.length_set, List.length_take, List.length_drop, strs_len, ints_len, bools_len, aggs_len, vpv_len]; omega)) only [go_sem, valP]
    refine agg_Of_l2_ok (b :: k) b (hm b (by simp)) hm (by simp; omega) _ ⟨_, _, rfl⟩ _ (b :: k).length 0 [] (by omega) (fun T => ?_)
    simp (disch := first | assumption | omega | decide | (simp only [List.length_cons, List.length_nil, List.length_append, List.length_replicate, List.length_map, List.length_set, List.length_take, List.length_drop, strs_len, ints_len, bools_len, aggs_len, vpv_len]; done) | (simp only [List.length_cons, List.length_nil, List.length_append, List.length_replicate, List.length_map, List.length_set, List.length_take, List.length_drop, strs_len, ints_len, bools_len, aggs_len, vpv_len]; omega)) only [go_sem, e5, bestV_self5]
end Ab
namespace Ab
open Go (IntKind BinOp UnOp)
def toV (o : List Int) : List Val := o.map fun n => (true, n)
def nums (l : List Val) : List Int := (knL l).map (·.2)
def sortV (l : List Val) : List Val := toV (sortI (nums l))
theorem toV_len {o} : (toV o).length = o.length := by simp [toV]
theorem nums_len {l : List Val} : (nums l).length = (knL l).length := by simp [nums]
theorem insI_len (n : Int) : ∀ o : List Int, (insI n o).length = o.length + 1
  | [] => rfl
  | m :: r => by
    unfold insI
    split
    · rw [List.length_cons, insI_len n r, List.length_cons]
    · rfl
theorem sortI_len' : ∀ l : List Int, (sortI l).length = l.length := by
  have : ∀ (l o : List Int), (l.foldl (fun o n => insI n o) o).length = o.length + l.length := by
    intro l
    induction l with
    | nil => intro o; rfl
    | cons n l ih => intro o; rw [List.foldl_cons, ih, insI_len, List.length_cons]; omega
  intro l
  have := this l []
  simpa [sortI] using this
theorem sortV_len {l : List Val} : (sortV l).length = (knL l).length := by rw [sortV, toV_len, sortI_len', nums_len]
theorem intsIn_vpv : ∀ {k : List Val}, (∀ v ∈ k, knV v = true) → intsIn (vpv k) = some (k.map (·.2))
  | [], _ => rfl
  | (b, n) :: k, h => by
    obtain ⟨rfl, _⟩ := knV_pair (h (b, n) (by simp))
    have ih := intsIn_vpv (k := k) fun v hv => h v (by simp [hv])
    have e : vpv ((true, n) :: k) = .agg [.bool true, .int .i64 n] :: vpv k := rfl
    rw [e, intsIn, ih]; rfl
theorem toV_vpv (o : List Int) : (o.map fun n => PV.agg [.bool true, .int .i64 n]) = vpv (toV o) := by
  simp [vpv, aggs, toV, valP, List.map_map, Function.comp_def]
theorem resM_aggKnown {kk : SK} (l : List Val) (hl : l.length < 1000000000) : resM Γ 0 140 [.p (.sl kk 2 (vpv l))] [] = some ([.own 0 (knL l).length], [.row false 2 (vpv (knL l))]) := by
  have hw : (vpv (knL l)).length = (knL l).length := vpv_len
  refine resM_code (fn := agg_Known) rfl rfl ?_
  simp (disch := first | assumption | omega | decide | (simp only [List.length_cons, List.length_nil, List.length_append, List.length_replicate, List.length_map, List.length_set, List.length_take, List.length_drop, strs_len, ints_len, bools_len, aggs_len, vpv_len]; done) | (simp only [List.length_cons, List.length_nil, List.length_append, List.length_replicate, List.length_map, List.length_set, List.length_take, List.length_drop, strs_len, ints_len, bools_len, aggs_len, vpv_len]; omega)) only [go_sem, agg_Known]
  refine agg_Known_l1_ok l hl _ l.length 0 [] (by omega) (fun T => ?_)
  simp (disch := first | assumption | omega | decide | (simp only [List.length_cons, List.length_nil, List.length_append, List.length_replicate, List.length_map, List.length_set, List.length_take, List.length_drop, strs_len, ints_len, bools_len, aggs_len, vpv_len]; done) | (simp only [List.length_cons, List.length_nil, List.length_append, List.length_replicate, List.length_map, List.length_set, List.length_take, List.length_drop, strs_len, ints_len, bools_len, aggs_len, vpv_len]; omega)) only [go_sem]
theorem resM_sort (l : List Val) : resM Γ 1 182 [.own 0 (knL l).length, .p (.clo 183 [])] [.row false 2 (vpv (knL l))] = some ([], [.row false 2 (vpv (sortV l))]) := by
  have h := resM_upd (Γ := Γ) (f := 182) (g := sortG 183) (ps := [.clo 183 []]) (sz := 2) (xs := vpv (knL l)) (ys := vpv (sortV l)) rfl (by
    show (if 183 = 183 then (intsIn (vpv (knL l))).map _ else none) = _
    rw [if_pos rfl, intsIn_vpv fun v hv => knL_mem hv, Option.map_some, toV_vpv]; rfl) (by rw [vpv_len, vpv_len, sortV_len])
  rw [vpv_len] at h
  exact h
theorem st182 : stillF Γ 1 182 = true := rfl
theorem res_fwinSorted {kk : SK} (l : List Val) (hl : l.length < 1000000000) : res Γ 177 [.sl kk 2 (vpv l)] = some [.sl .any 2 (vpv (sortV l))] := by
  have e1 := resM_aggKnown (kk := kk) l hl
  have e2 := resM_sort l
  have hw : (vpv (sortV l)).length = (knL l).length := by rw [vpv_len, sortV_len]
  refine res_code (fn := fwin_sorted) rfl rfl ?_
  simp (disch := first | assumption | omega | decide | (simp only [List.length_cons, List.length_nil, List.length_append, List.length_replicate, List.length_map, List.length_set, List.length_take, List.length_drop, strs_len, ints_len, bools_len, aggs_len, vpv_len]; done) | (simp only [List.length_cons, List.length_nil, List.length_append, List.length_replicate, List.length_map, List.length_set, List.length_take, List.length_drop, strs_len, ints_len, bools_len, aggs_len, vpv_len]; omega)) only [go_sem, fwin_sorted, e1, e2, st182]
theorem toV_getD {o : List Int} {j : Nat} (h : j < o.length) : (toV o).getD j (false, 0) = (true, o.getD j 0) := by
  simp only [toV, List.getD_eq_getElem?_getD, List.getElem?_map, List.getElem?_eq_getElem h, Option.map_some, Option.getD_some]
@[go_sem] theorem ifB_dec {α : Type} {c : Prop} [Decidable c] {x : Option α} (h : c) : ifB (decide c) x = x := by rw [decide_eq_true h]; rfl
@[go_sem] theorem loadK_vals {f sz s ag} {l : List Val} {n i off : Nat} (h : l.length = n) (h' : i < n) : loadK (some (.row f sz (vpv l))) s ag n i off = takeP s ag ((valP (l.getD i (false, 0))).drop off) := by
  simp only [loadK, vpv_len, h, if_true, vpv_get (show i < l.length by omega), Option.bind_some, PV.cells]
end Ab
namespace Ab
open Go (IntKind BinOp UnOp)
theorem wrap_u64 {x : Int} (h0 : 0 ≤ x) (h1 : x ≤ 18446744073709551615) : IntKind.u64.wrap x = x := by
  simp only [IntKind.wrap, IntKind.bits, IntKind.signed, Bool.false_and]
  have e : (2 : Int) ^ 64 = 18446744073709551616 := by decide
  rw [e]
  simp
  omega
theorem map_rem {k : IntKind} {a b : Int} (h0 : 0 ≤ a) (h1 : 0 < b) : binAV .rem (.p (.int k a)) (.p (.int k b)) = some (.p (.int k (a % b))) := by
  simp only [binAV, binPV, binInt, true_or, if_true]
  rw [if_neg (by omega), Int.tmod_eq_emod_of_nonneg h0]; rfl
theorem map_quo {k : IntKind} {a b : Int} (h0 : 0 ≤ a) (h1 : 0 < b) (h2 : k.wrap (a / b) = a / b) : binAV .quo (.p (.int k a)) (.p (.int k b)) = some (.p (.int k (a / b))) := by
  simp only [binAV, binPV, binInt, true_or, if_true]
  rw [if_neg (by omega), Int.tdiv_eq_ediv_of_nonneg h0, h2]; rfl
theorem strOf_one {H : Heap} {kk : SK} {n : Int} : strOfA H (.p (.sl kk 1 [.int .u8 n])) = some (.p (.str [UInt8.ofNat n.toNat])) := by
  simp [strOfA, bytesIn]
attribute [go_sem] wrap_u64 map_rem strOf_one
theorem decB_small {u : Nat} (h : u < 10) : decB u = [UInt8.ofNat (48 + u)] := by rw [decB, dif_pos h]
theorem decB_more {u : Nat} (h : ¬ u < 10) : decB u = decB (u / 10) ++ [UInt8.ofNat (48 + u % 10)] := by rw [decB, dif_neg h]
theorem res_decDigits (n : Nat) (h : n < 9223372036854775808) : res Γ 105 [.int .i64 (n : Int)] = some [.str (decB n)] := by
  have e : res Γ 114 [.int .i64 (n : Int)] = some [.str (decB n)] := by
    refine res_of (RunP_prim (g := itoaG) rfl ?_)
    simp only [itoaG]
    rw [if_pos (by omega), itoaB, if_neg (by omega), Int.toNat_natCast]
  refine res_code (fn := dec_Digits) rfl rfl ?_
  simp (disch := first | assumption | omega | decide | (simp only [List.length_cons, List.length_nil, List.length_append, List.length_replicate, List.length_map, List.length_set, List.length_take, List.length_drop, strs_len, ints_len, bools_len, aggs_len, vpv_len]; done) | (simp only [List.length_cons, List.length_nil, List.length_append, List.length_replicate, List.length_map, List.length_set, List.length_take, List.length_drop, strs_len, ints_len, bools_len, aggs_len, vpv_len]; omega)) only [go_sem, dec_Digits, e]
theorem decB_len : ∀ (k u : Nat), u < 10 ^ (k + 1) → (decB u).length ≤ k + 1 := by
  intro k
  induction k with
  | zero => intro u h; rw [decB_small (by simpa using h)]; simp
  | succ k ih =>
    intro u h
    by_cases hs : u < 10
    · rw [decB_small hs]; simp
    · rw [decB_more hs]
      have := ih (u / 10) (by rw [Nat.pow_succ] at h; omega)
      simp; omega
end Ab
