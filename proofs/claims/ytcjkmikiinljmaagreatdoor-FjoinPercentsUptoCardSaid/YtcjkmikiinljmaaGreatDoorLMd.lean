import Derived.Test.YtcjkmikiinljmaaGreatDoorLIs
import Derived.Test.YtcjkmikiinljmaaGreatDoorAbRel
import Derived.Test.YtcjkmikiinljmaaGreatDoorCode
namespace Ab
def consV (s : Ser) : Int := if s.cons = 0 then 1 else s.cons
def plcS (s : Ser) (t : Int) : Nat := if t ≤ s.start then 0 else min s.vals.length ((t - s.start - 1) / s.step + 1).toNat
theorem plcS_le (s : Ser) (t : Int) : plcS s t ≤ s.vals.length := by unfold plcS; split <;> omega
theorem plcS_iff {s : Ser} {t : Int} {i : Nat} (hs : 1 ≤ s.step) (hi : i < s.vals.length) : i < plcS s t ↔ s.start + i * s.step < t := by
  unfold plcS
  split
  · rename_i h
    have : 0 ≤ (i : Int) * s.step := Int.mul_nonneg (by omega) (by omega)
    omega
  · rename_i h
    have e : (i : Int) ≤ (t - s.start - 1) / s.step ↔ i * s.step ≤ t - s.start - 1 := Int.le_ediv_iff_mul_le (by omega)
    have h0 : 0 ≤ (t - s.start - 1) / s.step := Int.ediv_nonneg (by omega) (by omega)
    omega
theorem plcS_mono {s : Ser} (hs : 1 ≤ s.step) {t u : Int} (h : t ≤ u) : plcS s t ≤ plcS s u := by
  unfold plcS
  split
  · omega
  · rename_i h1
    rw [if_neg (by omega)]
    have : (t - s.start - 1) / s.step ≤ (u - s.start - 1) / s.step := Int.ediv_le_ediv (by omega) (by omega)
    omega
def withinV (s : Ser) (t u : Int) : List Val := (s.vals.take (plcS s u)).drop (plcS s t)
def fitV (s : Ser) (start step : Int) (n : Nat) : List Val := (List.range n).map fun (k : Nat) => aggV (consV s) (withinV s (start + k * step) (start + k * step + step))
theorem fitV_succ {s start step n} : fitV s start step (n + 1) = fitV s start step n ++ [aggV (consV s) (withinV s (start + n * step) (start + n * step + step))] := by simp [fitV, List.range_succ]
theorem fitV_len {s start step n} : (fitV s start step n).length = n := by simp [fitV]
def fitS (s : Ser) (start step : Int) (n : Nat) : Ser := ⟨s.name, start, step, fitV s start step n, s.cons⟩
def endS (s : Ser) : Int := s.start + s.vals.length * s.step
end Ab
namespace Ab
def commonV (a b : Nat) : Nat := if Nat.lcm a b ≤ 16777216 then Nat.lcm a b else 0
theorem lcm_eq {a b : Nat} (ha : 0 < a) : Nat.lcm a b = a / Nat.gcd a b * b := by
  unfold Nat.lcm
  have hg : 0 < Nat.gcd a b := Nat.gcd_pos_of_pos_left b ha
  obtain ⟨k, hk⟩ := Nat.gcd_dvd_left a b
  have e : a / Nat.gcd a b = k := by
    conv => lhs; arg 1; rw [hk]
    exact Nat.mul_div_cancel_left k hg
  rw [e]
  conv => lhs; arg 1; arg 1; rw [hk]
  rw [Nat.mul_assoc]
  exact Nat.mul_div_cancel_left _ hg
theorem lcm_eq' {a b : Nat} (hb : 0 < b) : Nat.lcm a b = a * (b / Nat.gcd b a) := by
  rw [Nat.lcm_comm, lcm_eq hb, Nat.mul_comm]
theorem common_lt {a b : Nat} (ha : 0 < a) (hb : 0 < b) : 16777216 / b < a / Nat.gcd a b ↔ ¬ Nat.lcm a b ≤ 16777216 := by
  rw [lcm_eq ha, Nat.div_lt_iff_lt_mul hb]
  omega
theorem common_lt' {a b : Nat} (ha : 0 < a) (hb : 0 < b) : 16777216 / a < b / Nat.gcd b a ↔ ¬ Nat.lcm a b ≤ 16777216 := by
  rw [lcm_eq' hb, Nat.div_lt_iff_lt_mul ha, Nat.mul_comm (b / _) a]
  omega
theorem lcm_pos' {a b : Nat} (ha : 0 < a) (hb : 0 < b) : 0 < Nat.lcm a b := Nat.lcm_pos ha hb
def stepT (st : Nat) (s : Ser) : Nat := if st = 0 then 0 else commonV st s.step.toNat
def stepJ (l : List Ser) : Nat := l.foldl stepT 1
def startJ (m : Int) (l : List Ser) : Int := l.foldl (fun m s => min m s.start) m
def endJ (l : List Ser) : Int := l.foldl (fun m s => max m (endS s)) 0
theorem stepT_zero (l : List Ser) : l.foldl stepT 0 = 0 := by
  induction l with
  | nil => rfl
  | cons s l ih => rw [List.foldl_cons]; exact ih
theorem stepJ_snoc {l : List Ser} {s : Ser} : stepJ (l ++ [s]) = stepT (stepJ l) s := by unfold stepJ; rw [List.foldl_append]; rfl
theorem startJ_snoc {m : Int} {l : List Ser} {s : Ser} : startJ m (l ++ [s]) = min (startJ m l) s.start := by unfold startJ; rw [List.foldl_append]; rfl
theorem endJ_snoc {l : List Ser} {s : Ser} : endJ (l ++ [s]) = max (endJ l) (endS s) := by unfold endJ; rw [List.foldl_append]; rfl
theorem stepJ_le (l : List Ser) : stepJ l ≤ 16777216 := by
  have : ∀ (l : List Ser) (a : Nat), a ≤ 16777216 → l.foldl stepT a ≤ 16777216 := by
    intro l
    induction l with
    | nil => exact fun a h => h
    | cons s l ih =>
      intro a h
      rw [List.foldl_cons]
      refine ih _ ?_
      unfold stepT commonV
      split
      · omega
      · split <;> omega
  exact this l 1 (by omega)
theorem startJ_le {m : Int} {l : List Ser} : startJ m l ≤ m ∧ ∀ s ∈ l, startJ m l ≤ s.start := by
  induction l generalizing m with
  | nil => exact ⟨Int.le_refl _, fun s h => by cases h⟩
  | cons s l ih =>
    obtain ⟨h1, h2⟩ := ih (m := min m s.start)
    have e : startJ m (s :: l) = startJ (min m s.start) l := rfl
    rw [e]
    refine ⟨by omega, fun x hx => ?_⟩
    rcases List.mem_cons.1 hx with rfl | hx
    · omega
    · exact h2 x hx
theorem startJ_ge {m : Int} {l : List Ser} (hm : 0 ≤ m) (h : ∀ s ∈ l, 0 ≤ s.start) : 0 ≤ startJ m l := by
  induction l generalizing m with
  | nil => exact hm
  | cons s l ih =>
    have e : startJ m (s :: l) = startJ (min m s.start) l := rfl
    rw [e]
    exact ih (by have := h s (by simp); omega) fun x hx => h x (by simp [hx])
theorem startJ_cons {m : Int} {s : Ser} {l : List Ser} (h : s.start ≤ m) : startJ m (s :: l) = startJ s.start (s :: l) := by
  have e : ∀ m, startJ m (s :: l) = startJ (min m s.start) l := fun _ => rfl
  rw [e, e, Int.min_eq_right h, Int.min_self]
theorem endJ_ge {l : List Ser} : 0 ≤ endJ l ∧ ∀ s ∈ l, endS s ≤ endJ l := by
  have : ∀ (l : List Ser) (a : Int), a ≤ l.foldl (fun m s => max m (endS s)) a ∧ ∀ s ∈ l, endS s ≤ l.foldl (fun m s => max m (endS s)) a := by
    intro l
    induction l with
    | nil => exact fun a => ⟨Int.le_refl _, fun s h => by cases h⟩
    | cons s l ih =>
      intro a
      rw [List.foldl_cons]
      obtain ⟨h1, h2⟩ := ih (max a (endS s))
      refine ⟨by omega, fun x hx => ?_⟩
      rcases List.mem_cons.1 hx with rfl | hx
      · omega
      · exact h2 x hx
  exact this l 0
theorem endJ_le {l : List Ser} {B : Int} (hB : 0 ≤ B) (h : ∀ s ∈ l, endS s ≤ B) : endJ l ≤ B := by
  have : ∀ (l : List Ser) (a : Int), a ≤ B → (∀ s ∈ l, endS s ≤ B) → l.foldl (fun m s => max m (endS s)) a ≤ B := by
    intro l
    induction l with
    | nil => exact fun a h _ => h
    | cons s l ih =>
      intro a ha h
      rw [List.foldl_cons]
      exact ih _ (by have := h s (by simp); omega) fun x hx => h x (by simp [hx])
  exact this l 0 hB h
def begJ (l : List Ser) : Int := startJ 4294967295 l - startJ 4294967295 l % (stepJ l : Int)
def manyJ (l : List Ser) : Int := (endJ l - begJ l + (stepJ l : Int) - 1) / (stepJ l : Int)
def errJ (l : List Ser) : Int := if l.all isS = false then 1 else if l = [] then 0 else if stepJ l = 0 then 13 else if 131072 < manyJ l then 13 else 0
def joinJ (l : List (SK × Ser)) : List (SK × Ser) := l.map fun x => (if (manyJ (l.map (·.2))).toNat = 0 then .nil else .any, fitS x.2 (begJ (l.map (·.2))) (stepJ (l.map (·.2))) (manyJ (l.map (·.2))).toNat)
end Ab
namespace Ab
open Go (IntKind BinOp UnOp)
theorem knL_take {l : List Val} {i : Nat} (h : i < l.length) : knL (l.take (i + 1)) = if knV (l.getD i (false, 0)) = true then knL (l.take i) ++ [l.getD i (false, 0)] else knL (l.take i) := by
  rw [take_snoc' (false, 0) h]
  unfold knL
  rw [List.filter_append]
  split
  · rename_i hk; rw [List.filter_cons_of_pos hk]; rfl
  · rename_i hk; rw [List.filter_cons_of_neg hk]; simp
theorem knL_len (l : List Val) : (knL l).length ≤ l.length := List.length_filter_le _ _
theorem knL_take_len (l : List Val) (i : Nat) : (knL (l.take i)).length ≤ i := by
  have := knL_len (l.take i)
  rw [List.length_take] at this
  omega
theorem agg_Known_l1_ok {kk : SK} (l : List Val) (hl : l.length < 1000000000) (Q : Out → Prop) : ∀ (k i : Nat) (T : Heap), i + k = l.length →
    (∀ T, Q (.nrm, [(3, .own 0 (knL l).length)], .row false 2 (vpv (knL l)) :: T)) →
    Wp Γ agg_Known_l1 [(3, .own 0 (knL (l.take i)).length), (6, .p (.sl kk 2 (vpv l))), (7, .p (.int .i64 (l.length : Int))), (8, .p (.int .i64 (i : Int)))] (.row false 2 (vpv (knL (l.take i))) :: T) (InBlk [3] 0 Q) := by
  intro k
  induction k with
  | zero =>
    intro i T hi hQ
    obtain rfl : i = l.length := by omega
    rw [W_loop (L := agg_Known_l1) rfl]
    simp (disch := first | assumption | omega | decide | (simp only [List.length_cons, List.length_nil, List.length_append, List.length_replicate, List.length_map, List.length_set, List.length_take, List.length_drop, strs_len, ints_len, bools_len, aggs_len, vpv_len]; done) | (simp only [List.length_cons, List.length_nil, List.length_append, List.length_replicate, List.length_map, List.length_set, List.length_take, List.length_drop, strs_len, ints_len, bools_len, aggs_len, vpv_len]; omega)) only [go_sem]
    rw [List.take_length]
    exact hQ _
  | succ k ih =>
    intro i T hi hQ
    have g := knL_take_len l i
    have e := knL_take (l := l) (i := i) (by omega)
    have hw : (vpv (knL (l.take i))).length = (knL (l.take i)).length := vpv_len
    rw [W_loop (L := agg_Known_l1) rfl]
    simp (disch := first | assumption | omega | decide | (simp only [List.length_cons, List.length_nil, List.length_append, List.length_replicate, List.length_map, List.length_set, List.length_take, List.length_drop, strs_len, ints_len, bools_len, aggs_len, vpv_len]; done) | (simp only [List.length_cons, List.length_nil, List.length_append, List.length_replicate, List.length_map, List.length_set, List.length_take, List.length_drop, strs_len, ints_len, bools_len, aggs_len, vpv_len]; omega)) only [go_sem, valP]
    generalize hx : l.getD i (false, 0) = x at e ⊢
    obtain ⟨b, n⟩ := x
    cases b
    · have hk : knV (false, n) = false := rfl
      rw [hk, if_neg (by simp)] at e
      simp (disch := first | assumption | omega | decide | (simp only [List.length_cons, List.length_nil, List.length_append, List.length_replicate, List.length_map, List.length_set, List.length_take, List.length_drop, strs_len, ints_len, bools_len, aggs_len, vpv_len]; done) | (simp only [List.length_cons, List.length_nil, List.length_append, List.length_replicate, List.length_map, List.length_set, List.length_take, List.length_drop, strs_len, ints_len, bools_len, aggs_len, vpv_len]; omega)) only [go_sem]
      rw [← e]
      exact ih (i + 1) _ (by omega) hQ
    · cases hv : isV (true, n)
      · have hk : knV (true, n) = false := by simp [knV, hv]
        rw [hk, if_neg (by simp)] at e
        simp (disch := first | assumption | omega | decide | (simp only [List.length_cons, List.length_nil, List.length_append, List.length_replicate, List.length_map, List.length_set, List.length_take, List.length_drop, strs_len, ints_len, bools_len, aggs_len, vpv_len]; done) | (simp only [List.length_cons, List.length_nil, List.length_append, List.length_replicate, List.length_map, List.length_set, List.length_take, List.length_drop, strs_len, ints_len, bools_len, aggs_len, vpv_len]; omega)) only [go_sem, hv]
        rw [← e]
        exact ih (i + 1) _ (by omega) hQ
      · have hk : knV (true, n) = true := by simp [knV, hv]
        rw [hk, if_pos rfl] at e
        simp (disch := first | assumption | omega | decide | (simp only [List.length_cons, List.length_nil, List.length_append, List.length_replicate, List.length_map, List.length_set, List.length_take, List.length_drop, strs_len, ints_len, bools_len, aggs_len, vpv_len]; done) | (simp only [List.length_cons, List.length_nil, List.length_append, List.length_replicate, List.length_map, List.length_set, List.length_take, List.length_drop, strs_len, ints_len, bools_len, aggs_len, vpv_len]; omega)) only [go_sem, hv]
        rw [← e, show (knL (l.take i)).length + 1 = (knL (l.take (i + 1))).length by rw [e]; simp]
        exact ih (i + 1) _ (by omega) hQ
@[go_sem] theorem res_aggKnown {kk : SK} (l : List Val) (hl : l.length < 1000000000) : res Γ 140 [.sl kk 2 (vpv l)] = some [.sl .any 2 (vpv (knL l))] := by
  have hw : (vpv (knL l)).length = (knL l).length := vpv_len
  refine res_code (fn := agg_Known) rfl rfl ?_
  simp (disch := first | assumption | omega | decide | (simp only [List.length_cons, List.length_nil, List.length_append, List.length_replicate, List.length_map, List.length_set, List.length_take, List.length_drop, strs_len, ints_len, bools_len, aggs_len, vpv_len]; done) | (simp only [List.length_cons, List.length_nil, List.length_append, List.length_replicate, List.length_map, List.length_set, List.length_take, List.length_drop, strs_len, ints_len, bools_len, aggs_len, vpv_len]; omega)) only [go_sem, agg_Known]
  refine agg_Known_l1_ok l hl _ l.length 0 [] (by omega) (fun T => ?_)
  simp (disch := first | assumption | omega | decide | (simp only [List.length_cons, List.length_nil, List.length_append, List.length_replicate, List.length_map, List.length_set, List.length_take, List.length_drop, strs_len, ints_len, bools_len, aggs_len, vpv_len]; done) | (simp only [List.length_cons, List.length_nil, List.length_append, List.length_replicate, List.length_map, List.length_set, List.length_take, List.length_drop, strs_len, ints_len, bools_len, aggs_len, vpv_len]; omega)) only [go_sem]
theorem r6_Known_l1_ok {kk : SK} (l : List Val) (hl : l.length < 1000000000) (Q : Out → Prop) : ∀ (k i : Nat), i + k = l.length →
    (Q (.nrm, [(3, .own 0 (knL l).length)], [.row false 2 (vpv (knL l))])) →
    Wp Γ r6_Known_l1 [(0, .p (.sl kk 2 (vpv l))), (3, .own 0 (knL (l.take i)).length), (4, .p (.int .i64 (i : Int)))] [.row false 2 (vpv (knL (l.take i)))] (InBlk [3] 0 Q) := by
  intro k
  induction k with
  | zero =>
    intro i hi hQ
    obtain rfl : i = l.length := by omega
    rw [W_loop (L := r6_Known_l1) rfl]
    simp (disch := first | assumption | omega | decide | (simp only [List.length_cons, List.length_nil, List.length_append, List.length_replicate, List.length_map, List.length_set, List.length_take, List.length_drop, strs_len, ints_len, bools_len, aggs_len, vpv_len]; done) | (simp only [List.length_cons, List.length_nil, List.length_append, List.length_replicate, List.length_map, List.length_set, List.length_take, List.length_drop, strs_len, ints_len, bools_len, aggs_len, vpv_len]; omega)) only [go_sem]
    rw [List.take_length]
    exact hQ
  | succ k ih =>
    intro i hi hQ
    have g := knL_take_len l i
    have e := knL_take (l := l) (i := i) (by omega)
    have hw : (vpv (knL (l.take i))).length = (knL (l.take i)).length := vpv_len
    rw [W_loop (L := r6_Known_l1) rfl]
    simp (disch := first | assumption | omega | decide | (simp only [List.length_cons, List.length_nil, List.length_append, List.length_replicate, List.length_map, List.length_set, List.length_take, List.length_drop, strs_len, ints_len, bools_len, aggs_len, vpv_len]; done) | (simp only [List.length_cons, List.length_nil, List.length_append, List.length_replicate, List.length_map, List.length_set, List.length_take, List.length_drop, strs_len, ints_len, bools_len, aggs_len, vpv_len]; omega)) only [go_sem, valP]
    cases hk : knV (l.getD i (false, 0))
    · rw [hk, if_neg (by simp)] at e
      simp (disch := first | assumption | omega | decide | (simp only [List.length_cons, List.length_nil, List.length_append, List.length_replicate, List.length_map, List.length_set, List.length_take, List.length_drop, strs_len, ints_len, bools_len, aggs_len, vpv_len]; done) | (simp only [List.length_cons, List.length_nil, List.length_append, List.length_replicate, List.length_map, List.length_set, List.length_take, List.length_drop, strs_len, ints_len, bools_len, aggs_len, vpv_len]; omega)) only [go_sem]
      rw [← e]
      exact ih (i + 1) (by omega) hQ
    · rw [hk, if_pos rfl] at e
      simp (disch := first | assumption | omega | decide | (simp only [List.length_cons, List.length_nil, List.length_append, List.length_replicate, List.length_map, List.length_set, List.length_take, List.length_drop, strs_len, ints_len, bools_len, aggs_len, vpv_len]; done) | (simp only [List.length_cons, List.length_nil, List.length_append, List.length_replicate, List.length_map, List.length_set, List.length_take, List.length_drop, strs_len, ints_len, bools_len, aggs_len, vpv_len]; omega)) only [go_sem, valP]
      rw [← e, show (knL (l.take i)).length + 1 = (knL (l.take (i + 1))).length by rw [e]; simp]
      exact ih (i + 1) (by omega) hQ
@[go_sem] theorem res_r6Known {kk : SK} (l : List Val) (hl : l.length < 1000000000) : res Γ 131 [.sl kk 2 (vpv l)] = some [.sl .any 2 (vpv (knL l))] := by
  have hw : (vpv (knL l)).length = (knL l).length := vpv_len
  refine res_code (fn := r6_Known) rfl rfl ?_
  simp (disch := first | assumption | omega | decide | (simp only [List.length_cons, List.length_nil, List.length_append, List.length_replicate, List.length_map, List.length_set, List.length_take, List.length_drop, strs_len, ints_len, bools_len, aggs_len, vpv_len]; done) | (simp only [List.length_cons, List.length_nil, List.length_append, List.length_replicate, List.length_map, List.length_set, List.length_take, List.length_drop, strs_len, ints_len, bools_len, aggs_len, vpv_len]; omega)) only [go_sem, r6_Known]
  refine r6_Known_l1_ok l hl _ l.length 0 (by omega) ?_
  simp (disch := first | assumption | omega | decide | (simp only [List.length_cons, List.length_nil, List.length_append, List.length_replicate, List.length_map, List.length_set, List.length_take, List.length_drop, strs_len, ints_len, bools_len, aggs_len, vpv_len]; done) | (simp only [List.length_cons, List.length_nil, List.length_append, List.length_replicate, List.length_map, List.length_set, List.length_take, List.length_drop, strs_len, ints_len, bools_len, aggs_len, vpv_len]; omega)) only [go_sem]
end Ab
namespace Ab
open Go (IntKind BinOp UnOp)
def addT (l : List Val) (i : Nat) : Val := addV (l.take i)
theorem addT_succ {l : List Val} {i : Nat} (h : i < l.length) : addT l (i + 1) = sumV (addT l i) (l.getD i (false, 0)) := by
  unfold addT addV
  rw [take_snoc' (false, 0) h, List.foldl_append]; rfl
theorem fixed_Add_l1_ok {kk : SK} (l : List Val) (hl : l.length < 1000000000) (B : Blk) (hB : ∃ a b, B = .box [.p a, .p b]) (Q : Out → Prop) : ∀ (k i : Nat) (T : Heap), i + k = l.length →
    (∀ T, Q (.nrm, [(2, .bx 0 0), (3, .bx 1 0)], B :: .box [.p (.bool (addV l).1), .p (.int .i64 (addV l).2)] :: T)) →
    Wp Γ fixed_Add_l1 [(2, .bx 0 0), (3, .bx 1 0), (7, .p (.sl kk 2 (vpv l))), (8, .p (.int .i64 (l.length : Int))), (9, .p (.int .i64 (i : Int)))] (B :: .box [.p (.bool (addT l i).1), .p (.int .i64 (addT l i).2)] :: T) (InBlk [2, 3] 0 Q) := by
  obtain ⟨a, b, rfl⟩ := hB
  intro k
  induction k with
  | zero =>
    intro i T hi hQ
    obtain rfl : i = l.length := by omega
    rw [W_loop (L := fixed_Add_l1) rfl]
    simp (disch := first | assumption | omega | decide | (simp only [List.length_cons, List.length_nil, List.length_append, List.length_replicate, List.length_map, List.length_set, List.length_take, List.length_drop, strs_len, ints_len, bools_len, aggs_len, vpv_len]; done) | (simp only [List.length_cons, List.length_nil, List.length_append, List.length_replicate, List.length_map, List.length_set, List.length_take, List.length_drop, strs_len, ints_len, bools_len, aggs_len, vpv_len]; omega)) only [go_sem]
    have := hQ []
    rw [show addV l = addT l l.length by rw [addT, List.take_length]] at this
    exact this
  | succ k ih =>
    intro i T hi hQ
    have e := addT_succ (l := l) (i := i) (by omega)
    rw [W_loop (L := fixed_Add_l1) rfl]
    simp (disch := first | assumption | omega | decide | (simp only [List.length_cons, List.length_nil, List.length_append, List.length_replicate, List.length_map, List.length_set, List.length_take, List.length_drop, strs_len, ints_len, bools_len, aggs_len, vpv_len]; done) | (simp only [List.length_cons, List.length_nil, List.length_append, List.length_replicate, List.length_map, List.length_set, List.length_take, List.length_drop, strs_len, ints_len, bools_len, aggs_len, vpv_len]; omega)) only [go_sem, valP]
    rw [← e]
    exact ih (i + 1) _ (by omega) hQ
@[go_sem] theorem res_fixedAdd {kk : SK} (l : List Val) (hl : l.length < 1000000000) : res Γ 136 [.sl kk 2 (vpv l)] = some [.agg [.bool (addV l).1, .int .i64 (addV l).2]] := by
  refine res_code (fn := fixed_Add) rfl rfl ?_
  simp (disch := first | assumption | omega | decide | (simp only [List.length_cons, List.length_nil, List.length_append, List.length_replicate, List.length_map, List.length_set, List.length_take, List.length_drop, strs_len, ints_len, bools_len, aggs_len, vpv_len]; done) | (simp only [List.length_cons, List.length_nil, List.length_append, List.length_replicate, List.length_map, List.length_set, List.length_take, List.length_drop, strs_len, ints_len, bools_len, aggs_len, vpv_len]; omega)) only [go_sem, fixed_Add]
  refine fixed_Add_l1_ok l hl _ ⟨_, _, rfl⟩ _ l.length 0 [] (by omega) (fun T => ?_)
  simp (disch := first | assumption | omega | decide | (simp only [List.length_cons, List.length_nil, List.length_append, List.length_replicate, List.length_map, List.length_set, List.length_take, List.length_drop, strs_len, ints_len, bools_len, aggs_len, vpv_len]; done) | (simp only [List.length_cons, List.length_nil, List.length_append, List.length_replicate, List.length_map, List.length_set, List.length_take, List.length_drop, strs_len, ints_len, bools_len, aggs_len, vpv_len]; omega)) only [go_sem]
theorem r1_Add_l1_ok {kk : SK} (l : List Val) (hl : l.length < 1000000000) (B : Blk) (hB : ∃ a b, B = .box [.p a, .p b]) (Q : Out → Prop) : ∀ (k i : Nat), i + k = l.length →
    (Q (.nrm, [(2, .bx 0 0), (3, .bx 1 0)], [B, .box [.p (.bool (addV l).1), .p (.int .i64 (addV l).2)]])) →
    Wp Γ r1_Add_l1 [(0, .p (.sl kk 2 (vpv l))), (2, .bx 0 0), (3, .bx 1 0), (4, .p (.int .i64 (i : Int)))] [B, .box [.p (.bool (addT l i).1), .p (.int .i64 (addT l i).2)]] (InBlk [2, 3] 0 Q) := by
  obtain ⟨a, b, rfl⟩ := hB
  intro k
  induction k with
  | zero =>
    intro i hi hQ
    obtain rfl : i = l.length := by omega
    rw [W_loop (L := r1_Add_l1) rfl]
    simp (disch := first | assumption | omega | decide | (simp only [List.length_cons, List.length_nil, List.length_append, List.length_replicate, List.length_map, List.length_set, List.length_take, List.length_drop, strs_len, ints_len, bools_len, aggs_len, vpv_len]; done) | (simp only [List.length_cons, List.length_nil, List.length_append, List.length_replicate, List.length_map, List.length_set, List.length_take, List.length_drop, strs_len, ints_len, bools_len, aggs_len, vpv_len]; omega)) only [go_sem]
    rw [show addV l = addT l l.length by rw [addT, List.take_length]] at hQ
    exact hQ
  | succ k ih =>
    intro i hi hQ
    have e := addT_succ (l := l) (i := i) (by omega)
    rw [W_loop (L := r1_Add_l1) rfl]
    simp (disch := first | assumption | omega | decide | (simp only [List.length_cons, List.length_nil, List.length_append, List.length_replicate, List.length_map, List.length_set, List.length_take, List.length_drop, strs_len, ints_len, bools_len, aggs_len, vpv_len]; done) | (simp only [List.length_cons, List.length_nil, List.length_append, List.length_replicate, List.length_map, List.length_set, List.length_take, List.length_drop, strs_len, ints_len, bools_len, aggs_len, vpv_len]; omega)) only [go_sem, valP]
    rw [← e]
    exact ih (i + 1) (by omega) hQ
@[go_sem] theorem res_r1Add {kk : SK} (l : List Val) (hl : l.length < 1000000000) : res Γ 128 [.sl kk 2 (vpv l)] = some [.agg [.bool (addV l).1, .int .i64 (addV l).2]] := by
  refine res_code (fn := r1_Add) rfl rfl ?_
  simp (disch := first | assumption | omega | decide | (simp only [List.length_cons, List.length_nil, List.length_append, List.length_replicate, List.length_map, List.length_set, List.length_take, List.length_drop, strs_len, ints_len, bools_len, aggs_len, vpv_len]; done) | (simp only [List.length_cons, List.length_nil, List.length_append, List.length_replicate, List.length_map, List.length_set, List.length_take, List.length_drop, strs_len, ints_len, bools_len, aggs_len, vpv_len]; omega)) only [go_sem, r1_Add]
  refine r1_Add_l1_ok l hl _ ⟨_, _, rfl⟩ _ l.length 0 (by omega) ?_
  simp (disch := first | assumption | omega | decide | (simp only [List.length_cons, List.length_nil, List.length_append, List.length_replicate, List.length_map, List.length_set, List.length_take, List.length_drop, strs_len, ints_len, bools_len, aggs_len, vpv_len]; done) | (simp only [List.length_cons, List.length_nil, List.length_append, List.length_replicate, List.length_map, List.length_set, List.length_take, List.length_drop, strs_len, ints_len, bools_len, aggs_len, vpv_len]; omega)) only [go_sem]
theorem agg2_nil {kind : Int} {l : List Val} (h : knL l = []) : aggV kind l = (false, 0) := by unfold aggV; rw [h]; rfl
theorem res_aggOf2 {kk : SK} (l : List Val) (hl : l.length < 1000000000) : res Γ 132 [.int .i64 2, .sl kk 2 (vpv l)] = some [.agg [.bool (aggV 2 l).1, .int .i64 (aggV 2 l).2]] := by
  have hk := knL_len l
  refine res_code (fn := agg_Of) rfl rfl ?_
  simp (disch := first | assumption | omega | decide | (simp only [List.length_cons, List.length_nil, List.length_append, List.length_replicate, List.length_map, List.length_set, List.length_take, List.length_drop, strs_len, ints_len, bools_len, aggs_len, vpv_len]; done) | (simp only [List.length_cons, List.length_nil, List.length_append, List.length_replicate, List.length_map, List.length_set, List.length_take, List.length_drop, strs_len, ints_len, bools_len, aggs_len, vpv_len]; omega)) only [go_sem, agg_Of]
  cases h : knL l with
  | nil =>
    simp (disch := first | assumption | omega | decide | (simp only [List.length_cons, List.length_nil, List.length_append, List.length_replicate, List.length_map, List.length_set, List.length_take, List.length_drop, strs_len, ints_len, bools_len, aggs_len, vpv_len]; done) | (simp only [List.length_cons, List.length_nil, List.length_append, List.length_replicate, List.length_map, List.length_set, List.length_take, List.length_drop, strs_len, ints_len, bools_len, aggs_len, vpv_len]; omega)) only [go_sem, agg2_nil h]
  | cons b k =>
    have e : aggV 2 l = addV (b :: k) := by unfold aggV; rw [h]; rfl
    rw [h] at hk
    simp only [List.length_cons] at hk
    simp (disch := first | assumption | omega | decide | (simp only [List.length_cons, List.length_nil, List.length_append, List.length_replicate, List.length_map, List.length_set, List.length_take, List.length_drop, strs_len, ints_len, bools_len, aggs_len, vpv_len]; done) | (simp only [List.length_cons, List.length_nil, List.length_append, List.length_replicate, List.length_map, List.length_set, List.length_take, List.length_drop, strs_len, ints_len, bools_len, aggs_len, vpv_len]; omega)) only [go_sem, e, valP]
def bestV (kind : Int) (b : Val) (l : List Val) : Val := l.foldl (fun b v => if (kind = 4 ∧ b.2 < v.2) ∨ (kind = 5 ∧ v.2 < b.2) then v else b) b
theorem bestV_succ {kind : Int} {b : Val} {l : List Val} {i : Nat} (h : i < l.length) : bestV kind b (l.take (i + 1)) = if (kind = 4 ∧ (bestV kind b (l.take i)).2 < (l.getD i (false, 0)).2) ∨ (kind = 5 ∧ (l.getD i (false, 0)).2 < (bestV kind b (l.take i)).2) then l.getD i (false, 0) else bestV kind b (l.take i) := by
  unfold bestV
  rw [take_snoc' (false, 0) h, List.foldl_append]; rfl
theorem bestV_4 (b : Val) (l : List Val) : bestV 4 b l = maxV b l := by
  unfold bestV maxV; congr 1; funext b v; simp
theorem bestV_5 (b : Val) (l : List Val) : bestV 5 b l = minV b l := by
  unfold bestV minV; congr 1; funext b v; simp
theorem bestV_known {kind : Int} {b : Val} (hb : knV b = true) : ∀ {l : List Val}, (∀ v ∈ l, knV v = true) → knV (bestV kind b l) = true := by
  intro l
  induction l generalizing b with
  | nil => exact fun _ => hb
  | cons x l ih =>
    intro h
    unfold bestV at *
    rw [List.foldl_cons]
    split
    · exact ih (h x (by simp)) fun v hv => h v (by simp [hv])
    · exact ih hb fun v hv => h v (by simp [hv])
theorem r6_Of_l1_ok {kk : SK} (kind : Int) (b : Val) (l : List Val) (hl : l.length < 1000000000) (B : Blk) (Q : Out → Prop) : ∀ (k i : Nat), i + k = l.length →
    (Q (.nrm, [(0, .p (.int .i64 kind)), (4, .bx 0 0), (5, .p (.sl kk 2 (vpv (b :: l)))), (6, .bx 1 0)], [B, .box [.p (.bool (bestV kind b l).1), .p (.int .i64 (bestV kind b l).2)]])) →
    Wp Γ r6_Of_l1 [(0, .p (.int .i64 kind)), (4, .bx 0 0), (5, .p (.sl kk 2 (vpv (b :: l)))), (6, .bx 1 0), (7, .p (.int .i64 ((i + 1 : Nat) : Int)))] [B, .box [.p (.bool (bestV kind b (l.take i)).1), .p (.int .i64 (bestV kind b (l.take i)).2)]] (InBlk [0, 4, 5, 6] 0 Q) := by
  intro k
  induction k with
  | zero =>
    intro i hi hQ
    obtain rfl : i = l.length := by omega
    rw [W_loop (L := r6_Of_l1) rfl]
    simp (disch := first | assumption | omega | decide | (simp only [List.length_cons, List.length_nil, List.length_append, List.length_replicate, List.length_map, List.length_set, List.length_take, List.length_drop, strs_len, ints_len, bools_len, aggs_len, vpv_len]; done) | (simp only [List.length_cons, List.length_nil, List.length_append, List.length_replicate, List.length_map, List.length_set, List.length_take, List.length_drop, strs_len, ints_len, bools_len, aggs_len, vpv_len]; omega)) only [go_sem]
    rw [List.take_length]
    exact hQ
  | succ k ih =>
    intro i hi hQ
    have e := bestV_succ (kind := kind) (b := b) (l := l) (i := i) (by omega)
    have ih := ih (i + 1) (by omega) hQ
    rw [e] at ih
    rw [W_loop (L := r6_Of_l1) rfl]
    by_cases h4 : kind = 4
    · by_cases hlt : (bestV kind b (l.take i)).2 < (l.getD i (false, 0)).2
      · rw [if_pos (.inl ⟨h4, hlt⟩)] at ih
        simp (disch := first | assumption | omega | decide | (simp only [List.length_cons, List.length_nil, List.length_append, List.length_replicate, List.length_map, List.length_set, List.length_take, List.length_drop, strs_len, ints_len, bools_len, aggs_len, vpv_len]; done) | (simp only [List.length_cons, List.length_nil, List.length_append, List.length_replicate, List.length_map, List.length_set, List.length_take, List.length_drop, strs_len, ints_len, bools_len, aggs_len, vpv_len]; omega)) only [go_sem, valP]
        exact ih
      · rw [if_neg (by rintro (⟨_, h⟩ | ⟨h, _⟩) <;> omega)] at ih
        simp (disch := first | assumption | omega | decide | (simp only [List.length_cons, List.length_nil, List.length_append, List.length_replicate, List.length_map, List.length_set, List.length_take, List.length_drop, strs_len, ints_len, bools_len, aggs_len, vpv_len]; done) | (simp only [List.length_cons, List.length_nil, List.length_append, List.length_replicate, List.length_map, List.length_set, List.length_take, List.length_drop, strs_len, ints_len, bools_len, aggs_len, vpv_len]; omega)) only [go_sem, valP]
        exact ih
    · by_cases h5 : kind = 5
      · by_cases hlt : (l.getD i (false, 0)).2 < (bestV kind b (l.take i)).2
        · rw [if_pos (.inr ⟨h5, hlt⟩)] at ih
          simp (disch := first | assumption | omega | decide | (simp only [List.length_cons, List.length_nil, List.length_append, List.length_replicate, List.length_map, List.length_set, List.length_take, List.length_drop, strs_len, ints_len, bools_len, aggs_len, vpv_len]; done) | (simp only [List.length_cons, List.length_nil, List.length_append, List.length_replicate, List.length_map, List.length_set, List.length_take, List.length_drop, strs_len, ints_len, bools_len, aggs_len, vpv_len]; omega)) only [go_sem, valP]
          exact ih
        · rw [if_neg (by rintro (⟨h, _⟩ | ⟨_, h⟩) <;> omega)] at ih
          simp (disch := first | assumption | omega | decide | (simp only [List.length_cons, List.length_nil, List.length_append, List.length_replicate, List.length_map, List.length_set, List.length_take, List.length_drop, strs_len, ints_len, bools_len, aggs_len, vpv_len]; done) | (simp only [List.length_cons, List.length_nil, List.length_append, List.length_replicate, List.length_map, List.length_set, List.length_take, List.length_drop, strs_len, ints_len, bools_len, aggs_len, vpv_len]; omega)) only [go_sem, valP]
          exact ih
      · rw [if_neg (by rintro (⟨h, _⟩ | ⟨h, _⟩) <;> contradiction)] at ih
        simp (disch := first | assumption | omega | decide | (simp only [List.length_cons, List.length_nil, List.length_append, List.length_replicate, List.length_map, List.length_set, List.length_take, List.length_drop, strs_len, ints_len, bools_len, aggs_len, vpv_len]; done) | (simp only [List.length_cons, List.length_nil, List.length_append, List.length_replicate, List.length_map, List.length_set, List.length_take, List.length_drop, strs_len, ints_len, bools_len, aggs_len, vpv_len]; omega)) only [go_sem]
        exact ih
theorem agg2_cons {l : List Val} {b : Val} {k : List Val} (h : knL l = b :: k) : aggV 2 l = addV (b :: k) ∧ aggV 4 l = bestV 4 b k ∧ aggV 5 l = bestV 5 b k := by
  refine ⟨?_, ?_, ?_⟩
  · unfold aggV; rw [h]; rfl
  · unfold aggV; rw [h, bestV_4]; rfl
  · unfold aggV; rw [h, bestV_5]; rfl
theorem res_r6Of {kk : SK} (kind : Int) (hkind : kind = 2 ∨ kind = 4 ∨ kind = 5) (l : List Val) (hl : l.length < 1000000000) : res Γ 122 [.int .i64 kind, .sl kk 2 (vpv l)] = some [.agg [.bool (aggV kind l).1, .int .i64 (aggV kind l).2]] := by
  have hk := knL_len l
  refine res_code (fn := r6_Of) rfl rfl ?_
  simp (disch := first | assumption | omega | decide | (simp only [List.length_cons, List.length_nil, List.length_append, List.length_replicate, List.length_map, List.length_set, List.length_take, List.length_drop, strs_len, ints_len, bools_len, aggs_len, vpv_len]; done) | (simp only [List.length_cons, List.length_nil, List.length_append, List.length_replicate, List.length_map, List.length_set, List.length_take, List.length_drop, strs_len, ints_len, bools_len, aggs_len, vpv_len]; omega)) only [go_sem, r6_Of]
  cases h : knL l with
  | nil =>
    simp (disch := first | assumption | omega | decide | (simp only [List.length_cons, List.length_nil, List.length_append, List.length_replicate, List.length_map, List.length_set, List.length_take, List.length_drop, strs_len, ints_len, bools_len, aggs_len, vpv_len]; done) | (simp only [List.length_cons, List.length_nil, List.length_append, List.length_replicate, List.length_map, List.length_set, List.length_take, List.length_drop, strs_len, ints_len, bools_len, aggs_len, vpv_len]; omega)) only [go_sem, agg2_nil h]
  | cons b k =>
    obtain ⟨e2, e4, e5⟩ := agg2_cons h
    rw [h] at hk
    simp only [List.length_cons] at hk
    repeat' (first | (simp (disch := first | assumption | omega | decide | (simp only [List.length_cons, List.length_nil, List.length_append, List.length_replicate, List.length_map, List.length_set, List.length_take, List.length_drop, strs_len, ints_len, bools_len, aggs_len, vpv_len]; done) | (simp only [List.length_cons, List.length_nil, List.length_append, List.length_replicate, List.length_map, List.length_set, List.length_take, List.length_drop, strs_len, ints_len, bools_len, aggs_len, vpv_len]; omega)) only [go_sem, valP]) | refine cond_split (fun hc => ?_) (fun hc => ?_) | refine gd_split_f (fun hc => ?_) (fun hc => ?_) | refine gd_split_t (fun hc => ?_) (fun hc => ?_))
    · refine r6_Of_l1_ok kind b k (by omega) _ _ k.length 0 (by omega) ?_
      rcases hkind with rfl | rfl | rfl
      · simp (disch := first | assumption | omega | decide | (simp only [List.length_cons, List.length_nil, List.length_append, List.length_replicate, List.length_map, List.length_set, List.length_take, List.length_drop, strs_len, ints_len, bools_len, aggs_len, vpv_len]; done) | (simp only [List.length_cons, List.length_nil, List.length_append, List.length_replicate, List.length_map, List.length_set, List.length_take, List.length_drop, strs_len, ints_len, bools_len, aggs_len, vpv_len]; omega)) only [go_sem, e2]
      · simp (disch := first | assumption | omega | decide | (simp only [List.length_cons, List.length_nil, List.length_append, List.length_replicate, List.length_map, List.length_set, List.length_take, List.length_drop, strs_len, ints_len, bools_len, aggs_len, vpv_len]; done) | (simp only [List.length_cons, List.length_nil, List.length_append, List.length_replicate, List.length_map, List.length_set, List.length_take, List.length_drop, strs_len, ints_len, bools_len, aggs_len, vpv_len]; omega)) only [go_sem, e4]
      · simp (disch := first | assumption | omega | decide | (simp only [List.length_cons, List.length_nil, List.length_append, List.length_replicate, List.length_map, List.length_set, List.length_take, List.length_drop, strs_len, ints_len, bools_len, aggs_len, vpv_len]; done) | (simp only [List.length_cons, List.length_nil, List.length_append, List.length_replicate, List.length_map, List.length_set, List.length_take, List.length_drop, strs_len, ints_len, bools_len, aggs_len, vpv_len]; omega)) only [go_sem, e5]
    all_goals trace_state

theorem agg_Of_l1_ok {kk : SK} (l : List Val) (b : Val) (hb : knV b = true) (hk : ∀ v ∈ l, knV v = true) (hl : l.length < 1000000000) (B : Blk) (hB : ∃ a b, B = .box [.p a, .p b]) (Q : Out → Prop) : ∀ (k i : Nat) (T : Heap), i + k = l.length →
    (∀ T, Q (.nrm, [(4, .bx 0 0), (6, .bx 1 0)], B :: .box [.p (.bool (bestV 4 b l).1), .p (.int .i64 (bestV 4 b l).2)] :: T)) →
    Wp Γ agg_Of_l1 [(4, .bx 0 0), (6, .bx 1 0), (43, .p (.sl kk 2 (vpv l))), (44, .p (.int .i64 (l.length : Int))), (45, .p (.int .i64 (i : Int)))] (B :: .box [.p (.bool (bestV 4 b (l.take i)).1), .p (.int .i64 (bestV 4 b (l.take i)).2)] :: T) (InBlk [4, 6] 1 Q) := by
  obtain ⟨a1, a2, rfl⟩ := hB
  intro k
  induction k with
  | zero =>
    intro i T hi hQ
    obtain rfl : i = l.length := by omega
    rw [W_loop (L := agg_Of_l1) rfl]
    simp (disch := first | assumption | omega | decide | (simp only [List.length_cons, List.length_nil, List.length_append, List.length_replicate, List.length_map, List.length_set, List.length_take, List.length_drop, strs_len, ints_len, bools_len, aggs_len, vpv_len]; done) | (simp only [List.length_cons, List.length_nil, List.length_append, List.length_replicate, List.length_map, List.length_set, List.length_take, List.length_drop, strs_len, ints_len, bools_len, aggs_len, vpv_len]; omega)) only [go_sem]
    rw [List.take_length]
    exact hQ []
  | succ k ih =>
    intro i T hi hQ
    have e := bestV_succ (kind := 4) (b := b) (l := l) (i := i) (by omega)
    have g1 := bestV_known (kind := 4) hb (l := l.take i) fun v hv => hk v (List.mem_of_mem_take hv)
    have g2 : knV (l.getD i (false, 0)) = true := hk _ (by rw [List.getD_eq_getElem?_getD, List.getElem?_eq_getElem (show i < l.length by omega)]; exact List.getElem_mem _)
    have e2 : lessV (bestV 4 b (l.take i)) (l.getD i (false, 0)) = decide ((bestV 4 b (l.take i)).2 < (l.getD i (false, 0)).2) := by simp only [lessV, g1, g2, Bool.true_and]
    have ih := fun T => ih (i + 1) T (by omega) hQ
    rw [e] at ih
    rw [W_loop (L := agg_Of_l1) rfl]
    simp (disch := first | assumption | omega | decide | (simp only [List.length_cons, List.length_nil, List.length_append, List.length_replicate, List.length_map, List.length_set, List.length_take, List.length_drop, strs_len, ints_len, bools_len, aggs_len, vpv_len]; done) | (simp only [List.length_cons, List.length_nil, List.length_append, List.length_replicate, List.length_map, List.length_set, List.length_take, List.length_drop, strs_len, ints_len, bools_len, aggs_len, vpv_len]; omega)) only [go_sem, valP, e2]
    refine cond_split (fun hc => ?_) (fun hc => ?_)
    · rw [if_pos (.inl ⟨rfl, hc⟩)] at ih
      simp (disch := first | assumption | omega | decide | (simp only [List.length_cons, List.length_nil, List.length_append, List.length_replicate, List.length_map, List.length_set, List.length_take, List.length_drop, strs_len, ints_len, bools_len, aggs_len, vpv_len]; done) | (simp only [List.length_cons, List.length_nil, List.length_append, List.length_replicate, List.length_map, List.length_set, List.length_take, List.length_drop, strs_len, ints_len, bools_len, aggs_len, vpv_len]; omega)) only [go_sem]
      exact ih _
    · rw [if_neg (by rintro (⟨_, h⟩ | ⟨h, _⟩) <;> omega)] at ih
      simp (disch := first | assumption | omega | decide | (simp only [List.length_cons, List.length_nil, List.length_append, List.length_replicate, List.length_map, List.length_set, List.length_take, List.length_drop, strs_len, ints_len, bools_len, aggs_len, vpv_len]; done) | (simp only [List.length_cons, List.length_nil, List.length_append, List.length_replicate, List.length_map, List.length_set, List.length_take, List.length_drop, strs_len, ints_len, bools_len, aggs_len, vpv_len]; omega)) only [go_sem]
      exact ih _
theorem agg_Of_l2_ok {kk : SK} (l : List Val) (b : Val) (hb : knV b = true) (hk : ∀ v ∈ l, knV v = true) (hl : l.length < 1000000000) (B : Blk) (hB : ∃ a b, B = .box [.p a, .p b]) (Q : Out → Prop) : ∀ (k i : Nat) (T : Heap), i + k = l.length →
    (∀ T, Q (.nrm, [(4, .bx 0 0), (6, .bx 1 0)], B :: .box [.p (.bool (bestV 5 b l).1), .p (.int .i64 (bestV 5 b l).2)] :: T)) →
    Wp Γ agg_Of_l2 [(4, .bx 0 0), (6, .bx 1 0), (57, .p (.sl kk 2 (vpv l))), (58, .p (.int .i64 (l.length : Int))), (59, .p (.int .i64 (i : Int)))] (B :: .box [.p (.bool (bestV 5 b (l.take i)).1), .p (.int .i64 (bestV 5 b (l.take i)).2)] :: T) (InBlk [4, 6] 3 Q) := by
  obtain ⟨a1, a2, rfl⟩ := hB
  intro k
  induction k with
  | zero =>
    intro i T hi hQ
    obtain rfl : i = l.length := by omega
    rw [W_loop (L := agg_Of_l2) rfl]
    simp (disch := first | assumption | omega | decide | (simp only [List.length_cons, List.length_nil, List.length_append, List.length_replicate, List.length_map, List.length_set, List.length_take, List.length_drop, strs_len, ints_len, bools_len, aggs_len, vpv_len]; done) | (simp only [List.length_cons, List.length_nil, List.length_append, List.length_replicate, List.length_map, List.length_set, List.length_take, List.length_drop, strs_len, ints_len, bools_len, aggs_len, vpv_len]; omega)) only [go_sem]
    rw [List.take_length]
    exact hQ []
  | succ k ih =>
    intro i T hi hQ
    have e := bestV_succ (kind := 5) (b := b) (l := l) (i := i) (by omega)
    have g1 := bestV_known (kind := 5) hb (l := l.take i) fun v hv => hk v (List.mem_of_mem_take hv)
    have g2 : knV (l.getD i (false, 0)) = true := hk _ (by rw [List.getD_eq_getElem?_getD, List.getElem?_eq_getElem (show i < l.length by omega)]; exact List.getElem_mem _)
    have e2 : lessV (l.getD i (false, 0)) (bestV 5 b (l.take i)) = decide ((l.getD i (false, 0)).2 < (bestV 5 b (l.take i)).2) := by simp only [lessV, g1, g2, Bool.true_and]
    have ih := fun T => ih (i + 1) T (by omega) hQ
    rw [e] at ih
    rw [W_loop (L := agg_Of_l2) rfl]
    simp (disch := first | assumption | omega | decide | (simp only [List.length_cons, List.length_nil, List.length_append, List.length_replicate, List.length_map, List.length_set, List.length_take, List.length_drop, strs_len, ints_len, bools_len, aggs_len, vpv_len]; done) | (simp only [List.length_cons, List.length_nil, List.length_append, List.length_replicate, List.length_map, List.length_set, List.length_take, List.length_drop, strs_len, ints_len, bools_len, aggs_len, vpv_len]; omega)) only [go_sem, valP, e2]
    refine cond_split (fun hc => ?_) (fun hc => ?_)
    · rw [if_pos (.inr ⟨rfl, hc⟩)] at ih
      simp (disch := first | assumption | omega | decide | (simp only [List.length_cons, List.length_nil, List.length_append, List.length_replicate, List.length_map, List.length_set, List.length_take, List.length_drop, strs_len, ints_len, bools_len, aggs_len, vpv_len]; done) | (simp only [List.length_cons, List.length_nil, List.length_append, List.length_replicate, List.length_map, List.length_set, List.length_take, List.length_drop, strs_len, ints_len, bools_len, aggs_len, vpv_len]; omega)) only [go_sem]
      exact ih _
    · rw [if_neg (by rintro (⟨h, _⟩ | ⟨_, h⟩) <;> omega)] at ih
      simp (disch := first | assumption | omega | decide | (simp only [List.length_cons, List.length_nil, List.length_append, List.length_replicate, List.length_map, List.length_set, List.length_take, List.length_drop, strs_len, ints_len, bools_len, aggs_len, vpv_len]; done) | (simp only [List.length_cons, List.length_nil, List.length_append, List.length_replicate, List.length_map, List.length_set, List.length_take, List.length_drop, strs_len, ints_len, bools_len, aggs_len, vpv_len]; omega)) only [go_sem]
      exact ih _
theorem bestV_self4 (b : Val) (l : List Val) : bestV 4 b (b :: l) = bestV 4 b l := by
  unfold bestV
  rw [List.foldl_cons, if_neg (by rintro (⟨_, h⟩ | ⟨h, _⟩) <;> omega)]
theorem bestV_self5 (b : Val) (l : List Val) : bestV 5 b (b :: l) = bestV 5 b l := by
  unfold bestV
  rw [List.foldl_cons, if_neg (by rintro (⟨h, _⟩ | ⟨_, h⟩) <;> omega)]
theorem res_aggOf4 {kk : SK} (l : List Val) (hl : l.length < 1000000000) : res Γ 132 [.int .i64 4, .sl kk 2 (vpv l)] = some [.agg [.bool (aggV 4 l).1, .int .i64 (aggV 4 l).2]] := by
  have hk := knL_len l
  have hm := fun v => @knL_mem l v
  refine res_code (fn := agg_Of) rfl rfl ?_
  simp (disch := first | assumption | omega | decide | (simp only [List.length_cons, List.length_nil, List.length_append, List.length_replicate, List.length_map, List.length_set, List.length_take, List.length_drop, strs_len, ints_len, bools_len, aggs_len, vpv_len]; done) | (simp only [List.length_cons, List.length_nil, List.length_append, List.length_replicate, List.length_map, List.length_set, List.length_take, List.length_drop, strs_len, ints_len, bools_len, aggs_len, vpv_len]; omega)) only [go_sem, agg_Of]
  cases h : knL l with
  | nil =>
    simp (disch := first | assumption | omega | decide | (simp only [List.length_cons, List.length_nil, List.length_append, List.length_replicate, List.length_map, List.length_set, List.length_take, List.length_drop, strs_len, ints_len, bools_len, aggs_len, vpv_len]; done) | (simp only [List.length_cons, List.length_nil, List.length_append, List.length_replicate, List.length_map, List.length_set, List.length_take, List.length_drop, strs_len, ints_len, bools_len, aggs_len, vpv_len]; omega)) only [go_sem, agg2_nil h]
  | cons b k =>
    obtain ⟨e2, e4, e5⟩ := agg2_cons h
    rw [h] at hk hm
    simp only [List.length_cons] at hk
    simp (disch := first | assumption | omega | decide | (simp only [List.length_cons, List.length_nil, List.length_append, List.length_replicate, List.length_map, List.length_set, List.length_take, List.length_drop, strs_len, ints_len, bools_len, aggs_len, vpv_len]; done) | (simp only [List.length_cons, List.length_nil, List.length_append, List.length_replicate, List.length_map, List.length_set, List.length_take, List.length_drop, strs_len, ints_len, bools_len, aggs_len, vpv_len]; omega)) only [go_sem, valP]
    refine agg_Of_l1_ok (b :: k) b (hm b (by simp)) hm (by simp; omega) _ ⟨_, _, rfl⟩ _ (b :: k).length 0 [] (by omega) (fun T => ?_)
    simp (disch := first | assumption | omega | decide | (simp only [List.length_cons, List.length_nil, List.length_append, List.length_replicate, List.length_map, List.length_set, List.length_take, List.length_drop, strs_len, ints_len, bools_len, aggs_len, vpv_len]; done) | (simp only [List.length_cons, List.length_nil, List.length_append, List.length_replicate, List.length_map, List.length_set, List.length_take, List.length_drop, strs_len, ints_len, bools_len, aggs_len, vpv_len]; omega)) only [go_sem, e4, bestV_self4]
theorem res_aggOf5 {kk : SK} (l : List Val) (hl : l.length < 1000000000) : res Γ 132 [.int .i64 5, .sl kk 2 (vpv l)] = some [.agg [.bool (aggV 5 l).1, .int .i64 (aggV 5 l).2]] := by
  have hk := knL_len l
  have hm := fun v => @knL_mem l v
  refine res_code (fn := agg_Of) rfl rfl ?_
  simp (disch := first | assumption | omega | decide | (simp only [List.length_cons, List.length_nil, List.length_append, List.length_replicate, List.length_map, List.length_set, List.length_take, List.length_drop, strs_len, ints_len, bools_len, aggs_len, vpv_len]; done) | (simp only [List.length_cons, List.length_nil, List.length_append, List.length_replicate, List.length_map, List.length_set, List.length_take, List.length_drop, strs_len, ints_len, bools_len, aggs_len, vpv_len]; omega)) only [go_sem, agg_Of]
  cases h : knL l with
  | nil =>
    simp (disch := first | assumption | omega | decide | (simp only [List.length_cons, List.length_nil, List.length_append, List.length_replicate, List.length_map, List.length_set, List.length_take, List.length_drop, strs_len, ints_len, bools_len, aggs_len, vpv_len]; done) | (simp only [List.length_cons, List.length_nil, List.length_append, List.length_replicate, List.length_map, List.length_set, List.length_take, List.length_drop, strs_len, ints_len, bools_len, aggs_len, vpv_len]; omega)) only [go_sem, agg2_nil h]
  | cons b k =>
    obtain ⟨e2, e4, e5⟩ := agg2_cons h
    rw [h] at hk hm
    simp only [List.length_cons] at hk
    simp (disch := first | assumption | omega | decide | (simp only [List.length_cons, List.length_nil, List.length_append, List.length_replicate, List.length_map, List.length_set, List.length_take, List.length_drop, strs_len, ints_len, bools_len, aggs_len, vpv_len]; done) | (simp only [List.length_cons, List.length_nil, List.length_append, List.length_replicate, List.length_map, List.length_set, List.length_take, List.length_drop, strs_len, ints_len, bools_len, aggs_len, vpv_len]; omega)) only [go_sem, valP]
    refine agg_Of_l2_ok (b :: k) b (hm b (by simp)) hm (by simp; omega) _ ⟨_, _, rfl⟩ _ (b :: k).length 0 [] (by omega) (fun T => ?_)
    simp (disch := first | assumption | omega | decide | (simp only [List.length_cons, List.length_nil, List.length_append, List.length_replicate, List.length_map, List.length_set, List.length_take, List.length_drop, strs_len, ints_len, bools_len, aggs_len, vpv_len]; done) | (simp only [List.length_cons, List.length_nil, List.length_append, List.length_replicate, List.length_map, List.length_set, List.length_take, List.length_drop, strs_len, ints_len, bools_len, aggs_len, vpv_len]; omega)) only [go_sem, e5, bestV_self5]
end Ab
namespace Ab
open Go (IntKind BinOp UnOp)
def toV (o : List Int) : List Val := o.map fun n => (true, n)
def nums (l : List Val) : List Int := (knL l).map (·.2)
def sortV (l : List Val) : List Val := toV (sortI (nums l))
@[go_sem] theorem ifB_dec {α : Type} {c : Prop} [Decidable c] {x : Option α} (h : c) : ifB (decide c) x = x := by rw [decide_eq_true h]; rfl
@[go_sem] theorem loadK_vals {f sz s ag} {l : List Val} {n i off : Nat} (h : l.length = n) (h' : i < n) : loadK (some (.row f sz (vpv l))) s ag n i off = takeP s ag ((valP (l.getD i (false, 0))).drop off) := by
  simp only [loadK, vpv_len, h, if_true, vpv_get (show i < l.length by omega), Option.bind_some, PV.cells]
end Ab
namespace Ab
open Go (IntKind BinOp UnOp)
theorem wrap_u64 {x : Int} (h0 : 0 ≤ x) (h1 : x ≤ 18446744073709551615) : IntKind.u64.wrap x = x := by
  simp only [IntKind.wrap, IntKind.bits, IntKind.signed, Bool.false_and]
  have e : (2 : Int) ^ 64 = 18446744073709551616 := by decide
  rw [e]
  simp
  omega
theorem map_rem {k : IntKind} {a b : Int} (h0 : 0 ≤ a) (h1 : 0 < b) : binAV .rem (.p (.int k a)) (.p (.int k b)) = some (.p (.int k (a % b))) := by
  simp only [binAV, binPV, binInt, true_or, if_true]
  rw [if_neg (by omega), Int.tmod_eq_emod_of_nonneg h0]; rfl
theorem map_quo {k : IntKind} {a b : Int} (h0 : 0 ≤ a) (h1 : 0 < b) (h2 : k.wrap (a / b) = a / b) : binAV .quo (.p (.int k a)) (.p (.int k b)) = some (.p (.int k (a / b))) := by
  simp only [binAV, binPV, binInt, true_or, if_true]
  rw [if_neg (by omega), Int.tdiv_eq_ediv_of_nonneg h0, h2]; rfl
theorem strOf_one {H : Heap} {kk : SK} {n : Int} : strOfA H (.p (.sl kk 1 [.int .u8 n])) = some (.p (.str [UInt8.ofNat n.toNat])) := by
  simp [strOfA, bytesIn]
attribute [go_sem] wrap_u64 map_rem strOf_one
end Ab
namespace Ab
theorem dig_exit {Y n1 n0 U u q r Q : Int} (hY : Y = n1 * 4294967296 + n0) (hU : U = q * n1 + r) (hle : q * n0 ≤ 4294967296 * r + u) (hQ : U * 4294967296 + u < (Q + 1) * Y) (hq : Q ≤ q) (h0 : 0 < Y) : q = Q := by
  have e : q * Y = q * n1 * 4294967296 + q * n0 := by rw [hY, Int.mul_add, ← Int.mul_assoc]
  have l : q * Y < (Q + 1) * Y := by omega
  have := Int.lt_of_mul_lt_mul_right l (Int.le_of_lt h0)
  omega
theorem dig_down {Y n1 n0 U u q r Q : Int} (hY : Y = n1 * 4294967296 + n0) (hU : U = q * n1 + r) (hgt : 4294967296 * r + u < q * n0) (hQ : Q * Y ≤ U * 4294967296 + u) (h0 : 0 < Y) : Q ≤ q - 1 := by
  have e : q * Y = q * n1 * 4294967296 + q * n0 := by rw [hY, Int.mul_add, ← Int.mul_assoc]
  have l : Q * Y < q * Y := by omega
  have := Int.lt_of_mul_lt_mul_right l (Int.le_of_lt h0)
  omega
theorem dig_lt {Y U u Q : Int} (hU : U < Y) (hu : u < 4294967296) (hQ : Q * Y ≤ U * 4294967296 + u) (h0 : 0 < Y) : Q < 4294967296 := by
  have l : Q * Y < 4294967296 * Y := by omega
  exact Int.lt_of_mul_lt_mul_right l (Int.le_of_lt h0)
theorem dig_first {Y n1 n0 U u Q : Int} (hY : Y = n1 * 4294967296 + n0) (h1 : 0 < n1) (hn : 0 ≤ n0) (hu : u < 4294967296) (hQ0 : 0 ≤ Q) (hQ : Q * Y ≤ U * 4294967296 + u) : Q ≤ U / n1 := by
  have e : Q * Y = Q * n1 * 4294967296 + Q * n0 := by rw [hY, Int.mul_add, ← Int.mul_assoc]
  have p : 0 ≤ Q * n0 := Int.mul_nonneg hQ0 hn
  have l : Q * n1 ≤ U := by omega
  exact (Int.le_ediv_iff_mul_le h1).2 l
theorem dig_break {Y n1 n0 U u q r Q : Int} (hY : Y = n1 * 4294967296 + n0) (h1 : 0 < n1) (hn : n0 < 4294967296) (hn0 : 0 ≤ n0) (hU : U = q * n1 + r) (hr : 4294967296 ≤ r) (hUY : U < Y) (hu : 0 ≤ u) (hQ : U * 4294967296 + u < (Q + 1) * Y) (hq : Q ≤ q) (hq0 : 0 ≤ q) : q = Q ∧ q < 4294967296 := by
  have l : q * n1 < 4294967296 * n1 := by omega
  have lq := Int.lt_of_mul_lt_mul_right l (Int.le_of_lt h1)
  have m : q * n0 ≤ 4294967296 * n0 := Int.mul_le_mul_of_nonneg_right (by omega) hn0
  have hp : 0 < n1 * 4294967296 := by omega
  exact ⟨dig_exit hY hU (by omega) hQ hq (by omega), lq⟩
theorem mul_halves {x y : Int} (hx : 0 ≤ x ∧ x < 18446744073709551616) (hy : 0 ≤ y ∧ y < 18446744073709551616) :
    let x0 := x % 4294967296; let x1 := x / 4294967296; let y0 := y % 4294967296; let y1 := y / 4294967296
    let w0 := x0 * y0; let t := x1 * y0 + w0 / 4294967296; let w1 := t % 4294967296 + x0 * y1
    (0 ≤ w0 ∧ w0 ≤ 18446744065119617025) ∧ (0 ≤ x1 * y0 ∧ x1 * y0 ≤ 18446744065119617025) ∧ (0 ≤ x0 * y1 ∧ x0 * y1 ≤ 18446744065119617025) ∧ (0 ≤ x1 * y1 ∧ x1 * y1 ≤ 18446744065119617025) ∧
      x1 * y1 + t / 4294967296 + w1 / 4294967296 = x * y / 18446744073709551616 ∧ (0 ≤ x * y / 18446744073709551616 ∧ x * y / 18446744073709551616 < 18446744073709551616) := by
  intro x0 x1 y0 y1 w0 t w1
  have b : ∀ a c : Int, 0 ≤ a → a ≤ 4294967295 → 0 ≤ c → c ≤ 4294967295 → 0 ≤ a * c ∧ a * c ≤ 18446744065119617025 := fun a c h1 h2 h3 h4 =>
    ⟨Int.mul_nonneg h1 h3, Int.le_trans (Int.mul_le_mul h2 h4 h3 (by decide)) (by decide)⟩
  have hx0 : 0 ≤ x0 ∧ x0 ≤ 4294967295 := by omega
  have hx1 : 0 ≤ x1 ∧ x1 ≤ 4294967295 := by omega
  have hy0 : 0 ≤ y0 ∧ y0 ≤ 4294967295 := by omega
  have hy1 : 0 ≤ y1 ∧ y1 ≤ 4294967295 := by omega
  have b1 := b x0 y0 hx0.1 hx0.2 hy0.1 hy0.2
  have b2 := b x1 y0 hx1.1 hx1.2 hy0.1 hy0.2
  have b3 := b x0 y1 hx0.1 hx0.2 hy1.1 hy1.2
  have b4 := b x1 y1 hx1.1 hx1.2 hy1.1 hy1.2
  have ex : x = 4294967296 * x1 + x0 := by omega
  have ey : y = 4294967296 * y1 + y0 := by omega
  have e : x * y = 18446744073709551616 * (x1 * y1) + 4294967296 * (x1 * y0) + 4294967296 * (x0 * y1) + x0 * y0 := by
    rw [ex, ey, Int.add_mul, Int.mul_add, Int.mul_add, Int.mul_assoc, Int.mul_left_comm x1, ← Int.mul_assoc 4294967296, Int.mul_assoc 4294967296 x1 y0, Int.mul_left_comm x0 4294967296]
    omega
  refine ⟨b1, b2, b3, b4, ?_, ?_⟩
  · rw [e]
    omega
  · rw [e]
    omega
end Ab
namespace Ab
open Go (IntKind BinOp UnOp)
theorem wrap_u64m (x : Int) : IntKind.u64.wrap x = x % 18446744073709551616 := by
  simp only [IntKind.wrap, IntKind.bits, IntKind.signed, Bool.false_and]
  have e : (2 : Int) ^ 64 = 18446744073709551616 := by decide
  rw [e]
  simp
theorem map_shr32 (x : Int) : binAV .shr (.p (.int .u64 x)) (.p (.int .u64 32)) = some (.p (.int .u64 (x / 4294967296))) := by
  have e : x.fdiv (2 ^ min 32 IntKind.u64.bits) = x / 4294967296 := by
    have e : (2 : Int) ^ (min 32 IntKind.u64.bits) = 4294967296 := by decide
    rw [e, Int.fdiv_eq_ediv_of_nonneg _ (by decide)]
  simp [binAV, binPV, binInt, e]
theorem map_and32 {x : Int} (_h0 : 0 ≤ x) (_h1 : x ≤ 18446744073709551615) : binAV .and (.p (.int .u64 x)) (.p (.int .u64 4294967295)) = some (.p (.int .u64 (x % 4294967296))) := by
  have e : (BitVec.ofInt IntKind.u64.bits 4294967295).toNat = 2 ^ 32 - 1 := by decide
  have e3 : ((2 ^ IntKind.u64.bits : Nat) : Int) = 18446744073709551616 := by decide
  have key : ((BitVec.ofInt IntKind.u64.bits x &&& BitVec.ofInt IntKind.u64.bits 4294967295).toNat : Int) = x % 4294967296 := by
    rw [BitVec.toNat_and, e, Nat.and_two_pow_sub_one_eq_mod, BitVec.toNat_ofInt, e3]
    omega
  simp only [binAV, binPV, binInt, true_or, if_true, Option.map_some, key]
  rw [wrap_u64 (by omega) (by omega)]
theorem map_shr {x s : Int} (h0 : 0 ≤ s) (h1 : s ≤ 64) : binAV .shr (.p (.int .u64 x)) (.p (.int .u64 s)) = some (.p (.int .u64 (x / 2 ^ s.toNat))) := by
  have e : min s.toNat IntKind.u64.bits = s.toNat := Nat.min_eq_left (by show _ ≤ 64; omega)
  have p : (0 : Int) ≤ 2 ^ s.toNat := Int.le_of_lt (Int.pow_pos (by decide))
  simp only [binAV, binPV, binInt, e, Int.not_lt.2 h0, if_false, Int.fdiv_eq_ediv_of_nonneg _ p]
  simp
theorem map_shl {x s : Int} (h0 : 0 ≤ s) (h1 : s ≤ 64) : binAV .shl (.p (.int .u64 x)) (.p (.int .u64 s)) = some (.p (.int .u64 (IntKind.u64.wrap (x * 2 ^ s.toNat)))) := by
  have e : min s.toNat IntKind.u64.bits = s.toNat := Nat.min_eq_left (by show _ ≤ 64; omega)
  simp only [binAV, binPV, binInt, e, Int.not_lt.2 h0, if_false]
  simp
theorem map_quo64 {a b : Int} (h0 : 0 ≤ a) (h1 : a ≤ 18446744073709551615) (hb : 0 < b) : binAV .quo (.p (.int .u64 a)) (.p (.int .u64 b)) = some (.p (.int .u64 (a / b))) :=
  map_quo h0 hb (wrap_u64 (Int.ediv_nonneg h0 (Int.le_of_lt hb)) (Int.le_trans (Int.ediv_le_self _ h0) h1))
theorem res_Mul64 {x y : Int} (hx : 0 ≤ x ∧ x < 18446744073709551616) (hy : 0 ≤ y ∧ y < 18446744073709551616) : res Γ 149 [.int .u64 x, .int .u64 y] = some [.int .u64 (x * y / 18446744073709551616), .int .u64 (x * y % 18446744073709551616)] := by
  obtain ⟨b1, b2, b3, b4, e, b5⟩ := mul_halves hx hy
  rw [← e] at b5 ⊢
  rw [← wrap_u64m (x * y)]
  refine res_code (fn := math_bits_Mul64) rfl rfl ?_
  simp (disch := first | assumption | omega | decide | (simp only [List.length_cons, List.length_nil, List.length_append, List.length_replicate, List.length_map, List.length_set, List.length_take, List.length_drop, strs_len, ints_len, bools_len, aggs_len, vpv_len]; done) | (simp only [List.length_cons, List.length_nil, List.length_append, List.length_replicate, List.length_map, List.length_set, List.length_take, List.length_drop, strs_len, ints_len, bools_len, aggs_len, vpv_len]; omega)) only [go_sem, math_bits_Mul64, map_shr32, map_and32, wrap_u64]
end Ab
