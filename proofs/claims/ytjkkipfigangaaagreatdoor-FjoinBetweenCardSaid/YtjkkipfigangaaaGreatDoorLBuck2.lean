import Derived.Test.YtjkkipfigangaaaGreatDoorLFit
import Derived.Test.YtjkkipfigangaaaGreatDoorCode
import Derived.Test.YtjkkipfigangaaaGreatDoorPSer
import Derived.Test.YtjkkipfigangaaaGreatDoorLDig
namespace Ab
open Go (IntKind BinOp UnOp)
def colV (s : Ser) (f : Int) (j : Nat) : List Val := (s.vals.take j).drop (plcS s f)
theorem colV_lo {s : Ser} {f : Int} {j : Nat} (h : j ≤ plcS s f) : colV s f j = [] := by
  unfold colV
  exact List.drop_eq_nil_of_le (by rw [List.length_take]; omega)
theorem colV_hi {s : Ser} {f : Int} {j : Nat} (h : ¬ j < plcS s f) (hj : j < s.vals.length) : colV s f (j + 1) = colV s f j ++ [s.vals.getD j (false, 0)] := by
  unfold colV
  rw [take_snoc' (false, 0) hj, List.drop_append_of_le_length (by rw [List.length_take]; omega)]
theorem colV_len {s : Ser} {f : Int} {j : Nat} (h : s.vals.length ≤ 131072) : (colV s f j).length ≤ 131072 := by
  unfold colV
  rw [List.length_drop, List.length_take]; omega

theorem rFit_l1A {kk : SK} (s : Ser) (hz : sizeS s) (start step n : Int) (h0 : 0 ≤ start) (h1 : start ≤ 4294967295) (g0 : 1 ≤ step) (g1 : step ≤ 1099511627776) (k : Nat) (hk : k ≤ 131072) (B1 B2 : Blk) (Q : Out → Prop) : ∀ (d j : Nat), j + d = plcS s (start + k * step + step) →
    (Q (.nrm, [(1, .p (.int .i64 start)), (2, .p (.int .i64 step)), (3, .p (.int .i64 n)), (4, .bx 0 0), (8, .bx 1 0), (9, .bx 2 0), (10, .p (.int .i64 ((plcS s (start + k * step + step) : Nat)))), (11, .p (.int .i64 (k : Int))), (12, .own 3 (withinV s (start + k * step) (start + k * step + step)).length)], [.box [.p (.str s.name), .p (.int .i64 s.start), .p (.int .i64 s.step), .p (.sl kk 2 (vpv s.vals)), .p (.int .i64 s.cons)], B1, B2, .row false 2 (vpv (withinV s (start + k * step) (start + k * step + step)))])) →
    Wp Γ r18_Fit_l1 [(1, .p (.int .i64 start)), (2, .p (.int .i64 step)), (3, .p (.int .i64 n)), (4, .bx 0 0), (8, .bx 1 0), (9, .bx 2 0), (10, .p (.int .i64 ((j : Nat)))), (11, .p (.int .i64 (k : Int))), (12, .own 3 (colV s (start + k * step) j).length)] [.box [.p (.str s.name), .p (.int .i64 s.start), .p (.int .i64 s.step), .p (.sl kk 2 (vpv s.vals)), .p (.int .i64 s.cons)], B1, B2, .row false 2 (vpv (colV s (start + k * step) j))] (InBlk [1, 2, 3, 4, 8, 9, 10, 11, 12] 2 Q) := by
  have hs1 : 1 ≤ s.step := by unfold sizeS at hz; omega
  have hs2 : s.step ≤ 1099511627776 := by unfold sizeS at hz; omega
  have hv : s.vals.length ≤ 131072 := by unfold sizeS at hz; omega
  have hst : 0 ≤ s.start ∧ s.start ≤ 4294967295 := by unfold sizeS at hz; omega
  have em : ((k : Int) + 1) * step = (k : Int) * step + step := by rw [Int.add_mul, Int.one_mul]
  obtain ⟨b0, b1⟩ := mulb (i := k) (step := step) hk (by omega) g1
  have hp := plcS_le s (start + k * step + step)
  intro d
  induction d with
  | zero =>
    intro j hj hQ
    have hj : j = plcS s (start + k * step + step) := by omega
    have e : colV s (start + k * step) j = withinV s (start + k * step) (start + k * step + step) := by rw [hj]; rfl
    have hi := plcS_iff (s := s) (t := start + k * step + step) (i := j) hs1
    rw [← hj, ← e] at hQ
    rw [← hj] at hi
    clear hj
    rw [W_loop (L := r18_Fit_l1) rfl]
    by_cases h : j < s.vals.length
    · have hi := hi h
      obtain ⟨c0, c1⟩ := mulb (i := j) (step := s.step) (by omega) (by omega) hs2
      have hn : ¬ s.start + (j : Int) * s.step < start + ((k : Int) * step + step) := by omega
      simp (disch := first | assumption | omega | decide | (simp only [List.length_cons, List.length_nil, List.length_append, List.length_replicate, List.length_map, List.length_set, List.length_take, List.length_drop, strs_len, ints_len, bools_len, aggs_len, vpv_len]; done) | (simp only [List.length_cons, List.length_nil, List.length_append, List.length_replicate, List.length_map, List.length_set, List.length_take, List.length_drop, strs_len, ints_len, bools_len, aggs_len, vpv_len]; omega)) only [go_sem, em]
      exact hQ
    · simp (disch := first | assumption | omega | decide | (simp only [List.length_cons, List.length_nil, List.length_append, List.length_replicate, List.length_map, List.length_set, List.length_take, List.length_drop, strs_len, ints_len, bools_len, aggs_len, vpv_len]; done) | (simp only [List.length_cons, List.length_nil, List.length_append, List.length_replicate, List.length_map, List.length_set, List.length_take, List.length_drop, strs_len, ints_len, bools_len, aggs_len, vpv_len]; omega)) only [go_sem, em]
      exact hQ
  | succ d ih =>
    intro j hj hQ
    have hlt : j < plcS s (start + k * step + step) := by omega
    have h : j < s.vals.length := by omega
    have hi := (plcS_iff (s := s) (t := start + k * step + step) (i := j) hs1 h).1 hlt
    have hf := plcS_iff (s := s) (t := start + k * step) (i := j) hs1 h
    obtain ⟨c0, c1⟩ := mulb (i := j) (step := s.step) (by omega) (by omega) hs2
    have hn : s.start + (j : Int) * s.step < start + ((k : Int) * step + step) := by omega
    have hc := @colV_len s (start + k * step) j hv
    have hw : (vpv (colV s (start + k * step) j)).length = (colV s (start + k * step) j).length := vpv_len
    have ih := ih (j + 1) (by omega) hQ
    rw [W_loop (L := r18_Fit_l1) rfl]
    by_cases hb : j < plcS s (start + k * step)
    · have e1 := colV_lo (s := s) (f := start + k * step) (j := j) (by omega)
      have e2 := colV_lo (s := s) (f := start + k * step) (j := j + 1) (by omega)
      have hg : ¬ start + (k : Int) * step ≤ s.start + (j : Int) * s.step := by omega
      rw [e2, ← e1] at ih
      simp (disch := first | assumption | omega | decide | (simp only [List.length_cons, List.length_nil, List.length_append, List.length_replicate, List.length_map, List.length_set, List.length_take, List.length_drop, strs_len, ints_len, bools_len, aggs_len, vpv_len]; done) | (simp only [List.length_cons, List.length_nil, List.length_append, List.length_replicate, List.length_map, List.length_set, List.length_take, List.length_drop, strs_len, ints_len, bools_len, aggs_len, vpv_len]; omega)) only [go_sem, em]
      exact ih
    · have e1 := colV_hi hb h
      have hg : start + (k : Int) * step ≤ s.start + (j : Int) * s.step := by omega
      rw [e1, List.length_append] at ih
      simp (disch := first | assumption | omega | decide | (simp only [List.length_cons, List.length_nil, List.length_append, List.length_replicate, List.length_map, List.length_set, List.length_take, List.length_drop, strs_len, ints_len, bools_len, aggs_len, vpv_len]; done) | (simp only [List.length_cons, List.length_nil, List.length_append, List.length_replicate, List.length_map, List.length_set, List.length_take, List.length_drop, strs_len, ints_len, bools_len, aggs_len, vpv_len]; omega)) only [go_sem, em, valP]
      exact ih

theorem rFit_l1B {kk : SK} (s : Ser) (hz : sizeS s) (start step n : Int) (h0 : 0 ≤ start) (h1 : start ≤ 4294967295) (g0 : 1 ≤ step) (g1 : step ≤ 1099511627776) (k : Nat) (hk : k ≤ 131072) (B1 B2 B3 : Blk) (Q : Out → Prop) : ∀ (d j : Nat), j + d = plcS s (start + k * step + step) →
    (Q (.nrm, [(1, .p (.int .i64 start)), (2, .p (.int .i64 step)), (3, .p (.int .i64 n)), (4, .bx 0 0), (8, .bx 1 0), (9, .bx 2 0), (10, .p (.int .i64 ((plcS s (start + k * step + step) : Nat)))), (11, .p (.int .i64 (k : Int))), (12, .own 4 (withinV s (start + k * step) (start + k * step + step)).length)], [.box [.p (.str s.name), .p (.int .i64 s.start), .p (.int .i64 s.step), .p (.sl kk 2 (vpv s.vals)), .p (.int .i64 s.cons)], B1, B2, B3, .row false 2 (vpv (withinV s (start + k * step) (start + k * step + step)))])) →
    Wp Γ r18_Fit_l1 [(1, .p (.int .i64 start)), (2, .p (.int .i64 step)), (3, .p (.int .i64 n)), (4, .bx 0 0), (8, .bx 1 0), (9, .bx 2 0), (10, .p (.int .i64 ((j : Nat)))), (11, .p (.int .i64 (k : Int))), (12, .own 4 (colV s (start + k * step) j).length)] [.box [.p (.str s.name), .p (.int .i64 s.start), .p (.int .i64 s.step), .p (.sl kk 2 (vpv s.vals)), .p (.int .i64 s.cons)], B1, B2, B3, .row false 2 (vpv (colV s (start + k * step) j))] (InBlk [1, 2, 3, 4, 8, 9, 10, 11, 12] 2 Q) := by
  have hs1 : 1 ≤ s.step := by unfold sizeS at hz; omega
  have hs2 : s.step ≤ 1099511627776 := by unfold sizeS at hz; omega
  have hv : s.vals.length ≤ 131072 := by unfold sizeS at hz; omega
  have hst : 0 ≤ s.start ∧ s.start ≤ 4294967295 := by unfold sizeS at hz; omega
  have em : ((k : Int) + 1) * step = (k : Int) * step + step := by rw [Int.add_mul, Int.one_mul]
  obtain ⟨b0, b1⟩ := mulb (i := k) (step := step) hk (by omega) g1
  have hp := plcS_le s (start + k * step + step)
  intro d
  induction d with
  | zero =>
    intro j hj hQ
    have hj : j = plcS s (start + k * step + step) := by omega
    have e : colV s (start + k * step) j = withinV s (start + k * step) (start + k * step + step) := by rw [hj]; rfl
    have hi := plcS_iff (s := s) (t := start + k * step + step) (i := j) hs1
    rw [← hj, ← e] at hQ
    rw [← hj] at hi
    clear hj
    rw [W_loop (L := r18_Fit_l1) rfl]
    by_cases h : j < s.vals.length
    · have hi := hi h
      obtain ⟨c0, c1⟩ := mulb (i := j) (step := s.step) (by omega) (by omega) hs2
      have hn : ¬ s.start + (j : Int) * s.step < start + ((k : Int) * step + step) := by omega
      simp (disch := first | assumption | omega | decide | (simp only [List.length_cons, List.length_nil, List.length_append, List.length_replicate, List.length_map, List.length_set, List.length_take, List.length_drop, strs_len, ints_len, bools_len, aggs_len, vpv_len]; done) | (simp only [List.length_cons, List.length_nil, List.length_append, List.length_replicate, List.length_map, List.length_set, List.length_take, List.length_drop, strs_len, ints_len, bools_len, aggs_len, vpv_len]; omega)) only [go_sem, em]
      exact hQ
    · simp (disch := first | assumption | omega | decide | (simp only [List.length_cons, List.length_nil, List.length_append, List.length_replicate, List.length_map, List.length_set, List.length_take, List.length_drop, strs_len, ints_len, bools_len, aggs_len, vpv_len]; done) | (simp only [List.length_cons, List.length_nil, List.length_append, List.length_replicate, List.length_map, List.length_set, List.length_take, List.length_drop, strs_len, ints_len, bools_len, aggs_len, vpv_len]; omega)) only [go_sem, em]
      exact hQ
  | succ d ih =>
    intro j hj hQ
    have hlt : j < plcS s (start + k * step + step) := by omega
    have h : j < s.vals.length := by omega
    have hi := (plcS_iff (s := s) (t := start + k * step + step) (i := j) hs1 h).1 hlt
    have hf := plcS_iff (s := s) (t := start + k * step) (i := j) hs1 h
    obtain ⟨c0, c1⟩ := mulb (i := j) (step := s.step) (by omega) (by omega) hs2
    have hn : s.start + (j : Int) * s.step < start + ((k : Int) * step + step) := by omega
    have hc := @colV_len s (start + k * step) j hv
    have hw : (vpv (colV s (start + k * step) j)).length = (colV s (start + k * step) j).length := vpv_len
    have ih := ih (j + 1) (by omega) hQ
    rw [W_loop (L := r18_Fit_l1) rfl]
    by_cases hb : j < plcS s (start + k * step)
    · have e1 := colV_lo (s := s) (f := start + k * step) (j := j) (by omega)
      have e2 := colV_lo (s := s) (f := start + k * step) (j := j + 1) (by omega)
      have hg : ¬ start + (k : Int) * step ≤ s.start + (j : Int) * s.step := by omega
      rw [e2, ← e1] at ih
      simp (disch := first | assumption | omega | decide | (simp only [List.length_cons, List.length_nil, List.length_append, List.length_replicate, List.length_map, List.length_set, List.length_take, List.length_drop, strs_len, ints_len, bools_len, aggs_len, vpv_len]; done) | (simp only [List.length_cons, List.length_nil, List.length_append, List.length_replicate, List.length_map, List.length_set, List.length_take, List.length_drop, strs_len, ints_len, bools_len, aggs_len, vpv_len]; omega)) only [go_sem, em]
      exact ih
    · have e1 := colV_hi hb h
      have hg : start + (k : Int) * step ≤ s.start + (j : Int) * s.step := by omega
      rw [e1, List.length_append] at ih
      simp (disch := first | assumption | omega | decide | (simp only [List.length_cons, List.length_nil, List.length_append, List.length_replicate, List.length_map, List.length_set, List.length_take, List.length_drop, strs_len, ints_len, bools_len, aggs_len, vpv_len]; done) | (simp only [List.length_cons, List.length_nil, List.length_append, List.length_replicate, List.length_map, List.length_set, List.length_take, List.length_drop, strs_len, ints_len, bools_len, aggs_len, vpv_len]; omega)) only [go_sem, em, valP]
      exact ih

theorem rFit_l2_ok {kk : SK} (s : Ser) (hs : isS s = true) (start step : Int) (h0 : 0 ≤ start) (h1 : start ≤ 4294967295) (g0 : 1 ≤ step) (g1 : step ≤ 1099511627776) (n : Nat) (hn : n ≤ 131072) (a1 a2 a3 a4 a5 : PV) (Q : Out → Prop) : ∀ (d i : Nat) (env : Env) (X : Heap), i + 1 + d = n →
    norm [1, 2, 3, 4, 8, 9, 10, 11] (some 0) env X = some ([(1, .p (.int .i64 start)), (2, .p (.int .i64 step)), (3, .p (.int .i64 (n : Int))), (4, .bx 0 0), (8, .bx 1 0), (9, .bx 2 0), (10, .p (.int .i64 (plcS s (start + ((i + 1 : Nat) : Int) * step) : Nat))), (11, .p (.int .i64 ((i + 1 : Nat) : Int)))],
      [.box [.p (.str s.name), .p (.int .i64 s.start), .p (.int .i64 s.step), .p (.sl kk 2 (vpv s.vals)), .p (.int .i64 s.cons)], .box [.p a1, .p a2, .p a3, .p a4, .p a5], .box [.p (.str s.name), .p (.int .i64 start), .p (.int .i64 step), .own 3 (i + 1), .p (.int .i64 s.cons)], .row false 2 (vpv (fitV s start step (i + 1)))]) →
    (∀ B0 T, Q (.nrm, [(8, .bx 1 0), (9, .bx 2 0)], B0 :: .box [.p a1, .p a2, .p a3, .p a4, .p a5] :: .box [.p (.str s.name), .p (.int .i64 start), .p (.int .i64 step), .own 3 n, .p (.int .i64 s.cons)] :: .row false 2 (vpv (fitV s start step n)) :: T)) →
    Wp Γ r18_Fit_l2 env X (InBlk [8, 9] 0 Q) := by
  have hz := isS_size hs
  have hv : s.vals.length ≤ 131072 := by unfold sizeS at hz; omega
  have hs1 : 1 ≤ s.step := by unfold sizeS at hz; omega
  intro d
  induction d with
  | zero =>
    intro i env X hi hX hQ
    have hi : i + 1 = n := by omega
    rw [hi] at hX
    rw [W_loop (L := r18_Fit_l2) rfl]
    rw [hX]
    simp (disch := first | assumption | omega | decide | (simp only [List.length_cons, List.length_nil, List.length_append, List.length_replicate, List.length_map, List.length_set, List.length_take, List.length_drop, strs_len, ints_len, bools_len, aggs_len, vpv_len]; done) | (simp only [List.length_cons, List.length_nil, List.length_append, List.length_replicate, List.length_map, List.length_set, List.length_take, List.length_drop, strs_len, ints_len, bools_len, aggs_len, vpv_len]; omega)) only [go_sem]
    exact hQ _ []
  | succ d ih =>
    intro i env X hi hX hQ
    have g := @fitV_len s start step (i + 1)
    have e := @fitV_succ s start step (i + 1)
    obtain ⟨b0, b1⟩ := mulb (i := i + 1) (step := step) (by omega) (by omega) g1
    have hw := withinV_len (s := s) (t := start + ((i + 1 : Nat) : Int) * step) (u := start + ((i + 1 : Nat) : Int) * step + step) hv
    have c := res_r6OfK (kk := .any) (consV s) (withinV s (start + ((i + 1 : Nat) : Int) * step) (start + ((i + 1 : Nat) : Int) * step + step)) (by omega)
    have dd := res_r18Cons (kk := kk) s hs (by omega)
    have em : start + ((i + 1 + 1 : Nat) : Int) * step = start + ((i + 1 : Nat) : Int) * step + step := by
      rw [show ((i + 1 + 1 : Nat) : Int) = ((i + 1 : Nat) : Int) + 1 from rfl, Int.add_mul, Int.one_mul, Int.add_assoc]
    have ec := colV_lo (s := s) (f := start + ((i + 1 : Nat) : Int) * step) (j := plcS s (start + ((i + 1 : Nat) : Int) * step)) (Nat.le_refl _)
    have hm := plcS_mono hs1 (show start + ((i + 1 : Nat) : Int) * step ≤ start + ((i + 1 : Nat) : Int) * step + step by omega)
    have hw2 : (vpv (withinV s (start + ((i + 1 : Nat) : Int) * step) (start + ((i + 1 : Nat) : Int) * step + step))).length = (withinV s (start + ((i + 1 : Nat) : Int) * step) (start + ((i + 1 : Nat) : Int) * step + step)).length := vpv_len
    unfold Ser.pv at dd
    rw [W_loop (L := r18_Fit_l2) rfl]
    rw [hX]
    simp (disch := first | assumption | omega | decide | (simp only [List.length_cons, List.length_nil, List.length_append, List.length_replicate, List.length_map, List.length_set, List.length_take, List.length_drop, strs_len, ints_len, bools_len, aggs_len, vpv_len]; done) | (simp only [List.length_cons, List.length_nil, List.length_append, List.length_replicate, List.length_map, List.length_set, List.length_take, List.length_drop, strs_len, ints_len, bools_len, aggs_len, vpv_len]; omega)) only [go_sem]
    have l1 := fun Q hQ => rFit_l1B (kk := kk) s hz start step n h0 h1 g0 g1 (i + 1) (by omega) (.box [.p a1, .p a2, .p a3, .p a4, .p a5]) (.box [.p (.str s.name), .p (.int .i64 start), .p (.int .i64 step), .own 3 (i + 1), .p (.int .i64 s.cons)]) (.row false 2 (vpv (fitV s start step (i + 1)))) Q (plcS s (start + ((i + 1 : Nat) : Int) * step + step) - plcS s (start + ((i + 1 : Nat) : Int) * step)) (plcS s (start + ((i + 1 : Nat) : Int) * step)) (by omega) hQ
    simp only [ec, List.length_nil, vpv_nil] at l1
    refine l1 _ ?_
    simp (disch := first | assumption | omega | decide | (simp only [List.length_cons, List.length_nil, List.length_append, List.length_replicate, List.length_map, List.length_set, List.length_take, List.length_drop, strs_len, ints_len, bools_len, aggs_len, vpv_len]; done) | (simp only [List.length_cons, List.length_nil, List.length_append, List.length_replicate, List.length_map, List.length_set, List.length_take, List.length_drop, strs_len, ints_len, bools_len, aggs_len, vpv_len]; omega)) only [go_sem, dd, c]
    refine ih (i + 1) _ _ (by omega) ?_ hQ
    rw [e, em]
    simp (disch := first | assumption | omega | decide | (simp only [List.length_cons, List.length_nil, List.length_append, List.length_replicate, List.length_map, List.length_set, List.length_take, List.length_drop, strs_len, ints_len, bools_len, aggs_len, vpv_len]; done) | (simp only [List.length_cons, List.length_nil, List.length_append, List.length_replicate, List.length_map, List.length_set, List.length_take, List.length_drop, strs_len, ints_len, bools_len, aggs_len, vpv_len]; omega)) only [go_sem]
    rfl
theorem rFit_l2_first {kk : SK} (s : Ser) (hs : isS s = true) (start step : Int) (h0 : 0 ≤ start) (h1 : start ≤ 4294967295) (g0 : 1 ≤ step) (g1 : step ≤ 1099511627776) (n : Nat) (hn : n ≤ 131072) (hpos : 0 < n) (a1 a2 a3 a4 a5 : PV) (Q : Out → Prop) :
    (∀ B0 T, Q (.nrm, [(8, .bx 1 0), (9, .bx 2 0)], B0 :: .box [.p a1, .p a2, .p a3, .p a4, .p a5] :: .box [.p (.str s.name), .p (.int .i64 start), .p (.int .i64 step), .own 3 n, .p (.int .i64 s.cons)] :: .row false 2 (vpv (fitV s start step n)) :: T)) →
    Wp Γ r18_Fit_l2 [(1, .p (.int .i64 start)), (2, .p (.int .i64 step)), (3, .p (.int .i64 (n : Int))), (4, .bx 0 0), (8, .bx 1 0), (9, .bx 2 0), (10, .p (.int .i64 0)), (11, .p (.int .i64 0))]
      [.box [.p (.str s.name), .p (.int .i64 s.start), .p (.int .i64 s.step), .p (.sl kk 2 (vpv s.vals)), .p (.int .i64 s.cons)], .box [.p a1, .p a2, .p a3, .p a4, .p a5], .box [.p (.str s.name), .p (.int .i64 start), .p (.int .i64 step), .p (.sl .nil 2 []), .p (.int .i64 s.cons)]] (InBlk [8, 9] 0 Q) := by
  have hz := isS_size hs
  have hv : s.vals.length ≤ 131072 := by unfold sizeS at hz; omega
  have hs1 : 1 ≤ s.step := by unfold sizeS at hz; omega
  intro hQ
  have e := @fitV_succ s start step 0
  have ez : start + ((0 : Nat) : Int) * step = start := by rw [show ((0 : Nat) : Int) = 0 from rfl, Int.zero_mul, Int.add_zero]
  have ec := colV_lo (s := s) (f := start) (j := 0) (Nat.zero_le _)
  have hw := withinV_len (s := s) (t := start) (u := start + step) hv
  have c := res_r6OfK (kk := .any) (consV s) (withinV s start (start + step)) (by omega)
  have dd := res_r18Cons (kk := kk) s hs (by omega)
  have hw2 : (vpv (withinV s start (start + step))).length = (withinV s start (start + step)).length := vpv_len
  have em : start + ((0 + 1 : Nat) : Int) * step = start + step := by rw [show ((0 + 1 : Nat) : Int) = 1 from rfl, Int.one_mul]
  rw [ez] at e
  unfold Ser.pv at dd
  rw [W_loop (L := r18_Fit_l2) rfl]
  simp (disch := first | assumption | omega | decide | (simp only [List.length_cons, List.length_nil, List.length_append, List.length_replicate, List.length_map, List.length_set, List.length_take, List.length_drop, strs_len, ints_len, bools_len, aggs_len, vpv_len]; done) | (simp only [List.length_cons, List.length_nil, List.length_append, List.length_replicate, List.length_map, List.length_set, List.length_take, List.length_drop, strs_len, ints_len, bools_len, aggs_len, vpv_len]; omega)) only [go_sem]
  have l1 := fun Q hQ => rFit_l1A (kk := kk) s hz start step n h0 h1 g0 g1 0 (by omega) (.box [.p a1, .p a2, .p a3, .p a4, .p a5]) (.box [.p (.str s.name), .p (.int .i64 start), .p (.int .i64 step), .p (.sl .nil 2 []), .p (.int .i64 s.cons)]) Q (plcS s (start + ((0 : Nat) : Int) * step + step)) 0 (by omega) hQ
  simp only [ez, ec, List.length_nil, vpv_nil] at l1
  refine l1 _ ?_
  simp (disch := first | assumption | omega | decide | (simp only [List.length_cons, List.length_nil, List.length_append, List.length_replicate, List.length_map, List.length_set, List.length_take, List.length_drop, strs_len, ints_len, bools_len, aggs_len, vpv_len]; done) | (simp only [List.length_cons, List.length_nil, List.length_append, List.length_replicate, List.length_map, List.length_set, List.length_take, List.length_drop, strs_len, ints_len, bools_len, aggs_len, vpv_len]; omega)) only [go_sem, dd, c]
  refine rFit_l2_ok (kk := kk) s hs start step h0 h1 g0 g1 n hn a1 a2 a3 a4 a5 Q (n - 1) 0 _ _ (by omega) ?_ hQ
  rw [e, em]
  simp (disch := first | assumption | omega | decide | (simp only [List.length_cons, List.length_nil, List.length_append, List.length_replicate, List.length_map, List.length_set, List.length_take, List.length_drop, strs_len, ints_len, bools_len, aggs_len, vpv_len]; done) | (simp only [List.length_cons, List.length_nil, List.length_append, List.length_replicate, List.length_map, List.length_set, List.length_take, List.length_drop, strs_len, ints_len, bools_len, aggs_len, vpv_len]; omega)) only [go_sem]
  rfl
theorem res_r18Fit {kk : SK} (s : Ser) (hs : isS s = true) (start step : Int) (h0 : 0 ≤ start) (h1 : start ≤ 4294967295) (g0 : 1 ≤ step) (g1 : step ≤ 1099511627776) (n : Nat) (hn : n ≤ 131072) :
    res Γ 162 [s.pv kk, .int .i64 start, .int .i64 step, .int .i64 (n : Int)] = some [(fitS s start step n).pv (fitK n)] := by
  have hz := isS_size hs
  have hv : s.vals.length ≤ 131072 := by unfold sizeS at hz; omega
  have e := res_r18Is (kk := kk) s (by omega)
  unfold Ser.pv at e ⊢
  refine res_code (fn := r18_Fit) rfl rfl ?_
  simp (disch := first | assumption | omega | decide | (simp only [List.length_cons, List.length_nil, List.length_append, List.length_replicate, List.length_map, List.length_set, List.length_take, List.length_drop, strs_len, ints_len, bools_len, aggs_len, vpv_len]; done) | (simp only [List.length_cons, List.length_nil, List.length_append, List.length_replicate, List.length_map, List.length_set, List.length_take, List.length_drop, strs_len, ints_len, bools_len, aggs_len, vpv_len]; omega)) only [go_sem, r18_Fit, e, hs]
  by_cases hne : n = 0
  · subst hne
    rw [W_loop (L := r18_Fit_l2) rfl]
    simp (disch := first | assumption | omega | decide | (simp only [List.length_cons, List.length_nil, List.length_append, List.length_replicate, List.length_map, List.length_set, List.length_take, List.length_drop, strs_len, ints_len, bools_len, aggs_len, vpv_len]; done) | (simp only [List.length_cons, List.length_nil, List.length_append, List.length_replicate, List.length_map, List.length_set, List.length_take, List.length_drop, strs_len, ints_len, bools_len, aggs_len, vpv_len]; omega)) only [go_sem, fitS, fitK]
    rfl
  · refine rFit_l2_first s hs start step h0 h1 g0 g1 n hn (by omega) _ _ _ _ _ _ (fun B0 T => ?_)
    have hw : (vpv (fitV s start step n)).length = n := by rw [vpv_len, fitV_len]
    simp (disch := first | assumption | omega | decide | (simp only [List.length_cons, List.length_nil, List.length_append, List.length_replicate, List.length_map, List.length_set, List.length_take, List.length_drop, strs_len, ints_len, bools_len, aggs_len, vpv_len]; done) | (simp only [List.length_cons, List.length_nil, List.length_append, List.length_replicate, List.length_map, List.length_set, List.length_take, List.length_drop, strs_len, ints_len, bools_len, aggs_len, vpv_len]; omega)) only [go_sem, fitS, fitK]
    rw [if_neg hne]
end Ab
namespace Ab
open Go (IntKind BinOp UnOp)
theorem strsIn_strs (l : List (List UInt8)) : strsIn (strs l) = some l := by
  induction l with
  | nil => rfl
  | cons a l ih => simp only [strs, List.map_cons, strsIn] at ih ⊢; rw [ih]; rfl
@[go_sem] theorem res_Join {kk : SK} (l : List (List UInt8)) (sep : List UInt8) (hl : l.length < 1000000000) (hj : (joinB sep l).length ≤ 1000000000) : res Γ 48 [.sl kk 1 (strs l), .str sep] = some [.str (joinB sep l)] := by
  refine res_of (RunP_prim (g := joinG) rfl ?_)
  simp only [joinG, strsIn_strs]
  rw [if_pos ⟨hj, by omega⟩]
end Ab
namespace Ab
open Go (IntKind BinOp UnOp)
def labelL (nm : List UInt8) (l : List (List UInt8)) : List UInt8 := nm ++ 40 :: (joinB [44] l ++ [41])
theorem res_seriesLabelL {kk : SK} (nm : List UInt8) (l : List (List UInt8)) (h : nm.length ≤ 1000000) (hl : l.length < 1000000000) (hj : (joinB [44] l).length ≤ 1000000000) : res Γ 30 [.str nm, .sl kk 1 (strs l)] = some [.str (labelL nm l)] := by
  have e := res_Join (kk := kk) l [44] hl hj
  refine res_code (fn := series_Label) rfl rfl ?_
  simp (disch := first | assumption | omega | decide | (simp only [List.length_cons, List.length_nil, List.length_append, List.length_replicate, List.length_map, List.length_set, List.length_take, List.length_drop, strs_len, ints_len, bools_len, aggs_len, vpv_len]; done) | (simp only [List.length_cons, List.length_nil, List.length_append, List.length_replicate, List.length_map, List.length_set, List.length_take, List.length_drop, strs_len, ints_len, bools_len, aggs_len, vpv_len]; omega)) only [go_sem, series_Label, e, labelL]
end Ab
namespace Ab
open Go (IntKind BinOp UnOp)
def aggName (k : Int) : List UInt8 :=
  if k = 1 then [97, 118, 101, 114, 97, 103, 101] else if k = 2 then [115, 117, 109] else if k = 3 then [108, 97, 115, 116] else if k = 4 then [109, 97, 120] else if k = 5 then [109, 105, 110] else []
@[go_sem] theorem res_aggName (k : Int) : res Γ 29 [.int .i64 k] = some [.str (aggName k)] := by
  refine res_code (fn := agg_Name) rfl rfl ?_
  repeat' (first | (simp (disch := first | assumption | omega | decide | (simp only [List.length_cons, List.length_nil, List.length_append, List.length_replicate, List.length_map, List.length_set, List.length_take, List.length_drop, strs_len, ints_len, bools_len, aggs_len, vpv_len]; done) | (simp only [List.length_cons, List.length_nil, List.length_append, List.length_replicate, List.length_map, List.length_set, List.length_take, List.length_drop, strs_len, ints_len, bools_len, aggs_len, vpv_len]; omega)) only [go_sem, agg_Name]) | refine cond_split (fun hc => ?_) (fun hc => ?_) | refine gd_split_f (fun hc => ?_) (fun hc => ?_) | refine gd_split_t (fun hc => ?_) (fun hc => ?_))
  all_goals (simp only [Option.some.injEq, List.cons.injEq, and_true, PV.str.injEq, aggName]; simp [*])
end Ab
namespace Ab
open Go (IntKind BinOp UnOp)
@[go_sem] theorem storeK_vals {H : Heap} {sz id n i : Nat} {b : Bool} {m : Int} {l : List Val} (h : l.length = n) (h' : i < n) : storeK H (some (.row false sz (vpv l))) 2 id n i 0 (.p (.agg [.bool b, .int .i64 m])) = some (H.set id (.row false sz (vpv (l.set i (b, m))))) := by
  have e1 : (valP (l.getD i (false, 0))).length = 2 := rfl
  simp only [storeK, vpv_len, h, if_true, vpv_get (show i < l.length by omega), Option.bind_some, AV.cells, PV.cells, pures_map, AV.ok, List.length_cons, List.length_nil, e1]
  rw [if_pos ⟨trivial, by omega, trivial, by omega⟩]
  congr 3
  have : setPart 0 2 [.bool b, .int .i64 m] (.agg (valP (l.getD i (false, 0)))) = .agg (valP (b, m)) := by
    simp [setPart, valP]
  rw [this]
  simp [vpv, aggs, List.map_set]
end Ab
namespace Ab
open Go (IntKind BinOp UnOp)
end Ab
namespace Ab
open Go (IntKind BinOp UnOp)
end Ab
namespace Ab
open Go (IntKind BinOp UnOp)
theorem res_seriesEnd {kk : SK} (s : Ser) (hs : isS s = true) (hl : s.vals.length ≤ 9223372036854775807) : res Γ 159 [s.pv kk] = some [.int .i64 (endS s)] := by
  have e := res_seriesIs (kk := kk) s hl
  have hz := isS_size hs
  unfold sizeS at hz
  have b := mulb (i := s.vals.length) (step := s.step) (by omega) (by omega) (by omega)
  unfold Ser.pv at e ⊢
  refine res_code (fn := series_End) rfl rfl ?_
  simp (disch := first | assumption | omega | decide | (simp only [List.length_cons, List.length_nil, List.length_append, List.length_replicate, List.length_map, List.length_set, List.length_take, List.length_drop, strs_len, ints_len, bools_len, aggs_len, vpv_len]; done) | (simp only [List.length_cons, List.length_nil, List.length_append, List.length_replicate, List.length_map, List.length_set, List.length_take, List.length_drop, strs_len, ints_len, bools_len, aggs_len, vpv_len]; omega)) only [go_sem, series_End, e, hs, endS]
section
variable {kk : SK} (s : Ser) (iv kind : Int) (hs : isS s = true) (h1 : 1 ≤ iv ∧ iv ≤ 16777216)
include hs h1
end
end Ab
