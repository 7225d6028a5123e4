import Derived.Test.YtinkfiahfcpopaaGreatDoorLFit
import Derived.Test.YtinkfiahfcpopaaGreatDoorCode
import Derived.Test.YtinkfiahfcpopaaGreatDoorLAgg
import Derived.Test.YtinkfiahfcpopaaGreatDoorLMulDiv
import Derived.Test.YtinkfiahfcpopaaGreatDoorAbPrim
namespace Ab
open Go (IntKind BinOp UnOp)
def colV (s : Ser) (f : Int) (j : Nat) : List Val := (s.vals.take j).drop (plcS s f)
theorem colV_lo {s : Ser} {f : Int} {j : Nat} (h : j ≤ plcS s f) : colV s f j = [] := by
  unfold colV
  exact List.drop_eq_nil_of_le (by rw [List.length_take]; omega)
theorem colV_hi {s : Ser} {f : Int} {j : Nat} (h : ¬ j < plcS s f) (hj : j < s.vals.length) : colV s f (j + 1) = colV s f j ++ [s.vals.getD j (false, 0)] := by
  unfold colV
  rw [take_snoc' (false, 0) hj, List.drop_append_of_le_length (by rw [List.length_take]; omega)]
theorem colV_len {s : Ser} {f : Int} {j : Nat} (h : s.vals.length ≤ 131072) : (colV s f j).length ≤ 131072 := by
  unfold colV
  rw [List.length_drop, List.length_take]; omega

theorem rFit_l1A {kk : SK} (s : Ser) (hz : sizeS s) (start step n : Int) (h0 : 0 ≤ start) (h1 : start ≤ 4294967295) (g0 : 1 ≤ step) (g1 : step ≤ 1099511627776) (k : Nat) (hk : k ≤ 131072) (B1 B2 : Blk) (Q : Out → Prop) : ∀ (d j : Nat), j + d = plcS s (start + k * step + step) →
    (Q (.nrm, [(1, .p (.int .i64 start)), (2, .p (.int .i64 step)), (3, .p (.int .i64 n)), (4, .bx 0 0), (8, .bx 1 0), (9, .bx 2 0), (10, .p (.int .i64 ((plcS s (start + k * step + step) : Nat)))), (11, .p (.int .i64 (k : Int))), (12, .own 3 (withinV s (start + k * step) (start + k * step + step)).length)], [.box [.p (.str s.name), .p (.int .i64 s.start), .p (.int .i64 s.step), .p (.sl kk 2 (vpv s.vals)), .p (.int .i64 s.cons)], B1, B2, .row false 2 (vpv (withinV s (start + k * step) (start + k * step + step)))])) →
    Wp Γ r18_Fit_l1 [(1, .p (.int .i64 start)), (2, .p (.int .i64 step)), (3, .p (.int .i64 n)), (4, .bx 0 0), (8, .bx 1 0), (9, .bx 2 0), (10, .p (.int .i64 ((j : Nat)))), (11, .p (.int .i64 (k : Int))), (12, .own 3 (colV s (start + k * step) j).length)] [.box [.p (.str s.name), .p (.int .i64 s.start), .p (.int .i64 s.step), .p (.sl kk 2 (vpv s.vals)), .p (.int .i64 s.cons)], B1, B2, .row false 2 (vpv (colV s (start + k * step) j))] (InBlk [1, 2, 3, 4, 8, 9, 10, 11, 12] 2 Q) := by
  have hs1 : 1 ≤ s.step := by unfold sizeS at hz; omega
  have hs2 : s.step ≤ 1099511627776 := by unfold sizeS at hz; omega
  have hv : s.vals.length ≤ 131072 := by unfold sizeS at hz; omega
  have hst : 0 ≤ s.start ∧ s.start ≤ 4294967295 := by unfold sizeS at hz; omega
  have em : ((k : Int) + 1) * step = (k : Int) * step + step := by rw [Int.add_mul, Int.one_mul]
  obtain ⟨b0, b1⟩ := mulb (i := k) (step := step) hk (by omega) g1
  have hp := plcS_le s (start + k * step + step)
  intro d
  induction d with
  | zero =>
    intro j hj hQ
    have hj : j = plcS s (start + k * step + step) := by omega
    have e : colV s (start + k * step) j = withinV s (start + k * step) (start + k * step + step) := by rw [hj]; rfl
    have hi := plcS_iff (s := s) (t := start + k * step + step) (i := j) hs1
    rw [← hj, ← e] at hQ
    rw [← hj] at hi
    clear hj
    rw [W_loop (L := r18_Fit_l1) rfl]
    by_cases h : j < s.vals.length
    · have hi := hi h
      obtain ⟨c0, c1⟩ := mulb (i := j) (step := s.step) (by omega) (by omega) hs2
      have hn : ¬ s.start + (j : Int) * s.step < start + ((k : Int) * step + step) := by omega
      simp (disch := first | assumption | omega | decide | (simp only [lens] <;> omega) | fail) only [go_sem, em]
      exact hQ
    · simp (disch := first | assumption | omega | decide | (simp only [lens] <;> omega) | fail) only [go_sem, em]
      exact hQ
  | succ d ih =>
    intro j hj hQ
    have hlt : j < plcS s (start + k * step + step) := by omega
    have h : j < s.vals.length := by omega
    have hi := (plcS_iff (s := s) (t := start + k * step + step) (i := j) hs1 h).1 hlt
    have hf := plcS_iff (s := s) (t := start + k * step) (i := j) hs1 h
    obtain ⟨c0, c1⟩ := mulb (i := j) (step := s.step) (by omega) (by omega) hs2
    have hn : s.start + (j : Int) * s.step < start + ((k : Int) * step + step) := by omega
    have hc := @colV_len s (start + k * step) j hv
    have hw : (vpv (colV s (start + k * step) j)).length = (colV s (start + k * step) j).length := vpv_len
    have ih := ih (j + 1) (by omega) hQ
    rw [W_loop (L := r18_Fit_l1) rfl]
    by_cases hb : j < plcS s (start + k * step)
    · have e1 := colV_lo (s := s) (f := start + k * step) (j := j) (by omega)
      have e2 := colV_lo (s := s) (f := start + k * step) (j := j + 1) (by omega)
      have hg : ¬ start + (k : Int) * step ≤ s.start + (j : Int) * s.step := by omega
      rw [e2, ← e1] at ih
      simp (disch := first | assumption | omega | decide | (simp only [lens] <;> omega) | fail) only [go_sem, em]
      exact ih
    · have e1 := colV_hi hb h
      have hg : start + (k : Int) * step ≤ s.start + (j : Int) * s.step := by omega
      rw [e1, List.length_append] at ih
      simp (disch := first | assumption | omega | decide | (simp only [lens] <;> omega) | fail) only [go_sem, em, valP]
      exact ih

theorem rFit_l1B {kk : SK} (s : Ser) (hz : sizeS s) (start step n : Int) (h0 : 0 ≤ start) (h1 : start ≤ 4294967295) (g0 : 1 ≤ step) (g1 : step ≤ 1099511627776) (k : Nat) (hk : k ≤ 131072) (B1 B2 B3 : Blk) (Q : Out → Prop) : ∀ (d j : Nat), j + d = plcS s (start + k * step + step) →
    (Q (.nrm, [(1, .p (.int .i64 start)), (2, .p (.int .i64 step)), (3, .p (.int .i64 n)), (4, .bx 0 0), (8, .bx 1 0), (9, .bx 2 0), (10, .p (.int .i64 ((plcS s (start + k * step + step) : Nat)))), (11, .p (.int .i64 (k : Int))), (12, .own 4 (withinV s (start + k * step) (start + k * step + step)).length)], [.box [.p (.str s.name), .p (.int .i64 s.start), .p (.int .i64 s.step), .p (.sl kk 2 (vpv s.vals)), .p (.int .i64 s.cons)], B1, B2, B3, .row false 2 (vpv (withinV s (start + k * step) (start + k * step + step)))])) →
    Wp Γ r18_Fit_l1 [(1, .p (.int .i64 start)), (2, .p (.int .i64 step)), (3, .p (.int .i64 n)), (4, .bx 0 0), (8, .bx 1 0), (9, .bx 2 0), (10, .p (.int .i64 ((j : Nat)))), (11, .p (.int .i64 (k : Int))), (12, .own 4 (colV s (start + k * step) j).length)] [.box [.p (.str s.name), .p (.int .i64 s.start), .p (.int .i64 s.step), .p (.sl kk 2 (vpv s.vals)), .p (.int .i64 s.cons)], B1, B2, B3, .row false 2 (vpv (colV s (start + k * step) j))] (InBlk [1, 2, 3, 4, 8, 9, 10, 11, 12] 2 Q) := by
  have hs1 : 1 ≤ s.step := by unfold sizeS at hz; omega
  have hs2 : s.step ≤ 1099511627776 := by unfold sizeS at hz; omega
  have hv : s.vals.length ≤ 131072 := by unfold sizeS at hz; omega
  have hst : 0 ≤ s.start ∧ s.start ≤ 4294967295 := by unfold sizeS at hz; omega
  have em : ((k : Int) + 1) * step = (k : Int) * step + step := by rw [Int.add_mul, Int.one_mul]
  obtain ⟨b0, b1⟩ := mulb (i := k) (step := step) hk (by omega) g1
  have hp := plcS_le s (start + k * step + step)
  intro d
  induction d with
  | zero =>
    intro j hj hQ
    have hj : j = plcS s (start + k * step + step) := by omega
    have e : colV s (start + k * step) j = withinV s (start + k * step) (start + k * step + step) := by rw [hj]; rfl
    have hi := plcS_iff (s := s) (t := start + k * step + step) (i := j) hs1
    rw [← hj, ← e] at hQ
    rw [← hj] at hi
    clear hj
    rw [W_loop (L := r18_Fit_l1) rfl]
    by_cases h : j < s.vals.length
    · have hi := hi h
      obtain ⟨c0, c1⟩ := mulb (i := j) (step := s.step) (by omega) (by omega) hs2
      have hn : ¬ s.start + (j : Int) * s.step < start + ((k : Int) * step + step) := by omega
      simp (disch := first | assumption | omega | decide | (simp only [lens] <;> omega) | fail) only [go_sem, em]
      exact hQ
    · simp (disch := first | assumption | omega | decide | (simp only [lens] <;> omega) | fail) only [go_sem, em]
      exact hQ
  | succ d ih =>
    intro j hj hQ
    have hlt : j < plcS s (start + k * step + step) := by omega
    have h : j < s.vals.length := by omega
    have hi := (plcS_iff (s := s) (t := start + k * step + step) (i := j) hs1 h).1 hlt
    have hf := plcS_iff (s := s) (t := start + k * step) (i := j) hs1 h
    obtain ⟨c0, c1⟩ := mulb (i := j) (step := s.step) (by omega) (by omega) hs2
    have hn : s.start + (j : Int) * s.step < start + ((k : Int) * step + step) := by omega
    have hc := @colV_len s (start + k * step) j hv
    have hw : (vpv (colV s (start + k * step) j)).length = (colV s (start + k * step) j).length := vpv_len
    have ih := ih (j + 1) (by omega) hQ
    rw [W_loop (L := r18_Fit_l1) rfl]
    by_cases hb : j < plcS s (start + k * step)
    · have e1 := colV_lo (s := s) (f := start + k * step) (j := j) (by omega)
      have e2 := colV_lo (s := s) (f := start + k * step) (j := j + 1) (by omega)
      have hg : ¬ start + (k : Int) * step ≤ s.start + (j : Int) * s.step := by omega
      rw [e2, ← e1] at ih
      simp (disch := first | assumption | omega | decide | (simp only [lens] <;> omega) | fail) only [go_sem, em]
      exact ih
    · have e1 := colV_hi hb h
      have hg : start + (k : Int) * step ≤ s.start + (j : Int) * s.step := by omega
      rw [e1, List.length_append] at ih
      simp (disch := first | assumption | omega | decide | (simp only [lens] <;> omega) | fail) only [go_sem, em, valP]
      exact ih

theorem rFit_l2_ok {kk : SK} (s : Ser) (hs : isS s = true) (start step : Int) (h0 : 0 ≤ start) (h1 : start ≤ 4294967295) (g0 : 1 ≤ step) (g1 : step ≤ 1099511627776) (n : Nat) (hn : n ≤ 131072) (a1 a2 a3 a4 a5 : PV) (Q : Out → Prop) : ∀ (d i : Nat) (env : Env) (X : Heap), i + 1 + d = n →
    norm [1, 2, 3, 4, 8, 9, 10, 11] (some 0) env X = some ([(1, .p (.int .i64 start)), (2, .p (.int .i64 step)), (3, .p (.int .i64 (n : Int))), (4, .bx 0 0), (8, .bx 1 0), (9, .bx 2 0), (10, .p (.int .i64 (plcS s (start + ((i + 1 : Nat) : Int) * step) : Nat))), (11, .p (.int .i64 ((i + 1 : Nat) : Int)))],
      [.box [.p (.str s.name), .p (.int .i64 s.start), .p (.int .i64 s.step), .p (.sl kk 2 (vpv s.vals)), .p (.int .i64 s.cons)], .box [.p a1, .p a2, .p a3, .p a4, .p a5], .box [.p (.str s.name), .p (.int .i64 start), .p (.int .i64 step), .own 3 (i + 1), .p (.int .i64 s.cons)], .row false 2 (vpv (fitV s start step (i + 1)))]) →
    (∀ B0 T, Q (.nrm, [(8, .bx 1 0), (9, .bx 2 0)], B0 :: .box [.p a1, .p a2, .p a3, .p a4, .p a5] :: .box [.p (.str s.name), .p (.int .i64 start), .p (.int .i64 step), .own 3 n, .p (.int .i64 s.cons)] :: .row false 2 (vpv (fitV s start step n)) :: T)) →
    Wp Γ r18_Fit_l2 env X (InBlk [8, 9] 0 Q) := by
  have hz := isS_size hs
  have hv : s.vals.length ≤ 131072 := by unfold sizeS at hz; omega
  have hs1 : 1 ≤ s.step := by unfold sizeS at hz; omega
  intro d
  induction d with
  | zero =>
    intro i env X hi hX hQ
    have hi : i + 1 = n := by omega
    rw [hi] at hX
    rw [W_loop (L := r18_Fit_l2) rfl]
    rw [hX]
    simp (disch := first | assumption | omega | decide | (simp only [lens] <;> omega) | fail) only [go_sem]
    exact hQ _ []
  | succ d ih =>
    intro i env X hi hX hQ
    have g := @fitV_len s start step (i + 1)
    have e := @fitV_succ s start step (i + 1)
    obtain ⟨b0, b1⟩ := mulb (i := i + 1) (step := step) (by omega) (by omega) g1
    have hw := withinV_len (s := s) (t := start + ((i + 1 : Nat) : Int) * step) (u := start + ((i + 1 : Nat) : Int) * step + step) hv
    have c := res_r6OfK (kk := .any) (consV s) (withinV s (start + ((i + 1 : Nat) : Int) * step) (start + ((i + 1 : Nat) : Int) * step + step)) (by omega)
    have dd := res_r18Cons (kk := kk) s hs (by omega)
    have em : start + ((i + 1 + 1 : Nat) : Int) * step = start + ((i + 1 : Nat) : Int) * step + step := by
      rw [show ((i + 1 + 1 : Nat) : Int) = ((i + 1 : Nat) : Int) + 1 from rfl, Int.add_mul, Int.one_mul, Int.add_assoc]
    have ec := colV_lo (s := s) (f := start + ((i + 1 : Nat) : Int) * step) (j := plcS s (start + ((i + 1 : Nat) : Int) * step)) (Nat.le_refl _)
    have hm := plcS_mono hs1 (show start + ((i + 1 : Nat) : Int) * step ≤ start + ((i + 1 : Nat) : Int) * step + step by omega)
    have hw2 : (vpv (withinV s (start + ((i + 1 : Nat) : Int) * step) (start + ((i + 1 : Nat) : Int) * step + step))).length = (withinV s (start + ((i + 1 : Nat) : Int) * step) (start + ((i + 1 : Nat) : Int) * step + step)).length := vpv_len
    unfold Ser.pv at dd
    rw [W_loop (L := r18_Fit_l2) rfl]
    rw [hX]
    simp (disch := first | assumption | omega | decide | (simp only [lens] <;> omega) | fail) only [go_sem]
    have l1 := fun Q hQ => rFit_l1B (kk := kk) s hz start step n h0 h1 g0 g1 (i + 1) (by omega) (.box [.p a1, .p a2, .p a3, .p a4, .p a5]) (.box [.p (.str s.name), .p (.int .i64 start), .p (.int .i64 step), .own 3 (i + 1), .p (.int .i64 s.cons)]) (.row false 2 (vpv (fitV s start step (i + 1)))) Q (plcS s (start + ((i + 1 : Nat) : Int) * step + step) - plcS s (start + ((i + 1 : Nat) : Int) * step)) (plcS s (start + ((i + 1 : Nat) : Int) * step)) (by omega) hQ
    simp only [ec, List.length_nil, vpv_nil] at l1
    refine l1 _ ?_
    simp (disch := first | assumption | omega | decide | (simp only [lens] <;> omega) | fail) only [go_sem, dd, c]
    refine ih (i + 1) _ _ (by omega) ?_ hQ
    rw [e, em]
    simp (disch := first | assumption | omega | decide | (simp only [lens] <;> omega) | fail) only [go_sem]
    rfl
theorem rFit_l2_first {kk : SK} (s : Ser) (hs : isS s = true) (start step : Int) (h0 : 0 ≤ start) (h1 : start ≤ 4294967295) (g0 : 1 ≤ step) (g1 : step ≤ 1099511627776) (n : Nat) (hn : n ≤ 131072) (hpos : 0 < n) (a1 a2 a3 a4 a5 : PV) (Q : Out → Prop) :
    (∀ B0 T, Q (.nrm, [(8, .bx 1 0), (9, .bx 2 0)], B0 :: .box [.p a1, .p a2, .p a3, .p a4, .p a5] :: .box [.p (.str s.name), .p (.int .i64 start), .p (.int .i64 step), .own 3 n, .p (.int .i64 s.cons)] :: .row false 2 (vpv (fitV s start step n)) :: T)) →
    Wp Γ r18_Fit_l2 [(1, .p (.int .i64 start)), (2, .p (.int .i64 step)), (3, .p (.int .i64 (n : Int))), (4, .bx 0 0), (8, .bx 1 0), (9, .bx 2 0), (10, .p (.int .i64 0)), (11, .p (.int .i64 0))]
      [.box [.p (.str s.name), .p (.int .i64 s.start), .p (.int .i64 s.step), .p (.sl kk 2 (vpv s.vals)), .p (.int .i64 s.cons)], .box [.p a1, .p a2, .p a3, .p a4, .p a5], .box [.p (.str s.name), .p (.int .i64 start), .p (.int .i64 step), .p (.sl .nil 2 []), .p (.int .i64 s.cons)]] (InBlk [8, 9] 0 Q) := by
  have hz := isS_size hs
  have hv : s.vals.length ≤ 131072 := by unfold sizeS at hz; omega
  have hs1 : 1 ≤ s.step := by unfold sizeS at hz; omega
  intro hQ
  have e := @fitV_succ s start step 0
  have ez : start + ((0 : Nat) : Int) * step = start := by rw [show ((0 : Nat) : Int) = 0 from rfl, Int.zero_mul, Int.add_zero]
  have ec := colV_lo (s := s) (f := start) (j := 0) (Nat.zero_le _)
  have hw := withinV_len (s := s) (t := start) (u := start + step) hv
  have c := res_r6OfK (kk := .any) (consV s) (withinV s start (start + step)) (by omega)
  have dd := res_r18Cons (kk := kk) s hs (by omega)
  have hw2 : (vpv (withinV s start (start + step))).length = (withinV s start (start + step)).length := vpv_len
  have em : start + ((0 + 1 : Nat) : Int) * step = start + step := by rw [show ((0 + 1 : Nat) : Int) = 1 from rfl, Int.one_mul]
  rw [ez] at e
  unfold Ser.pv at dd
  rw [W_loop (L := r18_Fit_l2) rfl]
  simp (disch := first | assumption | omega | decide | (simp only [lens] <;> omega) | fail) only [go_sem]
  have l1 := fun Q hQ => rFit_l1A (kk := kk) s hz start step n h0 h1 g0 g1 0 (by omega) (.box [.p a1, .p a2, .p a3, .p a4, .p a5]) (.box [.p (.str s.name), .p (.int .i64 start), .p (.int .i64 step), .p (.sl .nil 2 []), .p (.int .i64 s.cons)]) Q (plcS s (start + ((0 : Nat) : Int) * step + step)) 0 (by omega) hQ
  simp only [ez, ec, List.length_nil, vpv_nil] at l1
  refine l1 _ ?_
  simp (disch := first | assumption | omega | decide | (simp only [lens] <;> omega) | fail) only [go_sem, dd, c]
  refine rFit_l2_ok (kk := kk) s hs start step h0 h1 g0 g1 n hn a1 a2 a3 a4 a5 Q (n - 1) 0 _ _ (by omega) ?_ hQ
  rw [e, em]
  simp (disch := first | assumption | omega | decide | (simp only [lens] <;> omega) | fail) only [go_sem]
  rfl
theorem res_r18Fit {kk : SK} (s : Ser) (hs : isS s = true) (start step : Int) (h0 : 0 ≤ start) (h1 : start ≤ 4294967295) (g0 : 1 ≤ step) (g1 : step ≤ 1099511627776) (n : Nat) (hn : n ≤ 131072) :
    res Γ 162 [s.pv kk, .int .i64 start, .int .i64 step, .int .i64 (n : Int)] = some [(fitS s start step n).pv (fitK n)] := by
  have hz := isS_size hs
  have hv : s.vals.length ≤ 131072 := by unfold sizeS at hz; omega
  have e := res_r18Is (kk := kk) s (by omega)
  unfold Ser.pv at e ⊢
  refine res_code (fn := r18_Fit) rfl rfl ?_
  simp (disch := first | assumption | omega | decide | (simp only [lens] <;> omega) | fail) only [go_sem, r18_Fit, e, hs]
  by_cases hne : n = 0
  · subst hne
    rw [W_loop (L := r18_Fit_l2) rfl]
    simp (disch := first | assumption | omega | decide | (simp only [lens] <;> omega) | fail) only [go_sem, fitS, fitK]
    rfl
  · refine rFit_l2_first s hs start step h0 h1 g0 g1 n hn (by omega) _ _ _ _ _ _ (fun B0 T => ?_)
    have hw : (vpv (fitV s start step n)).length = n := by rw [vpv_len, fitV_len]
    simp (disch := first | assumption | omega | decide | (simp only [lens] <;> omega) | fail) only [go_sem, fitS, fitK]
    rw [if_neg hne]
end Ab
namespace Ab
open Go (IntKind BinOp UnOp)
theorem strsIn_strs (l : List (List UInt8)) : strsIn (strs l) = some l := by
  induction l with
  | nil => rfl
  | cons a l ih => simp only [strs, List.map_cons, strsIn] at ih ⊢; rw [ih]; rfl
@[go_sem] theorem res_Join {kk : SK} (l : List (List UInt8)) (sep : List UInt8) (hl : l.length < 1000000000) (hj : (joinB sep l).length ≤ 1000000000) : res Γ 48 [.sl kk 1 (strs l), .str sep] = some [.str (joinB sep l)] := by
  refine res_of (RunP_prim (g := joinG) rfl ?_)
  simp only [joinG, strsIn_strs]
  rw [if_pos ⟨hj, by omega⟩]
end Ab
namespace Ab
open Go (IntKind BinOp UnOp)
def labelL (nm : List UInt8) (l : List (List UInt8)) : List UInt8 := nm ++ 40 :: (joinB [44] l ++ [41])
theorem res_seriesLabelL {kk : SK} (nm : List UInt8) (l : List (List UInt8)) (h : nm.length ≤ 1000000) (hl : l.length < 1000000000) (hj : (joinB [44] l).length ≤ 1000000000) : res Γ 30 [.str nm, .sl kk 1 (strs l)] = some [.str (labelL nm l)] := by
  have e := res_Join (kk := kk) l [44] hl hj
  refine res_code (fn := series_Label) rfl rfl ?_
  simp (disch := first | assumption | omega | decide | (simp only [lens] <;> omega) | fail) only [go_sem, series_Label, e, labelL]
end Ab
namespace Ab
open Go (IntKind BinOp UnOp)
def aggName (k : Int) : List UInt8 :=
  if k = 1 then [97, 118, 101, 114, 97, 103, 101] else if k = 2 then [115, 117, 109] else if k = 3 then [108, 97, 115, 116] else if k = 4 then [109, 97, 120] else if k = 5 then [109, 105, 110] else []
@[go_sem] theorem res_aggName (k : Int) : res Γ 29 [.int .i64 k] = some [.str (aggName k)] := by
  refine res_code (fn := agg_Name) rfl rfl ?_
  repeat' (first | (simp (disch := first | assumption | omega | decide | (simp only [lens] <;> omega) | fail) only [go_sem, agg_Name]) | refine cond_split (fun hc => ?_) (fun hc => ?_) | refine gd_split_f (fun hc => ?_) (fun hc => ?_) | refine gd_split_t (fun hc => ?_) (fun hc => ?_))
  all_goals (simp only [Option.some.injEq, List.cons.injEq, and_true, PV.str.injEq, aggName]; simp [*])
@[go_sem] theorem res_r6Name (k : Int) : res Γ 32 [.int .i64 k] = some [.str (aggName k)] := by
  refine res_code (fn := r6_Name) rfl rfl ?_
  repeat' (first | (simp (disch := first | assumption | omega | decide | (simp only [lens] <;> omega) | fail) only [go_sem, r6_Name]) | refine cond_split (fun hc => ?_) (fun hc => ?_) | refine gd_split_f (fun hc => ?_) (fun hc => ?_) | refine gd_split_t (fun hc => ?_) (fun hc => ?_))
  all_goals (simp only [Option.some.injEq, List.cons.injEq, and_true, PV.str.injEq, aggName]; simp [*])
end Ab
namespace Ab
open Go (IntKind BinOp UnOp)
@[go_sem] theorem storeK_vals {H : Heap} {sz id n i : Nat} {b : Bool} {m : Int} {l : List Val} (h : l.length = n) (h' : i < n) : storeK H (some (.row false sz (vpv l))) 2 id n i 0 (.p (.agg [.bool b, .int .i64 m])) = some (H.set id (.row false sz (vpv (l.set i (b, m))))) := by
  have e1 : (valP (l.getD i (false, 0))).length = 2 := rfl
  simp only [storeK, vpv_len, h, if_true, vpv_get (show i < l.length by omega), Option.bind_some, AV.cells, PV.cells, pures_map, AV.ok, List.length_cons, List.length_nil, e1]
  rw [if_pos ⟨trivial, by omega, trivial, by omega⟩]
  congr 3
  have : setPart 0 2 [.bool b, .int .i64 m] (.agg (valP (l.getD i (false, 0)))) = .agg (valP (b, m)) := by
    simp [setPart, valP]
  rw [this]
  simp [vpv, aggs, List.map_set]
end Ab
namespace Ab
open Go (IntKind BinOp UnOp)
end Ab
namespace Ab
open Go (IntKind BinOp UnOp)
end Ab
namespace Ab
open Go (IntKind BinOp UnOp)
theorem res_seriesEnd {kk : SK} (s : Ser) (hs : isS s = true) (hl : s.vals.length ≤ 9223372036854775807) : res Γ 159 [s.pv kk] = some [.int .i64 (endS s)] := by
  have e := res_seriesIs (kk := kk) s hl
  have hz := isS_size hs
  unfold sizeS at hz
  have b := mulb (i := s.vals.length) (step := s.step) (by omega) (by omega) (by omega)
  unfold Ser.pv at e ⊢
  refine res_code (fn := series_End) rfl rfl ?_
  simp (disch := first | assumption | omega | decide | (simp only [lens] <;> omega) | fail) only [go_sem, series_End, e, hs, endS]
section
variable {kk : SK} (s : Ser) (iv kind : Int) (hs : isS s = true) (h1 : 1 ≤ iv ∧ iv ≤ 16777216)
include hs h1
end
end Ab
namespace Ab
open Go (IntKind BinOp UnOp)
theorem map_quoI {a b : Int} (h0 : 0 ≤ a) (ha : a ≤ 9223372036854775807) (h1 : 0 < b) : binAV .quo (.p (.int .i64 a)) (.p (.int .i64 b)) = some (.p (.int .i64 (a / b))) := by
  have h2 : 0 ≤ a / b := Int.ediv_nonneg h0 (by omega)
  have h3 : a / b ≤ a := Int.ediv_le_self _ h0
  exact map_quo h0 h1 (wrap_i64 (by omega) (by omega))
theorem common_l1_ok (a b : Nat) (Q : Out → Prop) : ∀ (y x : Nat), x ≤ 1099511627776 → y ≤ 1099511627776 →
    Q (.nrm, [(0, .p (.int .i64 (a : Int))), (1, .p (.int .i64 (b : Int))), (5, .p (.int .i64 (Nat.gcd x y : Nat)))], []) →
    Wp Γ series_common_l1 [(0, .p (.int .i64 (a : Int))), (1, .p (.int .i64 (b : Int))), (5, .p (.int .i64 (x : Int))), (6, .p (.int .i64 (y : Int)))] [] (InBlk [0, 1, 5] 0 Q) := by
  intro y
  induction y using Nat.strongRecOn with
  | ind y ih =>
    intro x hx hy hQ
    by_cases h0 : y = 0
    · subst h0
      rw [Nat.gcd_zero_right] at hQ
      rw [W_loop (L := series_common_l1) rfl]
      simp (disch := first | assumption | omega | decide | (simp only [lens] <;> omega) | fail) only [go_sem, ne_eq, not_true_eq_false]
      exact hQ
    · have hlt : x % y < y := Nat.mod_lt _ (by omega)
      have em : (x : Int) % (y : Int) = ((x % y : Nat) : Int) := (Int.natCast_emod x y).symm
      rw [W_loop (L := series_common_l1) rfl]
      simp (disch := first | assumption | omega | decide | (simp only [lens] <;> omega) | fail) only [go_sem, map_rem, em]
      refine ih (x % y) hlt y hy (by omega) ?_
      have : Nat.gcd y (x % y) = Nat.gcd x y := by rw [Nat.gcd_comm, ← Nat.gcd_rec, Nat.gcd_comm]
      rw [this]; exact hQ
theorem res_common (a b : Nat) (ha : 1 ≤ a) (ha2 : a ≤ 16777216) (hb : 1 ≤ b) (hb2 : b ≤ 1099511627776) : res Γ 269 [.int .i64 (a : Int), .int .i64 (b : Int)] = some [.int .i64 (commonV a b : Nat)] := by
  have hg : 0 < Nat.gcd a b := Nat.gcd_pos_of_pos_left b (by omega)
  have hgl : Nat.gcd a b ≤ a := Nat.gcd_le_left b (by omega)
  have q1 : (a : Int) / (Nat.gcd a b : Int) = ((a / Nat.gcd a b : Nat) : Int) := (Int.natCast_ediv _ _).symm
  have q2 : (16777216 : Int) / (b : Int) = ((16777216 / b : Nat) : Int) := (Int.natCast_ediv _ _).symm
  have key := common_lt (a := a) (b := b) (by omega) (by omega)
  have el := lcm_eq (a := a) (b := b) (by omega)
  refine res_code (fn := series_common) rfl rfl ?_
  simp (disch := first | assumption | omega | decide | (simp only [lens] <;> omega) | fail) only [go_sem, series_common]
  refine common_l1_ok a b _ b a (by omega) hb2 ?_
  generalize Nat.gcd a b = g at *
  unfold commonV
  by_cases h : Nat.lcm a b ≤ 16777216
  · have hc : ¬ ((16777216 / b : Nat) : Int) < ((a / g : Nat) : Int) := by
      intro hlt
      exact key.1 (by omega) h
    have em : ((a / g : Nat) : Int) * (b : Int) = ((Nat.lcm a b : Nat) : Int) := by rw [el, Int.natCast_mul]
    rw [if_pos h]
    simp (disch := first | assumption | omega | decide | (simp only [lens] <;> omega) | fail) only [go_sem, map_quoI, q1, q2, em]
  · have hc : ((16777216 / b : Nat) : Int) < ((a / g : Nat) : Int) := by
      have := key.2 h
      omega
    rw [if_neg h]
    simp (disch := first | assumption | omega | decide | (simp only [lens] <;> omega) | fail) only [go_sem, map_quoI, q1, q2]
    rfl
theorem res_up {n by_ : Int} (h0 : 0 ≤ n) (h1 : n ≤ 4611686018427387904) (h2 : 1 ≤ by_) (h3 : by_ ≤ 1099511627776) : res Γ 268 [.int .i64 n, .int .i64 by_] = some [.int .i64 ((n + by_ - 1) / by_)] := by
  refine res_code (fn := series_up) rfl rfl ?_
  simp (disch := first | assumption | omega | decide | (simp only [lens] <;> omega) | fail) only [go_sem, series_up, map_quoI]
theorem gcd_l1_ok (Q : Out → Prop) : ∀ (y x : Nat), x ≤ 1099511627776 → y ≤ 1099511627776 →
    Q (.nrm, [(0, .p (.int .i64 (Nat.gcd x y : Nat)))], []) →
    Wp Γ r18_gcd_l1 [(0, .p (.int .i64 (x : Int))), (1, .p (.int .i64 (y : Int)))] [] (InBlk [0] 0 Q) := by
  intro y
  induction y using Nat.strongRecOn with
  | ind y ih =>
    intro x hx hy hQ
    by_cases h0 : y = 0
    · subst h0
      rw [Nat.gcd_zero_right] at hQ
      rw [W_loop (L := r18_gcd_l1) rfl]
      simp (disch := first | assumption | omega | decide | (simp only [lens] <;> omega) | fail) only [go_sem]
      exact hQ
    · have hlt : x % y < y := Nat.mod_lt _ (by omega)
      have em : (x : Int) % (y : Int) = ((x % y : Nat) : Int) := (Int.natCast_emod x y).symm
      rw [W_loop (L := r18_gcd_l1) rfl]
      simp (disch := first | assumption | omega | decide | (simp only [lens] <;> omega) | fail) only [go_sem, map_rem, em]
      refine ih (x % y) hlt y hy (by omega) ?_
      have : Nat.gcd y (x % y) = Nat.gcd x y := by rw [Nat.gcd_comm, ← Nat.gcd_rec, Nat.gcd_comm]
      rw [this]; exact hQ
theorem res_gcd (x y : Nat) (hx : x ≤ 1099511627776) (hy : y ≤ 1099511627776) : res Γ 255 [.int .i64 (x : Int), .int .i64 (y : Int)] = some [.int .i64 (Nat.gcd x y : Nat)] := by
  refine res_code (fn := r18_gcd) rfl rfl ?_
  simp (disch := first | assumption | omega | decide | (simp only [lens] <;> omega) | fail) only [go_sem, r18_gcd]
  refine gcd_l1_ok _ y x hx hy ?_
  simp (disch := first | assumption | omega | decide | (simp only [lens] <;> omega) | fail) only [go_sem]
theorem endS_bound {s : Ser} (hs : isS s = true) : 0 ≤ endS s ∧ endS s ≤ 144115192370823167 ∧ 0 ≤ (s.vals.length : Int) * s.step ∧ (s.vals.length : Int) * s.step ≤ 144115188075855872 := by
  have hz := isS_size hs
  unfold sizeS at hz
  obtain ⟨_, a0, a1, b0, b1, c0, _⟩ := hz
  have h1 : 0 ≤ (s.vals.length : Int) * s.step := Int.mul_nonneg (by omega) (by omega)
  have h2 : (s.vals.length : Int) * s.step ≤ 131072 * 1099511627776 := Int.mul_le_mul (by omega) b1 (by omega) (by omega)
  unfold endS
  omega
theorem res_r18End {kk : SK} (s : Ser) (hs : isS s = true) : res Γ 256 [s.pv kk] = some [.int .i64 (endS s)] := by
  have hz := isS_size hs
  have hv : s.vals.length ≤ 131072 := by unfold sizeS at hz; omega
  have e := res_r18Is (kk := kk) s (by omega)
  rw [hs] at e
  obtain ⟨h1, h2, h3, h4⟩ := endS_bound hs
  unfold sizeS at hz
  unfold endS at *
  unfold Ser.pv at e ⊢
  refine res_code (fn := r18_End) rfl rfl ?_
  simp (disch := first | assumption | omega | decide | (simp only [lens] <;> omega) | fail) only [go_sem, r18_End, e]
theorem res_Join1 {kk : SK} (s : Ser) (hv : s.vals.length ≤ 9223372036854775807) : res Γ 271 [s.pv kk] = some [.bool (!isS s)] := by
  have e := res_seriesIs (kk := kk) s hv
  unfold Ser.pv at e ⊢
  refine res_code (fn := series_Join_1) rfl rfl ?_
  simp (disch := first | assumption | omega | decide | (simp only [lens] <;> omega) | fail) only [go_sem, series_Join_1, e]
def badJ (l : List (SK × Ser)) : Bool := l.any fun x => !isS x.2
theorem JIndexFunc_l1_ok {kk : SK} (l : List (SK × Ser)) (hl : l.length ≤ 1000000) (hv : ∀ x ∈ l, x.2.vals.length ≤ 1000000) (Q : Out → Prop) (h1 : badJ l = false → Q (.nrm, [], [])) (h2 : badJ l = true → ∀ j : Nat, Q (.ret, [(4, .p (.int .i64 (j : Int)))], [])) :
    ∀ (n i : Nat), i + n = l.length → badJ (l.take i) = false →
    Wp Γ slices_IndexFunc_api_Series_api_Series_l1 [(0, .p (.sl kk 5 (sers l))), (1, .p (.clo 271 [])), (7, .p (.int .i64 (l.length : Int))), (8, .p (.int .i64 (i : Int)))] [] (InBlk [] 0 Q) := by
  intro n
  induction n with
  | zero =>
    intro i hi hb
    obtain rfl : i = l.length := by omega
    rw [List.take_length] at hb
    rw [W_loop (L := slices_IndexFunc_api_Series_api_Series_l1) rfl]
    simp (disch := first | assumption | omega | decide | (simp only [lens] <;> omega) | fail) only [go_sem]
    exact h1 hb
  | succ n ih =>
    intro i hi hb
    have hlt : i < l.length := by omega
    obtain ⟨x, hx⟩ : ∃ x, l.getD i noSer = x := ⟨_, rfl⟩
    have hm : x ∈ l := by
      rw [← hx, List.getD_eq_getElem?_getD, List.getElem?_eq_getElem hlt]; simp
    have e := res_Join1 (kk := x.1) x.2 (by have := hv x hm; omega)
    unfold Ser.pv at e
    cases hs : isS x.2
    · rw [hs] at e
      have : badJ l = true := by
        unfold badJ
        rw [List.any_eq_true]
        exact ⟨x, hm, by rw [hs]; rfl⟩
      rw [W_loop (L := slices_IndexFunc_api_Series_api_Series_l1) rfl]
      simp (disch := first | assumption | omega | decide | (simp only [lens] <;> omega) | fail) only [go_sem, hx, serC, e]
      exact h2 this i
    · rw [hs] at e
      rw [W_loop (L := slices_IndexFunc_api_Series_api_Series_l1) rfl]
      simp (disch := first | assumption | omega | decide | (simp only [lens] <;> omega) | fail) only [go_sem, hx, serC, e]
      refine ih (i + 1) (by omega) ?_
      rw [take_snoc' noSer hlt, hx]
      unfold badJ at hb ⊢
      rw [List.any_append, hb]
      simp [hs]
theorem res_JIndexFunc {kk : SK} (l : List (SK × Ser)) (hl : l.length ≤ 1000000) (hv : ∀ x ∈ l, x.2.vals.length ≤ 1000000) : ∃ j : Int, (badJ l = true → 0 ≤ j) ∧ (badJ l = false → j = -1) ∧ res Γ 276 [.sl kk 5 (sers l), .clo 271 []] = some [.int .i64 j] := by
  by_cases hb : badJ l = true
  · by_cases h : ∃ j : Int, 0 ≤ j ∧ res Γ 276 [.sl kk 5 (sers l), .clo 271 []] = some [.int .i64 j]
    · obtain ⟨j, h1, h2⟩ := h
      exact ⟨j, fun _ => h1, (fun h => by rw [hb] at h; cases h), h2⟩
    · exfalso
      have key := callK (Γ := Γ) (f := 276) (fn := slices_IndexFunc_api_Series_api_Series) (args := [.p (.sl kk 5 (sers l)), .p (.clo 271 [])]) (HL := []) (K := fun vs h => ∃ j : Int, 0 ≤ j ∧ mapO (reify h 4) vs = some [.int .i64 j]) rfl rfl (by
        simp (disch := first | assumption | omega | decide | (simp only [lens] <;> omega) | fail) only [go_sem, slices_IndexFunc_api_Series_api_Series]
        refine JIndexFunc_l1_ok l hl hv _ (fun h' => by rw [hb] at h'; cases h') (fun _ j => ?_) l.length 0 (by omega) rfl
        simp (disch := first | assumption | omega | decide | (simp only [lens] <;> omega) | fail) only [go_sem]
        exact ⟨j, by omega, rfl⟩)
      obtain ⟨n, vs, hh, h3, j, h4, h5⟩ := key
      exact h ⟨j, h4, res_of ⟨n, (vs, hh), h3, h5⟩⟩
  · refine ⟨-1, fun h => absurd h hb, fun _ => rfl, ?_⟩
    refine res_code (fn := slices_IndexFunc_api_Series_api_Series) rfl rfl ?_
    simp (disch := first | assumption | omega | decide | (simp only [lens] <;> omega) | fail) only [go_sem, slices_IndexFunc_api_Series_api_Series]
    refine JIndexFunc_l1_ok l hl hv _ (fun _ => ?_) (fun h => absurd h hb) l.length 0 (by omega) rfl
    simp (disch := first | assumption | omega | decide | (simp only [lens] <;> omega) | fail) only [go_sem]
theorem res_JContainsFunc {kk : SK} (l : List (SK × Ser)) (hl : l.length ≤ 1000000) (hv : ∀ x ∈ l, x.2.vals.length ≤ 1000000) : res Γ 270 [.sl kk 5 (sers l), .clo 271 []] = some [.bool (badJ l)] := by
  obtain ⟨j, h1, h2, e⟩ := res_JIndexFunc (kk := kk) l hl hv
  refine res_code (fn := slices_ContainsFunc_api_Series_api_Series) rfl rfl ?_
  simp (disch := first | assumption | omega | decide | (simp only [lens] <;> omega) | fail) only [go_sem, slices_ContainsFunc_api_Series_api_Series, e]
  cases hb : badJ l
  · have := h2 hb
    rw [decide_eq_false (by omega)]
  · rw [decide_eq_true (h1 hb)]
abbrev sersOf (l : List (SK × Ser)) : List Ser := l.map (·.2)
theorem badJ_all {l : List (SK × Ser)} : badJ l = false ↔ ∀ x ∈ l, isS x.2 = true := by
  unfold badJ
  rw [List.any_eq_false]
  constructor
  · intro h x hx
    have := h x hx
    cases hb : isS x.2
    · rw [hb] at this; exact absurd rfl this
    · rfl
  · intro h x hx
    rw [h x hx]; decide
theorem ser_mem {l : List (SK × Ser)} {i : Nat} (h : i < l.length) : l.getD i noSer ∈ l := by
  rw [List.getD_eq_getElem?_getD, List.getElem?_eq_getElem h]; simp
theorem sers_snoc {l : List (SK × Ser)} {i : Nat} (h : i < l.length) : sersOf (l.take (i + 1)) = sersOf (l.take i) ++ [(l.getD i noSer).2] := by
  unfold sersOf
  rw [take_snoc' noSer h, List.map_append]; rfl
set_option maxRecDepth 10000 in
theorem Join_l2_ok {kk k2 : SK} (l : List (SK × Ser)) (hl : l.length ≤ 1000000) (hS : ∀ x ∈ l, isS x.2 = true) (m : Int) (hm : 0 ≤ m ∧ m ≤ 4294967295) (Q : Out → Prop)
    (hQ : Q (.nrm, [(0, .p (.sl kk 5 (sers l))), (4, .p (.int .i64 (stepJ (sersOf l) : Nat))), (5, .p (.int .i64 (startJ m (sersOf l)))), (6, .p (.int .i64 (endJ (sersOf l))))], [])) : ∀ (n i : Nat) (H : Heap), i + n = l.length →
    Wp Γ series_Join_l2 [(0, .p (.sl kk 5 (sers l))), (4, .p (.int .i64 (stepJ (sersOf (l.take i)) : Nat))), (5, .p (.int .i64 (startJ m (sersOf (l.take i))))), (6, .p (.int .i64 (endJ (sersOf (l.take i))))), (22, .p (.sl k2 5 (sers l))), (23, .p (.int .i64 (l.length : Int))), (24, .p (.int .i64 (i : Int)))] H (InBlk [0, 4, 5, 6] 0 Q) := by
  intro n
  induction n with
  | zero =>
    intro i H hi
    obtain rfl : i = l.length := by omega
    rw [List.take_length]
    rw [W_loop (L := series_Join_l2) rfl]
    simp (disch := first | assumption | omega | decide | (simp only [lens] <;> omega) | fail) only [go_sem]
    exact hQ
  | succ n ih =>
    intro i H hi
    have hlt : i < l.length := by omega
    have hmem := ser_mem hlt
    have ih := fun H => ih (i + 1) H (by omega)
    rw [sers_snoc hlt, stepJ_snoc, startJ_snoc, endJ_snoc] at ih
    obtain ⟨x, hx⟩ : ∃ x, l.getD i noSer = x := ⟨_, rfl⟩
    rw [hx] at hmem ih
    have hs := hS x hmem
    have hz := isS_size hs
    have hE := res_seriesEnd (kk := x.1) x.2 hs (by unfold sizeS at hz; omega)
    unfold sizeS at hz
    have hc := stepJ_le (sersOf (l.take i))
    obtain ⟨b, hb⟩ := Int.eq_ofNat_of_zero_le (show 0 ≤ x.2.step by omega)
    unfold Ser.pv at hE
    generalize stepJ (sersOf (l.take i)) = st at *
    by_cases h0 : st = 0
    · subst h0
      have e0 : stepT 0 x.2 = 0 := rfl
      rw [e0] at ih
      rw [W_loop (L := series_Join_l2) rfl]
      simp (disch := first | assumption | omega | decide | (simp only [lens] <;> omega) | fail) only [go_sem, hx, serC, hE, min_max2]
      exact ih _
    · have eC := res_common st b (by omega) hc (by omega) (by omega)
      have e1 : stepT st x.2 = commonV st b := by unfold stepT; rw [if_neg h0, hb]; rfl
      rw [e1] at ih
      have eC : res Γ 269 [.int .i64 (st : Int), .int .i64 x.2.step] = some [.int .i64 (commonV st b : Nat)] := by rw [hb]; exact eC
      rw [W_loop (L := series_Join_l2) rfl]
      simp (disch := first | assumption | omega | decide | (simp only [lens] <;> omega) | fail) only [go_sem, hx, serC, hE, eC, min_max2]
      exact ih _
theorem map_remI {a b : Int} (h0 : 0 ≤ a) (h1 : 0 < b) : binAV .rem (.p (.int .i64 a)) (.p (.int .i64 b)) = some (.p (.int .i64 (a % b))) := map_rem h0 h1
def joinW (l : List (SK × Ser)) (b : Int) (st n : Nat) : List (SK × Ser) := l.map fun x => (fitK n, fitS x.2 b st n)
theorem joinJ_eq {l : List (SK × Ser)} : joinJ l = joinW l (begJ (sersOf l)) (stepJ (sersOf l)) (manyJ (sersOf l)).toNat := rfl
set_option maxRecDepth 10000 in
theorem Join_l1_ok {k2 : SK} (l : List (SK × Ser)) (hl : l.length ≤ 1000000) (hS : ∀ x ∈ l, isS x.2 = true) (b : Int) (hb : 0 ≤ b ∧ b ≤ 4294967295) (st n : Nat) (hst : 1 ≤ st ∧ st ≤ 16777216) (hn : n ≤ 131072) (Q : Out → Prop)
    (hQ : Q (.nrm, [(10, .own 0 l.length)], [.row false 5 (sers (joinW l b st n))])) : ∀ (k i : Nat) (R : Heap), i + k = l.length →
    Wp Γ series_Join_l1 [(4, .p (.int .i64 (st : Nat))), (5, .p (.int .i64 b)), (9, .p (.int .i64 (n : Nat))), (10, .own 0 i), (57, .p (.sl k2 5 (sers l))), (58, .p (.int .i64 (l.length : Int))), (59, .p (.int .i64 (i : Int)))] (.row false 5 (sers (joinW (l.take i) b st n)) :: R) (InBlk [10] 2 Q) := by
  intro k
  induction k with
  | zero =>
    intro i R hi
    obtain rfl : i = l.length := by omega
    rw [List.take_length]
    rw [W_loop (L := series_Join_l1) rfl]
    simp (disch := first | assumption | omega | decide | (simp only [lens] <;> omega) | fail) only [go_sem]
    exact hQ
  | succ k ih =>
    intro i R hi
    have hlt : i < l.length := by omega
    have hmem := ser_mem hlt
    have ih := fun R => ih (i + 1) R (by omega)
    have hsn : joinW (l.take (i + 1)) b st n = joinW (l.take i) b st n ++ [(fitK n, fitS (l.getD i noSer).2 b st n)] := by
      unfold joinW
      rw [take_snoc' noSer hlt, List.map_append]; rfl
    rw [hsn] at ih
    obtain ⟨x, hx⟩ : ∃ x, l.getD i noSer = x := ⟨_, rfl⟩
    rw [hx] at hmem ih
    have hF := res_seriesFit (kk := x.1) x.2 (hS x hmem) b st hb.1 hb.2 (by omega) (by omega) n hn
    have hlen : (sers (joinW (l.take i) b st n)).length = i := by rw [sers_len]; unfold joinW; rw [List.length_map, List.length_take]; omega
    unfold Ser.pv at hF
    rw [W_loop (L := series_Join_l1) rfl]
    simp (disch := first | assumption | omega | decide | (simp only [lens] <;> omega) | fail) only [go_sem, hx, serC, hF]
    exact ih _
def joinR (l : List (SK × Ser)) : List PV := if errJ (sersOf l) = 0 then [.sl (if l = [] then .nil else .any) 5 (sers (joinJ l)), .int .i64 0] else [.sl .nil 5 [], .int .i64 (errJ (sersOf l))]
theorem all_isS {l : List (SK × Ser)} : (sersOf l).all isS = true ↔ ∀ x ∈ l, isS x.2 = true := by
  unfold sersOf
  rw [List.all_map, List.all_eq_true]
  rfl
theorem begJ_bound {l : List (SK × Ser)} (h0 : l ≠ []) (hS : ∀ x ∈ l, isS x.2 = true) (hst : 1 ≤ stepJ (sersOf l)) :
    0 ≤ startJ 4294967295 (sersOf l) ∧ startJ 4294967295 (sersOf l) ≤ 4294967295 ∧ 0 ≤ begJ (sersOf l) ∧ begJ (sersOf l) ≤ startJ 4294967295 (sersOf l) ∧ begJ (sersOf l) ≤ endJ (sersOf l) ∧ endJ (sersOf l) ≤ 144115192370823167 := by
  have hsz : ∀ s ∈ sersOf l, sizeS s := fun s hs => by
    obtain ⟨x, hx, rfl⟩ := List.mem_map.1 hs
    exact isS_size (hS x hx)
  have a0 : 0 ≤ startJ 4294967295 (sersOf l) := startJ_ge (by omega) fun s hs => by have := hsz s hs; unfold sizeS at this; omega
  have a1 := (@startJ_le 4294967295 (sersOf l)).1
  have hm := Int.emod_nonneg (startJ 4294967295 (sersOf l)) (show (stepJ (sersOf l) : Int) ≠ 0 by omega)
  have hm2 : startJ 4294967295 (sersOf l) % (stepJ (sersOf l) : Int) ≤ startJ 4294967295 (sersOf l) := by
    have h1 := Int.mul_ediv_add_emod (startJ 4294967295 (sersOf l)) (stepJ (sersOf l) : Int)
    have h2 : 0 ≤ (stepJ (sersOf l) : Int) * (startJ 4294967295 (sersOf l) / (stepJ (sersOf l) : Int)) := Int.mul_nonneg (by omega) (Int.ediv_nonneg a0 (by omega))
    omega
  have e1 : endJ (sersOf l) ≤ 144115192370823167 := endJ_le (by omega) fun s hs => by
    obtain ⟨x, hx, rfl⟩ := List.mem_map.1 hs
    exact (endS_bound (hS x hx)).2.1
  have e2 : startJ 4294967295 (sersOf l) ≤ endJ (sersOf l) := by
    cases l with
    | nil => exact absurd rfl h0
    | cons x l =>
      have hx := hS x (by simp)
      have b1 := (@startJ_le 4294967295 (sersOf (x :: l))).2 x.2 (by simp [sersOf])
      have b2 := (@endJ_ge (sersOf (x :: l))).2 x.2 (by simp [sersOf])
      have b3 := (endS_bound hx).2.2.1
      unfold endS at b2
      omega
  unfold begJ
  omega
theorem res_seriesJoin {kk : SK} (l : List (SK × Ser)) (hl : l.length ≤ 1000000) (hv : ∀ x ∈ l, x.2.vals.length ≤ 1000000) : res Γ 254 [.sl kk 5 (sers l)] = some (joinR l) := by
  have e0 := res_JContainsFunc (kk := kk) l hl hv
  by_cases hS : ∀ x ∈ l, isS x.2 = true
  · rw [badJ_all.2 hS] at e0
    have eA : ¬ (sersOf l).all isS = false := by rw [all_isS.2 hS]; decide
    by_cases h0 : l = []
    · subst h0
      have eE : joinR [] = [.sl .nil 5 [], .int .i64 0] := rfl
      rw [eE]
      rw [sers_nil] at e0 ⊢
      refine res_code (fn := series_Join) rfl rfl ?_
      simp (disch := first | assumption | omega | decide | (simp only [lens] <;> omega) | fail) only [go_sem, series_Join, e0]
    · have hne : sersOf l ≠ [] := by simpa [sersOf] using h0
      have hlen : 0 < l.length := List.length_pos_iff.2 h0
      obtain ⟨x, hx⟩ : ∃ x, l.getD 0 noSer = x := ⟨_, rfl⟩
      have hmem : x ∈ l := hx ▸ ser_mem hlen
      have hz := isS_size (hS x hmem)
      unfold sizeS at hz
      have eST : startJ x.2.start (sersOf l) = startJ 4294967295 (sersOf l) := by
        cases l with
        | nil => exact absurd rfl h0
        | cons y l =>
          have : y = x := hx
          subst this
          exact (startJ_cons (show y.2.start ≤ 4294967295 by omega)).symm
      have hL2 := fun k2 Q => Join_l2_ok (kk := kk) (k2 := k2) l hl hS x.2.start (by omega) Q
      rw [eST] at hL2
      by_cases hst : stepJ (sersOf l) = 0
      · rw [hst] at hL2
        have eE : errJ (sersOf l) = 13 := by unfold errJ; rw [if_neg eA, if_neg hne, if_pos hst]
        unfold joinR
        rw [eE, if_neg (by decide)]
        refine res_code (fn := series_Join) rfl rfl ?_
        simp (disch := first | assumption | omega | decide | (simp only [lens] <;> omega) | fail) only [go_sem, series_Join, e0, hx, serC]
        refine hL2 kk _ ?_ l.length 0 _ (by omega)
        simp (disch := first | assumption | omega | decide | (simp only [lens] <;> omega) | fail) only [go_sem]
      · have hst2 := stepJ_le (sersOf l)
        obtain ⟨c1, c2, c3, c4, c5, c6⟩ := begJ_bound h0 hS (by omega)
        have hb0 : startJ 4294967295 (sersOf l) - startJ 4294967295 (sersOf l) % (stepJ (sersOf l) : Int) = begJ (sersOf l) := rfl
        have hmod0 := Int.emod_nonneg (startJ 4294967295 (sersOf l)) (show (stepJ (sersOf l) : Int) ≠ 0 by omega)
        have hmodl := Int.emod_lt_of_pos (startJ 4294967295 (sersOf l)) (show 0 < (stepJ (sersOf l) : Int) by omega)
        have hup := res_up (n := endJ (sersOf l) - begJ (sersOf l)) (by_ := (stepJ (sersOf l) : Int)) (by omega) (by omega) (by omega) (by omega)
        have hmj : (endJ (sersOf l) - begJ (sersOf l) + (stepJ (sersOf l) : Int) - 1) / (stepJ (sersOf l) : Int) = manyJ (sersOf l) := rfl
        rw [hmj] at hup
        have hmn : 0 ≤ manyJ (sersOf l) := by unfold manyJ; exact Int.ediv_nonneg (by omega) (by omega)
        by_cases hm : 131072 < manyJ (sersOf l)
        · have eE : errJ (sersOf l) = 13 := by unfold errJ; rw [if_neg eA, if_neg hne, if_neg hst, if_pos hm]
          unfold joinR
          rw [eE, if_neg (by decide)]
          refine res_code (fn := series_Join) rfl rfl ?_
          simp (disch := first | assumption | omega | decide | (simp only [lens] <;> omega) | fail) only [go_sem, series_Join, e0, hx, serC]
          refine hL2 kk _ ?_ l.length 0 _ (by omega)
          simp (disch := first | assumption | omega | decide | (simp only [lens] <;> omega) | fail) only [go_sem, map_remI, hb0, hup]
        · have eE : errJ (sersOf l) = 0 := by unfold errJ; rw [if_neg eA, if_neg hne, if_neg hst, if_neg hm]
          unfold joinR
          rw [eE, if_pos rfl, if_neg h0, joinJ_eq]
          obtain ⟨n, hn⟩ := Int.eq_ofNat_of_zero_le hmn
          rw [hn] at hup hm
          rw [hn, Int.toNat_natCast]
          have hL1 := fun k2 Q => Join_l1_ok (k2 := k2) l hl hS (begJ (sersOf l)) (by omega) (stepJ (sersOf l)) n (by omega) (by omega) Q
          have hwl : (sers (joinW l (begJ (sersOf l)) (stepJ (sersOf l)) n)).length = l.length := by rw [sers_len]; unfold joinW; rw [List.length_map]
          refine res_code (fn := series_Join) rfl rfl ?_
          simp (disch := first | assumption | omega | decide | (simp only [lens] <;> omega) | fail) only [go_sem, series_Join, e0, hx, serC]
          refine hL2 kk _ ?_ l.length 0 _ (by omega)
          simp (disch := first | assumption | omega | decide | (simp only [lens] <;> omega) | fail) only [go_sem, map_remI, hb0, hup]
          refine hL1 kk _ ?_ l.length 0 _ (by omega)
          simp (disch := first | assumption | omega | decide | (simp only [lens] <;> omega) | fail) only [go_sem]
  · have hb : badJ l = true := by
      cases h : badJ l
      · exact absurd (badJ_all.1 h) hS
      · rfl
    have ha : (sersOf l).all isS = false := by
      cases h : (sersOf l).all isS
      · rfl
      · exact absurd (all_isS.1 h) hS
    rw [hb] at e0
    have eE : errJ (sersOf l) = 1 := by unfold errJ; rw [if_pos ha]
    unfold joinR
    rw [eE, if_neg (by decide)]
    refine res_code (fn := series_Join) rfl rfl ?_
    simp (disch := first | assumption | omega | decide | (simp only [lens] <;> omega) | fail) only [go_sem, series_Join, e0]
end Ab
namespace Ab
open Go (IntKind BinOp UnOp)
theorem rJoin_l3_ok {kk : SK} (l : List (SK × Ser)) (hl : l.length ≤ 1000000) (hv : ∀ x ∈ l, x.2.vals.length ≤ 1000000) (Q : Out → Prop)
    (hbad : (¬ ∀ x ∈ l, isS x.2 = true) → Q (.ret, [(2, .p (.sl .nil 5 [])), (3, .p (.int .i64 1))], []))
    (hQ : (∀ x ∈ l, isS x.2 = true) → Q (.nrm, [(0, .p (.sl kk 5 (sers l))), (4, .p (.int .i64 1)), (5, .p (.int .i64 (startJ 4294967295 (sersOf l)))), (6, .p (.int .i64 (endJ (sersOf l))))], [])) : ∀ (n i : Nat), i + n = l.length → (∀ x ∈ l.take i, isS x.2 = true) →
    Wp Γ r18_Join_l3 [(0, .p (.sl kk 5 (sers l))), (4, .p (.int .i64 1)), (5, .p (.int .i64 (startJ 4294967295 (sersOf (l.take i))))), (6, .p (.int .i64 (endJ (sersOf (l.take i))))), (7, .p (.int .i64 (i : Int)))] [] (InBlk [0, 4, 5, 6] 0 Q) := by
  intro n
  induction n with
  | zero =>
    intro i hi hS
    obtain rfl : i = l.length := by omega
    rw [List.take_length] at hS ⊢
    rw [W_loop (L := r18_Join_l3) rfl]
    simp (disch := first | assumption | omega | decide | (simp only [lens] <;> omega) | fail) only [go_sem]
    exact hQ hS
  | succ n ih =>
    intro i hi hS
    have hlt : i < l.length := by omega
    have hmem := ser_mem hlt
    have ih := ih (i + 1) (by omega)
    rw [sers_snoc hlt, startJ_snoc, endJ_snoc, take_snoc' noSer hlt] at ih
    obtain ⟨x, hx⟩ : ∃ x, l.getD i noSer = x := ⟨_, rfl⟩
    rw [hx] at hmem ih
    have eI := res_r18Is (kk := x.1) x.2 (by have := hv x hmem; omega)
    cases hs : isS x.2
    · rw [hs] at eI
      unfold Ser.pv at eI
      rw [W_loop (L := r18_Join_l3) rfl]
      simp (disch := first | assumption | omega | decide | (simp only [lens] <;> omega) | fail) only [go_sem, hx, serC, eI]
      exact hbad fun h => by rw [h x hmem] at hs; cases hs
    · rw [hs] at eI
      have hE := res_r18End (kk := x.1) x.2 hs
      unfold Ser.pv at eI hE
      rw [W_loop (L := r18_Join_l3) rfl]
      simp (disch := first | assumption | omega | decide | (simp only [lens] <;> omega) | fail) only [go_sem, hx, serC, eI, hE, min_max2]
      refine ih fun y hy => ?_
      rcases List.mem_append.1 hy with hy | hy
      · exact hS y hy
      · rw [List.mem_singleton] at hy; subst hy; exact hs
theorem stepJ_split {l : List (SK × Ser)} {i : Nat} : stepJ (sersOf l) = (sersOf (l.drop i)).foldl stepT (stepJ (sersOf (l.take i))) := by
  unfold stepJ sersOf
  rw [← List.foldl_append, ← List.map_append, List.take_append_drop]
theorem rJoin_l2_ok {kk : SK} (l : List (SK × Ser)) (hl : l.length ≤ 1000000) (hS : ∀ x ∈ l, isS x.2 = true) (a b : Int) (Q : Out → Prop)
    (hbad : stepJ (sersOf l) = 0 → Q (.ret, [(2, .p (.sl .nil 5 [])), (3, .p (.int .i64 13))], []))
    (hQ : stepJ (sersOf l) ≠ 0 → Q (.nrm, [(0, .p (.sl kk 5 (sers l))), (4, .p (.int .i64 (stepJ (sersOf l) : Nat))), (5, .p (.int .i64 a)), (6, .p (.int .i64 b))], [])) : ∀ (n i : Nat), i + n = l.length → stepJ (sersOf (l.take i)) ≠ 0 →
    Wp Γ r18_Join_l2 [(0, .p (.sl kk 5 (sers l))), (4, .p (.int .i64 (stepJ (sersOf (l.take i)) : Nat))), (5, .p (.int .i64 a)), (6, .p (.int .i64 b)), (8, .p (.int .i64 (i : Int)))] [] (InBlk [0, 4, 5, 6] 2 Q) := by
  intro n
  induction n with
  | zero =>
    intro i hi h0
    obtain rfl : i = l.length := by omega
    rw [List.take_length] at h0 ⊢
    rw [W_loop (L := r18_Join_l2) rfl]
    simp (disch := first | assumption | omega | decide | (simp only [lens] <;> omega) | fail) only [go_sem]
    exact hQ h0
  | succ n ih =>
    intro i hi h0
    have hlt : i < l.length := by omega
    have hmem := ser_mem hlt
    have ih := ih (i + 1) (by omega)
    have hsp := @stepJ_split l (i + 1)
    rw [sers_snoc hlt, stepJ_snoc] at ih hsp
    obtain ⟨x, hx⟩ : ∃ x, l.getD i noSer = x := ⟨_, rfl⟩
    rw [hx] at hmem ih hsp
    have hz := isS_size (hS x hmem)
    unfold sizeS at hz
    have hc := stepJ_le (sersOf (l.take i))
    obtain ⟨b', hb⟩ := Int.eq_ofNat_of_zero_le (show 0 ≤ x.2.step by omega)
    generalize stepJ (sersOf (l.take i)) = st at *
    have eG := res_gcd b' st (by omega) (by omega)
    have hg : 0 < Nat.gcd b' st := Nat.gcd_pos_of_pos_left st (by omega)
    have key := common_lt' (a := st) (b := b') (by omega) (by omega)
    have el := lcm_eq' (a := st) (b := b') (by omega)
    have e1 : stepT st x.2 = commonV st b' := by unfold stepT; rw [if_neg h0, hb]; rfl
    have q1 : x.2.step / (Nat.gcd b' st : Int) = ((b' / Nat.gcd b' st : Nat) : Int) := by rw [hb]; exact (Int.natCast_ediv _ _).symm
    have q2 : (16777216 : Int) / (st : Int) = ((16777216 / st : Nat) : Int) := (Int.natCast_ediv _ _).symm
    rw [← hb] at eG
    generalize Nat.gcd b' st = g at *
    by_cases h : Nat.lcm st b' ≤ 16777216
    · have hc2 : ¬ ((16777216 / st : Nat) : Int) < ((b' / g : Nat) : Int) := by
        intro hlt
        exact key.1 (by omega) h
      have em : (st : Int) * ((b' / g : Nat) : Int) = ((Nat.lcm st b' : Nat) : Int) := by rw [el, Int.natCast_mul]
      have e2 : commonV st b' = Nat.lcm st b' := by unfold commonV; rw [if_pos h]
      have hpos : 0 < Nat.lcm st b' := lcm_pos' (by omega) (by omega)
      rw [e1, e2] at ih
      rw [W_loop (L := r18_Join_l2) rfl]
      simp (disch := first | assumption | omega | decide | (simp only [lens] <;> omega) | fail) only [go_sem, hx, serC, eG, map_quoI, q1, q2, em]
      exact ih (by omega)
    · have hc2 : ((16777216 / st : Nat) : Int) < ((b' / g : Nat) : Int) := by
        have := key.2 h
        omega
      have e2 : commonV st b' = 0 := by unfold commonV; rw [if_neg h]
      rw [e1, e2, stepT_zero] at hsp
      rw [W_loop (L := r18_Join_l2) rfl]
      simp (disch := first | assumption | omega | decide | (simp only [lens] <;> omega) | fail) only [go_sem, hx, serC, eG, map_quoI, q1, q2]
      exact hbad hsp
theorem rJoin_l1_ok {kk : SK} (l : List (SK × Ser)) (hl : l.length ≤ 1000000) (hS : ∀ x ∈ l, isS x.2 = true) (b : Int) (hb : 0 ≤ b ∧ b ≤ 4294967295) (st n : Nat) (hst : 1 ≤ st ∧ st ≤ 16777216) (hn : n ≤ 131072) (Q : Out → Prop)
    (hQ : Q (.nrm, [(11, .own 0 l.length)], [.row false 5 (sers (joinW l b st n))])) : ∀ (k i : Nat), i + k = l.length →
    Wp Γ r18_Join_l1 [(0, .p (.sl kk 5 (sers l))), (4, .p (.int .i64 (st : Nat))), (5, .p (.int .i64 b)), (10, .p (.int .i64 (n : Nat))), (11, .own 0 i), (12, .p (.int .i64 (i : Int)))] [.row false 5 (sers (joinW (l.take i) b st n))] (InBlk [11] 4 Q) := by
  intro k
  induction k with
  | zero =>
    intro i hi
    obtain rfl : i = l.length := by omega
    rw [List.take_length]
    rw [W_loop (L := r18_Join_l1) rfl]
    simp (disch := first | assumption | omega | decide | (simp only [lens] <;> omega) | fail) only [go_sem]
    exact hQ
  | succ k ih =>
    intro i hi
    have hlt : i < l.length := by omega
    have hmem := ser_mem hlt
    have ih := ih (i + 1) (by omega)
    have hsn : joinW (l.take (i + 1)) b st n = joinW (l.take i) b st n ++ [(fitK n, fitS (l.getD i noSer).2 b st n)] := by
      unfold joinW
      rw [take_snoc' noSer hlt, List.map_append]; rfl
    rw [hsn] at ih
    obtain ⟨x, hx⟩ : ∃ x, l.getD i noSer = x := ⟨_, rfl⟩
    rw [hx] at hmem ih
    have hF := res_r18Fit (kk := x.1) x.2 (hS x hmem) b st hb.1 hb.2 (by omega) (by omega) n hn
    have hlen : (sers (joinW (l.take i) b st n)).length = i := by rw [sers_len]; unfold joinW; rw [List.length_map, List.length_take]; omega
    unfold Ser.pv at hF
    rw [W_loop (L := r18_Join_l1) rfl]
    simp (disch := first | assumption | omega | decide | (simp only [lens] <;> omega) | fail) only [go_sem, hx, serC, hF]
    exact ih
theorem res_r18Join {kk : SK} (l : List (SK × Ser)) (hl : l.length ≤ 1000000) (hv : ∀ x ∈ l, x.2.vals.length ≤ 1000000) : res Γ 231 [.sl kk 5 (sers l)] = some (joinR l) := by
  have hL3 := fun Q h1 h2 => rJoin_l3_ok (kk := kk) l hl hv Q h1 h2 l.length 0 (by omega) (by simp)
  have z1 : startJ 4294967295 (sersOf (l.take 0)) = 4294967295 := rfl
  have z2 : endJ (sersOf (l.take 0)) = 0 := rfl
  have z3 : stepJ (sersOf (l.take 0)) = 1 := rfl
  rw [z1, z2] at hL3
  by_cases hS : ∀ x ∈ l, isS x.2 = true
  · have eA : ¬ (sersOf l).all isS = false := by rw [all_isS.2 hS]; decide
    by_cases h0 : l = []
    · subst h0
      have eE : joinR [] = [.sl .nil 5 [], .int .i64 0] := rfl
      rw [eE]
      refine res_code (fn := r18_Join) rfl rfl ?_
      simp (disch := first | assumption | omega | decide | (simp only [lens] <;> omega) | fail) only [go_sem, r18_Join]
      refine hL3 _ (fun h => absurd hS h) (fun _ => ?_)
      simp (disch := first | assumption | omega | decide | (simp only [lens] <;> omega) | fail) only [go_sem]
    · have hne : sersOf l ≠ [] := by simpa [sersOf] using h0
      have hlen : 0 < l.length := List.length_pos_iff.2 h0
      have hL2 := fun a b Q h1 h2 => rJoin_l2_ok (kk := kk) l hl hS a b Q h1 h2 l.length 0 (by omega) (by rw [z3]; decide)
      rw [z3] at hL2
      by_cases hst : stepJ (sersOf l) = 0
      · have eE : errJ (sersOf l) = 13 := by unfold errJ; rw [if_neg eA, if_neg hne, if_pos hst]
        unfold joinR
        rw [eE, if_neg (by decide)]
        refine res_code (fn := r18_Join) rfl rfl ?_
        simp (disch := first | assumption | omega | decide | (simp only [lens] <;> omega) | fail) only [go_sem, r18_Join]
        refine hL3 _ (fun h => absurd hS h) (fun _ => ?_)
        simp (disch := first | assumption | omega | decide | (simp only [lens] <;> omega) | fail) only [go_sem]
        refine hL2 _ _ _ (fun _ => ?_) (fun h => absurd hst h)
        simp (disch := first | assumption | omega | decide | (simp only [lens] <;> omega) | fail) only [go_sem]
      · have hst2 := stepJ_le (sersOf l)
        obtain ⟨c1, c2, c3, c4, c5, c6⟩ := begJ_bound h0 hS (by omega)
        have hb0 : startJ 4294967295 (sersOf l) - startJ 4294967295 (sersOf l) % (stepJ (sersOf l) : Int) = begJ (sersOf l) := rfl
        have hmod0 := Int.emod_nonneg (startJ 4294967295 (sersOf l)) (show (stepJ (sersOf l) : Int) ≠ 0 by omega)
        have hmodl := Int.emod_lt_of_pos (startJ 4294967295 (sersOf l)) (show 0 < (stepJ (sersOf l) : Int) by omega)
        have hmj : (endJ (sersOf l) - begJ (sersOf l) + (stepJ (sersOf l) : Int) - 1) / (stepJ (sersOf l) : Int) = manyJ (sersOf l) := rfl
        have hmn : 0 ≤ manyJ (sersOf l) := by unfold manyJ; exact Int.ediv_nonneg (by omega) (by omega)
        by_cases hm : 131072 < manyJ (sersOf l)
        · have eE : errJ (sersOf l) = 13 := by unfold errJ; rw [if_neg eA, if_neg hne, if_neg hst, if_pos hm]
          unfold joinR
          rw [eE, if_neg (by decide)]
          refine res_code (fn := r18_Join) rfl rfl ?_
          simp (disch := first | assumption | omega | decide | (simp only [lens] <;> omega) | fail) only [go_sem, r18_Join]
          refine hL3 _ (fun h => absurd hS h) (fun _ => ?_)
          simp (disch := first | assumption | omega | decide | (simp only [lens] <;> omega) | fail) only [go_sem]
          refine hL2 _ _ _ (fun h => absurd h hst) (fun _ => ?_)
          simp (disch := first | assumption | omega | decide | (simp only [lens] <;> omega) | fail) only [go_sem, map_remI, hb0, map_quoI, hmj]
        · have eE : errJ (sersOf l) = 0 := by unfold errJ; rw [if_neg eA, if_neg hne, if_neg hst, if_neg hm]
          unfold joinR
          rw [eE, if_pos rfl, if_neg h0, joinJ_eq]
          obtain ⟨n, hn⟩ := Int.eq_ofNat_of_zero_le hmn
          rw [hn] at hmj hm
          rw [hn, Int.toNat_natCast]
          have hL1 := fun Q => rJoin_l1_ok (kk := kk) l hl hS (begJ (sersOf l)) (by omega) (stepJ (sersOf l)) n (by omega) (by omega) Q
          have hwl : (sers (joinW l (begJ (sersOf l)) (stepJ (sersOf l)) n)).length = l.length := by rw [sers_len]; unfold joinW; rw [List.length_map]
          refine res_code (fn := r18_Join) rfl rfl ?_
          simp (disch := first | assumption | omega | decide | (simp only [lens] <;> omega) | fail) only [go_sem, r18_Join]
          refine hL3 _ (fun h => absurd hS h) (fun _ => ?_)
          simp (disch := first | assumption | omega | decide | (simp only [lens] <;> omega) | fail) only [go_sem]
          refine hL2 _ _ _ (fun h => absurd h hst) (fun _ => ?_)
          simp (disch := first | assumption | omega | decide | (simp only [lens] <;> omega) | fail) only [go_sem, map_remI, hb0, map_quoI, hmj]
          refine hL1 _ ?_ l.length 0 (by omega)
          simp (disch := first | assumption | omega | decide | (simp only [lens] <;> omega) | fail) only [go_sem]
  · have ha : (sersOf l).all isS = false := by
      cases h : (sersOf l).all isS
      · rfl
      · exact absurd (all_isS.1 h) hS
    have eE : errJ (sersOf l) = 1 := by unfold errJ; rw [if_pos ha]
    unfold joinR
    rw [eE, if_neg (by decide)]
    refine res_code (fn := r18_Join) rfl rfl ?_
    simp (disch := first | assumption | omega | decide | (simp only [lens] <;> omega) | fail) only [go_sem, r18_Join]
    refine hL3 _ (fun _ => ?_) (fun h => absurd h hS)
    simp (disch := first | assumption | omega | decide | (simp only [lens] <;> omega) | fail) only [go_sem]
end Ab
namespace Ab
def trimN (s : List UInt8) : Nat → List UInt8
  | 0 => []
  | n + 1 => if s.getD n 0 = 48 then trimN s n else s.take (n + 1)
def trimB (s : List UInt8) : List UInt8 := trimN s s.length
def fracB (f : Nat) : List UInt8 := if f = 0 then [] else 46 :: trimB ((decB (1000000 + f)).drop 1)
def printB (v : Val) : List UInt8 :=
  if knV v = true then (if v.2 < 0 then [45] else []) ++ (decB (v.2.natAbs / 1000000) ++ fracB (v.2.natAbs % 1000000)) else [78, 111, 110, 101]
theorem trimN_len (s : List UInt8) : ∀ n, n ≤ s.length → (trimN s n).length ≤ n
  | 0, _ => by simp [trimN]
  | n + 1, h => by
    unfold trimN
    split
    · have := trimN_len s n (by omega); omega
    · rw [List.length_take]; omega
end Ab
namespace Ab
open Go (IntKind BinOp UnOp)
theorem decB_len20 {u : Nat} (h : u < 9223372036854775808) : (decB u).length ≤ 20 := decB_len 19 u (by omega)
end Ab
