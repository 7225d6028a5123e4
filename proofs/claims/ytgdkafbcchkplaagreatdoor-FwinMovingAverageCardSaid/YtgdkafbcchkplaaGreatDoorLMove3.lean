import Derived.Test.YtgdkafbcchkplaaGreatDoorLMove2
/- The reference's Move. -/
namespace Ab
open Go (IntKind BinOp UnOp)
theorem res_windowMin {kk : SK} (l : List Val) (hl : l.length < 1000000000) : res Γ 106 [.str [109, 111, 118, 105, 110, 103, 77, 105, 110], .sl kk 2 (vpv l)] = some [.agg [.bool (aggV 5 l).1, .int .i64 (aggV 5 l).2], .bool true] := by
  have e := res_r6Of (kk := kk) 5 (by omega) l hl
  refine res_code (fn := r21_window) rfl rfl ?_
  simp (disch := first | assumption | omega | decide | (simp only [List.length_cons, List.length_nil, List.length_append, List.length_replicate, List.length_map, List.length_set, List.length_take, List.length_drop, strs_len, ints_len, bools_len, aggs_len, vpv_len]; done) | (simp only [List.length_cons, List.length_nil, List.length_append, List.length_replicate, List.length_map, List.length_set, List.length_take, List.length_drop, strs_len, ints_len, bools_len, aggs_len, vpv_len]; omega)) only [go_sem, r21_window, e]
theorem res_windowMax {kk : SK} (l : List Val) (hl : l.length < 1000000000) : res Γ 106 [.str [109, 111, 118, 105, 110, 103, 77, 97, 120], .sl kk 2 (vpv l)] = some [.agg [.bool (aggV 4 l).1, .int .i64 (aggV 4 l).2], .bool true] := by
  have e := res_r6Of (kk := kk) 4 (by omega) l hl
  refine res_code (fn := r21_window) rfl rfl ?_
  simp (disch := first | assumption | omega | decide | (simp only [List.length_cons, List.length_nil, List.length_append, List.length_replicate, List.length_map, List.length_set, List.length_take, List.length_drop, strs_len, ints_len, bools_len, aggs_len, vpv_len]; done) | (simp only [List.length_cons, List.length_nil, List.length_append, List.length_replicate, List.length_map, List.length_set, List.length_take, List.length_drop, strs_len, ints_len, bools_len, aggs_len, vpv_len]; omega)) only [go_sem, r21_window, e]
theorem res_windowSum {kk : SK} (l : List Val) (hl : l.length < 1000000000) : res Γ 106 [.str [109, 111, 118, 105, 110, 103, 83, 117, 109], .sl kk 2 (vpv l)] = some [.agg [.bool (aggV 2 l).1, .int .i64 (aggV 2 l).2], .bool true] := by
  have e := res_r6Of (kk := kk) 2 (by omega) l hl
  refine res_code (fn := r21_window) rfl rfl ?_
  simp (disch := first | assumption | omega | decide | (simp only [List.length_cons, List.length_nil, List.length_append, List.length_replicate, List.length_map, List.length_set, List.length_take, List.length_drop, strs_len, ints_len, bools_len, aggs_len, vpv_len]; done) | (simp only [List.length_cons, List.length_nil, List.length_append, List.length_replicate, List.length_map, List.length_set, List.length_take, List.length_drop, strs_len, ints_len, bools_len, aggs_len, vpv_len]; omega)) only [go_sem, r21_window, e]
theorem r21_Move_l1_ok {kk : SK} (kind : Int) (nm nm' nn : List UInt8) (st sp cs : Int) (l : List Val) (n : Int) (h0 : 1 ≤ n) (h1 : n ≤ 131072) (hl : l.length < 1000000000)
    (hA : ∀ (k : SK) (x : List Val), x.length < 1000000000 → res Γ 106 [.str nn, .sl k 2 (vpv x)] = some [.agg [.bool (aggV kind x).1, .int .i64 (aggV kind x).2], .bool true]) (a1 a2 a3 a4 a5 : PV) (Q : Out → Prop) : ∀ (k i : Nat) (env : Env) (X : Heap), i + 1 + k = l.length →
    norm [0, 2, 4, 6, 10, 11] true env X = some ([(0, .p (.str nn)), (2, .p (.int .i64 n)), (4, .bx 0 0), (6, .bx 1 0), (10, .bx 2 0), (11, .p (.int .i64 ((i + 1 : Nat) : Int)))],
      [.box [.p (.str nm), .p (.int .i64 st), .p (.int .i64 sp), .p (.sl kk 2 (vpv l)), .p (.int .i64 cs)], .box [.p a1, .p a2, .p a3, .p a4, .p a5], .box [.p (.str nm'), .p (.int .i64 st), .p (.int .i64 sp), .own 3 (i + 1), .p (.int .i64 cs)], .row false 2 (vpv (movV kind l n (i + 1)))]) →
    (∀ B0 T, Q (.nrm, [(6, .bx 1 0), (10, .bx 2 0)], B0 :: .box [.p a1, .p a2, .p a3, .p a4, .p a5] :: .box [.p (.str nm'), .p (.int .i64 st), .p (.int .i64 sp), .own 3 l.length, .p (.int .i64 cs)] :: .row false 2 (vpv (movV kind l n l.length)) :: T)) →
    Wp Γ r21_Move_l1 env X (InBlk [6, 10] 0 Q) := by
  intro k
  induction k with
  | zero =>
    intro i env X hi hX hQ
    have hi : i + 1 = l.length := by omega
    rw [hi] at hX
    rw [W_loop (L := r21_Move_l1) rfl]
    rw [hX]
    simp (disch := first | assumption | omega | decide | (simp only [List.length_cons, List.length_nil, List.length_append, List.length_replicate, List.length_map, List.length_set, List.length_take, List.length_drop, strs_len, ints_len, bools_len, aggs_len, vpv_len]; done) | (simp only [List.length_cons, List.length_nil, List.length_append, List.length_replicate, List.length_map, List.length_set, List.length_take, List.length_drop, strs_len, ints_len, bools_len, aggs_len, vpv_len]; omega)) only [go_sem]
    exact hQ _ []
  | succ k ih =>
    intro i env X hi hX hQ
    have g1 := @movV_len kind l n (i + 1)
    have e := @movV_succ kind l n (i + 1)
    have hw : (winV l n (i + 1)).length < 1000000000 := by unfold winV; simp; omega
    have c := hA kk.cut (winV l n (i + 1)) hw
    have g2 : (0 : Int) ≤ max 0 (((i + 1 : Nat) : Int) + 1 - n) := by omega
    have g3 : max 0 (((i + 1 : Nat) : Int) + 1 - n) ≤ ((i + 1 : Nat) : Int) + 1 := by omega
    have e4 : (((i + 1 : Nat) : Int) + 1).toNat = i + 1 + 1 := by omega
    have e5 : (l.take (i + 1 + 1)).drop (max 0 (((i + 1 : Nat) : Int) + 1 - n)).toNat = winV l n (i + 1) := rfl
    rw [W_loop (L := r21_Move_l1) rfl]
    rw [hX]
    simp (disch := first | assumption | omega | decide | (simp only [List.length_cons, List.length_nil, List.length_append, List.length_replicate, List.length_map, List.length_set, List.length_take, List.length_drop, strs_len, ints_len, bools_len, aggs_len, vpv_len]; done) | (simp only [List.length_cons, List.length_nil, List.length_append, List.length_replicate, List.length_map, List.length_set, List.length_take, List.length_drop, strs_len, ints_len, bools_len, aggs_len, vpv_len]; omega)) only [go_sem, e4, e5, c]
    refine ih (i + 1) _ _ (by omega) ?_ hQ
    rw [e]
    simp (disch := first | assumption | omega | decide | (simp only [List.length_cons, List.length_nil, List.length_append, List.length_replicate, List.length_map, List.length_set, List.length_take, List.length_drop, strs_len, ints_len, bools_len, aggs_len, vpv_len]; done) | (simp only [List.length_cons, List.length_nil, List.length_append, List.length_replicate, List.length_map, List.length_set, List.length_take, List.length_drop, strs_len, ints_len, bools_len, aggs_len, vpv_len]; omega)) only [go_sem]
    rfl
theorem r21_Move_l1_first {kk : SK} (kind : Int) (nm nm' nn : List UInt8) (st sp cs : Int) (l : List Val) (n : Int) (h0 : 1 ≤ n) (h1 : n ≤ 131072) (hl : l.length < 1000000000) (hne : l ≠ [])
    (hA : ∀ (k : SK) (x : List Val), x.length < 1000000000 → res Γ 106 [.str nn, .sl k 2 (vpv x)] = some [.agg [.bool (aggV kind x).1, .int .i64 (aggV kind x).2], .bool true]) (a1 a2 a3 a4 a5 b1 b2 : PV) (Q : Out → Prop) :
    (∀ B0 T, Q (.nrm, [(6, .bx 1 0), (10, .bx 2 0)], B0 :: .box [.p a1, .p a2, .p a3, .p a4, .p a5] :: .box [.p (.str nm'), .p (.int .i64 st), .p (.int .i64 sp), .own 3 l.length, .p (.int .i64 cs)] :: .row false 2 (vpv (movV kind l n l.length)) :: T)) →
    Wp Γ r21_Move_l1 [(0, .p (.str nn)), (2, .p (.int .i64 n)), (4, .bx 0 0), (6, .bx 1 0), (10, .bx 3 0), (11, .p (.int .i64 0))]
      [.box [.p (.str nm), .p (.int .i64 st), .p (.int .i64 sp), .p (.sl kk 2 (vpv l)), .p (.int .i64 cs)], .box [.p a1, .p a2, .p a3, .p a4, .p a5], .box [.p b1, .p b2], .box [.p (.str nm'), .p (.int .i64 st), .p (.int .i64 sp), .p (.sl .nil 2 []), .p (.int .i64 cs)]] (InBlk [6, 10] 0 Q) := by
  intro hQ
  have hpos : 0 < l.length := List.length_pos_iff.2 hne
  have e := @movV_succ kind l n 0
  have hw : (winV l n 0).length < 1000000000 := by unfold winV; simp; omega
  have c := hA kk.cut (winV l n 0) hw
  have e5 : l.take 1 = winV l n 0 := by
    unfold winV
    rw [show max 0 (((0 : Nat) : Int) + 1 - n) = 0 by omega]
    rfl
  rw [W_loop (L := r21_Move_l1) rfl]
  simp (disch := first | assumption | omega | decide | (simp only [List.length_cons, List.length_nil, List.length_append, List.length_replicate, List.length_map, List.length_set, List.length_take, List.length_drop, strs_len, ints_len, bools_len, aggs_len, vpv_len]; done) | (simp only [List.length_cons, List.length_nil, List.length_append, List.length_replicate, List.length_map, List.length_set, List.length_take, List.length_drop, strs_len, ints_len, bools_len, aggs_len, vpv_len]; omega)) only [go_sem, e5, c]
  refine r21_Move_l1_ok (kk := kk) kind nm nm' nn st sp cs l n h0 h1 hl hA a1 a2 a3 a4 a5 Q (l.length - 1) 0 _ _ (by omega) ?_ hQ
  rw [e]
  simp (disch := first | assumption | omega | decide | (simp only [List.length_cons, List.length_nil, List.length_append, List.length_replicate, List.length_map, List.length_set, List.length_take, List.length_drop, strs_len, ints_len, bools_len, aggs_len, vpv_len]; done) | (simp only [List.length_cons, List.length_nil, List.length_append, List.length_replicate, List.length_map, List.length_set, List.length_take, List.length_drop, strs_len, ints_len, bools_len, aggs_len, vpv_len]; omega)) only [go_sem]
  rfl

theorem res_r21Move_no {kk : SK} {nn : List UInt8} {kind : Int} (s : Ser) (n : Int) (hl : s.vals.length ≤ 9223372036854775807)
    (hA : ∀ (k : SK) (x : List Val), x.length < 1000000000 → res Γ 106 [.str nn, .sl k 2 (vpv x)] = some [.agg [.bool (aggV kind x).1, .int .i64 (aggV kind x).2], .bool true])
    (h : ¬ (isS s = true ∧ 1 ≤ n ∧ n ≤ 131072)) : res Γ 101 [.str nn, s.pv kk, .int .i64 n] = some [noneS.pv .nil, .bool false] := by
  have e := res_r18Is (kk := kk) s hl
  have c : res Γ 106 [.str nn, .sl .nil 2 []] = _ := hA .nil [] (by simp)
  unfold Ser.pv at e ⊢
  refine res_code (fn := r21_Move) rfl rfl ?_
  cases hs : isS s
  · simp (disch := first | assumption | omega | decide | (simp only [List.length_cons, List.length_nil, List.length_append, List.length_replicate, List.length_map, List.length_set, List.length_take, List.length_drop, strs_len, ints_len, bools_len, aggs_len, vpv_len]; done) | (simp only [List.length_cons, List.length_nil, List.length_append, List.length_replicate, List.length_map, List.length_set, List.length_take, List.length_drop, strs_len, ints_len, bools_len, aggs_len, vpv_len]; omega)) only [go_sem, r21_Move, e, hs, noneS, c]
    rfl
  · repeat' (first | (simp (disch := first | assumption | omega | decide | (simp only [List.length_cons, List.length_nil, List.length_append, List.length_replicate, List.length_map, List.length_set, List.length_take, List.length_drop, strs_len, ints_len, bools_len, aggs_len, vpv_len]; done) | (simp only [List.length_cons, List.length_nil, List.length_append, List.length_replicate, List.length_map, List.length_set, List.length_take, List.length_drop, strs_len, ints_len, bools_len, aggs_len, vpv_len]; omega)) only [go_sem, r21_Move, e, hs, noneS, c]) | refine cond_split (fun hc => ?_) (fun hc => ?_) | refine gd_split_f (fun hc => ?_) (fun hc => ?_) | refine gd_split_t (fun hc => ?_) (fun hc => ?_))
    all_goals first | rfl | (exfalso; exact h ⟨hs, by omega, by omega⟩)
theorem res_r21Move {kk : SK} {nn : List UInt8} {kind : Int} (s : Ser) (n : Int) (hl : s.vals.length ≤ 9223372036854775807) (hn : nn.length ≤ 100)
    (hA : ∀ (k : SK) (x : List Val), x.length < 1000000000 → res Γ 106 [.str nn, .sl k 2 (vpv x)] = some [.agg [.bool (aggV kind x).1, .int .i64 (aggV kind x).2], .bool true])
    (h : isS s = true ∧ 1 ≤ n ∧ n ≤ 131072) : res Γ 101 [.str nn, s.pv kk, .int .i64 n] = some [(moveS nn kind s n).pv (moveK s), .bool true] := by
  obtain ⟨hs, h0, h1⟩ := h
  have e := res_r18Is (kk := kk) s hl
  have c : res Γ 106 [.str nn, .sl .nil 2 []] = _ := hA .nil [] (by simp)
  have hsz : sizeS s := by
    unfold isS at hs
    simp only [Bool.and_eq_true, decide_eq_true_eq] at hs
    exact hs.1
  obtain ⟨s1, _, _, _, _, s2, _, _⟩ := hsz
  have d1 := decB_short h1
  obtain ⟨m, rfl⟩ : ∃ m : Nat, n = m := ⟨n.toNat, by omega⟩
  have d := res_r2Digits m (by omega)
  have lb := res_r18Label (kk := .tight) nn s.name (decB m) (by omega) (by omega) (by rw [Int.toNat_natCast] at d1; omega)
  unfold Ser.pv at e ⊢
  refine res_code (fn := r21_Move) rfl rfl ?_
  simp (disch := first | assumption | omega | decide | (simp only [List.length_cons, List.length_nil, List.length_append, List.length_replicate, List.length_map, List.length_set, List.length_take, List.length_drop, strs_len, ints_len, bools_len, aggs_len, vpv_len]; done) | (simp only [List.length_cons, List.length_nil, List.length_append, List.length_replicate, List.length_map, List.length_set, List.length_take, List.length_drop, strs_len, ints_len, bools_len, aggs_len, vpv_len]; omega)) only [go_sem, r21_Move, c, e, hs, d, lb]
  by_cases hne : s.vals = []
  · rw [W_loop (L := r21_Move_l1) rfl]
    have hz : s.vals.length = 0 := by rw [hne]; rfl
    simp (disch := first | assumption | omega | decide | (simp only [List.length_cons, List.length_nil, List.length_append, List.length_replicate, List.length_map, List.length_set, List.length_take, List.length_drop, strs_len, ints_len, bools_len, aggs_len, vpv_len]; done) | (simp only [List.length_cons, List.length_nil, List.length_append, List.length_replicate, List.length_map, List.length_set, List.length_take, List.length_drop, strs_len, ints_len, bools_len, aggs_len, vpv_len]; omega)) only [go_sem, moveS, moveK]
    rw [if_pos hne, hne]
    rfl
  · refine r21_Move_l1_first kind s.name (labelB nn s.name (decB m)) nn s.start s.step s.cons s.vals m h0 h1 (by omega) hne hA _ _ _ _ _ _ _ _ (fun B0 T => ?_)
    have hw : (vpv (movV kind s.vals m s.vals.length)).length = s.vals.length := by rw [vpv_len, movV_len]
    simp (disch := first | assumption | omega | decide | (simp only [List.length_cons, List.length_nil, List.length_append, List.length_replicate, List.length_map, List.length_set, List.length_take, List.length_drop, strs_len, ints_len, bools_len, aggs_len, vpv_len]; done) | (simp only [List.length_cons, List.length_nil, List.length_append, List.length_replicate, List.length_map, List.length_set, List.length_take, List.length_drop, strs_len, ints_len, bools_len, aggs_len, vpv_len]; omega)) only [go_sem, moveS, moveK]
    rw [if_neg hne]
end Ab
