import Derived.Test.YtgdkafbcchkplaaGreatDoorLMove
/- fwin.Move. -/
namespace Ab
open Go (IntKind BinOp UnOp)
/-- The values' row, made or not yet. -/
def valsA (id i : Nat) : AV := if i = 0 then .p (.sl .nil 2 []) else .own id i
theorem fwin_Move_l1_ok {kk : SK} (kind : Int) (nm nm' : List UInt8) (st sp cs : Int) (l : List Val) (n : Int) (h0 : 1 ≤ n) (h1 : n ≤ 131072) (hl : l.length < 1000000000)
    (hA : ∀ x : List Val, x.length < 1000000000 → res Γ 132 [.int .i64 kind, .sl kk.cut 2 (vpv x)] = some [.agg [.bool (aggV kind x).1, .int .i64 (aggV kind x).2]]) (B0 B1 : Blk) (Q : Out → Prop) : ∀ (k i : Nat), i + 1 + k = l.length →
    (Q (.nrm, [(6, .bx 1 0), (10, .bx 3 0)], [B0, B1, .box [.p (.str nm), .p (.int .i64 st), .p (.int .i64 sp), .p (.sl kk 2 (vpv l)), .p (.int .i64 cs), .p (.int .i64 n)], .box [.p (.str nm'), .p (.int .i64 st), .p (.int .i64 sp), .own 4 l.length, .p (.int .i64 cs)], .row false 2 (vpv (movV kind l n l.length))])) →
    Wp Γ fwin_Move_l1 [(6, .bx 1 0), (8, .p (.clo 125 [.ptr [.int .i64 kind]])), (9, .bx 2 0), (10, .bx 3 0), (49, .p (.int .i64 (l.length : Int))), (50, .p (.int .i64 ((i + 1 : Nat) : Int)))]
      [B0, B1, .box [.p (.str nm), .p (.int .i64 st), .p (.int .i64 sp), .p (.sl kk 2 (vpv l)), .p (.int .i64 cs), .p (.int .i64 n)], .box [.p (.str nm'), .p (.int .i64 st), .p (.int .i64 sp), .own 4 (i + 1), .p (.int .i64 cs)], .row false 2 (vpv (movV kind l n (i + 1)))] (InBlk [6, 10] 0 Q) := by
  intro k
  induction k with
  | zero =>
    intro i hi hQ
    have hi : i + 1 = l.length := by omega
    rw [hi]
    rw [W_loop (L := fwin_Move_l1) rfl]
    simp (disch := first | assumption | omega | decide | (simp only [List.length_cons, List.length_nil, List.length_append, List.length_replicate, List.length_map, List.length_set, List.length_take, List.length_drop, strs_len, ints_len, bools_len, aggs_len, vpv_len]; done) | (simp only [List.length_cons, List.length_nil, List.length_append, List.length_replicate, List.length_map, List.length_set, List.length_take, List.length_drop, strs_len, ints_len, bools_len, aggs_len, vpv_len]; omega)) only [go_sem]
    exact hQ
  | succ k ih =>
    intro i hi hQ
    have g1 := @movV_len kind l n (i + 1)
    have e := @movV_succ kind l n (i + 1)
    have a := res_at (kk := kk) nm st sp cs l n (i + 1) h0 h1 (by omega) hl
    have hw : (winV l n (i + 1)).length < 1000000000 := by unfold winV; simp; omega
    have c := res_does11 kind (winV l n (i + 1)) _ (hA _ hw)
    rw [W_loop (L := fwin_Move_l1) rfl]
    simp (disch := first | assumption | omega | decide | (simp only [List.length_cons, List.length_nil, List.length_append, List.length_replicate, List.length_map, List.length_set, List.length_take, List.length_drop, strs_len, ints_len, bools_len, aggs_len, vpv_len]; done) | (simp only [List.length_cons, List.length_nil, List.length_append, List.length_replicate, List.length_map, List.length_set, List.length_take, List.length_drop, strs_len, ints_len, bools_len, aggs_len, vpv_len]; omega)) only [go_sem, a, c]
    rw [← e]
    exact ih (i + 1) (by omega) hQ
theorem fwin_Move_l1_first {kk : SK} (kind : Int) (nm nm' : List UInt8) (st sp cs : Int) (l : List Val) (n : Int) (h0 : 1 ≤ n) (h1 : n ≤ 131072) (hl : l.length < 1000000000) (hne : l ≠ [])
    (hA : ∀ x : List Val, x.length < 1000000000 → res Γ 132 [.int .i64 kind, .sl kk.cut 2 (vpv x)] = some [.agg [.bool (aggV kind x).1, .int .i64 (aggV kind x).2]]) (B0 B1 : Blk) (Q : Out → Prop) :
    (Q (.nrm, [(6, .bx 1 0), (10, .bx 3 0)], [B0, B1, .box [.p (.str nm), .p (.int .i64 st), .p (.int .i64 sp), .p (.sl kk 2 (vpv l)), .p (.int .i64 cs), .p (.int .i64 n)], .box [.p (.str nm'), .p (.int .i64 st), .p (.int .i64 sp), .own 4 l.length, .p (.int .i64 cs)], .row false 2 (vpv (movV kind l n l.length))])) →
    Wp Γ fwin_Move_l1 [(6, .bx 1 0), (8, .p (.clo 125 [.ptr [.int .i64 kind]])), (9, .bx 2 0), (10, .bx 3 0), (49, .p (.int .i64 (l.length : Int))), (50, .p (.int .i64 0))]
      [B0, B1, .box [.p (.str nm), .p (.int .i64 st), .p (.int .i64 sp), .p (.sl kk 2 (vpv l)), .p (.int .i64 cs), .p (.int .i64 n)], .box [.p (.str nm'), .p (.int .i64 st), .p (.int .i64 sp), .p (.sl .nil 2 []), .p (.int .i64 cs)]] (InBlk [6, 10] 0 Q) := by
  intro hQ
  have hpos : 0 < l.length := List.length_pos_iff.2 hne
  have e := @movV_succ kind l n 0
  have a := res_at (kk := kk) nm st sp cs l n 0 h0 h1 hpos hl
  rw [show ((0 : Nat) : Int) = 0 from rfl] at a
  have hw : (winV l n 0).length < 1000000000 := by unfold winV; simp; omega
  have c := res_does11 kind (winV l n 0) _ (hA _ hw)
  rw [W_loop (L := fwin_Move_l1) rfl]
  simp (disch := first | assumption | omega | decide | (simp only [List.length_cons, List.length_nil, List.length_append, List.length_replicate, List.length_map, List.length_set, List.length_take, List.length_drop, strs_len, ints_len, bools_len, aggs_len, vpv_len]; done) | (simp only [List.length_cons, List.length_nil, List.length_append, List.length_replicate, List.length_map, List.length_set, List.length_take, List.length_drop, strs_len, ints_len, bools_len, aggs_len, vpv_len]; omega)) only [go_sem, a, c]
  have h := fwin_Move_l1_ok kind nm nm' st sp cs l n h0 h1 hl hA B0 B1 Q (l.length - 1) 0 (by omega) hQ
  rw [e] at h
  exact h

/-- A series that a window has gone along. -/
def moveS (nm : List UInt8) (kind : Int) (s : Ser) (n : Int) : Ser := ⟨labelB nm s.name (decB n.toNat), s.start, s.step, movV kind s.vals n s.vals.length, s.cons⟩
def moveK (s : Ser) : SK := if s.vals = [] then .nil else .any
def noneS : Ser := ⟨[], 0, 0, [], 0⟩
theorem decB_short {n : Int} (h : n ≤ 131072) : (decB n.toNat).length ≤ 6 := decB_len 5 n.toNat (by omega)
theorem res_fwinMove_no {kk : SK} {nm : List UInt8} {kind : Int} (s : Ser) (n : Int) (hl : s.vals.length ≤ 9223372036854775807) (hd : res Γ 112 [.str nm] = some [.clo 125 [.ptr [.int .i64 kind]]])
    (h : ¬ (isS s = true ∧ 1 ≤ n ∧ n ≤ 131072)) : res Γ 102 [.str nm, s.pv kk, .int .i64 n] = some [noneS.pv .nil, .bool false] := by
  have e := res_seriesIs (kk := kk) s hl
  unfold Ser.pv at e ⊢
  refine res_code (fn := fwin_Move) rfl rfl ?_
  cases hs : isS s
  · simp (disch := first | assumption | omega | decide | (simp only [List.length_cons, List.length_nil, List.length_append, List.length_replicate, List.length_map, List.length_set, List.length_take, List.length_drop, strs_len, ints_len, bools_len, aggs_len, vpv_len]; done) | (simp only [List.length_cons, List.length_nil, List.length_append, List.length_replicate, List.length_map, List.length_set, List.length_take, List.length_drop, strs_len, ints_len, bools_len, aggs_len, vpv_len]; omega)) only [go_sem, fwin_Move, hd, e, hs, noneS]
    rfl
  · repeat' (first | (simp (disch := first | assumption | omega | decide | (simp only [List.length_cons, List.length_nil, List.length_append, List.length_replicate, List.length_map, List.length_set, List.length_take, List.length_drop, strs_len, ints_len, bools_len, aggs_len, vpv_len]; done) | (simp only [List.length_cons, List.length_nil, List.length_append, List.length_replicate, List.length_map, List.length_set, List.length_take, List.length_drop, strs_len, ints_len, bools_len, aggs_len, vpv_len]; omega)) only [go_sem, fwin_Move, hd, e, hs, noneS]) | refine cond_split (fun hc => ?_) (fun hc => ?_) | refine gd_split_f (fun hc => ?_) (fun hc => ?_) | refine gd_split_t (fun hc => ?_) (fun hc => ?_))
    all_goals first | rfl | (exfalso; exact h ⟨hs, by omega, by omega⟩)
theorem res_fwinMove {kk : SK} {nm : List UInt8} {kind : Int} (s : Ser) (n : Int) (hl : s.vals.length ≤ 9223372036854775807) (hn : nm.length ≤ 100) (hd : res Γ 112 [.str nm] = some [.clo 125 [.ptr [.int .i64 kind]]])
    (hA : ∀ x : List Val, x.length < 1000000000 → res Γ 132 [.int .i64 kind, .sl kk.cut 2 (vpv x)] = some [.agg [.bool (aggV kind x).1, .int .i64 (aggV kind x).2]])
    (h : isS s = true ∧ 1 ≤ n ∧ n ≤ 131072) : res Γ 102 [.str nm, s.pv kk, .int .i64 n] = some [(moveS nm kind s n).pv (moveK s), .bool true] := by
  obtain ⟨hs, h0, h1⟩ := h
  have e := res_seriesIs (kk := kk) s hl
  have hsz : sizeS s := by
    unfold isS at hs
    simp only [Bool.and_eq_true, decide_eq_true_eq] at hs
    exact hs.1
  obtain ⟨s1, _, _, _, _, s2, _, _⟩ := hsz
  have d1 := decB_short h1
  obtain ⟨m, rfl⟩ : ∃ m : Nat, n = m := ⟨n.toNat, by omega⟩
  have d := res_decDigits m (by omega)
  have lb := res_seriesLabel (kk := .tight) nm s.name (decB m) (by omega) (by omega) (by rw [Int.toNat_natCast] at d1; omega)
  unfold Ser.pv at e ⊢
  refine res_code (fn := fwin_Move) rfl rfl ?_
  simp (disch := first | assumption | omega | decide | (simp only [List.length_cons, List.length_nil, List.length_append, List.length_replicate, List.length_map, List.length_set, List.length_take, List.length_drop, strs_len, ints_len, bools_len, aggs_len, vpv_len]; done) | (simp only [List.length_cons, List.length_nil, List.length_append, List.length_replicate, List.length_map, List.length_set, List.length_take, List.length_drop, strs_len, ints_len, bools_len, aggs_len, vpv_len]; omega)) only [go_sem, fwin_Move, hd, e, hs, d, lb]
  by_cases hne : s.vals = []
  · rw [W_loop (L := fwin_Move_l1) rfl]
    have hz : s.vals.length = 0 := by rw [hne]; rfl
    simp (disch := first | assumption | omega | decide | (simp only [List.length_cons, List.length_nil, List.length_append, List.length_replicate, List.length_map, List.length_set, List.length_take, List.length_drop, strs_len, ints_len, bools_len, aggs_len, vpv_len]; done) | (simp only [List.length_cons, List.length_nil, List.length_append, List.length_replicate, List.length_map, List.length_set, List.length_take, List.length_drop, strs_len, ints_len, bools_len, aggs_len, vpv_len]; omega)) only [go_sem, moveS, moveK]
    rw [if_pos hne, hne]
    rfl
  · refine fwin_Move_l1_first kind s.name (labelB nm s.name (decB m)) s.start s.step s.cons s.vals m h0 h1 (by omega) hne hA _ _ _ ?_
    have hw : (vpv (movV kind s.vals m s.vals.length)).length = s.vals.length := by rw [vpv_len, movV_len]
    simp (disch := first | assumption | omega | decide | (simp only [List.length_cons, List.length_nil, List.length_append, List.length_replicate, List.length_map, List.length_set, List.length_take, List.length_drop, strs_len, ints_len, bools_len, aggs_len, vpv_len]; done) | (simp only [List.length_cons, List.length_nil, List.length_append, List.length_replicate, List.length_map, List.length_set, List.length_take, List.length_drop, strs_len, ints_len, bools_len, aggs_len, vpv_len]; omega)) only [go_sem, moveS, moveK]
    rw [if_neg hne]
end Ab
