import Derived.Test.YtgdkafbcchkplaaGreatDoorCode
import Derived.Test.YtgdkafbcchkplaaGreatDoorLVrow
import Derived.Test.YtgdkafbcchkplaaGreatDoorLDig
/- strings.Join, and names with texts in brackets. -/
namespace Ab
open Go (IntKind BinOp UnOp)
theorem strsIn_strs (l : List (List UInt8)) : strsIn (strs l) = some l := by
  induction l with
  | nil => rfl
  | cons a l ih => simp only [strs, List.map_cons, strsIn] at ih ⊢; rw [ih]; rfl
@[go_sem] theorem res_Join {kk : SK} (l : List (List UInt8)) (sep : List UInt8) (hl : l.length < 1000000000) (hj : (joinB sep l).length ≤ 1000000000) : res Γ 48 [.sl kk 1 (strs l), .str sep] = some [.str (joinB sep l)] := by
  refine res_of (RunP_prim (g := joinG) rfl ?_)
  simp only [joinG, strsIn_strs]
  rw [if_pos ⟨hj, by omega⟩]
theorem joinB_two (sep a b : List UInt8) : joinB sep [a, b] = a ++ sep ++ b := rfl
def labelB (nm a b : List UInt8) : List UInt8 := nm ++ 40 :: (a ++ 44 :: (b ++ [41]))
theorem res_seriesLabel {kk : SK} (nm a b : List UInt8) (h : nm.length ≤ 1000000) (ha : a.length ≤ 1000000) (hb : b.length ≤ 1000000) : res Γ 30 [.str nm, .sl kk 1 [.str a, .str b]] = some [.str (labelB nm a b)] := by
  have e : res Γ 48 [.sl kk 1 [.str a, .str b], .str [44]] = some [.str (a ++ 44 :: b)] := by
    have := res_Join (kk := kk) [a, b] [44] (by simp) (by rw [joinB_two]; simp; omega)
    rw [joinB_two, List.append_assoc] at this
    exact this
  refine res_code (fn := series_Label) rfl rfl ?_
  simp (disch := first | assumption | omega | decide | (simp only [List.length_cons, List.length_nil, List.length_append, List.length_replicate, List.length_map, List.length_set, List.length_take, List.length_drop, strs_len, ints_len, bools_len, aggs_len, vpv_len]; done) | (simp only [List.length_cons, List.length_nil, List.length_append, List.length_replicate, List.length_map, List.length_set, List.length_take, List.length_drop, strs_len, ints_len, bools_len, aggs_len, vpv_len]; omega)) only [go_sem, series_Label, e, labelB]
theorem res_r18Label {kk : SK} (nm a b : List UInt8) (h : nm.length ≤ 1000000) (ha : a.length ≤ 1000000) (hb : b.length ≤ 1000000) : res Γ 33 [.str nm, .sl kk 1 [.str a, .str b]] = some [.str (labelB nm a b)] := by
  have e1 : ([PV.str a, PV.str b] : List PV) = strs [a, b] := rfl
  rw [e1]
  refine res_code (fn := r18_Label) rfl rfl ?_
  simp (disch := first | assumption | omega | decide | (simp only [List.length_cons, List.length_nil, List.length_append, List.length_replicate, List.length_map, List.length_set, List.length_take, List.length_drop, strs_len, ints_len, bools_len, aggs_len, vpv_len]; done) | (simp only [List.length_cons, List.length_nil, List.length_append, List.length_replicate, List.length_map, List.length_set, List.length_take, List.length_drop, strs_len, ints_len, bools_len, aggs_len, vpv_len]; omega)) only [go_sem, r18_Label]
  rw [W_loop (L := r18_Label_l1) rfl]
  simp (disch := first | assumption | omega | decide | (simp only [List.length_cons, List.length_nil, List.length_append, List.length_replicate, List.length_map, List.length_set, List.length_take, List.length_drop, strs_len, ints_len, bools_len, aggs_len, vpv_len]; done) | (simp only [List.length_cons, List.length_nil, List.length_append, List.length_replicate, List.length_map, List.length_set, List.length_take, List.length_drop, strs_len, ints_len, bools_len, aggs_len, vpv_len]; omega)) only [go_sem]
  rw [W_loop (L := r18_Label_l1) rfl]
  simp (disch := first | assumption | omega | decide | (simp only [List.length_cons, List.length_nil, List.length_append, List.length_replicate, List.length_map, List.length_set, List.length_take, List.length_drop, strs_len, ints_len, bools_len, aggs_len, vpv_len]; done) | (simp only [List.length_cons, List.length_nil, List.length_append, List.length_replicate, List.length_map, List.length_set, List.length_take, List.length_drop, strs_len, ints_len, bools_len, aggs_len, vpv_len]; omega)) only [go_sem]
  rw [W_loop (L := r18_Label_l1) rfl]
  simp (disch := first | assumption | omega | decide | (simp only [List.length_cons, List.length_nil, List.length_append, List.length_replicate, List.length_map, List.length_set, List.length_take, List.length_drop, strs_len, ints_len, bools_len, aggs_len, vpv_len]; done) | (simp only [List.length_cons, List.length_nil, List.length_append, List.length_replicate, List.length_map, List.length_set, List.length_take, List.length_drop, strs_len, ints_len, bools_len, aggs_len, vpv_len]; omega)) only [go_sem, labelB]
end Ab
/- Windows that go along, whatever they are as one. -/
namespace Ab
open Go (IntKind BinOp UnOp)
def winV (l : List Val) (n : Int) (i : Nat) : List Val := (l.take (i + 1)).drop (max 0 ((i : Int) + 1 - n)).toNat
def movV (g : List Val → Val) (l : List Val) (n : Int) (i : Nat) : List Val := (List.range i).map fun j => g (winV l n j)
theorem movV_succ {g l n i} : movV g l n (i + 1) = movV g l n i ++ [g (winV l n i)] := by simp [movV, List.range_succ]
theorem movV_len {g l n i} : (movV g l n i).length = i := by simp [movV]
theorem res_does11 {kk : SK} (kind : Int) (l : List Val) (v : Val) (h : res Γ 132 [.int .i64 kind, .sl kk 2 (vpv l)] = some [.agg [.bool v.1, .int .i64 v.2]]) : res Γ 125 [.sl kk 2 (vpv l), .ptr [.int .i64 kind]] = some [.agg [.bool v.1, .int .i64 v.2]] := by
  refine res_code (fn := fwin_does_1_1) rfl rfl ?_
  simp (disch := first | assumption | omega | decide | (simp only [List.length_cons, List.length_nil, List.length_append, List.length_replicate, List.length_map, List.length_set, List.length_take, List.length_drop, strs_len, ints_len, bools_len, aggs_len, vpv_len]; done) | (simp only [List.length_cons, List.length_nil, List.length_append, List.length_replicate, List.length_map, List.length_set, List.length_take, List.length_drop, strs_len, ints_len, bools_len, aggs_len, vpv_len]; omega)) only [go_sem, fwin_does_1_1, h]
@[go_sem] theorem res_does1 (kind : Int) : res Γ 117 [.int .i64 kind] = some [.clo 125 [.ptr [.int .i64 kind]]] := by
  refine res_code (fn := fwin_does_1) rfl rfl ?_
  simp (disch := first | assumption | omega | decide | (simp only [List.length_cons, List.length_nil, List.length_append, List.length_replicate, List.length_map, List.length_set, List.length_take, List.length_drop, strs_len, ints_len, bools_len, aggs_len, vpv_len]; done) | (simp only [List.length_cons, List.length_nil, List.length_append, List.length_replicate, List.length_map, List.length_set, List.length_take, List.length_drop, strs_len, ints_len, bools_len, aggs_len, vpv_len]; omega)) only [go_sem, fwin_does_1]
theorem res_doesMin : res Γ 112 [.str [109, 111, 118, 105, 110, 103, 77, 105, 110]] = some [.clo 125 [.ptr [.int .i64 5]]] := by
  refine res_code (fn := fwin_does) rfl rfl ?_
  simp (disch := first | assumption | omega | decide | (simp only [List.length_cons, List.length_nil, List.length_append, List.length_replicate, List.length_map, List.length_set, List.length_take, List.length_drop, strs_len, ints_len, bools_len, aggs_len, vpv_len]; done) | (simp only [List.length_cons, List.length_nil, List.length_append, List.length_replicate, List.length_map, List.length_set, List.length_take, List.length_drop, strs_len, ints_len, bools_len, aggs_len, vpv_len]; omega)) only [go_sem, fwin_does]
theorem res_doesMax : res Γ 112 [.str [109, 111, 118, 105, 110, 103, 77, 97, 120]] = some [.clo 125 [.ptr [.int .i64 4]]] := by
  refine res_code (fn := fwin_does) rfl rfl ?_
  simp (disch := first | assumption | omega | decide | (simp only [List.length_cons, List.length_nil, List.length_append, List.length_replicate, List.length_map, List.length_set, List.length_take, List.length_drop, strs_len, ints_len, bools_len, aggs_len, vpv_len]; done) | (simp only [List.length_cons, List.length_nil, List.length_append, List.length_replicate, List.length_map, List.length_set, List.length_take, List.length_drop, strs_len, ints_len, bools_len, aggs_len, vpv_len]; omega)) only [go_sem, fwin_does]
theorem res_doesSum : res Γ 112 [.str [109, 111, 118, 105, 110, 103, 83, 117, 109]] = some [.clo 125 [.ptr [.int .i64 2]]] := by
  refine res_code (fn := fwin_does) rfl rfl ?_
  simp (disch := first | assumption | omega | decide | (simp only [List.length_cons, List.length_nil, List.length_append, List.length_replicate, List.length_map, List.length_set, List.length_take, List.length_drop, strs_len, ints_len, bools_len, aggs_len, vpv_len]; done) | (simp only [List.length_cons, List.length_nil, List.length_append, List.length_replicate, List.length_map, List.length_set, List.length_take, List.length_drop, strs_len, ints_len, bools_len, aggs_len, vpv_len]; omega)) only [go_sem, fwin_does]
theorem res_at {kk : SK} (nm : List UInt8) (st sp cs : Int) (l : List Val) (n : Int) (i : Nat) (h0 : 1 ≤ n) (h1 : n ≤ 131072) (hi : i < l.length) (hl : l.length < 1000000000) :
    res Γ 104 [.agg [.str nm, .int .i64 st, .int .i64 sp, .sl kk 2 (vpv l), .int .i64 cs, .int .i64 n], .int .i64 (i : Int)] = some [.sl kk.cut 2 (vpv (winV l n i))] := by
  have g1 : (0 : Int) ≤ max 0 ((i : Int) + 1 - n) := by omega
  have g2 : max 0 ((i : Int) + 1 - n) ≤ (i : Int) + 1 := by omega
  have e : ((i : Int) + 1).toNat = i + 1 := by omega
  refine res_code (fn := fwin_window_at) rfl rfl ?_
  simp (disch := first | assumption | omega | decide | (simp only [List.length_cons, List.length_nil, List.length_append, List.length_replicate, List.length_map, List.length_set, List.length_take, List.length_drop, strs_len, ints_len, bools_len, aggs_len, vpv_len]; done) | (simp only [List.length_cons, List.length_nil, List.length_append, List.length_replicate, List.length_map, List.length_set, List.length_take, List.length_drop, strs_len, ints_len, bools_len, aggs_len, vpv_len]; omega)) only [go_sem, fwin_window_at, winV, e]
end Ab
/- fwin.Move. -/
namespace Ab
open Go (IntKind BinOp UnOp)
/-- The values' row, made or not yet. -/
def valsA (id i : Nat) : AV := if i = 0 then .p (.sl .nil 2 []) else .own id i
theorem fwin_Move_l1_ok {kk : SK} (g : List Val → Val) (F : Nat) (caps : List PV) (nm nm' : List UInt8) (st sp cs : Int) (l : List Val) (n : Int) (h0 : 1 ≤ n) (h1 : n ≤ 131072) (hl : l.length < 1000000000)
    (hA : ∀ x : List Val, x.length < 1000000000 → res Γ F (.sl kk.cut 2 (vpv x) :: caps) = some [.agg [.bool (g x).1, .int .i64 (g x).2]]) (B0 B1 : Blk) (Q : Out → Prop) : ∀ (k i : Nat), i + 1 + k = l.length →
    (Q (.nrm, [(6, .bx 1 0), (10, .bx 3 0)], [B0, B1, .box [.p (.str nm), .p (.int .i64 st), .p (.int .i64 sp), .p (.sl kk 2 (vpv l)), .p (.int .i64 cs), .p (.int .i64 n)], .box [.p (.str nm'), .p (.int .i64 st), .p (.int .i64 sp), .own 4 l.length, .p (.int .i64 cs)], .row false 2 (vpv (movV g l n l.length))])) →
    Wp Γ fwin_Move_l1 [(6, .bx 1 0), (8, .p (.clo F caps)), (9, .bx 2 0), (10, .bx 3 0), (49, .p (.int .i64 (l.length : Int))), (50, .p (.int .i64 ((i + 1 : Nat) : Int)))]
      [B0, B1, .box [.p (.str nm), .p (.int .i64 st), .p (.int .i64 sp), .p (.sl kk 2 (vpv l)), .p (.int .i64 cs), .p (.int .i64 n)], .box [.p (.str nm'), .p (.int .i64 st), .p (.int .i64 sp), .own 4 (i + 1), .p (.int .i64 cs)], .row false 2 (vpv (movV g l n (i + 1)))] (InBlk [6, 10] 0 Q) := by
  intro k
  induction k with
  | zero =>
    intro i hi hQ
    have hi : i + 1 = l.length := by omega
    rw [hi]
    rw [W_loop (L := fwin_Move_l1) rfl]
    simp (disch := first | assumption | omega | decide | (simp only [List.length_cons, List.length_nil, List.length_append, List.length_replicate, List.length_map, List.length_set, List.length_take, List.length_drop, strs_len, ints_len, bools_len, aggs_len, vpv_len]; done) | (simp only [List.length_cons, List.length_nil, List.length_append, List.length_replicate, List.length_map, List.length_set, List.length_take, List.length_drop, strs_len, ints_len, bools_len, aggs_len, vpv_len]; omega)) only [go_sem]
    exact hQ
  | succ k ih =>
    intro i hi hQ
    have g1 := @movV_len g l n (i + 1)
    have e := @movV_succ g l n (i + 1)
    have a := res_at (kk := kk) nm st sp cs l n (i + 1) h0 h1 (by omega) hl
    have hw : (winV l n (i + 1)).length < 1000000000 := by unfold winV; simp; omega
    have c := hA (winV l n (i + 1)) hw
    rw [W_loop (L := fwin_Move_l1) rfl]
    simp (disch := first | assumption | omega | decide | (simp only [List.length_cons, List.length_nil, List.length_append, List.length_replicate, List.length_map, List.length_set, List.length_take, List.length_drop, strs_len, ints_len, bools_len, aggs_len, vpv_len]; done) | (simp only [List.length_cons, List.length_nil, List.length_append, List.length_replicate, List.length_map, List.length_set, List.length_take, List.length_drop, strs_len, ints_len, bools_len, aggs_len, vpv_len]; omega)) only [go_sem, a, c]
    rw [← e]
    exact ih (i + 1) (by omega) hQ
theorem fwin_Move_l1_first {kk : SK} (g : List Val → Val) (F : Nat) (caps : List PV) (nm nm' : List UInt8) (st sp cs : Int) (l : List Val) (n : Int) (h0 : 1 ≤ n) (h1 : n ≤ 131072) (hl : l.length < 1000000000) (hne : l ≠ [])
    (hA : ∀ x : List Val, x.length < 1000000000 → res Γ F (.sl kk.cut 2 (vpv x) :: caps) = some [.agg [.bool (g x).1, .int .i64 (g x).2]]) (B0 B1 : Blk) (Q : Out → Prop) :
    (Q (.nrm, [(6, .bx 1 0), (10, .bx 3 0)], [B0, B1, .box [.p (.str nm), .p (.int .i64 st), .p (.int .i64 sp), .p (.sl kk 2 (vpv l)), .p (.int .i64 cs), .p (.int .i64 n)], .box [.p (.str nm'), .p (.int .i64 st), .p (.int .i64 sp), .own 4 l.length, .p (.int .i64 cs)], .row false 2 (vpv (movV g l n l.length))])) →
    Wp Γ fwin_Move_l1 [(6, .bx 1 0), (8, .p (.clo F caps)), (9, .bx 2 0), (10, .bx 3 0), (49, .p (.int .i64 (l.length : Int))), (50, .p (.int .i64 0))]
      [B0, B1, .box [.p (.str nm), .p (.int .i64 st), .p (.int .i64 sp), .p (.sl kk 2 (vpv l)), .p (.int .i64 cs), .p (.int .i64 n)], .box [.p (.str nm'), .p (.int .i64 st), .p (.int .i64 sp), .p (.sl .nil 2 []), .p (.int .i64 cs)]] (InBlk [6, 10] 0 Q) := by
  intro hQ
  have hpos : 0 < l.length := List.length_pos_iff.2 hne
  have e := @movV_succ g l n 0
  have a := res_at (kk := kk) nm st sp cs l n 0 h0 h1 hpos hl
  rw [show ((0 : Nat) : Int) = 0 from rfl] at a
  have hw : (winV l n 0).length < 1000000000 := by unfold winV; simp; omega
  have c := hA (winV l n 0) hw
  rw [W_loop (L := fwin_Move_l1) rfl]
  simp (disch := first | assumption | omega | decide | (simp only [List.length_cons, List.length_nil, List.length_append, List.length_replicate, List.length_map, List.length_set, List.length_take, List.length_drop, strs_len, ints_len, bools_len, aggs_len, vpv_len]; done) | (simp only [List.length_cons, List.length_nil, List.length_append, List.length_replicate, List.length_map, List.length_set, List.length_take, List.length_drop, strs_len, ints_len, bools_len, aggs_len, vpv_len]; omega)) only [go_sem, a, c]
  have h := fwin_Move_l1_ok g F caps nm nm' st sp cs l n h0 h1 hl hA B0 B1 Q (l.length - 1) 0 (by omega) hQ
  rw [e] at h
  exact h

/-- A series that a window has gone along. -/
def moveS (nm : List UInt8) (g : List Val → Val) (s : Ser) (n : Int) : Ser := ⟨labelB nm s.name (decB n.toNat), s.start, s.step, movV g s.vals n s.vals.length, s.cons⟩
def moveK (s : Ser) : SK := if s.vals = [] then .nil else .any
def noneS : Ser := ⟨[], 0, 0, [], 0⟩
theorem decB_short {n : Int} (h : n ≤ 131072) : (decB n.toNat).length ≤ 6 := decB_len 5 n.toNat (by omega)
theorem res_fwinMove_no {kk : SK} {nm : List UInt8} {g : List Val → Val} {F : Nat} {caps : List PV} (s : Ser) (n : Int) (hl : s.vals.length ≤ 9223372036854775807) (hd : res Γ 112 [.str nm] = some [.clo F caps])
    (h : ¬ (isS s = true ∧ 1 ≤ n ∧ n ≤ 131072)) : res Γ 102 [.str nm, s.pv kk, .int .i64 n] = some [noneS.pv .nil, .bool false] := by
  have e := res_seriesIs (kk := kk) s hl
  unfold Ser.pv at e ⊢
  refine res_code (fn := fwin_Move) rfl rfl ?_
  cases hs : isS s
  · simp (disch := first | assumption | omega | decide | (simp only [List.length_cons, List.length_nil, List.length_append, List.length_replicate, List.length_map, List.length_set, List.length_take, List.length_drop, strs_len, ints_len, bools_len, aggs_len, vpv_len]; done) | (simp only [List.length_cons, List.length_nil, List.length_append, List.length_replicate, List.length_map, List.length_set, List.length_take, List.length_drop, strs_len, ints_len, bools_len, aggs_len, vpv_len]; omega)) only [go_sem, fwin_Move, hd, e, hs, noneS]
    rfl
  · repeat' (first | (simp (disch := first | assumption | omega | decide | (simp only [List.length_cons, List.length_nil, List.length_append, List.length_replicate, List.length_map, List.length_set, List.length_take, List.length_drop, strs_len, ints_len, bools_len, aggs_len, vpv_len]; done) | (simp only [List.length_cons, List.length_nil, List.length_append, List.length_replicate, List.length_map, List.length_set, List.length_take, List.length_drop, strs_len, ints_len, bools_len, aggs_len, vpv_len]; omega)) only [go_sem, fwin_Move, hd, e, hs, noneS]) | refine cond_split (fun hc => ?_) (fun hc => ?_) | refine gd_split_f (fun hc => ?_) (fun hc => ?_) | refine gd_split_t (fun hc => ?_) (fun hc => ?_))
    all_goals first | rfl | (exfalso; exact h ⟨hs, by omega, by omega⟩)
theorem res_fwinMove {kk : SK} {nm : List UInt8} {g : List Val → Val} {F : Nat} {caps : List PV} (s : Ser) (n : Int) (hl : s.vals.length ≤ 9223372036854775807) (hn : nm.length ≤ 100) (hd : res Γ 112 [.str nm] = some [.clo F caps])
    (hA : ∀ x : List Val, x.length < 1000000000 → res Γ F (.sl kk.cut 2 (vpv x) :: caps) = some [.agg [.bool (g x).1, .int .i64 (g x).2]])
    (h : isS s = true ∧ 1 ≤ n ∧ n ≤ 131072) : res Γ 102 [.str nm, s.pv kk, .int .i64 n] = some [(moveS nm g s n).pv (moveK s), .bool true] := by
  obtain ⟨hs, h0, h1⟩ := h
  have e := res_seriesIs (kk := kk) s hl
  have hsz : sizeS s := by
    unfold isS at hs
    simp only [Bool.and_eq_true, decide_eq_true_eq] at hs
    exact hs.1
  obtain ⟨s1, _, _, _, _, s2, _, _⟩ := hsz
  have d1 := decB_short h1
  obtain ⟨m, rfl⟩ : ∃ m : Nat, n = m := ⟨n.toNat, by omega⟩
  have d := res_decDigits m (by omega)
  have lb := res_seriesLabel (kk := .tight) nm s.name (decB m) (by omega) (by omega) (by rw [Int.toNat_natCast] at d1; omega)
  unfold Ser.pv at e ⊢
  refine res_code (fn := fwin_Move) rfl rfl ?_
  simp (disch := first | assumption | omega | decide | (simp only [List.length_cons, List.length_nil, List.length_append, List.length_replicate, List.length_map, List.length_set, List.length_take, List.length_drop, strs_len, ints_len, bools_len, aggs_len, vpv_len]; done) | (simp only [List.length_cons, List.length_nil, List.length_append, List.length_replicate, List.length_map, List.length_set, List.length_take, List.length_drop, strs_len, ints_len, bools_len, aggs_len, vpv_len]; omega)) only [go_sem, fwin_Move, hd, e, hs, d, lb]
  by_cases hne : s.vals = []
  · rw [W_loop (L := fwin_Move_l1) rfl]
    have hz : s.vals.length = 0 := by rw [hne]; rfl
    simp (disch := first | assumption | omega | decide | (simp only [List.length_cons, List.length_nil, List.length_append, List.length_replicate, List.length_map, List.length_set, List.length_take, List.length_drop, strs_len, ints_len, bools_len, aggs_len, vpv_len]; done) | (simp only [List.length_cons, List.length_nil, List.length_append, List.length_replicate, List.length_map, List.length_set, List.length_take, List.length_drop, strs_len, ints_len, bools_len, aggs_len, vpv_len]; omega)) only [go_sem, moveS, moveK]
    rw [if_pos hne, hne]
    rfl
  · refine fwin_Move_l1_first g F caps s.name (labelB nm s.name (decB m)) s.start s.step s.cons s.vals m h0 h1 (by omega) hne hA _ _ _ ?_
    have hw : (vpv (movV g s.vals m s.vals.length)).length = s.vals.length := by rw [vpv_len, movV_len]
    simp (disch := first | assumption | omega | decide | (simp only [List.length_cons, List.length_nil, List.length_append, List.length_replicate, List.length_map, List.length_set, List.length_take, List.length_drop, strs_len, ints_len, bools_len, aggs_len, vpv_len]; done) | (simp only [List.length_cons, List.length_nil, List.length_append, List.length_replicate, List.length_map, List.length_set, List.length_take, List.length_drop, strs_len, ints_len, bools_len, aggs_len, vpv_len]; omega)) only [go_sem, moveS, moveK]
    rw [if_neg hne]
end Ab
/- The reference's Move. -/
namespace Ab
open Go (IntKind BinOp UnOp)
theorem r21_Move_l1_ok {kk : SK} (g : List Val → Val) (nm nm' nn : List UInt8) (st sp cs : Int) (l : List Val) (n : Int) (h0 : 1 ≤ n) (h1 : n ≤ 131072) (hl : l.length < 1000000000)
    (hA : ∀ (k : SK) (x : List Val), x.length < 1000000000 → res Γ 106 [.str nn, .sl k 2 (vpv x)] = some [.agg [.bool (g x).1, .int .i64 (g x).2], .bool true]) (a1 a2 a3 a4 a5 : PV) (Q : Out → Prop) : ∀ (k i : Nat) (env : Env) (X : Heap), i + 1 + k = l.length →
    norm [0, 2, 4, 6, 10, 11] true env X = some ([(0, .p (.str nn)), (2, .p (.int .i64 n)), (4, .bx 0 0), (6, .bx 1 0), (10, .bx 2 0), (11, .p (.int .i64 ((i + 1 : Nat) : Int)))],
      [.box [.p (.str nm), .p (.int .i64 st), .p (.int .i64 sp), .p (.sl kk 2 (vpv l)), .p (.int .i64 cs)], .box [.p a1, .p a2, .p a3, .p a4, .p a5], .box [.p (.str nm'), .p (.int .i64 st), .p (.int .i64 sp), .own 3 (i + 1), .p (.int .i64 cs)], .row false 2 (vpv (movV g l n (i + 1)))]) →
    (∀ B0 T, Q (.nrm, [(6, .bx 1 0), (10, .bx 2 0)], B0 :: .box [.p a1, .p a2, .p a3, .p a4, .p a5] :: .box [.p (.str nm'), .p (.int .i64 st), .p (.int .i64 sp), .own 3 l.length, .p (.int .i64 cs)] :: .row false 2 (vpv (movV g l n l.length)) :: T)) →
    Wp Γ r21_Move_l1 env X (InBlk [6, 10] 0 Q) := by
  intro k
  induction k with
  | zero =>
    intro i env X hi hX hQ
    have hi : i + 1 = l.length := by omega
    rw [hi] at hX
    rw [W_loop (L := r21_Move_l1) rfl]
    rw [hX]
    simp (disch := first | assumption | omega | decide | (simp only [List.length_cons, List.length_nil, List.length_append, List.length_replicate, List.length_map, List.length_set, List.length_take, List.length_drop, strs_len, ints_len, bools_len, aggs_len, vpv_len]; done) | (simp only [List.length_cons, List.length_nil, List.length_append, List.length_replicate, List.length_map, List.length_set, List.length_take, List.length_drop, strs_len, ints_len, bools_len, aggs_len, vpv_len]; omega)) only [go_sem]
    exact hQ _ []
  | succ k ih =>
    intro i env X hi hX hQ
    have g1 := @movV_len g l n (i + 1)
    have e := @movV_succ g l n (i + 1)
    have hw : (winV l n (i + 1)).length < 1000000000 := by unfold winV; simp; omega
    have c := hA kk.cut (winV l n (i + 1)) hw
    have g2 : (0 : Int) ≤ max 0 (((i + 1 : Nat) : Int) + 1 - n) := by omega
    have g3 : max 0 (((i + 1 : Nat) : Int) + 1 - n) ≤ ((i + 1 : Nat) : Int) + 1 := by omega
    have e4 : (((i + 1 : Nat) : Int) + 1).toNat = i + 1 + 1 := by omega
    have e5 : (l.take (i + 1 + 1)).drop (max 0 (((i + 1 : Nat) : Int) + 1 - n)).toNat = winV l n (i + 1) := rfl
    rw [W_loop (L := r21_Move_l1) rfl]
    rw [hX]
    simp (disch := first | assumption | omega | decide | (simp only [List.length_cons, List.length_nil, List.length_append, List.length_replicate, List.length_map, List.length_set, List.length_take, List.length_drop, strs_len, ints_len, bools_len, aggs_len, vpv_len]; done) | (simp only [List.length_cons, List.length_nil, List.length_append, List.length_replicate, List.length_map, List.length_set, List.length_take, List.length_drop, strs_len, ints_len, bools_len, aggs_len, vpv_len]; omega)) only [go_sem, e4, e5, c]
    refine ih (i + 1) _ _ (by omega) ?_ hQ
    rw [e]
    simp (disch := first | assumption | omega | decide | (simp only [List.length_cons, List.length_nil, List.length_append, List.length_replicate, List.length_map, List.length_set, List.length_take, List.length_drop, strs_len, ints_len, bools_len, aggs_len, vpv_len]; done) | (simp only [List.length_cons, List.length_nil, List.length_append, List.length_replicate, List.length_map, List.length_set, List.length_take, List.length_drop, strs_len, ints_len, bools_len, aggs_len, vpv_len]; omega)) only [go_sem]
    rfl
theorem r21_Move_l1_first {kk : SK} (g : List Val → Val) (nm nm' nn : List UInt8) (st sp cs : Int) (l : List Val) (n : Int) (h0 : 1 ≤ n) (h1 : n ≤ 131072) (hl : l.length < 1000000000) (hne : l ≠ [])
    (hA : ∀ (k : SK) (x : List Val), x.length < 1000000000 → res Γ 106 [.str nn, .sl k 2 (vpv x)] = some [.agg [.bool (g x).1, .int .i64 (g x).2], .bool true]) (a1 a2 a3 a4 a5 b1 b2 : PV) (Q : Out → Prop) :
    (∀ B0 T, Q (.nrm, [(6, .bx 1 0), (10, .bx 2 0)], B0 :: .box [.p a1, .p a2, .p a3, .p a4, .p a5] :: .box [.p (.str nm'), .p (.int .i64 st), .p (.int .i64 sp), .own 3 l.length, .p (.int .i64 cs)] :: .row false 2 (vpv (movV g l n l.length)) :: T)) →
    Wp Γ r21_Move_l1 [(0, .p (.str nn)), (2, .p (.int .i64 n)), (4, .bx 0 0), (6, .bx 1 0), (10, .bx 3 0), (11, .p (.int .i64 0))]
      [.box [.p (.str nm), .p (.int .i64 st), .p (.int .i64 sp), .p (.sl kk 2 (vpv l)), .p (.int .i64 cs)], .box [.p a1, .p a2, .p a3, .p a4, .p a5], .box [.p b1, .p b2], .box [.p (.str nm'), .p (.int .i64 st), .p (.int .i64 sp), .p (.sl .nil 2 []), .p (.int .i64 cs)]] (InBlk [6, 10] 0 Q) := by
  intro hQ
  have hpos : 0 < l.length := List.length_pos_iff.2 hne
  have e := @movV_succ g l n 0
  have hw : (winV l n 0).length < 1000000000 := by unfold winV; simp; omega
  have c := hA kk.cut (winV l n 0) hw
  have e5 : l.take 1 = winV l n 0 := by
    unfold winV
    rw [show max 0 (((0 : Nat) : Int) + 1 - n) = 0 by omega]
    rfl
  rw [W_loop (L := r21_Move_l1) rfl]
  simp (disch := first | assumption | omega | decide | (simp only [List.length_cons, List.length_nil, List.length_append, List.length_replicate, List.length_map, List.length_set, List.length_take, List.length_drop, strs_len, ints_len, bools_len, aggs_len, vpv_len]; done) | (simp only [List.length_cons, List.length_nil, List.length_append, List.length_replicate, List.length_map, List.length_set, List.length_take, List.length_drop, strs_len, ints_len, bools_len, aggs_len, vpv_len]; omega)) only [go_sem, e5, c]
  refine r21_Move_l1_ok (kk := kk) g nm nm' nn st sp cs l n h0 h1 hl hA a1 a2 a3 a4 a5 Q (l.length - 1) 0 _ _ (by omega) ?_ hQ
  rw [e]
  simp (disch := first | assumption | omega | decide | (simp only [List.length_cons, List.length_nil, List.length_append, List.length_replicate, List.length_map, List.length_set, List.length_take, List.length_drop, strs_len, ints_len, bools_len, aggs_len, vpv_len]; done) | (simp only [List.length_cons, List.length_nil, List.length_append, List.length_replicate, List.length_map, List.length_set, List.length_take, List.length_drop, strs_len, ints_len, bools_len, aggs_len, vpv_len]; omega)) only [go_sem]
  rfl

theorem res_r21Move_no {kk : SK} {nn : List UInt8} {g : List Val → Val} (s : Ser) (n : Int) (hl : s.vals.length ≤ 9223372036854775807)
    (hA : ∀ (k : SK) (x : List Val), x.length < 1000000000 → res Γ 106 [.str nn, .sl k 2 (vpv x)] = some [.agg [.bool (g x).1, .int .i64 (g x).2], .bool true])
    (h : ¬ (isS s = true ∧ 1 ≤ n ∧ n ≤ 131072)) : res Γ 101 [.str nn, s.pv kk, .int .i64 n] = some [noneS.pv .nil, .bool false] := by
  have e := res_r18Is (kk := kk) s hl
  have c : res Γ 106 [.str nn, .sl .nil 2 []] = _ := hA .nil [] (by simp)
  unfold Ser.pv at e ⊢
  refine res_code (fn := r21_Move) rfl rfl ?_
  cases hs : isS s
  · simp (disch := first | assumption | omega | decide | (simp only [List.length_cons, List.length_nil, List.length_append, List.length_replicate, List.length_map, List.length_set, List.length_take, List.length_drop, strs_len, ints_len, bools_len, aggs_len, vpv_len]; done) | (simp only [List.length_cons, List.length_nil, List.length_append, List.length_replicate, List.length_map, List.length_set, List.length_take, List.length_drop, strs_len, ints_len, bools_len, aggs_len, vpv_len]; omega)) only [go_sem, r21_Move, e, hs, noneS, c]
    rfl
  · repeat' (first | (simp (disch := first | assumption | omega | decide | (simp only [List.length_cons, List.length_nil, List.length_append, List.length_replicate, List.length_map, List.length_set, List.length_take, List.length_drop, strs_len, ints_len, bools_len, aggs_len, vpv_len]; done) | (simp only [List.length_cons, List.length_nil, List.length_append, List.length_replicate, List.length_map, List.length_set, List.length_take, List.length_drop, strs_len, ints_len, bools_len, aggs_len, vpv_len]; omega)) only [go_sem, r21_Move, e, hs, noneS, c]) | refine cond_split (fun hc => ?_) (fun hc => ?_) | refine gd_split_f (fun hc => ?_) (fun hc => ?_) | refine gd_split_t (fun hc => ?_) (fun hc => ?_))
    all_goals first | rfl | (exfalso; exact h ⟨hs, by omega, by omega⟩)
theorem res_r21Move {kk : SK} {nn : List UInt8} {g : List Val → Val} (s : Ser) (n : Int) (hl : s.vals.length ≤ 9223372036854775807) (hn : nn.length ≤ 100)
    (hA : ∀ (k : SK) (x : List Val), x.length < 1000000000 → res Γ 106 [.str nn, .sl k 2 (vpv x)] = some [.agg [.bool (g x).1, .int .i64 (g x).2], .bool true])
    (h : isS s = true ∧ 1 ≤ n ∧ n ≤ 131072) : res Γ 101 [.str nn, s.pv kk, .int .i64 n] = some [(moveS nn g s n).pv (moveK s), .bool true] := by
  obtain ⟨hs, h0, h1⟩ := h
  have e := res_r18Is (kk := kk) s hl
  have c : res Γ 106 [.str nn, .sl .nil 2 []] = _ := hA .nil [] (by simp)
  have hsz : sizeS s := by
    unfold isS at hs
    simp only [Bool.and_eq_true, decide_eq_true_eq] at hs
    exact hs.1
  obtain ⟨s1, _, _, _, _, s2, _, _⟩ := hsz
  have d1 := decB_short h1
  obtain ⟨m, rfl⟩ : ∃ m : Nat, n = m := ⟨n.toNat, by omega⟩
  have d := res_r2Digits m (by omega)
  have lb := res_r18Label (kk := .tight) nn s.name (decB m) (by omega) (by omega) (by rw [Int.toNat_natCast] at d1; omega)
  unfold Ser.pv at e ⊢
  refine res_code (fn := r21_Move) rfl rfl ?_
  simp (disch := first | assumption | omega | decide | (simp only [List.length_cons, List.length_nil, List.length_append, List.length_replicate, List.length_map, List.length_set, List.length_take, List.length_drop, strs_len, ints_len, bools_len, aggs_len, vpv_len]; done) | (simp only [List.length_cons, List.length_nil, List.length_append, List.length_replicate, List.length_map, List.length_set, List.length_take, List.length_drop, strs_len, ints_len, bools_len, aggs_len, vpv_len]; omega)) only [go_sem, r21_Move, c, e, hs, d, lb]
  by_cases hne : s.vals = []
  · rw [W_loop (L := r21_Move_l1) rfl]
    have hz : s.vals.length = 0 := by rw [hne]; rfl
    simp (disch := first | assumption | omega | decide | (simp only [List.length_cons, List.length_nil, List.length_append, List.length_replicate, List.length_map, List.length_set, List.length_take, List.length_drop, strs_len, ints_len, bools_len, aggs_len, vpv_len]; done) | (simp only [List.length_cons, List.length_nil, List.length_append, List.length_replicate, List.length_map, List.length_set, List.length_take, List.length_drop, strs_len, ints_len, bools_len, aggs_len, vpv_len]; omega)) only [go_sem, moveS, moveK]
    rw [if_pos hne, hne]
    rfl
  · refine r21_Move_l1_first g s.name (labelB nn s.name (decB m)) nn s.start s.step s.cons s.vals m h0 h1 (by omega) hne hA _ _ _ _ _ _ _ _ (fun B0 T => ?_)
    have hw : (vpv (movV g s.vals m s.vals.length)).length = s.vals.length := by rw [vpv_len, movV_len]
    simp (disch := first | assumption | omega | decide | (simp only [List.length_cons, List.length_nil, List.length_append, List.length_replicate, List.length_map, List.length_set, List.length_take, List.length_drop, strs_len, ints_len, bools_len, aggs_len, vpv_len]; done) | (simp only [List.length_cons, List.length_nil, List.length_append, List.length_replicate, List.length_map, List.length_set, List.length_take, List.length_drop, strs_len, ints_len, bools_len, aggs_len, vpv_len]; omega)) only [go_sem, moveS, moveK]
    rw [if_neg hne]
end Ab
/- Two halves' products and quotients (the law of math/bits.Mul64 and math/bits.Div64), in plain Lean. -/
namespace Ab
/-- The guess of one digit is right when it is not too much. -/
theorem dig_exit {Y n1 n0 U u q r Q : Int} (hY : Y = n1 * 4294967296 + n0) (hU : U = q * n1 + r) (hle : q * n0 ≤ 4294967296 * r + u) (hQ : U * 4294967296 + u < (Q + 1) * Y) (hq : Q ≤ q) (h0 : 0 < Y) : q = Q := by
  have e : q * Y = q * n1 * 4294967296 + q * n0 := by rw [hY, Int.mul_add, ← Int.mul_assoc]
  have l : q * Y < (Q + 1) * Y := by omega
  have := Int.lt_of_mul_lt_mul_right l (Int.le_of_lt h0)
  omega
/-- .. too much: one less is not too little. -/
theorem dig_down {Y n1 n0 U u q r Q : Int} (hY : Y = n1 * 4294967296 + n0) (hU : U = q * n1 + r) (hgt : 4294967296 * r + u < q * n0) (hQ : Q * Y ≤ U * 4294967296 + u) (h0 : 0 < Y) : Q ≤ q - 1 := by
  have e : q * Y = q * n1 * 4294967296 + q * n0 := by rw [hY, Int.mul_add, ← Int.mul_assoc]
  have l : Q * Y < q * Y := by omega
  have := Int.lt_of_mul_lt_mul_right l (Int.le_of_lt h0)
  omega
/-- A digit is less than the base. -/
theorem dig_lt {Y U u Q : Int} (hU : U < Y) (hu : u < 4294967296) (hQ : Q * Y ≤ U * 4294967296 + u) (h0 : 0 < Y) : Q < 4294967296 := by
  have l : Q * Y < 4294967296 * Y := by omega
  exact Int.lt_of_mul_lt_mul_right l (Int.le_of_lt h0)
/-- The first guess. -/
theorem dig_first {Y n1 n0 U u Q : Int} (hY : Y = n1 * 4294967296 + n0) (h1 : 0 < n1) (hn : 0 ≤ n0) (hu : u < 4294967296) (hQ0 : 0 ≤ Q) (hQ : Q * Y ≤ U * 4294967296 + u) : Q ≤ U / n1 := by
  have e : Q * Y = Q * n1 * 4294967296 + Q * n0 := by rw [hY, Int.mul_add, ← Int.mul_assoc]
  have p : 0 ≤ Q * n0 := Int.mul_nonneg hQ0 hn
  have l : Q * n1 ≤ U := by omega
  exact (Int.le_ediv_iff_mul_le h1).2 l
/-- The sum is great: the guess is right. -/
theorem dig_break {Y n1 n0 U u q r Q : Int} (hY : Y = n1 * 4294967296 + n0) (h1 : 0 < n1) (hn : n0 < 4294967296) (hn0 : 0 ≤ n0) (hU : U = q * n1 + r) (hr : 4294967296 ≤ r) (hUY : U < Y) (hu : 0 ≤ u) (hQ : U * 4294967296 + u < (Q + 1) * Y) (hq : Q ≤ q) (hq0 : 0 ≤ q) : q = Q ∧ q < 4294967296 := by
  have l : q * n1 < 4294967296 * n1 := by omega
  have lq := Int.lt_of_mul_lt_mul_right l (Int.le_of_lt h1)
  have m : q * n0 ≤ 4294967296 * n0 := Int.mul_le_mul_of_nonneg_right (by omega) hn0
  have hp : 0 < n1 * 4294967296 := by omega
  exact ⟨dig_exit hY hU (by omega) hQ hq (by omega), lq⟩
theorem quot_bounds {A Y : Int} (h0 : 0 < Y) : A / Y * Y ≤ A ∧ A < (A / Y + 1) * Y := by
  have e := Int.mul_ediv_add_emod A Y
  have m0 := Int.emod_nonneg A (Int.ne_of_gt h0)
  have m1 := Int.emod_lt_of_pos A h0
  rw [Int.mul_comm] at e
  rw [Int.add_mul]
  omega
/-- Product of two words, by halves. -/
theorem mul_halves {x y : Int} (hx : 0 ≤ x ∧ x < 18446744073709551616) (hy : 0 ≤ y ∧ y < 18446744073709551616) :
    let x0 := x % 4294967296; let x1 := x / 4294967296; let y0 := y % 4294967296; let y1 := y / 4294967296
    let w0 := x0 * y0; let t := x1 * y0 + w0 / 4294967296; let w1 := t % 4294967296 + x0 * y1
    (0 ≤ w0 ∧ w0 ≤ 18446744065119617025) ∧ (0 ≤ x1 * y0 ∧ x1 * y0 ≤ 18446744065119617025) ∧ (0 ≤ x0 * y1 ∧ x0 * y1 ≤ 18446744065119617025) ∧ (0 ≤ x1 * y1 ∧ x1 * y1 ≤ 18446744065119617025) ∧
      x1 * y1 + t / 4294967296 + w1 / 4294967296 = x * y / 18446744073709551616 ∧ (0 ≤ x * y / 18446744073709551616 ∧ x * y / 18446744073709551616 < 18446744073709551616) := by
  intro x0 x1 y0 y1 w0 t w1
  have b : ∀ a c : Int, 0 ≤ a → a ≤ 4294967295 → 0 ≤ c → c ≤ 4294967295 → 0 ≤ a * c ∧ a * c ≤ 18446744065119617025 := fun a c h1 h2 h3 h4 =>
    ⟨Int.mul_nonneg h1 h3, Int.le_trans (Int.mul_le_mul h2 h4 h3 (by decide)) (by decide)⟩
  have hx0 : 0 ≤ x0 ∧ x0 ≤ 4294967295 := by omega
  have hx1 : 0 ≤ x1 ∧ x1 ≤ 4294967295 := by omega
  have hy0 : 0 ≤ y0 ∧ y0 ≤ 4294967295 := by omega
  have hy1 : 0 ≤ y1 ∧ y1 ≤ 4294967295 := by omega
  have b1 := b x0 y0 hx0.1 hx0.2 hy0.1 hy0.2
  have b2 := b x1 y0 hx1.1 hx1.2 hy0.1 hy0.2
  have b3 := b x0 y1 hx0.1 hx0.2 hy1.1 hy1.2
  have b4 := b x1 y1 hx1.1 hx1.2 hy1.1 hy1.2
  have ex : x = 4294967296 * x1 + x0 := by omega
  have ey : y = 4294967296 * y1 + y0 := by omega
  have e : x * y = 18446744073709551616 * (x1 * y1) + 4294967296 * (x1 * y0) + 4294967296 * (x0 * y1) + x0 * y0 := by
    rw [ex, ey, Int.add_mul, Int.mul_add, Int.mul_add, Int.mul_assoc, Int.mul_left_comm x1, ← Int.mul_assoc 4294967296, Int.mul_assoc 4294967296 x1 y0, Int.mul_left_comm x0 4294967296]
    omega
  refine ⟨b1, b2, b3, b4, ?_, ?_⟩
  · rw [e]
    omega
  · rw [e]
    omega
end Ab
/- Products and quotients of words: math/bits and fixed.MulDiv. -/
namespace Ab
open Go (IntKind BinOp UnOp)
theorem wrap_u64m (x : Int) : IntKind.u64.wrap x = x % 18446744073709551616 := by
  simp only [IntKind.wrap, IntKind.bits, IntKind.signed, Bool.false_and]
  have e : (2 : Int) ^ 64 = 18446744073709551616 := by decide
  rw [e]
  simp
theorem map_shr32 (x : Int) : binAV .shr (.p (.int .u64 x)) (.p (.int .u64 32)) = some (.p (.int .u64 (x / 4294967296))) := by
  have e : x.fdiv (2 ^ min 32 IntKind.u64.bits) = x / 4294967296 := by
    have e : (2 : Int) ^ (min 32 IntKind.u64.bits) = 4294967296 := by decide
    rw [e, Int.fdiv_eq_ediv_of_nonneg _ (by decide)]
  simp [binAV, binPV, binInt, e]
theorem map_and32 {x : Int} (_h0 : 0 ≤ x) (_h1 : x ≤ 18446744073709551615) : binAV .and (.p (.int .u64 x)) (.p (.int .u64 4294967295)) = some (.p (.int .u64 (x % 4294967296))) := by
  have e : (BitVec.ofInt IntKind.u64.bits 4294967295).toNat = 2 ^ 32 - 1 := by decide
  have e3 : ((2 ^ IntKind.u64.bits : Nat) : Int) = 18446744073709551616 := by decide
  have key : ((BitVec.ofInt IntKind.u64.bits x &&& BitVec.ofInt IntKind.u64.bits 4294967295).toNat : Int) = x % 4294967296 := by
    rw [BitVec.toNat_and, e, Nat.and_two_pow_sub_one_eq_mod, BitVec.toNat_ofInt, e3]
    omega
  simp only [binAV, binPV, binInt, true_or, if_true, Option.map_some, key]
  rw [wrap_u64 (by omega) (by omega)]
theorem map_shr {x s : Int} (h0 : 0 ≤ s) (h1 : s ≤ 64) : binAV .shr (.p (.int .u64 x)) (.p (.int .u64 s)) = some (.p (.int .u64 (x / 2 ^ s.toNat))) := by
  have e : min s.toNat IntKind.u64.bits = s.toNat := Nat.min_eq_left (by show _ ≤ 64; omega)
  have p : (0 : Int) ≤ 2 ^ s.toNat := Int.le_of_lt (Int.pow_pos (by decide))
  simp only [binAV, binPV, binInt, e, Int.not_lt.2 h0, if_false, Int.fdiv_eq_ediv_of_nonneg _ p]
  simp
theorem map_shl {x s : Int} (h0 : 0 ≤ s) (h1 : s ≤ 64) : binAV .shl (.p (.int .u64 x)) (.p (.int .u64 s)) = some (.p (.int .u64 (IntKind.u64.wrap (x * 2 ^ s.toNat)))) := by
  have e : min s.toNat IntKind.u64.bits = s.toNat := Nat.min_eq_left (by show _ ≤ 64; omega)
  simp only [binAV, binPV, binInt, e, Int.not_lt.2 h0, if_false]
  simp
theorem map_quo64 {a b : Int} (h0 : 0 ≤ a) (h1 : a ≤ 18446744073709551615) (hb : 0 < b) : binAV .quo (.p (.int .u64 a)) (.p (.int .u64 b)) = some (.p (.int .u64 (a / b))) :=
  map_quo h0 hb (wrap_u64 (Int.ediv_nonneg h0 (Int.le_of_lt hb)) (Int.le_trans (Int.ediv_le_self _ h0) h1))
theorem res_Mul64 {x y : Int} (hx : 0 ≤ x ∧ x < 18446744073709551616) (hy : 0 ≤ y ∧ y < 18446744073709551616) : res Γ 149 [.int .u64 x, .int .u64 y] = some [.int .u64 (x * y / 18446744073709551616), .int .u64 (x * y % 18446744073709551616)] := by
  obtain ⟨b1, b2, b3, b4, e, b5⟩ := mul_halves hx hy
  rw [← e] at b5 ⊢
  rw [← wrap_u64m (x * y)]
  refine res_code (fn := math_bits_Mul64) rfl rfl ?_
  simp (disch := first | assumption | omega | decide | (simp only [List.length_cons, List.length_nil, List.length_append, List.length_replicate, List.length_map, List.length_set, List.length_take, List.length_drop, strs_len, ints_len, bools_len, aggs_len, vpv_len]; done) | (simp only [List.length_cons, List.length_nil, List.length_append, List.length_replicate, List.length_map, List.length_set, List.length_take, List.length_drop, strs_len, ints_len, bools_len, aggs_len, vpv_len]; omega)) only [go_sem, math_bits_Mul64, map_shr32, map_and32, wrap_u64]
end Ab
/- math/bits.Len64 and LeadingZeros64. -/
namespace Ab
open Go (IntKind BinOp UnOp)
set_option maxRecDepth 4000 in
def len8 : List UInt8 := [0, 1, 2, 2, 3, 3, 3, 3, 4, 4, 4, 4, 4, 4, 4, 4, 5, 5, 5, 5, 5, 5, 5, 5, 5, 5, 5, 5, 5, 5, 5, 5, 6, 6, 6, 6, 6, 6, 6, 6, 6, 6, 6, 6, 6, 6, 6, 6, 6, 6, 6, 6, 6, 6, 6, 6, 6, 6, 6, 6, 6, 6, 6, 6, 7, 7, 7, 7, 7, 7, 7, 7, 7, 7, 7, 7, 7, 7, 7, 7, 7, 7, 7, 7, 7, 7, 7, 7, 7, 7, 7, 7, 7, 7, 7, 7, 7, 7, 7, 7, 7, 7, 7, 7, 7, 7, 7, 7, 7, 7, 7, 7, 7, 7, 7, 7, 7, 7, 7, 7, 7, 7, 7, 7, 7, 7, 7, 7, 8, 8, 8, 8, 8, 8, 8, 8, 8, 8, 8, 8, 8, 8, 8, 8, 8, 8, 8, 8, 8, 8, 8, 8, 8, 8, 8, 8, 8, 8, 8, 8, 8, 8, 8, 8, 8, 8, 8, 8, 8, 8, 8, 8, 8, 8, 8, 8, 8, 8, 8, 8, 8, 8, 8, 8, 8, 8, 8, 8, 8, 8, 8, 8, 8, 8, 8, 8, 8, 8, 8, 8, 8, 8, 8, 8, 8, 8, 8, 8, 8, 8, 8, 8, 8, 8, 8, 8, 8, 8, 8, 8, 8, 8, 8, 8, 8, 8, 8, 8, 8, 8, 8, 8, 8, 8, 8, 8, 8, 8, 8, 8, 8, 8, 8, 8, 8, 8, 8, 8, 8, 8, 8, 8, 8, 8, 8, 8]
def len64c : AFn := ⟨1, [.slot 2],
  .seq (.ops [0, 2] [
    ⟨some 2, none, .inl (.mov (.c (.int .i64 0)))⟩]) (.seq (.seq (.ops [0, 2, 4] [
    ⟨some 3, none, .inl (.mov (.v 0))⟩,
    ⟨some 4, none, .inl (.bin .geq (.v 3) (.c (.int .u64 4294967296)))⟩]) (.cond (.v 4) (.seq (.ops [0] [
    ⟨some 5, none, .inl (.mov (.v 0))⟩,
    ⟨some 6, none, .inl (.bin .shr (.v 5) (.c (.int .u64 32)))⟩,
    ⟨some 0, none, .inl (.mov (.v 6))⟩]) (.ops [0, 2] [
    ⟨some 2, none, .inl (.mov (.c (.int .i64 32)))⟩])) (.skip))) (.seq (.seq (.ops [0, 2, 8] [
    ⟨some 7, none, .inl (.mov (.v 0))⟩,
    ⟨some 8, none, .inl (.bin .geq (.v 7) (.c (.int .u64 65536)))⟩]) (.cond (.v 8) (.seq (.ops [0, 2] [
    ⟨some 9, none, .inl (.mov (.v 0))⟩,
    ⟨some 10, none, .inl (.bin .shr (.v 9) (.c (.int .u64 16)))⟩,
    ⟨some 0, none, .inl (.mov (.v 10))⟩]) (.ops [0, 2] [
    ⟨some 11, none, .inl (.mov (.v 2))⟩,
    ⟨some 12, none, .inl (.bin .add (.v 11) (.c (.int .i64 16)))⟩,
    ⟨some 2, none, .inl (.mov (.v 12))⟩])) (.skip))) (.seq (.seq (.ops [0, 2, 14] [
    ⟨some 13, none, .inl (.mov (.v 0))⟩,
    ⟨some 14, none, .inl (.bin .geq (.v 13) (.c (.int .u64 256)))⟩]) (.cond (.v 14) (.seq (.ops [0, 2] [
    ⟨some 15, none, .inl (.mov (.v 0))⟩,
    ⟨some 16, none, .inl (.bin .shr (.v 15) (.c (.int .u64 8)))⟩,
    ⟨some 0, none, .inl (.mov (.v 16))⟩]) (.ops [0, 2] [
    ⟨some 17, none, .inl (.mov (.v 2))⟩,
    ⟨some 18, none, .inl (.bin .add (.v 17) (.c (.int .i64 8)))⟩,
    ⟨some 2, none, .inl (.mov (.v 18))⟩])) (.skip))) (.seq (.ops [2] [
    ⟨some 19, none, .inl (.mov (.v 2))⟩,
    ⟨some 20, none, .inl (.mov (.v 0))⟩,
    ⟨some 21, none, .inl (.conv .u8 (.v 20))⟩,
    ⟨some 22, none, .inl (.idx (.c (.str len8)) (.v 21))⟩,
    ⟨some 23, none, .inl (.conv .i64 (.v 22))⟩,
    ⟨some 24, none, .inl (.bin .add (.v 19) (.v 23))⟩,
    ⟨some 2, none, .inl (.mov (.v 24))⟩]) (.ret)))))⟩
theorem len8_len : len8.length = 256 := by decide +kernel
theorem len8_ok : ∀ v : Nat, v < 256 → 1 ≤ v → (1 ≤ byt len8 v ∧ byt len8 v ≤ 8 ∧ 2 ^ ((byt len8 v).toNat - 1) ≤ v ∧ v < 2 ^ (byt len8 v).toNat) := by decide +kernel
theorem idx8 {i : Int} (h0 : 0 ≤ i) (h1 : i ≤ 255) : idxA (.p (.str len8)) (.p (.int .u8 i)) = some (.p (.int .u8 (byt len8 i.toNat))) := idx_in h0 (by rw [len8_len]; omega)
theorem map_shr16 (x : Int) : binAV .shr (.p (.int .u64 x)) (.p (.int .u64 16)) = some (.p (.int .u64 (x / 65536))) := by
  rw [map_shr (by decide) (by decide)]; rfl
theorem map_shr8 (x : Int) : binAV .shr (.p (.int .u64 x)) (.p (.int .u64 8)) = some (.p (.int .u64 (x / 256))) := by
  rw [map_shr (by decide) (by decide)]; rfl
theorem len_scale {y a t : Nat} (h1 : 1 ≤ t) (l : 2 ^ (t - 1) ≤ y / 2 ^ a) (u : y / 2 ^ a < 2 ^ t) : 2 ^ (a + t - 1) ≤ y ∧ y < 2 ^ (a + t) := by
  have p : 0 < 2 ^ a := Nat.pow_pos (by decide)
  have e1 : 2 ^ (a + t - 1) = 2 ^ (t - 1) * 2 ^ a := by rw [← Nat.pow_add]; congr 1; omega
  have e2 : 2 ^ (a + t) = 2 ^ t * 2 ^ a := by rw [← Nat.pow_add]; congr 1; omega
  rw [e1, e2]
  exact ⟨(Nat.le_div_iff_mul_le p).1 l, (Nat.div_lt_iff_lt_mul p).1 u⟩
theorem len_end {y a : Nat} {r : Option (List PV)} (h1 : 1 ≤ y / 2 ^ a) (h2 : y / 2 ^ a < 256) (ha : a ≤ 56) (h : 1 ≤ byt len8 (y / 2 ^ a) ∧ byt len8 (y / 2 ^ a) ≤ 8 → r = some [.int .i64 (a + byt len8 (y / 2 ^ a))]) :
    ∃ n : Nat, r = some [.int .i64 (n : Int)] ∧ 1 ≤ n ∧ n ≤ 64 ∧ 2 ^ (n - 1) ≤ y ∧ y < 2 ^ n := by
  obtain ⟨b1, b2, b3, b4⟩ := len8_ok _ h2 h1
  obtain ⟨c1, c2⟩ := len_scale (t := (byt len8 (y / 2 ^ a)).toNat) (by omega) b3 b4
  refine ⟨a + (byt len8 (y / 2 ^ a)).toNat, ?_, by omega, by omega, c1, c2⟩
  rw [h ⟨b1, b2⟩, show ((a + (byt len8 (y / 2 ^ a)).toNat : Nat) : Int) = a + byt len8 (y / 2 ^ a) by omega]
theorem res_Len64 {y : Nat} (h : 1 ≤ y ∧ y ≤ 18446744073709551615) : ∃ n : Nat, res Γ 153 [.int .u64 y] = some [.int .i64 (n : Int)] ∧ 1 ≤ n ∧ n ≤ 64 ∧ 2 ^ (n - 1) ≤ y ∧ y < 2 ^ n := by
  have hr : 1 ≤ y ∧ y ≤ 255 ∨ 256 ≤ y ∧ y ≤ 65535 ∨ 65536 ≤ y ∧ y ≤ 16777215 ∨ 16777216 ≤ y ∧ y ≤ 4294967295 ∨ 4294967296 ≤ y ∧ y ≤ 1099511627775 ∨ 1099511627776 ≤ y ∧ y ≤ 281474976710655 ∨ 281474976710656 ≤ y ∧ y ≤ 72057594037927935 ∨ 72057594037927936 ≤ y ∧ y ≤ 18446744073709551615 := by omega
  rcases hr with hr | hr | hr | hr | hr | hr | hr | hr
  · refine len_end (a := 0) (by omega) (by omega) (by omega) fun hb => ?_
    have ev : ((y : Int)).toNat = y / 2 ^ 0 := by omega
    refine res_code (fn := len64c) rfl rfl ?_
    simp (disch := first | assumption | omega | decide | (simp only [List.length_cons, List.length_nil, List.length_append, List.length_replicate, List.length_map, List.length_set, List.length_take, List.length_drop, strs_len, ints_len, bools_len, aggs_len, vpv_len]; done) | (simp only [List.length_cons, List.length_nil, List.length_append, List.length_replicate, List.length_map, List.length_set, List.length_take, List.length_drop, strs_len, ints_len, bools_len, aggs_len, vpv_len]; omega)) only [go_sem, len64c, idx8, ev]
    simp
  · refine len_end (a := 8) (by omega) (by omega) (by omega) fun hb => ?_
    have ev : ((y : Int) / 256).toNat = y / 2 ^ 8 := by omega
    refine res_code (fn := len64c) rfl rfl ?_
    simp (disch := first | assumption | omega | decide | (simp only [List.length_cons, List.length_nil, List.length_append, List.length_replicate, List.length_map, List.length_set, List.length_take, List.length_drop, strs_len, ints_len, bools_len, aggs_len, vpv_len]; done) | (simp only [List.length_cons, List.length_nil, List.length_append, List.length_replicate, List.length_map, List.length_set, List.length_take, List.length_drop, strs_len, ints_len, bools_len, aggs_len, vpv_len]; omega)) only [go_sem, len64c, map_shr8, idx8, ev]
    simp
  · refine len_end (a := 16) (by omega) (by omega) (by omega) fun hb => ?_
    have ev : ((y : Int) / 65536).toNat = y / 2 ^ 16 := by omega
    refine res_code (fn := len64c) rfl rfl ?_
    simp (disch := first | assumption | omega | decide | (simp only [List.length_cons, List.length_nil, List.length_append, List.length_replicate, List.length_map, List.length_set, List.length_take, List.length_drop, strs_len, ints_len, bools_len, aggs_len, vpv_len]; done) | (simp only [List.length_cons, List.length_nil, List.length_append, List.length_replicate, List.length_map, List.length_set, List.length_take, List.length_drop, strs_len, ints_len, bools_len, aggs_len, vpv_len]; omega)) only [go_sem, len64c, map_shr16, idx8, ev]
    simp
  · refine len_end (a := 24) (by omega) (by omega) (by omega) fun hb => ?_
    have ev : ((y : Int) / 65536 / 256).toNat = y / 2 ^ 24 := by omega
    refine res_code (fn := len64c) rfl rfl ?_
    simp (disch := first | assumption | omega | decide | (simp only [List.length_cons, List.length_nil, List.length_append, List.length_replicate, List.length_map, List.length_set, List.length_take, List.length_drop, strs_len, ints_len, bools_len, aggs_len, vpv_len]; done) | (simp only [List.length_cons, List.length_nil, List.length_append, List.length_replicate, List.length_map, List.length_set, List.length_take, List.length_drop, strs_len, ints_len, bools_len, aggs_len, vpv_len]; omega)) only [go_sem, len64c, map_shr16, map_shr8, idx8, ev]
    simp
  · refine len_end (a := 32) (by omega) (by omega) (by omega) fun hb => ?_
    have ev : ((y : Int) / 4294967296).toNat = y / 2 ^ 32 := by omega
    refine res_code (fn := len64c) rfl rfl ?_
    simp (disch := first | assumption | omega | decide | (simp only [List.length_cons, List.length_nil, List.length_append, List.length_replicate, List.length_map, List.length_set, List.length_take, List.length_drop, strs_len, ints_len, bools_len, aggs_len, vpv_len]; done) | (simp only [List.length_cons, List.length_nil, List.length_append, List.length_replicate, List.length_map, List.length_set, List.length_take, List.length_drop, strs_len, ints_len, bools_len, aggs_len, vpv_len]; omega)) only [go_sem, len64c, map_shr32, idx8, ev]
    simp
  · refine len_end (a := 40) (by omega) (by omega) (by omega) fun hb => ?_
    have ev : ((y : Int) / 4294967296 / 256).toNat = y / 2 ^ 40 := by omega
    refine res_code (fn := len64c) rfl rfl ?_
    simp (disch := first | assumption | omega | decide | (simp only [List.length_cons, List.length_nil, List.length_append, List.length_replicate, List.length_map, List.length_set, List.length_take, List.length_drop, strs_len, ints_len, bools_len, aggs_len, vpv_len]; done) | (simp only [List.length_cons, List.length_nil, List.length_append, List.length_replicate, List.length_map, List.length_set, List.length_take, List.length_drop, strs_len, ints_len, bools_len, aggs_len, vpv_len]; omega)) only [go_sem, len64c, map_shr32, map_shr8, idx8, ev]
    simp
  · refine len_end (a := 48) (by omega) (by omega) (by omega) fun hb => ?_
    have ev : ((y : Int) / 4294967296 / 65536).toNat = y / 2 ^ 48 := by omega
    refine res_code (fn := len64c) rfl rfl ?_
    simp (disch := first | assumption | omega | decide | (simp only [List.length_cons, List.length_nil, List.length_append, List.length_replicate, List.length_map, List.length_set, List.length_take, List.length_drop, strs_len, ints_len, bools_len, aggs_len, vpv_len]; done) | (simp only [List.length_cons, List.length_nil, List.length_append, List.length_replicate, List.length_map, List.length_set, List.length_take, List.length_drop, strs_len, ints_len, bools_len, aggs_len, vpv_len]; omega)) only [go_sem, len64c, map_shr32, map_shr16, idx8, ev]
    simp
  · refine len_end (a := 56) (by omega) (by omega) (by omega) fun hb => ?_
    have ev : ((y : Int) / 4294967296 / 65536 / 256).toNat = y / 2 ^ 56 := by omega
    refine res_code (fn := len64c) rfl rfl ?_
    simp (disch := first | assumption | omega | decide | (simp only [List.length_cons, List.length_nil, List.length_append, List.length_replicate, List.length_map, List.length_set, List.length_take, List.length_drop, strs_len, ints_len, bools_len, aggs_len, vpv_len]; done) | (simp only [List.length_cons, List.length_nil, List.length_append, List.length_replicate, List.length_map, List.length_set, List.length_take, List.length_drop, strs_len, ints_len, bools_len, aggs_len, vpv_len]; omega)) only [go_sem, len64c, map_shr32, map_shr16, map_shr8, idx8, ev]
    simp
theorem res_LZ {y : Nat} (h : 1 ≤ y ∧ y ≤ 18446744073709551615) : ∃ s : Nat, res Γ 150 [.int .u64 y] = some [.int .i64 (s : Int)] ∧ s ≤ 63 ∧ 9223372036854775808 ≤ y * 2 ^ s ∧ y * 2 ^ s < 18446744073709551616 := by
  obtain ⟨n, e, h1, h2, h3, h4⟩ := res_Len64 h
  have e2 : ((64 : Int) - (n : Int)) = ((64 - n : Nat) : Int) := by omega
  refine ⟨64 - n, ?_, by omega, ?_, ?_⟩
  · refine res_code (fn := math_bits_LeadingZeros64) rfl rfl ?_
    simp (disch := first | assumption | omega | decide | (simp only [List.length_cons, List.length_nil, List.length_append, List.length_replicate, List.length_map, List.length_set, List.length_take, List.length_drop, strs_len, ints_len, bools_len, aggs_len, vpv_len]; done) | (simp only [List.length_cons, List.length_nil, List.length_append, List.length_replicate, List.length_map, List.length_set, List.length_take, List.length_drop, strs_len, ints_len, bools_len, aggs_len, vpv_len]; omega)) only [go_sem, math_bits_LeadingZeros64, e, e2]
  · have p : 2 ^ (n - 1) * 2 ^ (64 - n) = 9223372036854775808 := by rw [← Nat.pow_add, show n - 1 + (64 - n) = 63 by omega]
    rw [← p]; exact Nat.mul_le_mul_right _ h3
  · have p : 2 ^ n * 2 ^ (64 - n) = 18446744073709551616 := by rw [← Nat.pow_add, show n + (64 - n) = 64 by omega]
    rw [← p]; exact Nat.mul_lt_mul_of_pos_right h4 (Nat.pow_pos (by decide))
end Ab
