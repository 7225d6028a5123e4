import Derived.Test.YtjkkipfigangaaaGreatDoorLApply3
import Derived.Test.YtjkkipfigangaaaGreatDoorCode
import Derived.Test.YtjkkipfigangaaaGreatDoorAbPrim
import Derived.KernelRfl
import Derived.Test.YtjkkipfigangaaaGreatDoorLAgg
namespace Ab
open Go (IntKind BinOp UnOp)
abbrev zB : Blk := .box [.p (.str []), .p (.int .i64 0), .p (.int .i64 0), .p (.sl .nil 2 []), .p (.int .i64 0)]
set_option maxRecDepth 10000 in
theorem by_l1_ok {K : SK} {t : Int} {g : Val → Val → Val} (ht : (t = 1 ∧ g = divV) ∨ (t = 100 ∧ g = shareV)) (lab : List UInt8) (a b : Int) (m : List (SK × Ser)) (hm : m.length = 2) (n : Nat) (hn : n ≤ 1000000) (hml : (m.getD 0 noSer).2.vals.length = n) (hi : ∀ i, i < n → ∀ x ∈ m, i < x.2.vals.length) (Q : Out → Prop)
    (hQ : Q (.nrm, [(10, .bx 0 0), (14, .bx 1 0)], [zB, serB lab a b (.own 2 n) 0, .row false 2 (vpv (valsF (fun i => g (colJ m 0 i) (colJ m 1 i)) n))])) : ∀ (k i : Nat) (env : Env) (H : Heap), i + 1 + k = n →
    norm [4, 10, 12, 14, 15] (some 0) env H = some ([(4, .p (.int .i64 t)), (10, .bx 0 0), (12, .p (.sl K 5 (sers m))), (14, .bx 1 0), (15, .p (.int .i64 ((i + 1 : Nat) : Int)))], [zB, serB lab a b (.own 2 (i + 1)) 0, .row false 2 (vpv (valsF (fun i => g (colJ m 0 i) (colJ m 1 i)) (i + 1)))]) →
    Wp Γ r22_by_l1 env H (InBlk [10, 14] 0 Q) := by
  intro k
  induction k with
  | zero =>
    intro i env H hi' hN
    have hi' : i + 1 = n := by omega
    rw [hi'] at hN
    obtain ⟨x, hx⟩ : ∃ x, m.getD 0 noSer = x := ⟨_, rfl⟩
    rw [hx] at hml
    rw [W_loop (L := r22_by_l1) rfl]
    rw [hN]
    simp (disch := first | assumption | omega | decide | (simp only [lens] <;> omega) | fail) only [go_sem, hx, serC, hml]
    exact hQ
  | succ k ih =>
    intro i env H hi' hN
    have ih := fun env H => ih (i + 1) env H (by omega)
    rw [valsF_succ] at ih
    have h0 := hi (i + 1) (by omega) _ (ser_mem (show 0 < m.length by omega))
    have h1 := hi (i + 1) (by omega) _ (ser_mem (show 1 < m.length by omega))
    have hlen := @valsF_len (fun i => g (colJ m 0 i) (colJ m 1 i)) (i + 1)
    generalize valsF (fun i => g (colJ m 0 i) (colJ m 1 i)) (i + 1) = V at *
    unfold colJ at ih
    obtain ⟨x, hx⟩ : ∃ x, m.getD 0 noSer = x := ⟨_, rfl⟩
    obtain ⟨y, hy⟩ : ∃ y, m.getD 1 noSer = y := ⟨_, rfl⟩
    rw [hx] at h0 hml
    rw [hy] at h1
    simp only [hx, hy] at ih
    have e1 := res_r1DivV (x.2.vals.getD (i + 1) (false, 0)) (y.2.vals.getD (i + 1) (false, 0))
    rcases ht with ⟨rfl, rfl⟩ | ⟨rfl, rfl⟩
    · generalize divV (x.2.vals.getD (i + 1) (false, 0)) (y.2.vals.getD (i + 1) (false, 0)) = w at *
      rw [W_loop (L := r22_by_l1) rfl]
      rw [hN]
      simp (disch := first | assumption | omega | decide | (simp only [lens] <;> omega) | fail) only [go_sem, hx, hy, serC, hml, valP, e1, ne_eq, not_true_eq_false]
      refine ih _ _ ?_
      simp (disch := first | assumption | omega | decide | (simp only [lens] <;> omega) | fail) only [go_sem]
      rfl
    · have e2 : res Γ 129 [.int .i64 100] = some [.agg [.bool true, .int .i64 100000000]] := res_r1Int (n := 100) (by omega)
      have e3 := res_r1MulV (true, 100000000) (divV (x.2.vals.getD (i + 1) (false, 0)) (y.2.vals.getD (i + 1) (false, 0)))
      unfold shareV at ih
      generalize divV (x.2.vals.getD (i + 1) (false, 0)) (y.2.vals.getD (i + 1) (false, 0)) = w at *
      generalize mulV (true, 100000000) w = u at *
      rw [W_loop (L := r22_by_l1) rfl]
      rw [hN]
      simp (disch := first | assumption | omega | decide | (simp only [lens] <;> omega) | fail) only [go_sem, hx, hy, serC, hml, valP, e1, e2, e3]
      refine ih _ _ ?_
      simp (disch := first | assumption | omega | decide | (simp only [lens] <;> omega) | fail) only [go_sem]
      rfl
set_option maxRecDepth 10000 in
theorem by_l1_first {K : SK} {t : Int} {g : Val → Val → Val} (ht : (t = 1 ∧ g = divV) ∨ (t = 100 ∧ g = shareV)) (lab : List UInt8) (a b : Int) (m : List (SK × Ser)) (hm : m.length = 2) (n : Nat) (hn : n ≤ 1000000) (hml : (m.getD 0 noSer).2.vals.length = n) (hi : ∀ i, i < n → ∀ x ∈ m, i < x.2.vals.length) (Q : Out → Prop)
    (hQ0 : n = 0 → Q (.nrm, [(10, .bx 0 0), (14, .bx 1 0)], [zB, serB lab a b (.p (.sl .nil 2 [])) 0]))
    (hQ : n ≠ 0 → Q (.nrm, [(10, .bx 0 0), (14, .bx 1 0)], [zB, serB lab a b (.own 2 n) 0, .row false 2 (vpv (valsF (fun i => g (colJ m 0 i) (colJ m 1 i)) n))])) (env : Env) (H : Heap)
    (hN : norm [4, 10, 12, 14, 15] (some 0) env H = some ([(4, .p (.int .i64 t)), (10, .bx 0 0), (12, .p (.sl K 5 (sers m))), (14, .bx 1 0), (15, .p (.int .i64 0))], [zB, serB lab a b (.p (.sl .nil 2 [])) 0])) :
    Wp Γ r22_by_l1 env H (InBlk [10, 14] 0 Q) := by
  by_cases h : n = 0
  · obtain ⟨x, hx⟩ : ∃ x, m.getD 0 noSer = x := ⟨_, rfl⟩
    rw [hx, h] at hml
    rw [W_loop (L := r22_by_l1) rfl]
    rw [hN]
    simp (disch := first | assumption | omega | decide | (simp only [lens] <;> omega) | fail) only [go_sem, hx, serC, hml]
    exact hQ0 h
  · have L := by_l1_ok (K := K) ht lab a b m hm n hn hml hi Q (hQ h) (n - 1) 0
    have ev : valsF (fun i => g (colJ m 0 i) (colJ m 1 i)) 1 = [g (colJ m 0 0) (colJ m 1 0)] := rfl
    have h0 := hi 0 (by omega) _ (ser_mem (show 0 < m.length by omega))
    have h1 := hi 0 (by omega) _ (ser_mem (show 1 < m.length by omega))
    rw [Nat.zero_add, ev] at L
    unfold colJ at L
    obtain ⟨x, hx⟩ : ∃ x, m.getD 0 noSer = x := ⟨_, rfl⟩
    obtain ⟨y, hy⟩ : ∃ y, m.getD 1 noSer = y := ⟨_, rfl⟩
    rw [hx] at h0 hml
    rw [hy] at h1
    simp only [hx, hy] at L
    have e1 := res_r1DivV (x.2.vals.getD 0 (false, 0)) (y.2.vals.getD 0 (false, 0))
    clear hQ hQ0
    rcases ht with ⟨rfl, rfl⟩ | ⟨rfl, rfl⟩
    · generalize divV (x.2.vals.getD 0 (false, 0)) (y.2.vals.getD 0 (false, 0)) = w at *
      rw [W_loop (L := r22_by_l1) rfl]
      rw [hN]
      simp (disch := first | assumption | omega | decide | (simp only [lens] <;> omega) | fail) only [go_sem, hx, hy, serC, hml, valP, e1, ne_eq, not_true_eq_false]
      refine L _ _ (by omega) ?_
      simp (disch := first | assumption | omega | decide | (simp only [lens] <;> omega) | fail) only [go_sem]
      rfl
    · have e2 : res Γ 129 [.int .i64 100] = some [.agg [.bool true, .int .i64 100000000]] := res_r1Int (n := 100) (by omega)
      have e3 := res_r1MulV (true, 100000000) (divV (x.2.vals.getD 0 (false, 0)) (y.2.vals.getD 0 (false, 0)))
      unfold shareV at L
      generalize divV (x.2.vals.getD 0 (false, 0)) (y.2.vals.getD 0 (false, 0)) = w at *
      generalize mulV (true, 100000000) w = u at *
      rw [W_loop (L := r22_by_l1) rfl]
      rw [hN]
      simp (disch := first | assumption | omega | decide | (simp only [lens] <;> omega) | fail) only [go_sem, hx, hy, serC, hml, valP, e1, e2, e3]
      refine L _ _ (by omega) ?_
      simp (disch := first | assumption | omega | decide | (simp only [lens] <;> omega) | fail) only [go_sem]
      rfl
theorem zser_eq : noSer.2.pv .nil = .agg [.str [], .int .i64 0, .int .i64 0, .sl .nil 2 [], .int .i64 0] := rfl
set_option maxRecDepth 10000 in
theorem res_by {t : Int} {g : Val → Val → Val} (ht : (t = 1 ∧ g = divV) ∨ (t = 100 ∧ g = shareV)) (nm : List UInt8) (hnm : nm.length ≤ 1000000) (x y : SK × Ser) (hx : x.2.vals.length ≤ 1000000) (hy : y.2.vals.length ≤ 1000000) (nx : x.2.name.length ≤ 4096) (ny : y.2.name.length ≤ 4096) :
    res Γ 260 [.str nm, x.2.pv x.1, y.2.pv y.1, .sl .tight 1 [.str x.2.name, .str y.2.name], .int .i64 t] = some (twoR nm g x y) := by
  have hv : ∀ z ∈ [x, y], z.2.vals.length ≤ 1000000 := by
    intro z hz
    rcases List.mem_cons.1 hz with rfl | hz
    · exact hx
    · rw [List.mem_singleton.1 hz]; exact hy
  have es : sers [x, y] = [x.2.pv x.1, y.2.pv y.1] := rfl
  have eJ := res_r18Join (kk := .tight) [x, y] (by simp) hv
  rw [es] at eJ
  unfold joinR at eJ
  unfold twoR
  by_cases he : errJ (sersOf [x, y]) = 0
  · rw [if_neg (fun h => h he)]
    have hne : [x, y] ≠ [] := by simp
    rw [if_pos he, if_neg hne, joinJ_eq] at eJ
    have hn := nJ_le he hne
    have eL : res Γ 33 [.str nm, .sl .tight 1 [.str x.2.name, .str y.2.name]] = some [.str (labelL nm [x.2.name, y.2.name])] := res_r18LabelL (kk := .tight) nm [x.2.name, y.2.name] hnm (by simp) (by simp [joinB]; omega)
    have hjl := @joinW_len [x, y] (bJ [x, y]) (sJ [x, y]) (nJ [x, y])
    have hjg := joinW_get (b := bJ [x, y]) (st := sJ [x, y]) (n := nJ [x, y]) (l := [x, y]) (i := 0) (by simp)
    have hml : ((joinW [x, y] (bJ [x, y]) (sJ [x, y]) (nJ [x, y])).getD 0 noSer).2.vals.length = nJ [x, y] := by rw [hjg]; exact fitV_len
    have L := fun lab a b Q h1 h2 env H hN => by_l1_first (K := .any) ht lab a b (joinW [x, y] (bJ [x, y]) (sJ [x, y]) (nJ [x, y])) (by rw [hjl]; rfl) (nJ [x, y]) (by omega) hml (fun i hi => joinW_ok hi) Q h1 h2 env H hN
    have hvl := @valsF_len (fun i => g (colJ (joinW [x, y] (bJ [x, y]) (sJ [x, y]) (nJ [x, y])) 0 i) (colJ (joinW [x, y] (bJ [x, y]) (sJ [x, y]) (nJ [x, y])) 1 i)) (nJ [x, y])
    have hb' : begJ (sersOf [x, y]) = bJ [x, y] := rfl
    have hs' : stepJ (sersOf [x, y]) = sJ [x, y] := rfl
    have hn' : (manyJ (sersOf [x, y])).toNat = nJ [x, y] := rfl
    rw [hb', hs', hn'] at eJ
    have hv0 : nJ [x, y] = 0 → valsF (fun i => g (colJ (joinW [x, y] (bJ [x, y]) (sJ [x, y]) (nJ [x, y])) 0 i) (colJ (joinW [x, y] (bJ [x, y]) (sJ [x, y]) (nJ [x, y])) 1 i)) (nJ [x, y]) = [] := fun h => by rw [h]; rfl
    have hg1 : (joinW [x, y] (bJ [x, y]) (sJ [x, y]) (nJ [x, y])).getD 0 noSer = (fitK (nJ [x, y]), fitS x.2 (bJ [x, y]) (sJ [x, y]) (nJ [x, y])) := hjg
    unfold twoS
    generalize valsF (fun i => g (colJ (joinW [x, y] (bJ [x, y]) (sJ [x, y]) (nJ [x, y])) 0 i) (colJ (joinW [x, y] (bJ [x, y]) (sJ [x, y]) (nJ [x, y])) 1 i)) (nJ [x, y]) = V at *
    generalize joinW [x, y] (bJ [x, y]) (sJ [x, y]) (nJ [x, y]) = m at *
    have hjl : m.length = 2 := hjl
    clear hjg es
    generalize bJ [x, y] = b0 at *
    generalize sJ [x, y] = s0 at *
    generalize nJ [x, y] = n0 at *
    unfold Ser.pv at *
    unfold fitK
    refine res_code (fn := r22_by) rfl rfl ?_
    simp (disch := first | assumption | omega | decide | (simp only [lens] <;> omega) | fail) only [go_sem, r22_by, eJ, eL, ne_eq, not_true_eq_false, hg1, serC, fitS]
    refine L (labelL nm [x.2.name, y.2.name]) b0 s0 _ (fun h => ?_) (fun h => ?_) _ _ ?_
    · rw [hv0 h, if_pos h]
      simp (disch := first | assumption | omega | decide | (simp only [lens] <;> omega) | fail) only [go_sem]
    · rw [if_neg h]
      simp (disch := first | assumption | omega | decide | (simp only [lens] <;> omega) | fail) only [go_sem]
    · simp (disch := first | assumption | omega | decide | (simp only [lens] <;> omega) | fail) only [go_sem]
  · rw [if_pos he]
    rw [if_neg he] at eJ
    generalize errJ (sersOf [x, y]) = E at *
    rw [zser_eq]
    unfold Ser.pv at *
    refine res_code (fn := r22_by) rfl rfl ?_
    simp (disch := first | assumption | omega | decide | (simp only [lens] <;> omega) | fail) only [go_sem, r22_by, eJ]
set_option maxRecDepth 10000 in
theorem rPair_l1_ok {k1 k2 : SK} {t : Int} {g : Val → Val → Val} (ht : (t = 1 ∧ g = divV) ∨ (t = 100 ∧ g = shareV))
    (nm : List UInt8) (hnm : nm.length ≤ 1000000) (m l : List (SK × Ser)) (hl : l.length ≤ 1000000) (hm : m.length ≤ 1000000) (hm0 : 0 < m.length) (hml : 1 < m.length → m.length = l.length)
    (hv : ∀ x ∈ l, x.2.vals.length ≤ 1000000) (hn : ∀ x ∈ l, x.2.name.length ≤ 4096) (hv' : ∀ x ∈ m, x.2.vals.length ≤ 1000000) (hn' : ∀ x ∈ m, x.2.name.length ≤ 4096)
    (Q : Out → Prop) (hQ : fstE (errP m l) 0 l.length = 0 → Q (.nrm, [(9, .own 0 l.length)], [.row false 5 (sers (pairL nm g m l l.length))]))
    (hQe : fstE (errP m l) 0 l.length ≠ 0 → ∀ H, Q (.ret, [(6, .p (.sl .nil 5 [])), (7, .p (.int .i64 (fstE (errP m l) 0 l.length)))], H)) : ∀ (j i : Nat) (env : Env) (H : Heap), i + j = l.length → fstE (errP m l) 0 l.length = fstE (errP m l) i j →
    norm [0, 1, 2, 8, 9, 10] (some 0) env H = some ([(0, .p (.str nm)), (1, .p (.sl k1 5 (sers m))), (2, .p (.sl k2 5 (sers l))), (8, .p (.int .i64 t)), (9, .own 0 i), (10, .p (.int .i64 (i : Int)))], [.row false 5 (sers (pairL nm g m l i))]) →
    Wp Γ r22_Pair_l1 env H (InBlk [9] 1 Q) := by
  intro j
  induction j with
  | zero =>
    intro i env H hj hfe hN
    obtain rfl : i = l.length := by omega
    rw [W_loop (L := r22_Pair_l1) rfl]
    rw [hN]
    simp (disch := first | assumption | omega | decide | (simp only [lens] <;> omega) | fail) only [go_sem]
    exact hQ hfe
  | succ j ih =>
    intro i env H hj hfe hN
    have hlt : i < l.length := by omega
    have hmem := ser_mem hlt
    have ih := fun h env H => ih (i + 1) env H (by omega) h
    rw [pairL_succ] at ih
    have hlen : (sers (pairL nm g m l i)).length = i := by rw [sers_len, pairL_len]
    have hym : yAt m i ∈ m := by
      unfold yAt
      refine ser_mem ?_
      split
      · rename_i h; rw [hml h]; exact hlt
      · exact hm0
    have e := res_by ht nm hnm (l.getD i noSer) (yAt m i) (hv _ hmem) (hv' _ hym) (hn _ hmem) (hn' _ hym)
    unfold twoR at e
    by_cases hE : errP m l i = 0
    · rw [fstE_zero hE] at hfe
      have ih := ih hfe
      have hE' : errJ (sersOf [l.getD i noSer, yAt m i]) = 0 := hE
      rw [if_neg (fun h => h hE')] at e
      clear hE hE' hfe hQ hQe
      generalize twoS nm g (l.getD i noSer) (yAt m i) = z at *
      obtain ⟨zk, ⟨z1, z2, z3, z4, z5⟩⟩ := z
      unfold yAt at e
      unfold Ser.pv at e
      by_cases h1 : 1 < m.length
      · have hi' : i < m.length := by rw [hml h1]; exact hlt
        rw [if_pos h1] at e
        rw [W_loop (L := r22_Pair_l1) rfl]
        rw [hN]
        simp (disch := first | assumption | omega | decide | (simp only [lens] <;> omega) | fail) only [go_sem, serC, e, ne_eq, not_true_eq_false]
        refine ih _ _ ?_
        simp (disch := first | assumption | omega | decide | (simp only [lens] <;> omega) | fail) only [go_sem]
        rfl
      · rw [if_neg h1] at e
        rw [W_loop (L := r22_Pair_l1) rfl]
        rw [hN]
        simp (disch := first | assumption | omega | decide | (simp only [lens] <;> omega) | fail) only [go_sem, serC, e, ne_eq, not_true_eq_false]
        refine ih _ _ ?_
        simp (disch := first | assumption | omega | decide | (simp only [lens] <;> omega) | fail) only [go_sem]
        rfl
    · rw [fstE_not hE] at hfe
      have hE' : errJ (sersOf [l.getD i noSer, yAt m i]) ≠ 0 := hE
      rw [if_pos hE'] at e
      have hQe := hQe (by rw [hfe]; exact hE)
      rw [hfe] at hQe
      unfold errP at hQe hE
      clear hfe hQ hE'
      generalize errJ (sersOf [l.getD i noSer, yAt m i]) = E at *
      rw [zser_eq] at e
      unfold yAt at e
      unfold Ser.pv at e
      by_cases h1 : 1 < m.length
      · have hi' : i < m.length := by rw [hml h1]; exact hlt
        rw [if_pos h1] at e
        rw [W_loop (L := r22_Pair_l1) rfl]
        rw [hN]
        simp (disch := first | assumption | omega | decide | (simp only [lens] <;> omega) | fail) only [go_sem, serC, e]
        exact hQe _
      · rw [if_neg h1] at e
        rw [W_loop (L := r22_Pair_l1) rfl]
        rw [hN]
        simp (disch := first | assumption | omega | decide | (simp only [lens] <;> omega) | fail) only [go_sem, serC, e]
        exact hQe _
set_option maxRecDepth 10000 in
theorem parts_l1_ok {K k5 : SK} (l : List (SK × Ser)) (k c : Nat) (lab : List UInt8) (a b : Int) (m : List (SK × Ser)) (hm : m.length ≤ 1000000) (hk : k < m.length) (n : Nat) (hn : n ≤ 1000000) (hml : (m.getD k noSer).2.vals.length = n) (hi : ∀ i, i < n → ∀ x ∈ m, i < x.2.vals.length) (os : List PV) (Q : Out → Prop)
    (hQ : Q (.nrm, [(0, .p (.sl k5 5 (sers l))), (4, .p (.sl K 5 (sers m))), (6, .own 0 c), (7, .p (.int .i64 (k : Int))), (8, .bx 1 0)], [.row false 5 os, serB lab a b (.own 2 n) 0, .row false 2 (vpv (valsF (fun i => shareV (colJ m k i) (aggV 2 (knL (atV m i)))) n))])) : ∀ (j i : Nat) (env : Env) (H : Heap), i + 1 + j = n →
    norm [0, 4, 6, 7, 8, 9] (some 0) env H = some ([(0, .p (.sl k5 5 (sers l))), (4, .p (.sl K 5 (sers m))), (6, .own 0 c), (7, .p (.int .i64 (k : Int))), (8, .bx 1 0), (9, .p (.int .i64 ((i + 1 : Nat) : Int)))], [.row false 5 os, serB lab a b (.own 2 (i + 1)) 0, .row false 2 (vpv (valsF (fun i => shareV (colJ m k i) (aggV 2 (knL (atV m i)))) (i + 1)))]) →
    Wp Γ r22_parts_l1 env H (InBlk [0, 4, 6, 7, 8] 2 Q) := by
  intro j
  induction j with
  | zero =>
    intro i env H hi' hN
    have hi' : i + 1 = n := by omega
    rw [hi'] at hN
    obtain ⟨x, hx⟩ : ∃ x, m.getD k noSer = x := ⟨_, rfl⟩
    rw [hx] at hml
    rw [W_loop (L := r22_parts_l1) rfl]
    rw [hN]
    simp (disch := first | assumption | omega | decide | (simp only [lens] <;> omega) | fail) only [go_sem, hx, serC, hml]
    exact hQ
  | succ j ih =>
    intro i env H hi' hN
    have ih := fun env H => ih (i + 1) env H (by omega)
    rw [valsF_succ] at ih
    have h0 := hi (i + 1) (by omega) _ (ser_mem hk)
    have hlen := @valsF_len (fun i => shareV (colJ m k i) (aggV 2 (knL (atV m i)))) (i + 1)
    generalize valsF (fun i => shareV (colJ m k i) (aggV 2 (knL (atV m i)))) (i + 1) = V at *
    unfold colJ at ih
    obtain ⟨x, hx⟩ : ∃ x, m.getD k noSer = x := ⟨_, rfl⟩
    rw [hx] at h0 hml
    simp only [hx] at ih
    have ea := res_atJ (kk := K) m hm (i + 1) (hi (i + 1) (by omega)) (by omega)
    have es := res_r6Of (kk := .any) 2 (.inl rfl) (atV m (i + 1)) (by rw [atV_len]; omega)
    rw [aggV_knL] at ih
    generalize aggV 2 (atV m (i + 1)) = s at *
    generalize vpv (atV m (i + 1)) = A at *
    have e1 := res_r1DivV (x.2.vals.getD (i + 1) (false, 0)) s
    have e2 : res Γ 129 [.int .i64 100] = some [.agg [.bool true, .int .i64 100000000]] := res_r1Int (n := 100) (by omega)
    have e3 := res_r1MulV (true, 100000000) (divV (x.2.vals.getD (i + 1) (false, 0)) s)
    unfold shareV at ih
    generalize divV (x.2.vals.getD (i + 1) (false, 0)) s = w at *
    generalize mulV (true, 100000000) w = u at *
    rw [W_loop (L := r22_parts_l1) rfl]
    rw [hN]
    simp (disch := first | assumption | omega | decide | (simp only [lens] <;> omega) | fail) only [go_sem, hx, serC, hml, valP, ea, es, e1, e2, e3]
    refine ih _ _ ?_
    simp (disch := first | assumption | omega | decide | (simp only [lens] <;> omega) | fail) only [go_sem]
    rfl
set_option maxRecDepth 10000 in
theorem parts_l1_first {K k5 : SK} (l : List (SK × Ser)) (k c : Nat) (lab : List UInt8) (a b : Int) (m : List (SK × Ser)) (hm : m.length ≤ 1000000) (hk : k < m.length) (n : Nat) (hn : n ≤ 1000000) (hml : (m.getD k noSer).2.vals.length = n) (hi : ∀ i, i < n → ∀ x ∈ m, i < x.2.vals.length) (os : List PV) (Q : Out → Prop)
    (hQ0 : n = 0 → Q (.nrm, [(0, .p (.sl k5 5 (sers l))), (4, .p (.sl K 5 (sers m))), (6, .own 0 c), (7, .p (.int .i64 (k : Int))), (8, .bx 1 0)], [.row false 5 os, serB lab a b (.p (.sl .nil 2 [])) 0]))
    (hQ : n ≠ 0 → Q (.nrm, [(0, .p (.sl k5 5 (sers l))), (4, .p (.sl K 5 (sers m))), (6, .own 0 c), (7, .p (.int .i64 (k : Int))), (8, .bx 1 0)], [.row false 5 os, serB lab a b (.own 2 n) 0, .row false 2 (vpv (valsF (fun i => shareV (colJ m k i) (aggV 2 (knL (atV m i)))) n))])) (env : Env) (H : Heap)
    (hN : norm [0, 4, 6, 7, 8, 9] (some 0) env H = some ([(0, .p (.sl k5 5 (sers l))), (4, .p (.sl K 5 (sers m))), (6, .own 0 c), (7, .p (.int .i64 (k : Int))), (8, .bx 1 0), (9, .p (.int .i64 0))], [.row false 5 os, serB lab a b (.p (.sl .nil 2 [])) 0])) :
    Wp Γ r22_parts_l1 env H (InBlk [0, 4, 6, 7, 8] 2 Q) := by
  by_cases h : n = 0
  · obtain ⟨x, hx⟩ : ∃ x, m.getD k noSer = x := ⟨_, rfl⟩
    rw [hx, h] at hml
    rw [W_loop (L := r22_parts_l1) rfl]
    rw [hN]
    simp (disch := first | assumption | omega | decide | (simp only [lens] <;> omega) | fail) only [go_sem, hx, serC, hml]
    exact hQ0 h
  · have L := parts_l1_ok (K := K) (k5 := k5) l k c lab a b m hm hk n hn hml hi os Q (hQ h) (n - 1) 0
    have ev : valsF (fun i => shareV (colJ m k i) (aggV 2 (knL (atV m i)))) 1 = [shareV (colJ m k 0) (aggV 2 (knL (atV m 0)))] := rfl
    have h0 := hi 0 (by omega) _ (ser_mem hk)
    rw [Nat.zero_add, ev] at L
    unfold colJ at L
    obtain ⟨x, hx⟩ : ∃ x, m.getD k noSer = x := ⟨_, rfl⟩
    rw [hx] at h0 hml
    simp only [hx] at L
    have ea : res Γ 235 [.sl K 5 (sers m), .int .i64 0] = some [.sl .any 2 (vpv (atV m 0))] := res_atJ (kk := K) m hm 0 (hi 0 (by omega)) (by omega)
    have es := res_r6Of (kk := .any) 2 (.inl rfl) (atV m 0) (by rw [atV_len]; omega)
    rw [aggV_knL] at L
    clear hQ hQ0
    generalize aggV 2 (atV m 0) = s at *
    generalize vpv (atV m 0) = A at *
    have e1 := res_r1DivV (x.2.vals.getD 0 (false, 0)) s
    have e2 : res Γ 129 [.int .i64 100] = some [.agg [.bool true, .int .i64 100000000]] := res_r1Int (n := 100) (by omega)
    have e3 := res_r1MulV (true, 100000000) (divV (x.2.vals.getD 0 (false, 0)) s)
    unfold shareV at L
    generalize divV (x.2.vals.getD 0 (false, 0)) s = w at *
    generalize mulV (true, 100000000) w = u at *
    rw [W_loop (L := r22_parts_l1) rfl]
    rw [hN]
    simp (disch := first | assumption | omega | decide | (simp only [lens] <;> omega) | fail) only [go_sem, hx, serC, hml, valP, ea, es, e1, e2, e3]
    refine L _ _ (by omega) ?_
    simp (disch := first | assumption | omega | decide | (simp only [lens] <;> omega) | fail) only [go_sem]
    rfl
set_option maxRecDepth 10000 in
theorem parts_l2_ok {k5 : SK} (l : List (SK × Ser)) (hl : l.length ≤ 1000000) (hn : ∀ x ∈ l, x.2.name.length ≤ 4096) (a : Int) (st n : Nat) (hn1 : n ≤ 131072) (Q : Out → Prop)
    (hQ : Q (.nrm, [(6, .own 0 l.length)], [.row false 5 (sers (shareL pPer l a st (fun k i => shareV (colJ (joinW l a st n) k i) (aggV 2 (knL (atV (joinW l a st n) i)))) n l.length))])) : ∀ (j k : Nat) (env : Env) (H : Heap), k + j = l.length →
    norm [0, 4, 6, 7] (some 0) env H = some ([(0, .p (.sl k5 5 (sers l))), (4, .p (.sl .any 5 (sers (joinW l a st n)))), (6, .own 0 k), (7, .p (.int .i64 (k : Int)))], [.row false 5 (sers (shareL pPer l a st (fun k i => shareV (colJ (joinW l a st n) k i) (aggV 2 (knL (atV (joinW l a st n) i)))) n k))]) →
    Wp Γ r22_parts_l2 env H (InBlk [6] 0 Q) := by
  have hjl := @joinW_len l a st n
  intro j
  induction j with
  | zero =>
    intro k env H hj hN
    obtain rfl : k = l.length := by omega
    rw [W_loop (L := r22_parts_l2) rfl]
    rw [hN]
    simp (disch := first | assumption | omega | decide | (simp only [lens] <;> omega) | fail) only [go_sem]
    exact hQ
  | succ j ih =>
    intro k env H hj hN
    clear hQ
    have hlt : k < l.length := by omega
    have hmem := ser_mem hlt
    have hnx := hn _ hmem
    have ih := fun env H => ih (k + 1) env H (by omega)
    rw [shareL_succ] at ih
    have hlen : (sers (shareL pPer l a st (fun k i => shareV (colJ (joinW l a st n) k i) (aggV 2 (knL (atV (joinW l a st n) i)))) n k)).length = k := by rw [sers_len, shareL_len]
    have hjg := joinW_get (b := a) (st := st) (n := n) hlt
    have hml : ((joinW l a st n).getD k noSer).2.vals.length = n := by rw [hjg]; exact fitV_len
    have L := fun c lab os Q h1 h2 env H hN => parts_l1_first (K := .any) (k5 := k5) l k c lab a (st : Int) (joinW l a st n) (by omega) (by omega) n (by omega) hml (fun i hi => joinW_ok hi) os Q h1 h2 env H hN
    have hv0 : n = 0 → valsF (fun i => shareV (colJ (joinW l a st n) k i) (aggV 2 (knL (atV (joinW l a st n) i)))) n = [] := fun h => by rw [h]; rfl
    have hvl := @valsF_len (fun i => shareV (colJ (joinW l a st n) k i) (aggV 2 (knL (atV (joinW l a st n) i)))) n
    generalize shareL pPer l a st (fun k i => shareV (colJ (joinW l a st n) k i) (aggV 2 (knL (atV (joinW l a st n) i)))) n k = os at *
    generalize valsF (fun i => shareV (colJ (joinW l a st n) k i) (aggV 2 (knL (atV (joinW l a st n) i)))) n = V at *
    generalize joinW l a st n = m at *
    obtain ⟨x, hx⟩ : ∃ x, l.getD k noSer = x := ⟨_, rfl⟩
    rw [hx] at ih hnx hjg
    have eL : res Γ 33 [.str [97, 115, 80, 101, 114, 99, 101, 110, 116], .sl .tight 1 [.str x.2.name]] = some [.str (labelL pPer [x.2.name])] := res_r18LabelL (kk := .tight) pPer [x.2.name] (by decide) (by simp) (by simp [joinB]; omega)
    unfold fitK at ih
    rw [W_loop (L := r22_parts_l2) rfl]
    rw [hN]
    simp (disch := first | assumption | omega | decide | (simp only [lens] <;> omega) | fail) only [go_sem, hx, hjg, serC, fitS, eL]
    refine L k (labelL pPer [x.2.name]) (sers os) _ (fun h => ?_) (fun h => ?_) _ _ ?_
    · rw [if_pos h, hv0 h] at ih
      simp (disch := first | assumption | omega | decide | (simp only [lens] <;> omega) | fail) only [go_sem]
      refine ih _ _ ?_
      simp (disch := first | assumption | omega | decide | (simp only [lens] <;> omega) | fail) only [go_sem]
      rw [← sers_app]
      rfl
    · rw [if_neg h] at ih
      simp (disch := first | assumption | omega | decide | (simp only [lens] <;> omega) | fail) only [go_sem]
      refine ih _ _ ?_
      simp (disch := first | assumption | omega | decide | (simp only [lens] <;> omega) | fail) only [go_sem]
      rfl
    · simp (disch := first | assumption | omega | decide | (simp only [lens] <;> omega) | fail) only [go_sem]
set_option maxRecDepth 10000 in
theorem res_parts {kk : SK} (l : List (SK × Ser)) (hl : l.length ≤ 1000000) (hv : ∀ x ∈ l, x.2.vals.length ≤ 1000000) (hn : ∀ x ∈ l, x.2.name.length ≤ 4096) :
    res Γ 261 [.sl kk 5 (sers l)] = some (sharesR pPer l) := by
  have eJ := res_r18Join (kk := kk) l hl hv
  unfold joinR at eJ
  unfold sharesR
  by_cases he : errJ (sersOf l) = 0
  · rw [if_neg (fun h => h he)]
    rw [if_pos he] at eJ
    by_cases h0 : l = []
    · subst h0
      have eJ : res Γ 231 [.sl kk 5 []] = some [.sl .nil 5 [], .int .i64 0] := eJ
      rw [sers_nil]
      refine res_code (fn := r22_parts) rfl rfl ?_
      simp (disch := first | assumption | omega | decide | (simp only [lens] <;> omega) | fail) only [go_sem, r22_parts, eJ, ne_eq, not_true_eq_false]
      rw [W_loop (L := r22_parts_l2) rfl]
      simp (disch := first | assumption | omega | decide | (simp only [lens] <;> omega) | fail) only [go_sem]
      rfl
    · rw [if_neg h0, joinJ_eq] at eJ
      have hn1 := nJ_le he h0
      have hb' : begJ (sersOf l) = bJ l := rfl
      have hs' : stepJ (sersOf l) = sJ l := rfl
      have hn' : (manyJ (sersOf l)).toNat = nJ l := rfl
      rw [hb', hs', hn'] at eJ
      have L := fun Q hQ env H hN => parts_l2_ok (k5 := kk) l hl hn (bJ l) (sJ l) (nJ l) hn1 Q hQ l.length 0 env H (by omega) hN
      have hlen : (sers (shareL pPer l (bJ l) (sJ l) (fun k i => shareV (colJ (joinW l (bJ l) (sJ l) (nJ l)) k i) (aggV 2 (knL (atV (joinW l (bJ l) (sJ l) (nJ l)) i)))) (nJ l) l.length)).length = l.length := by rw [sers_len, shareL_len]
      generalize (fun k i => shareV (colJ (joinW l (bJ l) (sJ l) (nJ l)) k i) (aggV 2 (knL (atV (joinW l (bJ l) (sJ l) (nJ l)) i)))) = g at *
      generalize joinW l (bJ l) (sJ l) (nJ l) = m at *
      refine res_code (fn := r22_parts) rfl rfl ?_
      simp (disch := first | assumption | omega | decide | (simp only [lens] <;> omega) | fail) only [go_sem, r22_parts, eJ, ne_eq, not_true_eq_false]
      refine L _ ?_ _ _ ?_
      · simp (disch := first | assumption | omega | decide | (simp only [lens] <;> omega) | fail) only [go_sem]
      · simp (disch := first | assumption | omega | decide | (simp only [lens] <;> omega) | fail) only [go_sem]
        rfl
  · rw [if_pos he]
    rw [if_neg he] at eJ
    refine res_code (fn := r22_parts) rfl rfl ?_
    simp (disch := first | assumption | omega | decide | (simp only [lens] <;> omega) | fail) only [go_sem, r22_parts, eJ]
set_option maxRecDepth 10000 in
theorem res_rPair {k1 k2 : SK} (nm : List UInt8) (hnm : nm.length ≤ 1000000) (m l : List (SK × Ser)) (hl : l.length ≤ 1000000) (hm : m.length ≤ 1000000)
    (hv : ∀ x ∈ l, x.2.vals.length ≤ 1000000) (hn : ∀ x ∈ l, x.2.name.length ≤ 4096) (hv' : ∀ x ∈ m, x.2.vals.length ≤ 1000000) (hn' : ∀ x ∈ m, x.2.name.length ≤ 4096) :
    res Γ 232 [.str nm, .sl k1 5 (sers m), .sl k2 5 (sers l)] = some (pairR nm m l) := by
  have hpd : ¬ pPer = pDiv := by decide
  have hlen : (sers (pairL nm (opP nm) m l l.length)).length = l.length := by rw [sers_len, pairL_len]
  have fin : ∀ (t : Int), ((t = 1 ∧ opP nm = divV) ∨ (t = 100 ∧ opP nm = shareV)) → 0 < m.length → (1 < m.length → m.length = l.length) →
      ∀ Q, (fstE (errP m l) 0 l.length = 0 → Q (.nrm, [(9, .own 0 l.length)], [.row false 5 (sers (pairL nm (opP nm) m l l.length))])) →
      (fstE (errP m l) 0 l.length ≠ 0 → ∀ H, Q (.ret, [(6, .p (.sl .nil 5 [])), (7, .p (.int .i64 (fstE (errP m l) 0 l.length)))], H)) →
      Wp Γ r22_Pair_l1 [(0, .p (.str nm)), (1, .p (.sl k1 5 (sers m))), (2, .p (.sl k2 5 (sers l))), (8, .p (.int .i64 t)), (9, .own 0 0), (10, .p (.int .i64 0))] [.row false 5 []] (InBlk [9] 1 Q) :=
    fun t ht h0 h1 Q q1 q2 => rPair_l1_ok ht nm hnm m l hl hm h0 h1 hv hn hv' hn' Q q1 q2 l.length 0 _ _ (by omega) rfl (by simp (disch := first | assumption | omega | decide | (simp only [lens] <;> omega) | fail) only [go_sem]; rfl)
  unfold pairR
  by_cases c1 : nm = pPer
  · rw [if_neg (fun h => h.2 c1)]
    have hop : opP nm = shareV := by unfold opP; rw [if_pos c1]
    have fin := fin 100 (.inr ⟨rfl, hop⟩)
    have c2 : ¬ nm = pDiv := by rw [c1]; exact hpd
    clear hop
    by_cases c3 : m = []
    · rw [if_pos ⟨c1, c3⟩]
      have e := res_parts (kk := k2) l hl hv hn
      rw [c1]
      have hs : ∃ a b, sharesR pPer l = [a, b] := by
        unfold sharesR
        split
        · exact ⟨_, _, rfl⟩
        · exact ⟨_, _, rfl⟩
      obtain ⟨a, b, hab⟩ := hs
      rw [hab] at e ⊢
      clear fin c2 hab hlen
      subst c3 c1
      unfold pPer at *
      refine res_code (fn := r22_Pair) rfl rfl ?_
      simp (disch := first | assumption | omega | decide | (simp only [lens] <;> omega) | fail) only [go_sem, r22_Pair, e]
    · rw [if_neg (fun h => c3 h.2)]
      have hpos : 0 < m.length := List.length_pos_iff.2 c3
      by_cases c4 : m.length = 1
      · rw [if_neg (fun h => h.1 c4)]
        have fin := fin hpos (by omega)
        subst c1
        generalize opP pPer = g at *
        unfold pPer at *
        by_cases hE : fstE (errP m l) 0 l.length = 0
        · rw [if_neg (fun h => h hE)]
          refine res_code (fn := r22_Pair) rfl rfl ?_
          simp (disch := first | assumption | omega | decide | (simp only [lens] <;> omega) | fail) only [go_sem, r22_Pair, c4]
          refine fin _ (fun _ => ?_) (fun h => absurd hE h)
          simp (disch := first | assumption | omega | decide | (simp only [lens] <;> omega) | fail) only [go_sem]
        · rw [if_pos hE]
          refine res_code (fn := r22_Pair) rfl rfl ?_
          simp (disch := first | assumption | omega | decide | (simp only [lens] <;> omega) | fail) only [go_sem, r22_Pair, c4]
          refine fin _ (fun h => absurd h hE) (fun _ H => ?_)
          simp (disch := first | assumption | omega | decide | (simp only [lens] <;> omega) | fail) only [go_sem]
      · by_cases c5 : m.length = l.length
        · rw [if_neg (fun h => h.2.elim c2 (fun h => h c5))]
          have fin := fin hpos (fun _ => c5)
          subst c1
          generalize opP pPer = g at *
          unfold pPer at *
          by_cases hE : fstE (errP m l) 0 l.length = 0
          · rw [if_neg (fun h => h hE)]
            refine res_code (fn := r22_Pair) rfl rfl ?_
            simp (disch := first | assumption | omega | decide | (simp only [lens] <;> omega) | fail) only [go_sem, r22_Pair]
            refine fin _ (fun _ => ?_) (fun h => absurd hE h)
            simp (disch := first | assumption | omega | decide | (simp only [lens] <;> omega) | fail) only [go_sem]
          · rw [if_pos hE]
            refine res_code (fn := r22_Pair) rfl rfl ?_
            simp (disch := first | assumption | omega | decide | (simp only [lens] <;> omega) | fail) only [go_sem, r22_Pair]
            refine fin _ (fun h => absurd h hE) (fun _ H => ?_)
            simp (disch := first | assumption | omega | decide | (simp only [lens] <;> omega) | fail) only [go_sem]
        · rw [if_pos ⟨c4, .inr c5⟩]
          clear fin c2
          subst c1
          unfold pPer at *
          refine res_code (fn := r22_Pair) rfl rfl ?_
          simp (disch := first | assumption | omega | decide | (simp only [lens] <;> omega) | fail) only [go_sem, r22_Pair]
  · by_cases c2 : nm = pDiv
    · rw [if_neg (fun h => h.1 c2), if_neg (fun h => c1 h.1)]
      have hop : opP nm = divV := by unfold opP; rw [if_neg c1]
      have fin := fin 1 (.inl ⟨rfl, hop⟩)
      clear hop c1
      by_cases c4 : m.length = 1
      · rw [if_neg (fun h => h.1 c4)]
        have fin := fin (by omega) (by omega)
        subst c2
        generalize opP pDiv = g at *
        unfold pDiv at *
        by_cases hE : fstE (errP m l) 0 l.length = 0
        · rw [if_neg (fun h => h hE)]
          refine res_code (fn := r22_Pair) rfl rfl ?_
          simp (disch := first | assumption | omega | decide | (simp only [lens] <;> omega) | fail) only [go_sem, r22_Pair, c4, ne_eq, not_true_eq_false]
          refine fin _ (fun _ => ?_) (fun h => absurd hE h)
          simp (disch := first | assumption | omega | decide | (simp only [lens] <;> omega) | fail) only [go_sem]
        · rw [if_pos hE]
          refine res_code (fn := r22_Pair) rfl rfl ?_
          simp (disch := first | assumption | omega | decide | (simp only [lens] <;> omega) | fail) only [go_sem, r22_Pair, c4, ne_eq, not_true_eq_false]
          refine fin _ (fun h => absurd h hE) (fun _ H => ?_)
          simp (disch := first | assumption | omega | decide | (simp only [lens] <;> omega) | fail) only [go_sem]
      · rw [if_pos ⟨c4, .inl c2⟩]
        clear fin
        subst c2
        unfold pDiv at *
        refine res_code (fn := r22_Pair) rfl rfl ?_
        simp (disch := first | assumption | omega | decide | (simp only [lens] <;> omega) | fail) only [go_sem, r22_Pair, ne_eq, not_true_eq_false]
    · rw [if_pos ⟨c2, c1⟩]
      clear fin
      unfold pDiv at c2
      unfold pPer at c1
      refine res_code (fn := r22_Pair) rfl rfl ?_
      simp (disch := first | assumption | omega | decide | (simp only [lens] <;> omega) | fail) only [go_sem, r22_Pair]
end Ab
namespace Ab
theorem known_ev22 : ∃ n r, callOf Γ (ev Γ n) 216 ((List.map .p ([] : List PV))) [] = some r ∧ mapO (reify r.2 4) r.1 = some [.bool true] := ⟨400, ([.p (.bool true)], (callOf Γ (ev Γ 400) 216 [] []).elim [] (·.2)), by kernel_rfl, by kernel_rfl⟩
theorem res_known22 : res Γ 216 [] = some [.bool true] := res_of known_ev22
end Ab
namespace Ab
open Go (IntKind BinOp UnOp)
theorem res_r18OwnJ {kk : SK} (s : Ser) (h : s.vals.length ≤ 1073741824) : res Γ 34 [s.pv kk] = some [s.pv .any] := by
  have hv : (vpv s.vals).length ≤ 1073741824 := by rw [vpv_len]; exact h
  have hw : (vpv s.vals).length = s.vals.length := vpv_len
  unfold Ser.pv
  refine res_code (fn := r18_Own) rfl rfl ?_
  simp (disch := first | assumption | omega | decide | (simp only [lens] <;> omega) | fail) only [go_sem, r18_Own]
theorem r18_SameJ_l1_ok {k1 k2 : SK} (a : Ser) (hv : a.vals.length ≤ 1073741824) (Q : Out → Prop) : ∀ (k i : Nat), i + k = a.vals.length →
    (∀ H, Q (.nrm, [], H)) →
    Wp Γ r18_Same_l1 [(2, .bx 0 0), (3, .bx 1 0), (5, .p (.int .i64 (i : Int)))] [.box [.p (.str a.name), .p (.int .i64 a.start), .p (.int .i64 a.step), .p (.sl k1 2 (vpv a.vals)), .p (.int .i64 a.cons)], .box [.p (.str a.name), .p (.int .i64 a.start), .p (.int .i64 a.step), .p (.sl k2 2 (vpv a.vals)), .p (.int .i64 a.cons)]] (InBlk [] 0 Q) := by
  intro k
  induction k with
  | zero =>
    intro i hi hQ
    obtain rfl : i = a.vals.length := by omega
    rw [W_loop (L := r18_Same_l1) rfl]
    simp (disch := first | assumption | omega | decide | (simp only [lens] <;> omega) | fail) only [go_sem]
    exact hQ _
  | succ k ih =>
    intro i hi hQ
    rw [W_loop (L := r18_Same_l1) rfl]
    simp (disch := first | assumption | omega | decide | (simp only [lens] <;> omega) | fail) only [go_sem, valP]
    exact ih (i + 1) (by omega) hQ
theorem res_SameJ {k1 k2 : SK} (s : Ser) (hv : s.vals.length ≤ 1073741824) : res Γ 28 [s.pv k1, s.pv k2] = some [.bool true] := by
  unfold Ser.pv
  refine res_code (fn := r18_Same) rfl rfl ?_
  simp (disch := first | assumption | omega | decide | (simp only [lens] <;> omega) | fail) only [go_sem, r18_Same, ne_eq, not_true_eq_false]
  refine r18_SameJ_l1_ok s hv _ s.vals.length 0 (by omega) (fun H => ?_)
  simp (disch := first | assumption | omega | decide | (simp only [lens] <;> omega) | fail) only [go_sem]
theorem res_same22 {k1 k2 : SK} (s : Ser) (hv : s.vals.length ≤ 1073741824) : res Γ 234 [s.pv k1, s.pv k2] = some [.bool true] := by
  have e := res_SameJ (k1 := k1) (k2 := k2) s hv
  unfold Ser.pv at e ⊢
  refine res_code (fn := l22_same) rfl rfl ?_
  simp (disch := first | assumption | omega | decide | (simp only [lens] <;> omega) | fail) only [go_sem, l22_same, e]
def ownL (l : List (SK × Ser)) : List (SK × Ser) := l.map fun x => (.any, x.2)
theorem ownL_of {l : List (SK × Ser)} : sersOf (ownL l) = sersOf l := by
  unfold sersOf ownL
  rw [List.map_map]; rfl
theorem ownL_len {l : List (SK × Ser)} : (ownL l).length = l.length := by simp [ownL]
theorem ownL_snoc {l : List (SK × Ser)} {i : Nat} (h : i < l.length) : ownL (l.take (i + 1)) = ownL (l.take i) ++ [(.any, (l.getD i noSer).2)] := by
  unfold ownL
  rw [take_snoc' noSer h, List.map_append]; rfl
theorem own_l1_ok {k2 : SK} (l : List (SK × Ser)) (hl : l.length ≤ 1000000) (hv : ∀ x ∈ l, x.2.vals.length ≤ 1000000) (Q : Out → Prop) (hQ : Q (.nrm, [(3, .own 0 l.length)], [.row false 5 (sers (ownL l))])) : ∀ (n i : Nat), i + n = l.length →
    Wp Γ l22_own_l1 [(0, .p (.sl k2 5 (sers l))), (3, .own 0 i), (4, .p (.int .i64 (i : Int)))] [.row false 5 (sers (ownL (l.take i)))] (InBlk [3] 0 Q) := by
  intro n
  induction n with
  | zero =>
    intro i hi
    obtain rfl : i = l.length := by omega
    rw [List.take_length]
    rw [W_loop (L := l22_own_l1) rfl]
    simp (disch := first | assumption | omega | decide | (simp only [lens] <;> omega) | fail) only [go_sem]
    exact hQ
  | succ n ih =>
    intro i hi
    have hlt : i < l.length := by omega
    have hmem := ser_mem hlt
    have ih := ih (i + 1) (by omega)
    rw [ownL_snoc hlt] at ih
    obtain ⟨x, hx⟩ : ∃ x, l.getD i noSer = x := ⟨_, rfl⟩
    rw [hx] at ih hmem
    have e := res_r18OwnJ (kk := x.1) x.2 (by have := hv x hmem; omega)
    have hlen : (sers (ownL (l.take i))).length = i := by rw [sers_len, ownL_len, List.length_take]; omega
    unfold Ser.pv at e
    rw [W_loop (L := l22_own_l1) rfl]
    simp (disch := first | assumption | omega | decide | (simp only [lens] <;> omega) | fail) only [go_sem, hx, serC, e]
    exact ih
theorem res_own22 {kk : SK} (l : List (SK × Ser)) (hl : l.length ≤ 1000000) (hv : ∀ x ∈ l, x.2.vals.length ≤ 1000000) : res Γ 225 [.sl kk 5 (sers l)] = some [.sl .any 5 (sers (ownL l))] := by
  have hlen : (sers (ownL l)).length = l.length := by rw [sers_len, ownL_len]
  refine res_code (fn := l22_own) rfl rfl ?_
  simp (disch := first | assumption | omega | decide | (simp only [lens] <;> omega) | fail) only [go_sem, l22_own]
  refine own_l1_ok l hl hv _ ?_ l.length 0 (by omega)
  simp (disch := first | assumption | omega | decide | (simp only [lens] <;> omega) | fail) only [go_sem]
theorem all_l1_ok22 {k1 k2 : SK} (l m : List (SK × Ser)) (h : sersOf l = sersOf m) (hl : l.length ≤ 1000000) (hv : ∀ x ∈ l, x.2.vals.length ≤ 1000000) (Q : Out → Prop) (hQ : Q (.nrm, [], [])) : ∀ (n i : Nat), i + n = l.length →
    Wp Γ l22_all_l1 [(0, .p (.sl k1 5 (sers l))), (1, .p (.sl k2 5 (sers m))), (5, .p (.int .i64 (i : Int)))] [] (InBlk [] 0 Q) := by
  have hlm : m.length = l.length := by have := congrArg List.length h; simp only [sersOf, List.length_map] at this; exact this.symm
  intro n
  induction n with
  | zero =>
    intro i hi
    obtain rfl : i = l.length := by omega
    rw [W_loop (L := l22_all_l1) rfl]
    simp (disch := first | assumption | omega | decide | (simp only [lens] <;> omega) | fail) only [go_sem]
    exact hQ
  | succ n ih =>
    intro i hi
    have hlt : i < l.length := by omega
    have hmem := ser_mem hlt
    have ih := ih (i + 1) (by omega)
    have hs : (m.getD i noSer).2 = (l.getD i noSer).2 := by
      have h1 := congrArg (fun z => z[i]?) h
      simp only [sersOf, List.getElem?_map, List.getElem?_eq_getElem hlt, List.getElem?_eq_getElem (show i < m.length by omega), Option.map_some, Option.some.injEq] at h1
      rw [List.getD_eq_getElem?_getD, List.getElem?_eq_getElem (show i < m.length by omega), List.getD_eq_getElem?_getD, List.getElem?_eq_getElem hlt]
      exact h1.symm
    obtain ⟨x, hx⟩ : ∃ x, l.getD i noSer = x := ⟨_, rfl⟩
    obtain ⟨y, hy⟩ : ∃ y, m.getD i noSer = y := ⟨_, rfl⟩
    rw [hx, hy] at hs
    rw [hx] at hmem
    have e := res_same22 (k1 := x.1) (k2 := y.1) x.2 (by have := hv x hmem; omega)
    unfold Ser.pv at e
    rw [W_loop (L := l22_all_l1) rfl]
    simp (disch := first | assumption | omega | decide | (simp only [lens] <;> omega) | fail) only [go_sem, hx, hy, serC, hs, e]
    exact ih
theorem res_all22 {k1 k2 : SK} (l m : List (SK × Ser)) (h : sersOf l = sersOf m) (hl : l.length ≤ 1000000) (hv : ∀ x ∈ l, x.2.vals.length ≤ 1000000) : res Γ 223 [.sl k1 5 (sers l), .sl k2 5 (sers m)] = some [.bool true] := by
  have hlm : m.length = l.length := by have := congrArg List.length h; simp only [sersOf, List.length_map] at this; exact this.symm
  refine res_code (fn := l22_all) rfl rfl ?_
  simp (disch := first | assumption | omega | decide | (simp only [lens] <;> omega) | fail) only [go_sem, l22_all, hlm, ne_eq, not_true_eq_false]
  refine all_l1_ok22 l m h hl hv _ ?_ l.length 0 (by omega)
  simp (disch := first | assumption | omega | decide | (simp only [lens] <;> omega) | fail) only [go_sem]
def bigS (s : Ser) : Bool := decide (120 < s.vals.length) || decide (300 < s.name.length)
def sumLen (l : List (SK × Ser)) : Nat := (l.map fun x => x.2.vals.length).sum
def heavyJ (l : List (SK × Ser)) : Bool := decide (20 < l.length) || (l.any fun x => bigS x.2) || decide (400 < sumLen l)
theorem sumLen_snoc {l : List (SK × Ser)} {i : Nat} (h : i < l.length) : sumLen (l.take (i + 1)) = sumLen (l.take i) + (l.getD i noSer).2.vals.length := by
  unfold sumLen
  rw [take_snoc' noSer h, List.map_append, List.sum_append]
  simp
theorem heavyJ_no {l : List (SK × Ser)} (h : heavyJ l = false) : l.length ≤ 20 ∧ ∀ x ∈ l, x.2.vals.length ≤ 120 ∧ x.2.name.length ≤ 300 := by
  unfold heavyJ at h
  rw [Bool.or_eq_false_iff, Bool.or_eq_false_iff, decide_eq_false_iff_not] at h
  obtain ⟨⟨h1, h2⟩, _⟩ := h
  refine ⟨by omega, fun x hx => ?_⟩
  have := List.any_eq_false.1 h2 x hx
  unfold bigS at this
  simp only [Bool.or_eq_true, decide_eq_true_eq, not_or] at this
  omega
theorem heavy_l1_ok {k1 : SK} (l : List (SK × Ser)) (hl : l.length ≤ 20) (hv : ∀ x ∈ l, x.2.vals.length ≤ 9223372036854775807) (Q : Out → Prop) (h1 : (l.any fun x => bigS x.2) = true → Q (.ret, [(2, .p (.bool true))], []))
    (h2 : (l.any fun x => bigS x.2) = false → Q (.nrm, [(3, .p (.int .i64 (sumLen l : Nat)))], [])) : ∀ (n i : Nat), i + n = l.length → ((l.take i).any fun x => bigS x.2) = false → sumLen (l.take i) ≤ 120 * i →
    Wp Γ l22_heavy_l1 [(0, .p (.sl k1 5 (sers l))), (3, .p (.int .i64 (sumLen (l.take i) : Nat))), (4, .p (.int .i64 (i : Int)))] [] (InBlk [3] 0 Q) := by
  intro n
  induction n with
  | zero =>
    intro i hi ha _
    obtain rfl : i = l.length := by omega
    rw [List.take_length] at ha ⊢
    rw [W_loop (L := l22_heavy_l1) rfl]
    simp (disch := first | assumption | omega | decide | (simp only [lens] <;> omega) | fail) only [go_sem]
    exact h2 ha
  | succ n ih =>
    intro i hi ha hsum
    have hlt : i < l.length := by omega
    have hmem := ser_mem hlt
    have ih := ih (i + 1) (by omega)
    rw [sumLen_snoc hlt, take_snoc' noSer hlt, List.any_append, ha] at ih
    obtain ⟨x, hx⟩ : ∃ x, l.getD i noSer = x := ⟨_, rfl⟩
    rw [hx] at ih hmem
    have hvx := hv x hmem
    have big : bigS x.2 = true → (l.any fun x => bigS x.2) = true := fun h => List.any_eq_true.2 ⟨x, hmem, h⟩
    unfold bigS at big
    by_cases c1 : 120 < x.2.vals.length
    · rw [W_loop (L := l22_heavy_l1) rfl]
      simp (disch := first | assumption | omega | decide | (simp only [lens] <;> omega) | fail) only [go_sem, hx, serC]
      exact h1 (big (by simp [c1]))
    · by_cases c2 : 300 < x.2.name.length
      · rw [W_loop (L := l22_heavy_l1) rfl]
        simp (disch := first | assumption | omega | decide | (simp only [lens] <;> omega) | fail) only [go_sem, hx, serC]
        exact h1 (big (by simp [c2]))
      · rw [W_loop (L := l22_heavy_l1) rfl]
        simp (disch := first | assumption | omega | decide | (simp only [lens] <;> omega) | fail) only [go_sem, hx, serC]
        refine ih ?_ (by omega)
        simp only [List.any_cons, List.any_nil, Bool.or_false, Bool.false_or, bigS]
        simp [c1, c2]
theorem res_heavy22 {k1 : SK} (l : List (SK × Ser)) (hl : l.length ≤ 9223372036854775807) (hv : ∀ x ∈ l, x.2.vals.length ≤ 9223372036854775807) : res Γ 218 [.sl k1 5 (sers l)] = some [.bool (heavyJ l)] := by
  unfold heavyJ
  by_cases h : 20 < l.length
  · rw [decide_eq_true h]
    refine res_code (fn := l22_heavy) rfl rfl ?_
    simp (disch := first | assumption | omega | decide | (simp only [lens] <;> omega) | fail) only [go_sem, l22_heavy]
  · rw [decide_eq_false h]
    refine res_code (fn := l22_heavy) rfl rfl ?_
    simp (disch := first | assumption | omega | decide | (simp only [lens] <;> omega) | fail) only [go_sem, l22_heavy]
    refine heavy_l1_ok l (by omega) hv _ (fun ha => ?_) (fun ha => ?_) l.length 0 (by omega) rfl (by simp [sumLen])
    · rw [ha]
      simp (disch := first | assumption | omega | decide | (simp only [lens] <;> omega) | fail) only [go_sem]
    · rw [ha]
      simp (disch := first | assumption | omega | decide | (simp only [lens] <;> omega) | fail) only [go_sem]
      have : decide ((400 : Int) < ((sumLen l : Nat) : Int)) = decide (400 < sumLen l) := by rw [decide_eq_decide]; omega
      rw [this]
def longJ (l : List (SK × Ser)) : Bool := decide (errJ (sersOf l) = 0) && decide (l ≠ []) && decide (500 < nJ l)
theorem res_long22 {k1 : SK} (l : List (SK × Ser)) (hl : l.length ≤ 1000000) (hv : ∀ x ∈ l, x.2.vals.length ≤ 1000000) : res Γ 219 [.sl k1 5 (sers l)] = some [.bool (longJ l)] := by
  have eJ := res_r18Join (kk := k1) l hl hv
  unfold joinR at eJ
  unfold longJ
  by_cases he : errJ (sersOf l) = 0
  · rw [if_pos he] at eJ
    rw [decide_eq_true he]
    by_cases h0 : l = []
    · subst h0
      have eJ : res Γ 231 [.sl k1 5 []] = some [.sl .nil 5 [], .int .i64 0] := eJ
      rw [sers_nil]
      refine res_code (fn := l22_long) rfl rfl ?_
      simp (disch := first | assumption | omega | decide | (simp only [lens] <;> omega) | fail) only [go_sem, l22_long, eJ]
      try rfl
    · rw [if_neg h0, joinJ_eq] at eJ
      have hpos : 0 < l.length := List.length_pos_iff.2 h0
      have hjl := @joinW_len l (begJ (sersOf l)) (stepJ (sersOf l)) (manyJ (sersOf l)).toNat
      have hjg := joinW_get (b := begJ (sersOf l)) (st := stepJ (sersOf l)) (n := (manyJ (sersOf l)).toNat) hpos
      have hml : ((joinW l (begJ (sersOf l)) (stepJ (sersOf l)) (manyJ (sersOf l)).toNat).getD 0 noSer).2.vals.length = nJ l := by rw [hjg]; exact fitV_len
      rw [decide_eq_true (show l ≠ [] from h0)]
      obtain ⟨x, hx⟩ : ∃ x, (joinW l (begJ (sersOf l)) (stepJ (sersOf l)) (manyJ (sersOf l)).toNat).getD 0 noSer = x := ⟨_, rfl⟩
      rw [hx] at hml
      generalize joinW l (begJ (sersOf l)) (stepJ (sersOf l)) (manyJ (sersOf l)).toNat = m at *
      refine res_code (fn := l22_long) rfl rfl ?_
      simp (disch := first | assumption | omega | decide | (simp only [lens] <;> omega) | fail) only [go_sem, l22_long, eJ, hx, serC, hml]
      rw [show decide ((500 : Int) < ((nJ l : Nat) : Int)) = decide (500 < nJ l) by rw [decide_eq_decide]; omega]
  · rw [if_neg he] at eJ
    rw [decide_eq_false he]
    refine res_code (fn := l22_long) rfl rfl ?_
    simp (disch := first | assumption | omega | decide | (simp only [lens] <;> omega) | fail) only [go_sem, l22_long, eJ]
theorem applyR_own {nm : List UInt8} {p : Val} {kind : Int} {l : List (SK × Ser)} : applyR nm p kind (ownL l) = applyR nm p kind l := by
  unfold applyR
  have e1 : bJ (ownL l) = bJ l := by unfold bJ; rw [ownL_of]
  have e2 : sJ (ownL l) = sJ l := by unfold sJ; rw [ownL_of]
  have e3 : nJ (ownL l) = nJ l := by unfold nJ; rw [ownL_of]
  have e4 : namesJ (ownL l) = namesJ l := by unfold namesJ ownL; rw [List.map_map]; rfl
  have e5 : ∀ b st n, joinW (ownL l) b st n = joinW l b st n := fun b st n => by unfold joinW ownL; rw [List.map_map]; rfl
  have e6 : (ownL l = []) = (l = []) := by unfold ownL; simp
  rw [e1, e2, e3, e4, e5, ownL_of]
  simp only [e6]
theorem applyR_cases (nm : List UInt8) (p : Val) (kind : Int) (l : List (SK × Ser)) : (∃ e : Int, applyR nm p kind l = [.sl .nil 5 [], .int .i64 e]) ∨ (∃ (k : SK) (s : Ser), s.vals.length ≤ 1000000 ∧ applyR nm p kind l = [.sl .tight 5 [s.pv k], .int .i64 0]) := by
  unfold applyR
  by_cases h1 : nm ∉ jAll
  · rw [if_pos h1]; exact .inl ⟨_, rfl⟩
  · rw [if_neg h1]
    by_cases h2 : errJ (sersOf l) ≠ 0
    · rw [if_pos h2]; exact .inl ⟨_, rfl⟩
    · rw [if_neg h2]
      by_cases h3 : l = []
      · rw [if_pos h3]; exact .inl ⟨_, rfl⟩
      · rw [if_neg h3]
        refine .inr ⟨_, _, ?_, rfl⟩
        have := nJ_le (by omega) h3
        show (colsV _ _ _ _ _).length ≤ _
        rw [colsV_len]; omega
theorem res_applied {kk : SK} (nm : List UInt8) (hnm : nm.length ≤ 1000000) (p : Val) (kind : Int) (l : List (SK × Ser)) (hl : l.length ≤ 9223372036854775807) (hv : ∀ x ∈ l, x.2.vals.length ≤ 9223372036854775807) : res Γ 215 [.str nm, .agg [.bool p.1, .int .i64 p.2], .int .i64 kind, .sl kk 5 (sers l)] = some [.bool true] := by
  have hk := res_known22
  have h1 := res_heavy22 (k1 := kk) l hl hv
  cases hh : heavyJ l
  · rw [hh] at h1
    obtain ⟨g1, g2⟩ := heavyJ_no hh
    have gv : ∀ x ∈ l, x.2.vals.length ≤ 1000000 := fun x hx => by have := (g2 x hx).1; omega
    have gn : ∀ x ∈ l, x.2.name.length ≤ 4096 := fun x hx => by have := (g2 x hx).2; omega
    have gv' : ∀ x ∈ ownL l, x.2.vals.length ≤ 1000000 := fun x hx => by obtain ⟨y, hy, rfl⟩ := List.mem_map.1 hx; exact gv y hy
    have gn' : ∀ x ∈ ownL l, x.2.name.length ≤ 4096 := fun x hx => by obtain ⟨y, hy, rfl⟩ := List.mem_map.1 hx; exact gn y hy
    have h2 := res_long22 (k1 := kk) l (by omega) gv
    cases hlo : longJ l
    · rw [hlo] at h2
      have h3 := res_own22 (kk := kk) l (by omega) gv
      have h4 := res_Apply (kk := .any) nm hnm p kind (ownL l) (by rw [ownL_len]; omega) gv' gn'
      have h5 := res_rApply (kk := kk) nm hnm p kind l (by omega) gv gn
      have h6 := res_all22 (k1 := .any) (k2 := kk) (ownL l) l ownL_of (by rw [ownL_len]; omega) gv'
      rw [applyR_own] at h4
      rcases applyR_cases nm p kind l with ⟨e, he⟩ | ⟨k, s, hs, he⟩
      · rw [he] at h4 h5
        have h7 : res Γ 223 [.sl .nil 5 [], .sl .nil 5 []] = some [.bool true] := res_all22 (k1 := .nil) (k2 := .nil) [] [] rfl (by simp) (by simp)
        refine res_code (fn := l22_applied) rfl rfl ?_
        simp (disch := first | assumption | omega | decide | (simp only [lens] <;> omega) | fail) only [go_sem, l22_applied, h1, h2, h3, h4, h5, h6, h7, hk]
      · rw [he] at h4 h5
        have h7 : res Γ 223 [.sl .tight 5 [s.pv k], .sl .tight 5 [s.pv k]] = some [.bool true] := res_all22 (k1 := .tight) (k2 := .tight) [(k, s)] [(k, s)] rfl (by simp) (by simpa using hs)
        refine res_code (fn := l22_applied) rfl rfl ?_
        simp (disch := first | assumption | omega | decide | (simp only [lens] <;> omega) | fail) only [go_sem, l22_applied, h1, h2, h3, h4, h5, h6, h7, hk]
    · rw [hlo] at h2
      refine res_code (fn := l22_applied) rfl rfl ?_
      simp (disch := first | assumption | omega | decide | (simp only [lens] <;> omega) | fail) only [go_sem, l22_applied, h1, h2]
  · rw [hh] at h1
    refine res_code (fn := l22_applied) rfl rfl ?_
    simp (disch := first | assumption | omega | decide | (simp only [lens] <;> omega) | fail) only [go_sem, l22_applied, h1]
end Ab
