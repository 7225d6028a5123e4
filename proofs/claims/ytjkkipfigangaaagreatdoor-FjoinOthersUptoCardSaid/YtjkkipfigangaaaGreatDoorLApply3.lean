import Derived.Test.YtjkkipfigangaaaGreatDoorLPair1
namespace Ab
open Go (IntKind BinOp UnOp)
def fstE (f : Nat → Int) : Nat → Nat → Int
  | _, 0 => 0
  | i, k + 1 => if f i = 0 then fstE f (i + 1) k else f i
theorem fstE_zero {f : Nat → Int} {i k : Nat} (h : f i = 0) : fstE f i (k + 1) = fstE f (i + 1) k := by rw [fstE, if_pos h]
theorem fstE_not {f : Nat → Int} {i k : Nat} (h : f i ≠ 0) : fstE f i (k + 1) = f i := by rw [fstE, if_neg h]
def shareL (nm : List UInt8) (l : List (SK × Ser)) (a b : Int) (g : Nat → Nat → Val) (n k : Nat) : List (SK × Ser) :=
  (List.range k).map fun i => (fitK n, ⟨labelL nm [(l.getD i noSer).2.name], a, b, valsF (g i) n, 0⟩)
theorem shareL_succ {nm l a b g n k} : shareL nm l a b g n (k + 1) = shareL nm l a b g n k ++ [(fitK n, ⟨labelL nm [(l.getD k noSer).2.name], a, b, valsF (g k) n, 0⟩)] := by simp [shareL, List.range_succ]
theorem shareL_len {nm l a b g n k} : (shareL nm l a b g n k).length = k := by simp [shareL]
set_option maxRecDepth 10000 in
theorem shares_l1_ok {k2 : SK} (nm : List UInt8) (hnm : nm.length ≤ 1000000) (l : List (SK × Ser)) (hl : l.length ≤ 1000000) (hn : ∀ x ∈ l, x.2.name.length ≤ 4096) (P : PV) (a b : Int) (g : Nat → Nat → Val) (n : Nat)
    (hS : ∀ (k : Nat) (lab : List UInt8), k < l.length → resM Γ 2 227 [.p P, .p (.str lab), .clo 272 [.bx 0 0, .bx 1 0]] [.box [.p P], .box [.p (.int .i64 (k : Int))]] = some ([serA lab a b (g k) n], .box [.p P] :: .box [.p (.int .i64 (k : Int))] :: serH (g k) n))
    (Q : Out → Prop) (hQ : Q (.nrm, [(8, .own 1 l.length)], [.box [.p P], .row false 5 (sers (shareL nm l a b g n l.length))])) : ∀ (j k : Nat) (env : Env) (H : Heap), k + j = l.length →
    norm [0, 6, 8, 19, 20, 21] (some 0) env H = some ([(0, .p (.str nm)), (6, .bx 0 0), (8, .own 1 k), (19, .p (.sl k2 5 (sers l))), (20, .p (.int .i64 (l.length : Int))), (21, .p (.int .i64 (k : Int)))], [.box [.p P], .row false 5 (sers (shareL nm l a b g n k))]) →
    Wp Γ fjoin_shares_l1 env H (InBlk [8] 0 Q) := by
  intro j
  induction j with
  | zero =>
    intro k env H hj hN
    obtain rfl : k = l.length := by omega
    rw [W_loop (L := fjoin_shares_l1) rfl]
    rw [hN]
    simp (disch := first | assumption | omega | decide | (simp only [lens] <;> omega) | fail) only [go_sem]
    exact hQ
  | succ j ih =>
    intro k env H hj hN
    have hlt : k < l.length := by omega
    have hmem := ser_mem hlt
    have ih := fun env H => ih (k + 1) env H (by omega)
    rw [shareL_succ] at ih
    have hlen : (sers (shareL nm l a b g n k)).length = k := by rw [sers_len, shareL_len]
    have hnx := hn _ hmem
    obtain ⟨x, hx⟩ : ∃ x, l.getD k noSer = x := ⟨_, rfl⟩
    rw [hx] at ih hnx
    have eL : res Γ 30 [.str nm, .sl .tight 1 [.str x.2.name]] = some [.str (labelL nm [x.2.name])] := res_seriesLabelL (kk := .tight) nm [x.2.name] hnm (by simp) (by simp [joinB]; omega)
    have eS := hS k (labelL nm [x.2.name]) hlt
    have hvl := @valsF_len (g k) n
    unfold serA serH at eS
    unfold fitK at ih
    by_cases h0 : n = 0
    · subst h0
      rw [if_pos rfl, if_pos rfl] at eS
      rw [if_pos rfl] at ih
      have ev : valsF (g k) 0 = [] := rfl
      rw [ev] at ih
      rw [W_loop (L := fjoin_shares_l1) rfl]
      rw [hN]
      simp (disch := first | assumption | omega | decide | (simp only [lens] <;> omega) | fail) only [go_sem, hx, serC, eL, eS, st227]
      refine ih _ _ ?_
      simp (disch := first | assumption | omega | decide | (simp only [lens] <;> omega) | fail) only [go_sem]
      rw [← sers_app]
      rfl
    · rw [if_neg h0, if_neg h0] at eS
      rw [if_neg h0] at ih
      rw [W_loop (L := fjoin_shares_l1) rfl]
      rw [hN]
      simp (disch := first | assumption | omega | decide | (simp only [lens] <;> omega) | fail) only [go_sem, hx, serC, eL, eS, st227]
      refine ih _ _ ?_
      simp (disch := first | assumption | omega | decide | (simp only [lens] <;> omega) | fail) only [go_sem]
      rfl
def sharesR (nm : List UInt8) (l : List (SK × Ser)) : List PV :=
  if errJ (sersOf l) ≠ 0 then [.sl .nil 5 [], .int .i64 (errJ (sersOf l))]
  else [.sl .any 5 (sers (shareL nm l (bJ l) (sJ l) (fun k i => shareV (colJ (joinW l (bJ l) (sJ l) (nJ l)) k i) (aggV 2 (knL (atV (joinW l (bJ l) (sJ l) (nJ l)) i)))) (nJ l) l.length)), .int .i64 0]
set_option maxRecDepth 10000 in
theorem res_shares {kk : SK} (nm : List UInt8) (hnm : nm.length ≤ 1000000) (l : List (SK × Ser)) (hl : l.length ≤ 1000000) (hv : ∀ x ∈ l, x.2.vals.length ≤ 1000000) (hn : ∀ x ∈ l, x.2.name.length ≤ 4096) :
    res Γ 258 [.str nm, .sl kk 5 (sers l)] = some (sharesR nm l) := by
  unfold sharesR
  by_cases he : errJ (sersOf l) = 0
  · rw [if_neg (fun h => h he)]
    by_cases h0 : l = []
    · subst h0
      have e1 := @res_join_nil kk
      rw [sers_nil]
      refine res_code (fn := fjoin_shares) rfl rfl ?_
      simp (disch := first | assumption | omega | decide | (simp only [lens] <;> omega) | fail) only [go_sem, fjoin_shares, e1, ne_eq, not_true_eq_false]
      rw [W_loop (L := fjoin_shares_l1) rfl]
      simp (disch := first | assumption | omega | decide | (simp only [lens] <;> omega) | fail) only [go_sem]
      rfl
    · have e1 := res_join_ok (kk := kk) l hl hv h0 he
      have hn1 := nJ_le he h0
      have eS := fun (k : Nat) (lab : List UInt8) (hk : k < l.length) => resM_series (K := .any) 272 (k : Int) lab (bJ l) (sJ l) (joinW l (bJ l) (sJ l) (nJ l)) (fun i => shareV (colJ (joinW l (bJ l) (sJ l) (nJ l)) k i) (aggV 2 (knL (atV (joinW l (bJ l) (sJ l) (nJ l)) i)))) (nJ l) (by omega) (many_ok h0)
        (fun i hi => res_shares1 _ (by rw [joinW_len]; omega) k (by rw [joinW_len]; omega) i (joinW_ok hi) (by omega))
      have L := fun k2 Q hQ env H hN => shares_l1_ok (k2 := k2) nm hnm l hl hn _ (bJ l) (sJ l) (fun k i => shareV (colJ (joinW l (bJ l) (sJ l) (nJ l)) k i) (aggV 2 (knL (atV (joinW l (bJ l) (sJ l) (nJ l)) i)))) (nJ l) eS Q hQ l.length 0 env H (by omega) hN
      have hlen : (sers (shareL nm l (bJ l) (sJ l) (fun k i => shareV (colJ (joinW l (bJ l) (sJ l) (nJ l)) k i) (aggV 2 (knL (atV (joinW l (bJ l) (sJ l) (nJ l)) i)))) (nJ l) l.length)).length = l.length := by rw [sers_len, shareL_len]
      generalize (fun k i => shareV (colJ (joinW l (bJ l) (sJ l) (nJ l)) k i) (aggV 2 (knL (atV (joinW l (bJ l) (sJ l) (nJ l)) i)))) = g at *
      generalize joinW l (bJ l) (sJ l) (nJ l) = m at *
      refine res_code (fn := fjoin_shares) rfl rfl ?_
      simp (disch := first | assumption | omega | decide | (simp only [lens] <;> omega) | fail) only [go_sem, fjoin_shares, e1, ne_eq, not_true_eq_false]
      refine L kk _ ?_ _ _ ?_
      · simp (disch := first | assumption | omega | decide | (simp only [lens] <;> omega) | fail) only [go_sem]
      · simp (disch := first | assumption | omega | decide | (simp only [lens] <;> omega) | fail) only [go_sem]
        rfl
  · rw [if_pos he]
    have e1 := res_join_err (kk := kk) l hl hv he
    refine res_code (fn := fjoin_shares) rfl rfl ?_
    simp (disch := first | assumption | omega | decide | (simp only [lens] <;> omega) | fail) only [go_sem, fjoin_shares, e1]
def yAt (m : List (SK × Ser)) (i : Nat) : SK × Ser := m.getD (if 1 < m.length then i else 0) noSer
def errP (m l : List (SK × Ser)) (i : Nat) : Int := errJ (sersOf [l.getD i noSer, yAt m i])
def pairL (nm : List UInt8) (g : Val → Val → Val) (m l : List (SK × Ser)) (k : Nat) : List (SK × Ser) := (List.range k).map fun i => twoS nm g (l.getD i noSer) (yAt m i)
theorem pairL_succ {nm g m l k} : pairL nm g m l (k + 1) = pairL nm g m l k ++ [twoS nm g (l.getD k noSer) (yAt m k)] := by simp [pairL, List.range_succ]
theorem pairL_len {nm g m l k} : (pairL nm g m l k).length = k := by simp [pairL]
set_option maxRecDepth 10000 in
theorem Pair_l1_ok {k1 k2 : SK} {F : Nat} {g : Val → Val → Val} (hF : ∀ x y : Val, res Γ F [.agg [.bool x.1, .int .i64 x.2], .agg [.bool y.1, .int .i64 y.2]] = some [.agg [.bool (g x y).1, .int .i64 (g x y).2]])
    (nm : List UInt8) (hnm : nm.length ≤ 1000000) (m l : List (SK × Ser)) (hl : l.length ≤ 1000000) (hm : m.length ≤ 1000000) (hm0 : 0 < m.length) (hml : 1 < m.length → m.length = l.length)
    (hv : ∀ x ∈ l, x.2.vals.length ≤ 1000000) (hn : ∀ x ∈ l, x.2.name.length ≤ 4096) (hv' : ∀ x ∈ m, x.2.vals.length ≤ 1000000) (hn' : ∀ x ∈ m, x.2.name.length ≤ 4096)
    (Q : Out → Prop) (hQ : fstE (errP m l) 0 l.length = 0 → Q (.nrm, [(9, .own 0 l.length)], [.row false 5 (sers (pairL nm g m l l.length))]))
    (hQe : fstE (errP m l) 0 l.length ≠ 0 → ∀ H, Q (.ret, [(6, .p (.sl .nil 5 [])), (7, .p (.int .i64 (fstE (errP m l) 0 l.length)))], H)) : ∀ (j i : Nat) (env : Env) (H : Heap), i + j = l.length → fstE (errP m l) 0 l.length = fstE (errP m l) i j →
    norm [0, 1, 8, 9, 53, 54, 55] (some 0) env H = some ([(0, .p (.str nm)), (1, .p (.sl k1 5 (sers m))), (8, .p (.clo F [])), (9, .own 0 i), (53, .p (.sl k2 5 (sers l))), (54, .p (.int .i64 (l.length : Int))), (55, .p (.int .i64 (i : Int)))], [.row false 5 (sers (pairL nm g m l i))]) →
    Wp Γ fjoin_Pair_l1 env H (InBlk [9] 1 Q) := by
  intro j
  induction j with
  | zero =>
    intro i env H hj hfe hN
    obtain rfl : i = l.length := by omega
    rw [W_loop (L := fjoin_Pair_l1) rfl]
    rw [hN]
    simp (disch := first | assumption | omega | decide | (simp only [lens] <;> omega) | fail) only [go_sem]
    exact hQ hfe
  | succ j ih =>
    intro i env H hj hfe hN
    have hlt : i < l.length := by omega
    have hmem := ser_mem hlt
    have ih := fun h env H => ih (i + 1) env H (by omega) h
    rw [pairL_succ] at ih
    have hlen : (sers (pairL nm g m l i)).length = i := by rw [sers_len, pairL_len]
    have hym : yAt m i ∈ m := by
      unfold yAt
      refine ser_mem ?_
      split
      · rename_i h; rw [hml h]; exact hlt
      · exact hm0
    have e := res_two hF nm hnm (l.getD i noSer) (yAt m i) (hv _ hmem) (hv' _ hym) (hn _ hmem) (hn' _ hym)
    unfold twoR at e
    by_cases hE : errP m l i = 0
    · rw [fstE_zero hE] at hfe
      have ih := ih hfe
      have hE' : errJ (sersOf [l.getD i noSer, yAt m i]) = 0 := hE
      rw [if_neg (fun h => h hE')] at e
      clear hE hE' hfe hQ hQe
      generalize twoS nm g (l.getD i noSer) (yAt m i) = z at *
      obtain ⟨zk, ⟨z1, z2, z3, z4, z5⟩⟩ := z
      unfold yAt at e
      unfold Ser.pv at e
      by_cases h1 : 1 < m.length
      · have hi' : i < m.length := by rw [hml h1]; exact hlt
        rw [if_pos h1] at e
        rw [W_loop (L := fjoin_Pair_l1) rfl]
        rw [hN]
        simp (disch := first | assumption | omega | decide | (simp only [lens] <;> omega) | fail) only [go_sem, serC, e, ne_eq, not_true_eq_false]
        refine ih _ _ ?_
        simp (disch := first | assumption | omega | decide | (simp only [lens] <;> omega) | fail) only [go_sem]
        rfl
      · rw [if_neg h1] at e
        rw [W_loop (L := fjoin_Pair_l1) rfl]
        rw [hN]
        simp (disch := first | assumption | omega | decide | (simp only [lens] <;> omega) | fail) only [go_sem, serC, e, ne_eq, not_true_eq_false]
        refine ih _ _ ?_
        simp (disch := first | assumption | omega | decide | (simp only [lens] <;> omega) | fail) only [go_sem]
        rfl
    · rw [fstE_not hE] at hfe
      have hE' : errJ (sersOf [l.getD i noSer, yAt m i]) ≠ 0 := hE
      rw [if_pos hE'] at e
      have hQe := hQe (by rw [hfe]; exact hE)
      rw [hfe] at hQe
      unfold errP at hQe hE
      clear hfe hQ hE'
      generalize errJ (sersOf [l.getD i noSer, yAt m i]) = E at *
      have hz : noSer.2.pv .nil = .agg [.str [], .int .i64 0, .int .i64 0, .sl .nil 2 [], .int .i64 0] := rfl
      rw [hz] at e
      unfold yAt at e
      unfold Ser.pv at e
      by_cases h1 : 1 < m.length
      · have hi' : i < m.length := by rw [hml h1]; exact hlt
        rw [if_pos h1] at e
        rw [W_loop (L := fjoin_Pair_l1) rfl]
        rw [hN]
        simp (disch := first | assumption | omega | decide | (simp only [lens] <;> omega) | fail) only [go_sem, serC, e]
        exact hQe _
      · rw [if_neg h1] at e
        rw [W_loop (L := fjoin_Pair_l1) rfl]
        rw [hN]
        simp (disch := first | assumption | omega | decide | (simp only [lens] <;> omega) | fail) only [go_sem, serC, e]
        exact hQe _
def pDiv : List UInt8 := [100, 105, 118, 105, 100, 101, 83, 101, 114, 105, 101, 115]
def pPer : List UInt8 := [97, 115, 80, 101, 114, 99, 101, 110, 116]
def opP (nm : List UInt8) : Val → Val → Val := if nm = pPer then shareV else divV
def pairR (nm : List UInt8) (m l : List (SK × Ser)) : List PV :=
  if nm ≠ pDiv ∧ nm ≠ pPer then [.sl .nil 5 [], .int .i64 9]
  else if nm = pPer ∧ m = [] then sharesR nm l
  else if m.length ≠ 1 ∧ (nm = pDiv ∨ m.length ≠ l.length) then [.sl .nil 5 [], .int .i64 1]
  else if fstE (errP m l) 0 l.length ≠ 0 then [.sl .nil 5 [], .int .i64 (fstE (errP m l) 0 l.length)]
  else [.sl .any 5 (sers (pairL nm (opP nm) m l l.length)), .int .i64 0]
set_option maxRecDepth 10000 in
theorem res_Pair {k1 k2 : SK} (nm : List UInt8) (hnm : nm.length ≤ 1000000) (m l : List (SK × Ser)) (hl : l.length ≤ 1000000) (hm : m.length ≤ 1000000)
    (hv : ∀ x ∈ l, x.2.vals.length ≤ 1000000) (hn : ∀ x ∈ l, x.2.name.length ≤ 4096) (hv' : ∀ x ∈ m, x.2.vals.length ≤ 1000000) (hn' : ∀ x ∈ m, x.2.name.length ≤ 4096) :
    res Γ 233 [.str nm, .sl k1 5 (sers m), .sl k2 5 (sers l)] = some (pairR nm m l) := by
  have hdp : ¬ pDiv = pPer := by decide
  have hpd : ¬ pPer = pDiv := by decide
  have hlen : (sers (pairL nm (opP nm) m l l.length)).length = l.length := by rw [sers_len, pairL_len]
  have fin : ∀ (F : Nat), (∀ x y : Val, res Γ F [.agg [.bool x.1, .int .i64 x.2], .agg [.bool y.1, .int .i64 y.2]] = some [.agg [.bool (opP nm x y).1, .int .i64 (opP nm x y).2]]) → 0 < m.length → (1 < m.length → m.length = l.length) →
      ∀ Q, (fstE (errP m l) 0 l.length = 0 → Q (.nrm, [(9, .own 0 l.length)], [.row false 5 (sers (pairL nm (opP nm) m l l.length))])) →
      (fstE (errP m l) 0 l.length ≠ 0 → ∀ H, Q (.ret, [(6, .p (.sl .nil 5 [])), (7, .p (.int .i64 (fstE (errP m l) 0 l.length)))], H)) →
      Wp Γ fjoin_Pair_l1 [(0, .p (.str nm)), (1, .p (.sl k1 5 (sers m))), (8, .p (.clo F [])), (9, .own 0 0), (53, .p (.sl k2 5 (sers l))), (54, .p (.int .i64 (l.length : Int))), (55, .p (.int .i64 0))] [.row false 5 []] (InBlk [9] 1 Q) :=
    fun F hF h0 h1 Q q1 q2 => Pair_l1_ok hF nm hnm m l hl hm h0 h1 hv hn hv' hn' Q q1 q2 l.length 0 _ _ (by omega) rfl (by simp (disch := first | assumption | omega | decide | (simp only [lens] <;> omega) | fail) only [go_sem]; rfl)
  unfold pairR
  by_cases c1 : nm = pPer
  · rw [if_neg (fun h => h.2 c1)]
    have hop : opP nm = shareV := by unfold opP; rw [if_pos c1]
    have hF : ∀ x y : Val, res Γ 259 [.agg [.bool x.1, .int .i64 x.2], .agg [.bool y.1, .int .i64 y.2]] = some [.agg [.bool (opP nm x y).1, .int .i64 (opP nm x y).2]] := by rw [hop]; exact res_share
    have fin := fin 259 hF
    have c2 : ¬ nm = pDiv := by rw [c1]; exact hpd
    clear hop hF
    by_cases c3 : m = []
    · rw [if_pos ⟨c1, c3⟩]
      have e := res_shares (kk := k2) nm hnm l hl hv hn
      have hs : ∃ a b, sharesR nm l = [a, b] := by
        unfold sharesR
        split
        · exact ⟨_, _, rfl⟩
        · exact ⟨_, _, rfl⟩
      obtain ⟨a, b, hab⟩ := hs
      rw [hab] at e ⊢
      clear fin c2 hab hlen
      subst c3 c1
      unfold pPer at *
      refine res_code (fn := fjoin_Pair) rfl rfl ?_
      simp (disch := first | assumption | omega | decide | (simp only [lens] <;> omega) | fail) only [go_sem, fjoin_Pair, e]
    · rw [if_neg (fun h => c3 h.2)]
      have hpos : 0 < m.length := List.length_pos_iff.2 c3
      by_cases c4 : m.length = 1
      · rw [if_neg (fun h => h.1 c4)]
        have fin := fin hpos (by omega)
        subst c1
        generalize opP pPer = g at *
        unfold pPer at *
        by_cases hE : fstE (errP m l) 0 l.length = 0
        · rw [if_neg (fun h => h hE)]
          refine res_code (fn := fjoin_Pair) rfl rfl ?_
          simp (disch := first | assumption | omega | decide | (simp only [lens] <;> omega) | fail) only [go_sem, fjoin_Pair, c4]
          refine fin _ (fun _ => ?_) (fun h => absurd hE h)
          simp (disch := first | assumption | omega | decide | (simp only [lens] <;> omega) | fail) only [go_sem]
        · rw [if_pos hE]
          refine res_code (fn := fjoin_Pair) rfl rfl ?_
          simp (disch := first | assumption | omega | decide | (simp only [lens] <;> omega) | fail) only [go_sem, fjoin_Pair, c4]
          refine fin _ (fun h => absurd h hE) (fun _ H => ?_)
          simp (disch := first | assumption | omega | decide | (simp only [lens] <;> omega) | fail) only [go_sem]
      · by_cases c5 : m.length = l.length
        · rw [if_neg (fun h => h.2.elim c2 (fun h => h c5))]
          have fin := fin hpos (fun _ => c5)
          subst c1
          generalize opP pPer = g at *
          unfold pPer at *
          by_cases hE : fstE (errP m l) 0 l.length = 0
          · rw [if_neg (fun h => h hE)]
            refine res_code (fn := fjoin_Pair) rfl rfl ?_
            simp (disch := first | assumption | omega | decide | (simp only [lens] <;> omega) | fail) only [go_sem, fjoin_Pair]
            refine fin _ (fun _ => ?_) (fun h => absurd hE h)
            simp (disch := first | assumption | omega | decide | (simp only [lens] <;> omega) | fail) only [go_sem]
          · rw [if_pos hE]
            refine res_code (fn := fjoin_Pair) rfl rfl ?_
            simp (disch := first | assumption | omega | decide | (simp only [lens] <;> omega) | fail) only [go_sem, fjoin_Pair]
            refine fin _ (fun h => absurd h hE) (fun _ H => ?_)
            simp (disch := first | assumption | omega | decide | (simp only [lens] <;> omega) | fail) only [go_sem]
        · rw [if_pos ⟨c4, .inr c5⟩]
          clear fin c2
          subst c1
          unfold pPer at *
          refine res_code (fn := fjoin_Pair) rfl rfl ?_
          simp (disch := first | assumption | omega | decide | (simp only [lens] <;> omega) | fail) only [go_sem, fjoin_Pair]
  · by_cases c2 : nm = pDiv
    · rw [if_neg (fun h => h.1 c2), if_neg (fun h => c1 h.1)]
      have hop : opP nm = divV := by unfold opP; rw [if_neg c1]
      have hF : ∀ x y : Val, res Γ 138 [.agg [.bool x.1, .int .i64 x.2], .agg [.bool y.1, .int .i64 y.2]] = some [.agg [.bool (opP nm x y).1, .int .i64 (opP nm x y).2]] := by rw [hop]; exact res_fixedDivV
      have fin := fin 138 hF
      clear hop hF c1
      by_cases c4 : m.length = 1
      · rw [if_neg (fun h => h.1 c4)]
        have fin := fin (by omega) (by omega)
        subst c2
        generalize opP pDiv = g at *
        unfold pDiv at *
        by_cases hE : fstE (errP m l) 0 l.length = 0
        · rw [if_neg (fun h => h hE)]
          refine res_code (fn := fjoin_Pair) rfl rfl ?_
          simp (disch := first | assumption | omega | decide | (simp only [lens] <;> omega) | fail) only [go_sem, fjoin_Pair, c4]
          refine fin _ (fun _ => ?_) (fun h => absurd hE h)
          simp (disch := first | assumption | omega | decide | (simp only [lens] <;> omega) | fail) only [go_sem]
        · rw [if_pos hE]
          refine res_code (fn := fjoin_Pair) rfl rfl ?_
          simp (disch := first | assumption | omega | decide | (simp only [lens] <;> omega) | fail) only [go_sem, fjoin_Pair, c4]
          refine fin _ (fun h => absurd h hE) (fun _ H => ?_)
          simp (disch := first | assumption | omega | decide | (simp only [lens] <;> omega) | fail) only [go_sem]
      · rw [if_pos ⟨c4, .inl c2⟩]
        clear fin
        subst c2
        unfold pDiv at *
        refine res_code (fn := fjoin_Pair) rfl rfl ?_
        simp (disch := first | assumption | omega | decide | (simp only [lens] <;> omega) | fail) only [go_sem, fjoin_Pair]
    · rw [if_pos ⟨c2, c1⟩]
      clear fin
      unfold pDiv at c2
      unfold pPer at c1
      refine res_code (fn := fjoin_Pair) rfl rfl ?_
      simp (disch := first | assumption | omega | decide | (simp only [lens] <;> omega) | fail) only [go_sem, fjoin_Pair]
end Ab
namespace Ab
open Go (IntKind BinOp UnOp)
theorem at_l1_ok {k2 : SK} (m : List (SK × Ser)) (hm : m.length ≤ 1000000) (i : Nat) (hi : ∀ x ∈ m, i < x.2.vals.length) (hb : i < 1000000000) (Q : Out → Prop) (hQ : Q (.nrm, [(5, .own 0 m.length)], [.row false 2 (vpv (atV m i))])) : ∀ (n j : Nat), j + n = m.length →
    Wp Γ r22_at_l1 [(0, .p (.sl k2 5 (sers m))), (1, .p (.int .i64 (i : Int))), (5, .own 0 j), (6, .p (.int .i64 (j : Int)))] [.row false 2 (vpv (atV (m.take j) i))] (InBlk [5] 0 Q) := by
  intro n
  induction n with
  | zero =>
    intro j hj
    obtain rfl : j = m.length := by omega
    rw [List.take_length]
    rw [W_loop (L := r22_at_l1) rfl]
    simp (disch := first | assumption | omega | decide | (simp only [lens] <;> omega) | fail) only [go_sem]
    exact hQ
  | succ n ih =>
    intro j hj
    have hlt : j < m.length := by omega
    have hmem := ser_mem hlt
    have ih := ih (j + 1) (by omega)
    rw [atV_snoc hlt] at ih
    have hlen : (atV (m.take j) i).length = j := by rw [atV_len, List.length_take]; omega
    have hvl := hi _ hmem
    obtain ⟨x, hx⟩ : ∃ x, m.getD j noSer = x := ⟨_, rfl⟩
    rw [hx] at ih hvl
    rw [W_loop (L := r22_at_l1) rfl]
    simp (disch := first | assumption | omega | decide | (simp only [lens] <;> omega) | fail) only [go_sem, hx, serC, valP]
    exact ih
theorem res_atJ {kk : SK} (m : List (SK × Ser)) (hm : m.length ≤ 1000000) (i : Nat) (hi : ∀ x ∈ m, i < x.2.vals.length) (hb : i < 1000000000) : res Γ 235 [.sl kk 5 (sers m), .int .i64 (i : Int)] = some [.sl .any 2 (vpv (atV m i))] := by
  have hlen := @atV_len m i
  refine res_code (fn := r22_at) rfl rfl ?_
  simp (disch := first | assumption | omega | decide | (simp only [lens] <;> omega) | fail) only [go_sem, r22_at]
  refine at_l1_ok m hm i hi hb _ ?_ m.length 0 (by omega)
  simp (disch := first | assumption | omega | decide | (simp only [lens] <;> omega) | fail) only [go_sem]
theorem names_l1_ok {k2 : SK} (m : List (SK × Ser)) (hm : m.length ≤ 1000000) (Q : Out → Prop) (hQ : Q (.nrm, [(3, .own 0 m.length)], [.row false 1 (strs (namesJ m))])) : ∀ (n j : Nat), j + n = m.length →
    Wp Γ r22_names_l1 [(0, .p (.sl k2 5 (sers m))), (3, .own 0 j), (4, .p (.int .i64 (j : Int)))] [.row false 1 (strs (namesJ (m.take j)))] (InBlk [3] 0 Q) := by
  intro n
  induction n with
  | zero =>
    intro j hj
    obtain rfl : j = m.length := by omega
    rw [List.take_length]
    rw [W_loop (L := r22_names_l1) rfl]
    simp (disch := first | assumption | omega | decide | (simp only [lens] <;> omega) | fail) only [go_sem]
    exact hQ
  | succ n ih =>
    intro j hj
    have hlt : j < m.length := by omega
    have ih := ih (j + 1) (by omega)
    rw [namesJ_snoc hlt] at ih
    have hlen : (namesJ (m.take j)).length = j := by rw [namesJ_len, List.length_take]; omega
    obtain ⟨x, hx⟩ : ∃ x, m.getD j noSer = x := ⟨_, rfl⟩
    rw [hx] at ih
    rw [W_loop (L := r22_names_l1) rfl]
    simp (disch := first | assumption | omega | decide | (simp only [lens] <;> omega) | fail) only [go_sem, hx, serC]
    exact ih
theorem resM_names {kk : SK} (m : List (SK × Ser)) (hm : m.length ≤ 1000000) : resM Γ 0 238 [.p (.sl kk 5 (sers m))] [] = some ([.own 0 m.length], [.row false 1 (strs (namesJ m))]) := by
  refine resM_code (fn := r22_names) rfl rfl ?_
  simp (disch := first | assumption | omega | decide | (simp only [lens] <;> omega) | fail) only [go_sem, r22_names]
  refine names_l1_ok m hm _ ?_ m.length 0 (by omega)
  simp (disch := first | assumption | omega | decide | (simp only [lens] <;> omega) | fail) only [go_sem]
theorem st238 : stillF Γ 0 238 = true := rfl
set_option maxRecDepth 10000 in
theorem rApply_l1_ok {K : SK} {nm : List UInt8} (hnm : nm ∈ jAll) (p : Val) (kind : Int) (lab : List UInt8) (a b : Int) (m : List (SK × Ser)) (hm : m.length ≤ 1000000) (n : Nat) (hn : n ≤ 1000000) (h0 : 0 < m.length) (hml : (m.getD 0 noSer).2.vals.length = n) (hi : ∀ i, i < n → ∀ x ∈ m, i < x.2.vals.length) (Q : Out → Prop)
    (hQ : Q (.nrm, [(15, .bx 0 0)], [serB lab a b (.own 1 n) 0, .row false 2 (vpv (valsF (fun i => placeV nm p kind (knL (atV m i))) n))])) : ∀ (k i : Nat) (env : Env) (H : Heap), i + 1 + k = n →
    norm [0, 2, 5, 12, 15, 16] (some 0) env H = some ([(0, .p (.str nm)), (2, .p (.int .i64 kind)), (5, .p (.ptr [.bool p.1, .int .i64 p.2])), (12, .p (.sl K 5 (sers m))), (15, .bx 0 0), (16, .p (.int .i64 ((i + 1 : Nat) : Int)))], [serB lab a b (.own 1 (i + 1)) 0, .row false 2 (vpv (valsF (fun i => placeV nm p kind (knL (atV m i))) (i + 1)))]) →
    Wp Γ r22_Apply_l1 env H (InBlk [15] 0 Q) := by
  obtain ⟨x, hx⟩ : ∃ x, m.getD 0 noSer = x := ⟨_, rfl⟩
  rw [hx] at hml
  intro k
  induction k with
  | zero =>
    intro i env H hi' hN
    have hi' : i + 1 = n := by omega
    rw [hi'] at hN
    rw [W_loop (L := r22_Apply_l1) rfl]
    rw [hN]
    simp (disch := first | assumption | omega | decide | (simp only [lens] <;> omega) | fail) only [go_sem, hx, serC, hml]
    exact hQ
  | succ k ih =>
    intro i env H hi' hN
    have ih := fun env H => ih (i + 1) env H (by omega)
    rw [valsF_succ] at ih
    have e1 := res_atJ (kk := K) m hm (i + 1) (hi (i + 1) (by omega)) (by omega)
    have e2 := res_oneJ (kk := .any) hnm (atV m (i + 1)) p kind (by rw [atV_len]; omega)
    have hlen := @valsF_len (fun i => placeV nm p kind (knL (atV m i))) (i + 1)
    rw [W_loop (L := r22_Apply_l1) rfl]
    rw [hN]
    simp (disch := first | assumption | omega | decide | (simp only [lens] <;> omega) | fail) only [go_sem, hx, serC, hml, e1, e2]
    refine ih _ _ ?_
    simp (disch := first | assumption | omega | decide | (simp only [lens] <;> omega) | fail) only [go_sem]
    rfl
set_option maxRecDepth 10000 in
theorem rApply_l1_first {K : SK} {nm : List UInt8} (hnm : nm ∈ jAll) (p : Val) (kind : Int) (lab : List UInt8) (a b : Int) (m : List (SK × Ser)) (hm : m.length ≤ 1000000) (n : Nat) (hn : n ≤ 1000000) (h0 : 0 < m.length) (hml : (m.getD 0 noSer).2.vals.length = n) (hi : ∀ i, i < n → ∀ x ∈ m, i < x.2.vals.length) (Q : Out → Prop)
    (hQ0 : n = 0 → Q (.nrm, [(15, .bx 0 0)], [serB lab a b (.p (.sl .nil 2 [])) 0]))
    (hQ : n ≠ 0 → Q (.nrm, [(15, .bx 0 0)], [serB lab a b (.own 1 n) 0, .row false 2 (vpv (valsF (fun i => placeV nm p kind (knL (atV m i))) n))])) (env : Env) (H : Heap)
    (hN : norm [0, 2, 5, 12, 15, 16] (some 0) env H = some ([(0, .p (.str nm)), (2, .p (.int .i64 kind)), (5, .p (.ptr [.bool p.1, .int .i64 p.2])), (12, .p (.sl K 5 (sers m))), (15, .bx 0 0), (16, .p (.int .i64 0))], [serB lab a b (.p (.sl .nil 2 [])) 0])) :
    Wp Γ r22_Apply_l1 env H (InBlk [15] 0 Q) := by
  obtain ⟨x, hx⟩ : ∃ x, m.getD 0 noSer = x := ⟨_, rfl⟩
  by_cases h : n = 0
  · rw [hx] at hml
    rw [h] at hml
    rw [W_loop (L := r22_Apply_l1) rfl]
    rw [hN]
    simp (disch := first | assumption | omega | decide | (simp only [lens] <;> omega) | fail) only [go_sem, hx, serC, hml]
    exact hQ0 h
  · have L := rApply_l1_ok (K := K) hnm p kind lab a b m hm n hn h0 hml hi Q (hQ h) (n - 1) 0
    rw [hx] at hml
    have e1 : res Γ 235 [.sl K 5 (sers m), .int .i64 0] = some [.sl .any 2 (vpv (atV m 0))] := res_atJ (kk := K) m hm 0 (hi 0 (by omega)) (by omega)
    have e2 := res_oneJ (kk := .any) hnm (atV m 0) p kind (by rw [atV_len]; omega)
    rw [W_loop (L := r22_Apply_l1) rfl]
    rw [hN]
    simp (disch := first | assumption | omega | decide | (simp only [lens] <;> omega) | fail) only [go_sem, hx, serC, hml, e1, e2]
    refine L _ _ (by omega) ?_
    simp (disch := first | assumption | omega | decide | (simp only [lens] <;> omega) | fail) only [go_sem]
    rfl
set_option maxRecDepth 10000 in
theorem res_rApply {kk : SK} (nm : List UInt8) (hnm : nm.length ≤ 1000000) (p : Val) (kind : Int) (l : List (SK × Ser)) (hl : l.length ≤ 100) (hv : ∀ x ∈ l, x.2.vals.length ≤ 1000000) (hn : ∀ x ∈ l, x.2.name.length ≤ 4096) :
    res Γ 224 [.str nm, .agg [.bool p.1, .int .i64 p.2], .int .i64 kind, .sl kk 5 (sers l)] = some (applyR nm p kind l) := by
  unfold applyR
  by_cases hm : nm ∈ jAll
  · rw [if_neg (fun h => h hm)]
    have d1 := res_oneJ (kk := .nil) hm [] p kind (by decide)
    rw [vpv_nil] at d1
    have eJ := res_r18Join (kk := kk) l (by omega) hv
    by_cases he : errJ (sersOf l) = 0
    · rw [if_neg (fun h => h he)]
      unfold joinR at eJ
      rw [if_pos he] at eJ
      by_cases h0 : l = []
      · subst h0
        rw [if_pos rfl]
        have eJ : res Γ 231 [.sl kk 5 []] = some [.sl .nil 5 [], .int .i64 0] := eJ
        rw [sers_nil]
        refine res_code (fn := r22_Apply) rfl rfl ?_
        simp (disch := first | assumption | omega | decide | (simp only [lens] <;> omega) | fail) only [go_sem, r22_Apply, d1, eJ, ne_eq, not_true_eq_false]
      · rw [if_neg h0]
        rw [if_neg h0, joinJ_eq] at eJ
        have hpos : 0 < l.length := List.length_pos_iff.2 h0
        have hn1 := nJ_le he h0
        obtain ⟨t1, t2⟩ := texts_ok (nm := nm) (p := p) (kind := kind) hl hn
        have eL := fun kk => res_r18LabelL (kk := kk) nm (namesJ l ++ extraJ nm p kind) hnm t2 t1
        have eN := resM_names (kk := kk) l (by omega)
        have hjl := @joinW_len l (bJ l) (sJ l) (nJ l)
        have hjg := joinW_get (b := bJ l) (st := sJ l) (n := nJ l) hpos
        have hml : ((joinW l (bJ l) (sJ l) (nJ l)).getD 0 noSer).2.vals.length = nJ l := by rw [hjg]; exact fitV_len
        have L := fun lab a b Q h1 h2 env H hN => rApply_l1_first (K := .any) hm p kind lab a b (joinW l (bJ l) (sJ l) (nJ l)) (by omega) (nJ l) (by omega) (by omega) hml (fun i hi => joinW_ok hi) Q h1 h2 env H hN
        have hpr := res_r2Print p.1 p.2
        have hag := res_r6Name kind
        have hp2 : (p.1, p.2) = p := rfl
        rw [hp2] at hpr
        have hnl := @namesJ_len l
        have hvl := @valsF_len (fun i => placeV nm p kind (knL (atV (joinW l (bJ l) (sJ l) (nJ l)) i))) (nJ l)
        rw [colsV_vals]
        have hb' : begJ (sersOf l) = bJ l := rfl
        have hs' : stepJ (sersOf l) = sJ l := rfl
        have hn' : (manyJ (sersOf l)).toNat = nJ l := rfl
        rw [hb', hs', hn'] at eJ
        have hv0 : nJ l = 0 → valsF (fun i => placeV nm p kind (knL (atV (joinW l (bJ l) (sJ l) (nJ l)) i))) (nJ l) = [] := fun h => by rw [h]; rfl
        generalize valsF (fun i => placeV nm p kind (knL (atV (joinW l (bJ l) (sJ l) (nJ l)) i))) (nJ l) = V at *
        generalize joinW l (bJ l) (sJ l) (nJ l) = m at *
        unfold Ser.pv fitK
        by_cases c1 : nm = jPer
        · have ex : extraJ nm p kind = [printB p] := by unfold extraJ; rw [if_pos c1]
          rw [ex] at eL ⊢
          have c1' : nm = [112, 101, 114, 99, 101, 110, 116, 105, 108, 101, 79, 102, 83, 101, 114, 105, 101, 115] := c1
          have c2' : ¬ nm = [97, 103, 103, 114, 101, 103, 97, 116, 101] := by rw [c1']; decide
          refine res_code (fn := r22_Apply) rfl rfl ?_
          simp (disch := first | assumption | omega | decide | (simp only [lens] <;> omega) | fail) only [go_sem, r22_Apply, d1, eJ, eN, st238, ne_eq, not_true_eq_false, hpr, eL, hjg, serC, fitS]
          refine L (labelL nm (namesJ l ++ [printB p])) (bJ l) (sJ l) _ (fun h => ?_) (fun h => ?_) _ _ ?_
          · rw [hv0 h, if_pos h]
            simp (disch := first | assumption | omega | decide | (simp only [lens] <;> omega) | fail) only [go_sem]
          · rw [if_neg h]
            simp (disch := first | assumption | omega | decide | (simp only [lens] <;> omega) | fail) only [go_sem]
          · simp (disch := first | assumption | omega | decide | (simp only [lens] <;> omega) | fail) only [go_sem]
        · have c1' : ¬ nm = [112, 101, 114, 99, 101, 110, 116, 105, 108, 101, 79, 102, 83, 101, 114, 105, 101, 115] := c1
          by_cases c2 : nm = jAgg
          · have ex : extraJ nm p kind = [aggName kind] := by unfold extraJ; rw [if_neg c1, if_pos c2]
            rw [ex] at eL ⊢
            have c2' : nm = [97, 103, 103, 114, 101, 103, 97, 116, 101] := c2
            refine res_code (fn := r22_Apply) rfl rfl ?_
            simp (disch := first | assumption | omega | decide | (simp only [lens] <;> omega) | fail) only [go_sem, r22_Apply, d1, eJ, eN, st238, ne_eq, not_true_eq_false, hag, eL, hjg, serC, fitS]
            refine L (labelL nm (namesJ l ++ [aggName kind])) (bJ l) (sJ l) _ (fun h => ?_) (fun h => ?_) _ _ ?_
            · rw [hv0 h, if_pos h]
              simp (disch := first | assumption | omega | decide | (simp only [lens] <;> omega) | fail) only [go_sem]
            · rw [if_neg h]
              simp (disch := first | assumption | omega | decide | (simp only [lens] <;> omega) | fail) only [go_sem]
            · simp (disch := first | assumption | omega | decide | (simp only [lens] <;> omega) | fail) only [go_sem]
          · have ex : extraJ nm p kind = [] := by unfold extraJ; rw [if_neg c1, if_neg c2]
            rw [ex, List.append_nil] at eL ⊢
            have c2' : ¬ nm = [97, 103, 103, 114, 101, 103, 97, 116, 101] := c2
            refine res_code (fn := r22_Apply) rfl rfl ?_
            simp (disch := first | assumption | omega | decide | (simp only [lens] <;> omega) | fail) only [go_sem, r22_Apply, d1, eJ, eN, st238, ne_eq, not_true_eq_false, eL, hjg, serC, fitS]
            refine L (labelL nm (namesJ l)) (bJ l) (sJ l) _ (fun h => ?_) (fun h => ?_) _ _ ?_
            · rw [hv0 h, if_pos h]
              simp (disch := first | assumption | omega | decide | (simp only [lens] <;> omega) | fail) only [go_sem]
            · rw [if_neg h]
              simp (disch := first | assumption | omega | decide | (simp only [lens] <;> omega) | fail) only [go_sem]
            · simp (disch := first | assumption | omega | decide | (simp only [lens] <;> omega) | fail) only [go_sem]
    · rw [if_pos he]
      unfold joinR at eJ
      rw [if_neg he] at eJ
      refine res_code (fn := r22_Apply) rfl rfl ?_
      simp (disch := first | assumption | omega | decide | (simp only [lens] <;> omega) | fail) only [go_sem, r22_Apply, d1, eJ]
  · rw [if_pos hm]
    have d1 := res_oneJ_no (kk := .nil) hm [] p kind (by decide)
    rw [vpv_nil] at d1
    refine res_code (fn := r22_Apply) rfl rfl ?_
    simp (disch := first | assumption | omega | decide | (simp only [lens] <;> omega) | fail) only [go_sem, r22_Apply, d1]
end Ab
