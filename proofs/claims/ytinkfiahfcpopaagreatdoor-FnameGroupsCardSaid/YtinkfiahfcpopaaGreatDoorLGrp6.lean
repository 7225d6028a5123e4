import Derived.Test.YtinkfiahfcpopaaGreatDoorLRen2
namespace Ab
open Go (IntKind BinOp UnOp)
def bigS (s : Ser) : Bool := decide (120 < s.vals.length) || decide (300 < s.name.length)
def sumLen (l : List (SK × Ser)) : Nat := (l.map fun x => x.2.vals.length).sum
def heavyJ (l : List (SK × Ser)) : Bool := decide (20 < l.length) || (l.any fun x => bigS x.2) || decide (400 < sumLen l)
theorem sumLen_snoc {l : List (SK × Ser)} {i : Nat} (h : i < l.length) : sumLen (l.take (i + 1)) = sumLen (l.take i) + (l.getD i noSer).2.vals.length := by
  unfold sumLen
  rw [take_snoc' noSer h, List.map_append, List.sum_append]
  simp
theorem heavyJ_no {l : List (SK × Ser)} (h : heavyJ l = false) : l.length ≤ 20 ∧ ∀ x ∈ l, x.2.vals.length ≤ 120 ∧ x.2.name.length ≤ 300 := by
  unfold heavyJ at h
  rw [Bool.or_eq_false_iff, Bool.or_eq_false_iff, decide_eq_false_iff_not] at h
  obtain ⟨⟨h1, h2⟩, _⟩ := h
  refine ⟨by omega, fun x hx => ?_⟩
  have := List.any_eq_false.1 h2 x hx
  unfold bigS at this
  simp only [Bool.or_eq_true, decide_eq_true_eq, not_or] at this
  omega
theorem heavy24_l1_ok {k1 : SK} (l : List (SK × Ser)) (hl : l.length ≤ 20) (hv : ∀ x ∈ l, x.2.vals.length ≤ 9223372036854775807) (Q : Out → Prop) (h1 : (l.any fun x => bigS x.2) = true → Q (.ret, [(2, .p (.bool true))], []))
    (h2 : (l.any fun x => bigS x.2) = false → Q (.nrm, [(3, .p (.int .i64 (sumLen l : Nat)))], [])) : ∀ (n i : Nat), i + n = l.length → ((l.take i).any fun x => bigS x.2) = false → sumLen (l.take i) ≤ 120 * i →
    Wp Γ l24_heavy_l1 [(0, .p (.sl k1 5 (sers l))), (3, .p (.int .i64 (sumLen (l.take i) : Nat))), (4, .p (.int .i64 (i : Int)))] [] (InBlk [3] 0 Q) := by
  intro n
  induction n with
  | zero =>
    intro i hi ha _
    obtain rfl : i = l.length := by omega
    rw [List.take_length] at ha ⊢
    rw [W_loop (L := l24_heavy_l1) rfl]
    simp (disch := first | assumption | omega | decide | (simp only [lens] <;> omega) | fail) only [go_sem]
    exact h2 ha
  | succ n ih =>
    intro i hi ha hsum
    have hlt : i < l.length := by omega
    have hmem := ser_mem hlt
    have ih := ih (i + 1) (by omega)
    rw [sumLen_snoc hlt, take_snoc' noSer hlt, List.any_append, ha] at ih
    obtain ⟨x, hx⟩ : ∃ x, l.getD i noSer = x := ⟨_, rfl⟩
    rw [hx] at ih hmem
    have hvx := hv x hmem
    have big : bigS x.2 = true → (l.any fun x => bigS x.2) = true := fun h => List.any_eq_true.2 ⟨x, hmem, h⟩
    unfold bigS at big
    by_cases c1 : 120 < x.2.vals.length
    · rw [W_loop (L := l24_heavy_l1) rfl]
      simp (disch := first | assumption | omega | decide | (simp only [lens] <;> omega) | fail) only [go_sem, hx, serC]
      exact h1 (big (by simp [c1]))
    · by_cases c2 : 300 < x.2.name.length
      · rw [W_loop (L := l24_heavy_l1) rfl]
        simp (disch := first | assumption | omega | decide | (simp only [lens] <;> omega) | fail) only [go_sem, hx, serC]
        exact h1 (big (by simp [c2]))
      · rw [W_loop (L := l24_heavy_l1) rfl]
        simp (disch := first | assumption | omega | decide | (simp only [lens] <;> omega) | fail) only [go_sem, hx, serC]
        refine ih ?_ (by omega)
        simp only [List.any_cons, List.any_nil, Bool.or_false, Bool.false_or, bigS]
        simp [c1, c2]
theorem res_heavy24 {k1 : SK} (l : List (SK × Ser)) (hl : l.length ≤ 9223372036854775807) (hv : ∀ x ∈ l, x.2.vals.length ≤ 9223372036854775807) : res Γ 12 [.sl k1 5 (sers l)] = some [.bool (heavyJ l)] := by
  unfold heavyJ
  by_cases h : 20 < l.length
  · rw [decide_eq_true h]
    refine res_code (fn := l24_heavy) rfl rfl ?_
    simp (disch := first | assumption | omega | decide | (simp only [lens] <;> omega) | fail) only [go_sem, l24_heavy]
  · rw [decide_eq_false h]
    refine res_code (fn := l24_heavy) rfl rfl ?_
    simp (disch := first | assumption | omega | decide | (simp only [lens] <;> omega) | fail) only [go_sem, l24_heavy]
    refine heavy24_l1_ok l (by omega) hv _ (fun ha => ?_) (fun ha => ?_) l.length 0 (by omega) rfl (by simp [sumLen])
    · rw [ha]
      simp (disch := first | assumption | omega | decide | (simp only [lens] <;> omega) | fail) only [go_sem]
    · rw [ha]
      simp (disch := first | assumption | omega | decide | (simp only [lens] <;> omega) | fail) only [go_sem]
      have : decide ((400 : Int) < ((sumLen l : Nat) : Int)) = decide (400 < sumLen l) := by rw [decide_eq_decide]; omega
      rw [this]
theorem grpR_ok (kind : Int) (g : Key → List (SK × Ser)) (hg : ∀ k, (g k).length ≤ 100) : ∀ (ks : List Key) (acc : List (SK × Ser)), (∀ k ∈ ks, g k ≠ []) → (∀ x ∈ acc, x.2.vals.length ≤ 1000000) →
    (∀ x ∈ (grpR kind g ks acc).1, x.2.vals.length ≤ 1000000) ∧ (grpR kind g ks acc).1.length ≤ acc.length + ks.length
  | [], acc, _, h => ⟨h, by simp [grpR]⟩
  | k :: ks, acc, h0, h => by
    unfold grpR
    by_cases he : errJ (sersOf (g k)) = 0
    · rw [if_neg (fun h => h he)]
      have hn := nJ_le he (h0 k (by simp))
      have ih := grpR_ok kind g hg ks (acc ++ [nameS k (aggS kind (g k))]) (fun k hk => h0 k (by simp [hk])) (fun x hx => by
        rcases List.mem_append.1 hx with hx | hx
        · exact h x hx
        · rw [List.mem_singleton.1 hx]
          show (colsV _ _ _ _ _).length ≤ _
          rw [colsV_len]; omega)
      refine ⟨ih.1, ?_⟩
      have := ih.2
      rw [List.length_append] at this
      simp only [List.length_cons, List.length_nil] at this ⊢
      omega
    · rw [if_pos he]
      exact ⟨fun x hx => by (cases hx), by simp⟩
theorem grpS_ok (kind : Int) (ns : List Int) (l : List (SK × Ser)) (hl : l.length ≤ 100) : (∀ x ∈ (grpS kind ns l).1, x.2.vals.length ≤ 1000000) ∧ (grpS kind ns l).1.length ≤ 100 := by
  unfold grpS
  split
  · exact ⟨fun x hx => by (cases hx), by simp⟩
  · have := grpR_ok kind (groupT ns l) (fun k => Nat.le_trans groupG_len hl) (keysT ns l) [] (fun k hk => List.length_pos_iff.1 (groupG_pos hk)) (fun x hx => by (cases hx))
    refine ⟨this.1, ?_⟩
    have h2 := this.2
    have h3 := @keysG_len _ (keyF ns) l
    simp only [List.length_nil] at h2
    unfold keysT at h2 ⊢
    omega
theorem Groups24_l1_ok {k1 k2 : SK} (m : List (SK × Ser)) (hm : m.length ≤ 100) (hv : ∀ x ∈ m, x.2.vals.length ≤ 1000000) (Q : Out → Prop) (hQ : Q (.nrm, [], [])) : ∀ (n i : Nat), i + n = m.length →
    Wp Γ l24_FnameGroups_l1 [(9, .p (.sl k1 5 (sers m))), (11, .p (.sl k2 5 (sers m))), (13, .p (.int .i64 (i : Int)))] [] (InBlk [] 0 Q) := by
  intro n
  induction n with
  | zero =>
    intro i hi
    obtain rfl : i = m.length := by omega
    rw [W_loop (L := l24_FnameGroups_l1) rfl]
    simp (disch := first | assumption | omega | decide | (simp only [lens] <;> omega) | fail) only [go_sem]
    exact hQ
  | succ n ih =>
    intro i hi
    have hlt : i < m.length := by omega
    have hmem := ser_mem hlt
    have ih := ih (i + 1) (by omega)
    obtain ⟨x, hx⟩ : ∃ x, m.getD i noSer = x := ⟨_, rfl⟩
    rw [hx] at hmem
    have e := res_same24R (k1 := x.1) (k2 := x.1) x.2 (by have := hv x hmem; omega)
    unfold Ser.pv at e
    rw [W_loop (L := l24_FnameGroups_l1) rfl]
    simp (disch := first | assumption | omega | decide | (simp only [lens] <;> omega) | fail) only [go_sem, hx, serC, e]
    exact ih
theorem res_FnameGroupsA {kn k : SK} (kind : Int) (ns : List Int) (l : List (SK × Ser)) (_ : -9223372036854775808 ≤ kind ∧ kind ≤ 9223372036854775807) (hr : ∀ n ∈ ns, -9223372036854775808 ≤ n ∧ n ≤ 9223372036854775807) (hl : l.length ≤ Go.maxLen) (hs : ∀ x ∈ l, Ser.Ok x.1 x.2) :
    res Γ 390 [.int .i64 kind, .sl kn 1 (ints .i64 ns), .sl k 5 (sers l)] = some [.bool true] := by
  have hk := res_known24
  have h1 := res_heavy24 (k1 := k) l hl (fun x hx => (hs x hx).len)
  have h2 := res_small0 (kt := .nil) (kn := kn) ns
  cases hh : heavyJ l
  · rw [hh] at h1
    obtain ⟨g1, g2⟩ := heavyJ_no hh
    have gv : ∀ x ∈ l, x.2.vals.length ≤ 1000000 := fun x hx => by have := (g2 x hx).1; omega
    have gn : ∀ x ∈ l, x.2.name.length ≤ 4096 := fun x hx => by have := (g2 x hx).2; omega
    by_cases hn : ns.length ≤ 20
    · rw [decide_eq_true hn] at h2
      have eJ := res_r18Join (kk := k) l (by omega) gv
      unfold joinR at eJ
      have h3 := res_fnameGroup (kk := k) (kn := kn) kind ns hn hr l (by omega) gn gv
      have h4 := res_r24Group (kk := k) (kn := kn) kind ns hn hr l (by omega) gn gv
      obtain ⟨o1, o2⟩ := grpS_ok kind ns l (by omega)
      have L := fun Q hQ => Groups24_l1_ok (k1 := grpK (grpS kind ns l)) (k2 := grpK (grpS kind ns l)) (grpS kind ns l).1 o2 o1 Q hQ (grpS kind ns l).1.length 0 (by omega)
      generalize grpS kind ns l = R at *
      by_cases he : errJ (sersOf l) = 0
      · rw [if_pos he] at eJ
        by_cases h0 : l = []
        · have ej : joinJ l = [] := by rw [h0]; rfl
          rw [if_pos h0, ej, sers_nil] at eJ
          refine res_code (fn := l24_FnameGroups) rfl rfl ?_
          simp (disch := first | assumption | omega | decide | (simp only [lens] <;> omega) | fail) only [go_sem, l24_FnameGroups, h1, h2, eJ, h3, h4, ne_eq, not_true_eq_false]
          refine L _ ?_
          simp (disch := first | assumption | omega | decide | (simp only [lens] <;> omega) | fail) only [go_sem, hk]
        · rw [if_neg h0, joinJ_eq] at eJ
          have hpos : 0 < l.length := List.length_pos_iff.2 h0
          have hjl := @joinW_len l (begJ (sersOf l)) (stepJ (sersOf l)) (manyJ (sersOf l)).toNat
          have hjg := joinW_get (b := begJ (sersOf l)) (st := stepJ (sersOf l)) (n := (manyJ (sersOf l)).toNat) hpos
          have hml : ((joinW l (begJ (sersOf l)) (stepJ (sersOf l)) (manyJ (sersOf l)).toNat).getD 0 noSer).2.vals.length = nJ l := by rw [hjg]; exact fitV_len
          obtain ⟨x, hx⟩ : ∃ x, (joinW l (begJ (sersOf l)) (stepJ (sersOf l)) (manyJ (sersOf l)).toNat).getD 0 noSer = x := ⟨_, rfl⟩
          rw [hx] at hml
          generalize joinW l (begJ (sersOf l)) (stepJ (sersOf l)) (manyJ (sersOf l)).toNat = m at *
          by_cases h5 : 500 < nJ l
          · refine res_code (fn := l24_FnameGroups) rfl rfl ?_
            simp (disch := first | assumption | omega | decide | (simp only [lens] <;> omega) | fail) only [go_sem, l24_FnameGroups, h1, h2, eJ, hx, serC, hml]
          · refine res_code (fn := l24_FnameGroups) rfl rfl ?_
            simp (disch := first | assumption | omega | decide | (simp only [lens] <;> omega) | fail) only [go_sem, l24_FnameGroups, h1, h2, eJ, hx, serC, hml, h3, h4, ne_eq, not_true_eq_false]
            refine L _ ?_
            simp (disch := first | assumption | omega | decide | (simp only [lens] <;> omega) | fail) only [go_sem, hk]
      · rw [if_neg he] at eJ
        refine res_code (fn := l24_FnameGroups) rfl rfl ?_
        simp (disch := first | assumption | omega | decide | (simp only [lens] <;> omega) | fail) only [go_sem, l24_FnameGroups, h1, h2, eJ, h3, h4, ne_eq, not_true_eq_false]
        refine L _ ?_
        simp (disch := first | assumption | omega | decide | (simp only [lens] <;> omega) | fail) only [go_sem, hk]
    · rw [decide_eq_false hn] at h2
      refine res_code (fn := l24_FnameGroups) rfl rfl ?_
      simp (disch := first | assumption | omega | decide | (simp only [lens] <;> omega) | fail) only [go_sem, l24_FnameGroups, h1, h2]
  · rw [hh] at h1
    refine res_code (fn := l24_FnameGroups) rfl rfl ?_
    simp (disch := first | assumption | omega | decide | (simp only [lens] <;> omega) | fail) only [go_sem, l24_FnameGroups, h1]
end Ab
