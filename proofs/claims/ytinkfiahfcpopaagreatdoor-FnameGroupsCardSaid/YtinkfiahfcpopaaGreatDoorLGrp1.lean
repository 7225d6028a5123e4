import Derived.Test.YtinkfiahfcpopaaGreatDoorLJoin1
import Derived.Test.YtinkfiahfcpopaaGreatDoorAbPrim
import Derived.Test.YtinkfiahfcpopaaGreatDoorLAgg
import Derived.Test.YtinkfiahfcpopaaGreatDoorLMulDiv
import Derived.Test.YtinkfiahfcpopaaGreatDoorLFit
namespace Ab
open Go (IntKind BinOp UnOp)
theorem rJoin_l3_ok {kk : SK} (l : List (SK × Ser)) (hl : l.length ≤ 1000000) (hv : ∀ x ∈ l, x.2.vals.length ≤ 1000000) (Q : Out → Prop)
    (hbad : (¬ ∀ x ∈ l, isS x.2 = true) → Q (.ret, [(2, .p (.sl .nil 5 [])), (3, .p (.int .i64 1))], []))
    (hQ : (∀ x ∈ l, isS x.2 = true) → Q (.nrm, [(0, .p (.sl kk 5 (sers l))), (4, .p (.int .i64 1)), (5, .p (.int .i64 (startJ 4294967295 (sersOf l)))), (6, .p (.int .i64 (endJ (sersOf l))))], [])) : ∀ (n i : Nat), i + n = l.length → (∀ x ∈ l.take i, isS x.2 = true) →
    Wp Γ r18_Join_l3 [(0, .p (.sl kk 5 (sers l))), (4, .p (.int .i64 1)), (5, .p (.int .i64 (startJ 4294967295 (sersOf (l.take i))))), (6, .p (.int .i64 (endJ (sersOf (l.take i))))), (7, .p (.int .i64 (i : Int)))] [] (InBlk [0, 4, 5, 6] 0 Q) := by
  intro n
  induction n with
  | zero =>
    intro i hi hS
    obtain rfl : i = l.length := by omega
    rw [List.take_length] at hS ⊢
    rw [W_loop (L := r18_Join_l3) rfl]
    simp (disch := first | assumption | omega | decide | (simp only [lens] <;> omega) | fail) only [go_sem]
    exact hQ hS
  | succ n ih =>
    intro i hi hS
    have hlt : i < l.length := by omega
    have hmem := ser_mem hlt
    have ih := ih (i + 1) (by omega)
    rw [sers_snoc hlt, startJ_snoc, endJ_snoc, take_snoc' noSer hlt] at ih
    obtain ⟨x, hx⟩ : ∃ x, l.getD i noSer = x := ⟨_, rfl⟩
    rw [hx] at hmem ih
    have eI := res_r18Is (kk := x.1) x.2 (by have := hv x hmem; omega)
    cases hs : isS x.2
    · rw [hs] at eI
      unfold Ser.pv at eI
      rw [W_loop (L := r18_Join_l3) rfl]
      simp (disch := first | assumption | omega | decide | (simp only [lens] <;> omega) | fail) only [go_sem, hx, serC, eI]
      exact hbad fun h => by rw [h x hmem] at hs; cases hs
    · rw [hs] at eI
      have hE := res_r18End (kk := x.1) x.2 hs
      unfold Ser.pv at eI hE
      rw [W_loop (L := r18_Join_l3) rfl]
      simp (disch := first | assumption | omega | decide | (simp only [lens] <;> omega) | fail) only [go_sem, hx, serC, eI, hE, min_max2]
      refine ih fun y hy => ?_
      rcases List.mem_append.1 hy with hy | hy
      · exact hS y hy
      · rw [List.mem_singleton] at hy; subst hy; exact hs
theorem stepJ_split {l : List (SK × Ser)} {i : Nat} : stepJ (sersOf l) = (sersOf (l.drop i)).foldl stepT (stepJ (sersOf (l.take i))) := by
  unfold stepJ sersOf
  rw [← List.foldl_append, ← List.map_append, List.take_append_drop]
theorem rJoin_l2_ok {kk : SK} (l : List (SK × Ser)) (hl : l.length ≤ 1000000) (hS : ∀ x ∈ l, isS x.2 = true) (a b : Int) (Q : Out → Prop)
    (hbad : stepJ (sersOf l) = 0 → Q (.ret, [(2, .p (.sl .nil 5 [])), (3, .p (.int .i64 13))], []))
    (hQ : stepJ (sersOf l) ≠ 0 → Q (.nrm, [(0, .p (.sl kk 5 (sers l))), (4, .p (.int .i64 (stepJ (sersOf l) : Nat))), (5, .p (.int .i64 a)), (6, .p (.int .i64 b))], [])) : ∀ (n i : Nat), i + n = l.length → stepJ (sersOf (l.take i)) ≠ 0 →
    Wp Γ r18_Join_l2 [(0, .p (.sl kk 5 (sers l))), (4, .p (.int .i64 (stepJ (sersOf (l.take i)) : Nat))), (5, .p (.int .i64 a)), (6, .p (.int .i64 b)), (8, .p (.int .i64 (i : Int)))] [] (InBlk [0, 4, 5, 6] 2 Q) := by
  intro n
  induction n with
  | zero =>
    intro i hi h0
    obtain rfl : i = l.length := by omega
    rw [List.take_length] at h0 ⊢
    rw [W_loop (L := r18_Join_l2) rfl]
    simp (disch := first | assumption | omega | decide | (simp only [lens] <;> omega) | fail) only [go_sem]
    exact hQ h0
  | succ n ih =>
    intro i hi h0
    have hlt : i < l.length := by omega
    have hmem := ser_mem hlt
    have ih := ih (i + 1) (by omega)
    have hsp := @stepJ_split l (i + 1)
    rw [sers_snoc hlt, stepJ_snoc] at ih hsp
    obtain ⟨x, hx⟩ : ∃ x, l.getD i noSer = x := ⟨_, rfl⟩
    rw [hx] at hmem ih hsp
    have hz := isS_size (hS x hmem)
    unfold sizeS at hz
    have hc := stepJ_le (sersOf (l.take i))
    obtain ⟨b', hb⟩ := Int.eq_ofNat_of_zero_le (show 0 ≤ x.2.step by omega)
    generalize stepJ (sersOf (l.take i)) = st at *
    have eG := res_gcd b' st (by omega) (by omega)
    have hg : 0 < Nat.gcd b' st := Nat.gcd_pos_of_pos_left st (by omega)
    have key := common_lt' (a := st) (b := b') (by omega) (by omega)
    have el := lcm_eq' (a := st) (b := b') (by omega)
    have e1 : stepT st x.2 = commonV st b' := by unfold stepT; rw [if_neg h0, hb]; rfl
    have q1 : x.2.step / (Nat.gcd b' st : Int) = ((b' / Nat.gcd b' st : Nat) : Int) := by rw [hb]; exact (Int.natCast_ediv _ _).symm
    have q2 : (16777216 : Int) / (st : Int) = ((16777216 / st : Nat) : Int) := (Int.natCast_ediv _ _).symm
    rw [← hb] at eG
    generalize Nat.gcd b' st = g at *
    by_cases h : Nat.lcm st b' ≤ 16777216
    · have hc2 : ¬ ((16777216 / st : Nat) : Int) < ((b' / g : Nat) : Int) := by
        intro hlt
        exact key.1 (by omega) h
      have em : (st : Int) * ((b' / g : Nat) : Int) = ((Nat.lcm st b' : Nat) : Int) := by rw [el, Int.natCast_mul]
      have e2 : commonV st b' = Nat.lcm st b' := by unfold commonV; rw [if_pos h]
      have hpos : 0 < Nat.lcm st b' := lcm_pos' (by omega) (by omega)
      rw [e1, e2] at ih
      rw [W_loop (L := r18_Join_l2) rfl]
      simp (disch := first | assumption | omega | decide | (simp only [lens] <;> omega) | fail) only [go_sem, hx, serC, eG, map_quoI, q1, q2, em]
      exact ih (by omega)
    · have hc2 : ((16777216 / st : Nat) : Int) < ((b' / g : Nat) : Int) := by
        have := key.2 h
        omega
      have e2 : commonV st b' = 0 := by unfold commonV; rw [if_neg h]
      rw [e1, e2, stepT_zero] at hsp
      rw [W_loop (L := r18_Join_l2) rfl]
      simp (disch := first | assumption | omega | decide | (simp only [lens] <;> omega) | fail) only [go_sem, hx, serC, eG, map_quoI, q1, q2]
      exact hbad hsp
theorem rJoin_l1_ok {kk : SK} (l : List (SK × Ser)) (hl : l.length ≤ 1000000) (hS : ∀ x ∈ l, isS x.2 = true) (b : Int) (hb : 0 ≤ b ∧ b ≤ 4294967295) (st n : Nat) (hst : 1 ≤ st ∧ st ≤ 16777216) (hn : n ≤ 131072) (Q : Out → Prop)
    (hQ : Q (.nrm, [(11, .own 0 l.length)], [.row false 5 (sers (joinW l b st n))])) : ∀ (k i : Nat), i + k = l.length →
    Wp Γ r18_Join_l1 [(0, .p (.sl kk 5 (sers l))), (4, .p (.int .i64 (st : Nat))), (5, .p (.int .i64 b)), (10, .p (.int .i64 (n : Nat))), (11, .own 0 i), (12, .p (.int .i64 (i : Int)))] [.row false 5 (sers (joinW (l.take i) b st n))] (InBlk [11] 4 Q) := by
  intro k
  induction k with
  | zero =>
    intro i hi
    obtain rfl : i = l.length := by omega
    rw [List.take_length]
    rw [W_loop (L := r18_Join_l1) rfl]
    simp (disch := first | assumption | omega | decide | (simp only [lens] <;> omega) | fail) only [go_sem]
    exact hQ
  | succ k ih =>
    intro i hi
    have hlt : i < l.length := by omega
    have hmem := ser_mem hlt
    have ih := ih (i + 1) (by omega)
    have hsn : joinW (l.take (i + 1)) b st n = joinW (l.take i) b st n ++ [(fitK n, fitS (l.getD i noSer).2 b st n)] := by
      unfold joinW
      rw [take_snoc' noSer hlt, List.map_append]; rfl
    rw [hsn] at ih
    obtain ⟨x, hx⟩ : ∃ x, l.getD i noSer = x := ⟨_, rfl⟩
    rw [hx] at hmem ih
    have hF := res_r18Fit (kk := x.1) x.2 (hS x hmem) b st hb.1 hb.2 (by omega) (by omega) n hn
    have hlen : (sers (joinW (l.take i) b st n)).length = i := by rw [sers_len]; unfold joinW; rw [List.length_map, List.length_take]; omega
    unfold Ser.pv at hF
    rw [W_loop (L := r18_Join_l1) rfl]
    simp (disch := first | assumption | omega | decide | (simp only [lens] <;> omega) | fail) only [go_sem, hx, serC, hF]
    exact ih
theorem res_r18Join {kk : SK} (l : List (SK × Ser)) (hl : l.length ≤ 1000000) (hv : ∀ x ∈ l, x.2.vals.length ≤ 1000000) : res Γ 231 [.sl kk 5 (sers l)] = some (joinR l) := by
  have hL3 := fun Q h1 h2 => rJoin_l3_ok (kk := kk) l hl hv Q h1 h2 l.length 0 (by omega) (by simp)
  have z1 : startJ 4294967295 (sersOf (l.take 0)) = 4294967295 := rfl
  have z2 : endJ (sersOf (l.take 0)) = 0 := rfl
  have z3 : stepJ (sersOf (l.take 0)) = 1 := rfl
  rw [z1, z2] at hL3
  by_cases hS : ∀ x ∈ l, isS x.2 = true
  · have eA : ¬ (sersOf l).all isS = false := by rw [all_isS.2 hS]; decide
    by_cases h0 : l = []
    · subst h0
      have eE : joinR [] = [.sl .nil 5 [], .int .i64 0] := rfl
      rw [eE]
      refine res_code (fn := r18_Join) rfl rfl ?_
      simp (disch := first | assumption | omega | decide | (simp only [lens] <;> omega) | fail) only [go_sem, r18_Join]
      refine hL3 _ (fun h => absurd hS h) (fun _ => ?_)
      simp (disch := first | assumption | omega | decide | (simp only [lens] <;> omega) | fail) only [go_sem]
    · have hne : sersOf l ≠ [] := by simpa [sersOf] using h0
      have hlen : 0 < l.length := List.length_pos_iff.2 h0
      have hL2 := fun a b Q h1 h2 => rJoin_l2_ok (kk := kk) l hl hS a b Q h1 h2 l.length 0 (by omega) (by rw [z3]; decide)
      rw [z3] at hL2
      by_cases hst : stepJ (sersOf l) = 0
      · have eE : errJ (sersOf l) = 13 := by unfold errJ; rw [if_neg eA, if_neg hne, if_pos hst]
        unfold joinR
        rw [eE, if_neg (by decide)]
        refine res_code (fn := r18_Join) rfl rfl ?_
        simp (disch := first | assumption | omega | decide | (simp only [lens] <;> omega) | fail) only [go_sem, r18_Join]
        refine hL3 _ (fun h => absurd hS h) (fun _ => ?_)
        simp (disch := first | assumption | omega | decide | (simp only [lens] <;> omega) | fail) only [go_sem]
        refine hL2 _ _ _ (fun _ => ?_) (fun h => absurd hst h)
        simp (disch := first | assumption | omega | decide | (simp only [lens] <;> omega) | fail) only [go_sem]
      · have hst2 := stepJ_le (sersOf l)
        obtain ⟨c1, c2, c3, c4, c5, c6⟩ := begJ_bound h0 hS (by omega)
        have hb0 : startJ 4294967295 (sersOf l) - startJ 4294967295 (sersOf l) % (stepJ (sersOf l) : Int) = begJ (sersOf l) := rfl
        have hmod0 := Int.emod_nonneg (startJ 4294967295 (sersOf l)) (show (stepJ (sersOf l) : Int) ≠ 0 by omega)
        have hmodl := Int.emod_lt_of_pos (startJ 4294967295 (sersOf l)) (show 0 < (stepJ (sersOf l) : Int) by omega)
        have hmj : (endJ (sersOf l) - begJ (sersOf l) + (stepJ (sersOf l) : Int) - 1) / (stepJ (sersOf l) : Int) = manyJ (sersOf l) := rfl
        have hmn : 0 ≤ manyJ (sersOf l) := by unfold manyJ; exact Int.ediv_nonneg (by omega) (by omega)
        by_cases hm : 131072 < manyJ (sersOf l)
        · have eE : errJ (sersOf l) = 13 := by unfold errJ; rw [if_neg eA, if_neg hne, if_neg hst, if_pos hm]
          unfold joinR
          rw [eE, if_neg (by decide)]
          refine res_code (fn := r18_Join) rfl rfl ?_
          simp (disch := first | assumption | omega | decide | (simp only [lens] <;> omega) | fail) only [go_sem, r18_Join]
          refine hL3 _ (fun h => absurd hS h) (fun _ => ?_)
          simp (disch := first | assumption | omega | decide | (simp only [lens] <;> omega) | fail) only [go_sem]
          refine hL2 _ _ _ (fun h => absurd h hst) (fun _ => ?_)
          simp (disch := first | assumption | omega | decide | (simp only [lens] <;> omega) | fail) only [go_sem, map_remI, hb0, map_quoI, hmj]
        · have eE : errJ (sersOf l) = 0 := by unfold errJ; rw [if_neg eA, if_neg hne, if_neg hst, if_neg hm]
          unfold joinR
          rw [eE, if_pos rfl, if_neg h0, joinJ_eq]
          obtain ⟨n, hn⟩ := Int.eq_ofNat_of_zero_le hmn
          rw [hn] at hmj hm
          rw [hn, Int.toNat_natCast]
          have hL1 := fun Q => rJoin_l1_ok (kk := kk) l hl hS (begJ (sersOf l)) (by omega) (stepJ (sersOf l)) n (by omega) (by omega) Q
          have hwl : (sers (joinW l (begJ (sersOf l)) (stepJ (sersOf l)) n)).length = l.length := by rw [sers_len]; unfold joinW; rw [List.length_map]
          refine res_code (fn := r18_Join) rfl rfl ?_
          simp (disch := first | assumption | omega | decide | (simp only [lens] <;> omega) | fail) only [go_sem, r18_Join]
          refine hL3 _ (fun h => absurd hS h) (fun _ => ?_)
          simp (disch := first | assumption | omega | decide | (simp only [lens] <;> omega) | fail) only [go_sem]
          refine hL2 _ _ _ (fun h => absurd h hst) (fun _ => ?_)
          simp (disch := first | assumption | omega | decide | (simp only [lens] <;> omega) | fail) only [go_sem, map_remI, hb0, map_quoI, hmj]
          refine hL1 _ ?_ l.length 0 (by omega)
          simp (disch := first | assumption | omega | decide | (simp only [lens] <;> omega) | fail) only [go_sem]
  · have ha : (sersOf l).all isS = false := by
      cases h : (sersOf l).all isS
      · rfl
      · exact absurd (all_isS.1 h) hS
    have eE : errJ (sersOf l) = 1 := by unfold errJ; rw [if_pos ha]
    unfold joinR
    rw [eE, if_neg (by decide)]
    refine res_code (fn := r18_Join) rfl rfl ?_
    simp (disch := first | assumption | omega | decide | (simp only [lens] <;> omega) | fail) only [go_sem, r18_Join]
    refine hL3 _ (fun _ => ?_) (fun h => absurd h hS)
    simp (disch := first | assumption | omega | decide | (simp only [lens] <;> omega) | fail) only [go_sem]
end Ab
namespace Ab
def trimN (s : List UInt8) : Nat → List UInt8
  | 0 => []
  | n + 1 => if s.getD n 0 = 48 then trimN s n else s.take (n + 1)
def trimB (s : List UInt8) : List UInt8 := trimN s s.length
def fracB (f : Nat) : List UInt8 := if f = 0 then [] else 46 :: trimB ((decB (1000000 + f)).drop 1)
def printB (v : Val) : List UInt8 :=
  if knV v = true then (if v.2 < 0 then [45] else []) ++ (decB (v.2.natAbs / 1000000) ++ fracB (v.2.natAbs % 1000000)) else [78, 111, 110, 101]
theorem trimN_len (s : List UInt8) : ∀ n, n ≤ s.length → (trimN s n).length ≤ n
  | 0, _ => by simp [trimN]
  | n + 1, h => by
    unfold trimN
    split
    · have := trimN_len s n (by omega); omega
    · rw [List.length_take]; omega
end Ab
namespace Ab
open Go (IntKind BinOp UnOp)
theorem decB_len20 {u : Nat} (h : u < 9223372036854775808) : (decB u).length ≤ 20 := decB_len 19 u (by omega)
end Ab
namespace Ab
open Go (IntKind BinOp UnOp)
theorem ren_clo {r d f cs} : AV.ren r (d + 1) (.clo f cs) = (mapO (AV.ren r d) cs).map (.clo f) := rfl
attribute [go_sem] ren_clo
abbrev jC (a b : Int) (K : SK) (m : List (SK × Ser)) : List PV := [.str [], .int .i64 a, .int .i64 b, .sl .nil 2 [], .int .i64 0, .sl K 5 (sers m)]
theorem joinW_len {l : List (SK × Ser)} {b st n} : (joinW l b st n).length = l.length := by simp [joinW]
theorem joinW_get {l : List (SK × Ser)} {b : Int} {st n i : Nat} (h : i < l.length) : (joinW l b st n).getD i noSer = (fitK n, fitS (l.getD i noSer).2 b st n) := by
  unfold joinW
  rw [List.getD_eq_getElem?_getD, List.getElem?_map, List.getElem?_eq_getElem h, List.getD_eq_getElem?_getD, List.getElem?_eq_getElem h]
  rfl
abbrev bJ (l : List (SK × Ser)) : Int := begJ (sersOf l)
abbrev sJ (l : List (SK × Ser)) : Nat := stepJ (sersOf l)
abbrev nJ (l : List (SK × Ser)) : Nat := (manyJ (sersOf l)).toNat
theorem res_join_ok {kk : SK} (l : List (SK × Ser)) (hl : l.length ≤ 1000000) (hv : ∀ x ∈ l, x.2.vals.length ≤ 1000000) (h0 : l ≠ []) (he : errJ (sersOf l) = 0) : res Γ 229 [.sl kk 5 (sers l)] = some [.ptr (jC (bJ l) (sJ l) .any (joinW l (bJ l) (sJ l) (nJ l))), .int .i64 0] := by
  have e := res_seriesJoin (kk := kk) l hl hv
  unfold joinR at e
  rw [if_pos he, if_neg h0, joinJ_eq] at e
  have hpos : 0 < l.length := List.length_pos_iff.2 h0
  have hg := joinW_get (b := begJ (sersOf l)) (st := stepJ (sersOf l)) (n := (manyJ (sersOf l)).toNat) hpos
  have hlen := @joinW_len l (begJ (sersOf l)) (stepJ (sersOf l)) (manyJ (sersOf l)).toNat
  unfold bJ sJ nJ
  generalize joinW l (begJ (sersOf l)) (stepJ (sersOf l)) (manyJ (sersOf l)).toNat = m at *
  refine res_code (fn := fjoin_join) rfl rfl ?_
  simp (disch := first | assumption | omega | decide | (simp only [lens] <;> omega) | fail) only [go_sem, fjoin_join, e, ne_eq, not_true_eq_false, hg, serC, fitS]
theorem res_join_err {kk : SK} (l : List (SK × Ser)) (hl : l.length ≤ 1000000) (hv : ∀ x ∈ l, x.2.vals.length ≤ 1000000) (he : errJ (sersOf l) ≠ 0) : res Γ 229 [.sl kk 5 (sers l)] = some [.nilp, .int .i64 (errJ (sersOf l))] := by
  have e := res_seriesJoin (kk := kk) l hl hv
  unfold joinR at e
  rw [if_neg he] at e
  refine res_code (fn := fjoin_join) rfl rfl ?_
  simp (disch := first | assumption | omega | decide | (simp only [lens] <;> omega) | fail) only [go_sem, fjoin_join, e]
theorem res_many {a b : Int} {K : SK} (m : List (SK × Ser)) : res Γ 239 [.ptr (jC a b K m)] = some [.int .i64 (if m = [] then 0 else ((m.getD 0 noSer).2.vals.length : Int))] := by
  by_cases h : m = []
  · subst h
    rw [if_pos rfl]
    refine res_code (fn := fjoin_joined_many) rfl rfl ?_
    simp (disch := first | assumption | omega | decide | (simp only [lens] <;> omega) | fail) only [go_sem, fjoin_joined_many]
  · have hpos : 0 < m.length := List.length_pos_iff.2 h
    rw [if_neg h]
    refine res_code (fn := fjoin_joined_many) rfl rfl ?_
    simp (disch := first | assumption | omega | decide | (simp only [lens] <;> omega) | fail) only [go_sem, fjoin_joined_many, serC]
theorem atV_snoc {m : List (SK × Ser)} {j i : Nat} (h : j < m.length) : atV (m.take (j + 1)) i = atV (m.take j) i ++ [(m.getD j noSer).2.vals.getD i (false, 0)] := by
  unfold atV
  rw [take_snoc' noSer h, List.map_append]; rfl
theorem atV_len {m : List (SK × Ser)} {i : Nat} : (atV m i).length = m.length := by simp [atV]
set_option maxRecDepth 10000 in
theorem known_l1_ok {k2 : SK} (m : List (SK × Ser)) (hm : m.length ≤ 1000000) (i : Nat) (hi : ∀ x ∈ m, i < x.2.vals.length) (hb : i < 1000000000) (Q : Out → Prop) (hQ : Q (.nrm, [(5, .own 0 m.length)], [.row false 2 (vpv (atV m i))])) : ∀ (n j : Nat) (R : Heap), j + n = m.length →
    Wp Γ fjoin_joined_known_l1 [(1, .p (.int .i64 (i : Int))), (5, .own 0 j), (11, .p (.sl k2 5 (sers m))), (12, .p (.int .i64 (m.length : Int))), (13, .p (.int .i64 (j : Int)))] (.row false 2 (vpv (atV (m.take j) i)) :: R) (InBlk [5] 0 Q) := by
  intro n
  induction n with
  | zero =>
    intro j R hj
    obtain rfl : j = m.length := by omega
    rw [List.take_length]
    rw [W_loop (L := fjoin_joined_known_l1) rfl]
    simp (disch := first | assumption | omega | decide | (simp only [lens] <;> omega) | fail) only [go_sem]
    exact hQ
  | succ n ih =>
    intro j R hj
    have hlt : j < m.length := by omega
    have hmem := ser_mem hlt
    have ih := fun R => ih (j + 1) R (by omega)
    rw [atV_snoc hlt] at ih
    have hlen : (atV (m.take j) i).length = j := by rw [atV_len, List.length_take]; omega
    have hvl := hi _ hmem
    obtain ⟨x, hx⟩ : ∃ x, m.getD j noSer = x := ⟨_, rfl⟩
    rw [hx] at ih hvl
    rw [W_loop (L := fjoin_joined_known_l1) rfl]
    simp (disch := first | assumption | omega | decide | (simp only [lens] <;> omega) | fail) only [go_sem, hx, serC, valP]
    exact ih _
theorem res_known {a b : Int} {K : SK} (m : List (SK × Ser)) (hm : m.length ≤ 1000000) (i : Nat) (hi : ∀ x ∈ m, i < x.2.vals.length) (hb : i < 1000000000) : res Γ 241 [.ptr (jC a b K m), .int .i64 (i : Int)] = some [.sl .any 2 (vpv (knL (atV m i)))] := by
  have hlen := @atV_len m i
  have e := res_aggKnown (kk := .any) (atV m i) (by omega)
  have L := fun k2 Q => known_l1_ok (k2 := k2) m hm i hi hb Q
  refine res_code (fn := fjoin_joined_known) rfl rfl ?_
  simp (disch := first | assumption | omega | decide | (simp only [lens] <;> omega) | fail) only [go_sem, fjoin_joined_known]
  refine L K _ ?_ m.length 0 _ (by omega)
  simp (disch := first | assumption | omega | decide | (simp only [lens] <;> omega) | fail) only [go_sem, e]
def valsF (g : Nat → Val) (n : Nat) : List Val := (List.range n).map g
theorem valsF_len {g n} : (valsF g n).length = n := by simp [valsF]
theorem valsF_succ {g n} : valsF g (n + 1) = valsF g n ++ [g n] := by simp [valsF, List.range_succ]
abbrev serB (nm : List UInt8) (a b : Int) (v : AV) (c : Int) : Blk := .box [.p (.str nm), .p (.int .i64 a), .p (.int .i64 b), v, .p (.int .i64 c)]
theorem series_l1_ok (f : Nat) (caps : List PV) (nm : List UInt8) (a b : Int) (g : Nat → Val) (n : Nat) (hn : n ≤ 1000000) (B : Blk) (hg : ∀ i : Nat, i < n → res Γ f (.int .i64 (i : Int) :: caps) = some [.agg [.bool (g i).1, .int .i64 (g i).2]]) (Q : Out → Prop)
    (hQ : Q (.nrm, [(6, .bx 0 0), (7, .bx 1 0)], [B, serB nm a b (.own 2 n) 0, .row false 2 (vpv (valsF g n))])) : ∀ (k i : Nat), i + 1 + k = n →
    Wp Γ fjoin_joined_series_l1 [(2, .p (.clo f caps)), (6, .bx 0 0), (7, .bx 1 0), (22, .p (.int .i64 (n : Int))), (23, .p (.int .i64 ((i + 1 : Nat) : Int)))] [B, serB nm a b (.own 2 (i + 1)) 0, .row false 2 (vpv (valsF g (i + 1)))] (InBlk [6, 7] 0 Q) := by
  intro k
  induction k with
  | zero =>
    intro i hi
    have hi : i + 1 = n := by omega
    rw [hi]
    rw [W_loop (L := fjoin_joined_series_l1) rfl]
    simp (disch := first | assumption | omega | decide | (simp only [lens] <;> omega) | fail) only [go_sem]
    exact hQ
  | succ k ih =>
    intro i hi
    have ih := ih (i + 1) (by omega)
    rw [valsF_succ] at ih
    have e := hg (i + 1) (by omega)
    have hlen := @valsF_len g (i + 1)
    rw [W_loop (L := fjoin_joined_series_l1) rfl]
    simp (disch := first | assumption | omega | decide | (simp only [lens] <;> omega) | fail) only [go_sem, e]
    exact ih
theorem res_series {K : SK} (f : Nat) (caps : List PV) (nm : List UInt8) (a b : Int) (m : List (SK × Ser)) (g : Nat → Val) (n : Nat) (hn : n ≤ 1000000) (hm : (if m = [] then 0 else ((m.getD 0 noSer).2.vals.length : Int)) = (n : Int)) (hg : ∀ i : Nat, i < n → res Γ f (.int .i64 (i : Int) :: caps) = some [.agg [.bool (g i).1, .int .i64 (g i).2]]) :
    res Γ 227 [.ptr (jC a b K m), .str nm, .clo f caps] = some [(Ser.mk nm a b (valsF g n) 0).pv (fitK n)] := by
  have e1 := res_many (a := a) (b := b) (K := K) m
  rw [hm] at e1
  unfold fitK Ser.pv
  by_cases h0 : n = 0
  · subst h0
    rw [if_pos rfl]
    refine res_code (fn := fjoin_joined_series) rfl rfl ?_
    simp (disch := first | assumption | omega | decide | (simp only [lens] <;> omega) | fail) only [go_sem, fjoin_joined_series, e1]
    rw [W_loop (L := fjoin_joined_series_l1) rfl]
    simp (disch := first | assumption | omega | decide | (simp only [lens] <;> omega) | fail) only [go_sem]
    rfl
  · rw [if_neg h0]
    have e2 : res Γ f (.int .i64 0 :: caps) = some [.agg [.bool (g 0).1, .int .i64 (g 0).2]] := hg 0 (by omega)
    have e0 : vpv [] = [] := rfl
    have L := fun B Q => series_l1_ok f caps nm a b g n hn B hg Q
    have ev : valsF g 1 = [g 0] := rfl
    have hlen := @valsF_len g n
    refine res_code (fn := fjoin_joined_series) rfl rfl ?_
    simp (disch := first | assumption | omega | decide | (simp only [lens] <;> omega) | fail) only [go_sem, fjoin_joined_series, e1]
    rw [W_loop (L := fjoin_joined_series_l1) rfl]
    simp (disch := first | assumption | omega | decide | (simp only [lens] <;> omega) | fail) only [go_sem, e2]
    refine L _ _ ?_ (n - 1) 0 (by omega)
    simp (disch := first | assumption | omega | decide | (simp only [lens] <;> omega) | fail) only [go_sem]
end Ab
namespace Ab
open Go (IntKind BinOp UnOp)
def namesJ (l : List (SK × Ser)) : List (List UInt8) := l.map fun x => x.2.name
def extraJ (nm : List UInt8) (p : Val) (kind : Int) : List (List UInt8) := if nm = jPer then [printB p] else if nm = jAgg then [aggName kind] else []
theorem colsV_vals {nm : List UInt8} {p : Val} {kind : Int} {m : List (SK × Ser)} {n : Nat} : colsV nm p kind m n = valsF (fun i => placeV nm p kind (knL (atV m i))) n := rfl
theorem namesJ_snoc {l : List (SK × Ser)} {i : Nat} (h : i < l.length) : namesJ (l.take (i + 1)) = namesJ (l.take i) ++ [(l.getD i noSer).2.name] := by
  unfold namesJ
  rw [take_snoc' noSer h, List.map_append]; rfl
theorem namesJ_len {l : List (SK × Ser)} : (namesJ l).length = l.length := by simp [namesJ]
theorem res_Apply1 {F : Nat} {nm : List UInt8} {a b : Int} {K : SK} (hF : ∀ (kk : SK) (k : List Val) (p : Val) (kind : Int), k.length < 100000000 → res Γ F [placeP kk k p kind] = some [.agg [.bool (placeV nm p kind k).1, .int .i64 (placeV nm p kind k).2]])
    (m : List (SK × Ser)) (hm : m.length ≤ 1000000) (i : Nat) (hi : ∀ x ∈ m, i < x.2.vals.length) (hb : i < 1000000000) (p : Val) (kind : Int) :
    res Γ 226 [.int .i64 (i : Int), .ptr [.clo F []], .ptr [.ptr (jC a b K m)], .ptr [.bool p.1, .int .i64 p.2], .ptr [.int .i64 kind]] = some [.agg [.bool (placeV nm p kind (knL (atV m i))).1, .int .i64 (placeV nm p kind (knL (atV m i))).2]] := by
  have hkl := knL_len (atV m i)
  rw [atV_len] at hkl
  have e1 := res_known (a := a) (b := b) (K := K) m hm i hi hb
  have e2 := hF .any (knL (atV m i)) p kind (by omega)
  refine res_code (fn := fjoin_Apply_1) rfl rfl ?_
  simp (disch := first | assumption | omega | decide | (simp only [lens] <;> omega) | fail) only [go_sem, fjoin_Apply_1, e1, e2]
set_option maxRecDepth 10000 in
theorem Apply_l1_ok {k2 : SK} (l : List (SK × Ser)) (hl : l.length ≤ 1000000) (a : AV) (B0 B1 B2 B3 : Blk) (hB : (∃ cs : List PV, B0 = .box (cs.map .p)) ∧ (∃ cs : List PV, B1 = .box (cs.map .p)) ∧ (∃ cs : List PV, B2 = .box (cs.map .p)) ∧ (∃ cs : List PV, B3 = .box (cs.map .p))) (ha : ∃ v, a = .p v) (Q : Out → Prop)
    (hQ : Q (.nrm, [(0, a), (5, .bx 0 0), (6, .bx 1 0), (10, .bx 2 0), (11, .bx 3 0), (13, .own 4 l.length)], [B0, B1, B2, B3, .row false 1 (strs (namesJ l))])) : ∀ (n i : Nat) (R : Heap), i + n = l.length →
    Wp Γ fjoin_Apply_l1 [(0, a), (5, .bx 0 0), (6, .bx 1 0), (10, .bx 2 0), (11, .bx 3 0), (13, .own 4 i), (33, .p (.sl k2 5 (sers l))), (34, .p (.int .i64 (l.length : Int))), (35, .p (.int .i64 (i : Int)))] (B0 :: B1 :: B2 :: B3 :: .row false 1 (strs (namesJ (l.take i))) :: R) (InBlk [0, 5, 6, 10, 11, 13] 0 Q) := by
  obtain ⟨⟨c0, rfl⟩, ⟨c1, rfl⟩, ⟨c2, rfl⟩, ⟨c3, rfl⟩⟩ := hB
  obtain ⟨v, rfl⟩ := ha
  intro n
  induction n with
  | zero =>
    intro i R hi
    obtain rfl : i = l.length := by omega
    rw [List.take_length]
    rw [W_loop (L := fjoin_Apply_l1) rfl]
    simp (disch := first | assumption | omega | decide | (simp only [lens] <;> omega) | fail) only [go_sem]
    exact hQ
  | succ n ih =>
    intro i R hi
    have hlt : i < l.length := by omega
    have ih := fun R => ih (i + 1) R (by omega)
    rw [namesJ_snoc hlt] at ih
    have hlen : (namesJ (l.take i)).length = i := by rw [namesJ_len, List.length_take]; omega
    obtain ⟨x, hx⟩ : ∃ x, l.getD i noSer = x := ⟨_, rfl⟩
    rw [hx] at ih
    rw [W_loop (L := fjoin_Apply_l1) rfl]
    simp (disch := first | assumption | omega | decide | (simp only [lens] <;> omega) | fail) only [go_sem, hx, serC]
    exact ih _
theorem joinW_ok {l : List (SK × Ser)} {b : Int} {st n i : Nat} (hi : i < n) : ∀ x ∈ joinW l b st n, i < x.2.vals.length := by
  intro x hx
  obtain ⟨y, hy, rfl⟩ := List.mem_map.1 hx
  have : (fitS y.2 b st n).vals.length = n := fitV_len
  rw [this]; exact hi
theorem many_ok {l : List (SK × Ser)} {b : Int} {st n : Nat} (h0 : l ≠ []) : (if joinW l b st n = [] then 0 else (((joinW l b st n).getD 0 noSer).2.vals.length : Int)) = (n : Int) := by
  have hpos : 0 < l.length := List.length_pos_iff.2 h0
  rw [if_neg (fun h => by have := congrArg List.length h; rw [joinW_len, List.length_nil] at this; omega), joinW_get hpos]
  have : (fitS (l.getD 0 noSer).2 b st n).vals.length = n := fitV_len
  rw [this]
theorem nJ_le {l : List (SK × Ser)} (he : errJ (sersOf l) = 0) (h0 : l ≠ []) : nJ l ≤ 131072 := by
  unfold errJ at he
  have hne : sersOf l ≠ [] := by simpa [sersOf] using h0
  by_cases a1 : (sersOf l).all isS = false
  · rw [if_pos a1] at he; omega
  · rw [if_neg a1, if_neg hne] at he
    by_cases a2 : stepJ (sersOf l) = 0
    · rw [if_pos a2] at he; omega
    · rw [if_neg a2] at he
      by_cases a3 : 131072 < manyJ (sersOf l)
      · rw [if_pos a3] at he; omega
      · unfold nJ; omega
theorem aggName_len (k : Int) : (aggName k).length ≤ 100 := by
  unfold aggName
  repeat' split
  all_goals decide
theorem printB_len (v : Val) : (printB v).length ≤ 100 := by
  unfold printB
  split
  · rename_i hk
    have hb := knV_bound hk
    have h1 : (decB (v.2.natAbs / 1000000)).length ≤ 20 := decB_len20 (by omega)
    have h2 : (fracB (v.2.natAbs % 1000000)).length ≤ 25 := by
      unfold fracB
      split
      · simp
      · have h3 : (decB (1000000 + v.2.natAbs % 1000000)).length ≤ 20 := decB_len20 (by omega)
        have := trimN_len ((decB (1000000 + v.2.natAbs % 1000000)).drop 1) _ (Nat.le_refl _)
        unfold trimB
        rw [List.length_drop] at this
        rw [List.length_cons, List.length_drop]; omega
    rw [List.length_append, List.length_append]
    split <;> simp <;> omega
  · decide
theorem joinB_le {sep : List UInt8} {B : Nat} : ∀ {l : List (List UInt8)}, (∀ x ∈ l, x.length ≤ B) → (joinB sep l).length ≤ l.length * (B + sep.length)
  | [], _ => by simp [joinB]
  | [s], h => by have := h s (by simp); simp [joinB]; omega
  | s :: t :: r, h => by
    have ih := joinB_le (sep := sep) (B := B) (l := t :: r) fun x hx => h x (by simp only [List.mem_cons] at hx ⊢; exact .inr hx)
    have h1 := h s (by simp)
    have e : joinB sep (s :: t :: r) = s ++ sep ++ joinB sep (t :: r) := rfl
    have e2 : (s :: t :: r).length * (B + sep.length) = (B + sep.length) + (t :: r).length * (B + sep.length) := by
      rw [List.length_cons, Nat.add_mul, Nat.one_mul, Nat.add_comm]
    rw [e, e2, List.length_append, List.length_append]
    omega
theorem texts_ok {nm : List UInt8} {p : Val} {kind : Int} {l : List (SK × Ser)} (hl : l.length ≤ 100) (hn : ∀ x ∈ l, x.2.name.length ≤ 4096) : (joinB [44] (namesJ l ++ extraJ nm p kind)).length ≤ 1000000000 ∧ (namesJ l ++ extraJ nm p kind).length < 1000000000 := by
  have hx : (extraJ nm p kind).length ≤ 1 := by
    unfold extraJ
    split
    · simp
    · split <;> simp
  have hb : ∀ x ∈ namesJ l ++ extraJ nm p kind, x.length ≤ 4096 := fun x hx => by
    rcases List.mem_append.1 hx with hx | hx
    · obtain ⟨y, hy, rfl⟩ := List.mem_map.1 hx
      exact hn y hy
    · unfold extraJ at hx
      split at hx
      · rw [List.mem_singleton] at hx; subst hx; have := printB_len p; omega
      · split at hx
        · rw [List.mem_singleton] at hx; subst hx; have := aggName_len kind; omega
        · cases hx
  have hlen : (namesJ l ++ extraJ nm p kind).length ≤ 101 := by rw [List.length_append, namesJ_len]; omega
  have := joinB_le (sep := [44]) hb
  have h2 : (namesJ l ++ extraJ nm p kind).length * (4096 + ([44] : List UInt8).length) ≤ 101 * 4097 := Nat.mul_le_mul hlen (by simp)
  omega
end Ab
namespace Ab
open Go (IntKind BinOp UnOp)
theorem at_l1_ok {k2 : SK} (m : List (SK × Ser)) (hm : m.length ≤ 1000000) (i : Nat) (hi : ∀ x ∈ m, i < x.2.vals.length) (hb : i < 1000000000) (Q : Out → Prop) (hQ : Q (.nrm, [(5, .own 0 m.length)], [.row false 2 (vpv (atV m i))])) : ∀ (n j : Nat), j + n = m.length →
    Wp Γ r22_at_l1 [(0, .p (.sl k2 5 (sers m))), (1, .p (.int .i64 (i : Int))), (5, .own 0 j), (6, .p (.int .i64 (j : Int)))] [.row false 2 (vpv (atV (m.take j) i))] (InBlk [5] 0 Q) := by
  intro n
  induction n with
  | zero =>
    intro j hj
    obtain rfl : j = m.length := by omega
    rw [List.take_length]
    rw [W_loop (L := r22_at_l1) rfl]
    simp (disch := first | assumption | omega | decide | (simp only [lens] <;> omega) | fail) only [go_sem]
    exact hQ
  | succ n ih =>
    intro j hj
    have hlt : j < m.length := by omega
    have hmem := ser_mem hlt
    have ih := ih (j + 1) (by omega)
    rw [atV_snoc hlt] at ih
    have hlen : (atV (m.take j) i).length = j := by rw [atV_len, List.length_take]; omega
    have hvl := hi _ hmem
    obtain ⟨x, hx⟩ : ∃ x, m.getD j noSer = x := ⟨_, rfl⟩
    rw [hx] at ih hvl
    rw [W_loop (L := r22_at_l1) rfl]
    simp (disch := first | assumption | omega | decide | (simp only [lens] <;> omega) | fail) only [go_sem, hx, serC, valP]
    exact ih
theorem res_atJ {kk : SK} (m : List (SK × Ser)) (hm : m.length ≤ 1000000) (i : Nat) (hi : ∀ x ∈ m, i < x.2.vals.length) (hb : i < 1000000000) : res Γ 235 [.sl kk 5 (sers m), .int .i64 (i : Int)] = some [.sl .any 2 (vpv (atV m i))] := by
  have hlen := @atV_len m i
  refine res_code (fn := r22_at) rfl rfl ?_
  simp (disch := first | assumption | omega | decide | (simp only [lens] <;> omega) | fail) only [go_sem, r22_at]
  refine at_l1_ok m hm i hi hb _ ?_ m.length 0 (by omega)
  simp (disch := first | assumption | omega | decide | (simp only [lens] <;> omega) | fail) only [go_sem]
theorem names_l1_ok {k2 : SK} (m : List (SK × Ser)) (hm : m.length ≤ 1000000) (Q : Out → Prop) (hQ : Q (.nrm, [(3, .own 0 m.length)], [.row false 1 (strs (namesJ m))])) : ∀ (n j : Nat), j + n = m.length →
    Wp Γ r22_names_l1 [(0, .p (.sl k2 5 (sers m))), (3, .own 0 j), (4, .p (.int .i64 (j : Int)))] [.row false 1 (strs (namesJ (m.take j)))] (InBlk [3] 0 Q) := by
  intro n
  induction n with
  | zero =>
    intro j hj
    obtain rfl : j = m.length := by omega
    rw [List.take_length]
    rw [W_loop (L := r22_names_l1) rfl]
    simp (disch := first | assumption | omega | decide | (simp only [lens] <;> omega) | fail) only [go_sem]
    exact hQ
  | succ n ih =>
    intro j hj
    have hlt : j < m.length := by omega
    have ih := ih (j + 1) (by omega)
    rw [namesJ_snoc hlt] at ih
    have hlen : (namesJ (m.take j)).length = j := by rw [namesJ_len, List.length_take]; omega
    obtain ⟨x, hx⟩ : ∃ x, m.getD j noSer = x := ⟨_, rfl⟩
    rw [hx] at ih
    rw [W_loop (L := r22_names_l1) rfl]
    simp (disch := first | assumption | omega | decide | (simp only [lens] <;> omega) | fail) only [go_sem, hx, serC]
    exact ih
theorem resM_names {kk : SK} (m : List (SK × Ser)) (hm : m.length ≤ 1000000) : resM Γ 0 238 [.p (.sl kk 5 (sers m))] [] = some ([.own 0 m.length], [.row false 1 (strs (namesJ m))]) := by
  refine resM_code (fn := r22_names) rfl rfl ?_
  simp (disch := first | assumption | omega | decide | (simp only [lens] <;> omega) | fail) only [go_sem, r22_names]
  refine names_l1_ok m hm _ ?_ m.length 0 (by omega)
  simp (disch := first | assumption | omega | decide | (simp only [lens] <;> omega) | fail) only [go_sem]
theorem st238 : stillF Γ 0 238 = true := rfl
end Ab
namespace Ab
open Go (IntKind BinOp UnOp)
def mapK (b : Option Blk) : Option (List (PV × AV)) := match b with
  | some (.box (.nov :: .nov :: cs)) => mapIn cs
  | _ => none
theorem flatIn : ∀ (es : List (PV × AV)), mapIn (mapFlat es) = some es
  | [] => rfl
  | (k, v) :: es => by simp [mapFlat, mapIn, flatIn es]
theorem mapK_some {es : List (PV × AV)} : mapK (some (.box (mapCells es))) = some es := flatIn es
def mgK (zero : List PV) (comma : Bool) (m : Option (Option AV)) : Option AV := m.map (mres comma (mkZ zero))
theorem mget_str {H : Heap} {id : Nat} {zero comma} {k : List UInt8} : mgetA H .str zero comma (.mp id) (.p (.str k)) = (mapK H[id]?).bind fun es => mgK zero comma (mfind (.str k) es) := rfl
theorem mget_int {H : Heap} {id : Nat} {zero comma} {ki : IntKind} {k : Int} : mgetA H (.int ki) zero comma (.mp id) (.p (.int ki k)) = (mapK H[id]?).bind fun es => mgK zero comma (mfind (.int ki k) es) := by
  simp only [mgetA, keyIs, decide_true, ifB]; rfl
theorem mgK_some {zero comma} {r : Option AV} : mgK zero comma (some r) = some (mres comma (mkZ zero) r) := rfl
theorem mres_none {z : AV} : mres false z none = z := rfl
theorem mres_some {z v : AV} : mres false z (some v) = v := rfl
theorem mres_noneC {z : AV} : mres true z none = .tup [z, .p (.bool false)] := rfl
theorem mres_someC {z v : AV} : mres true z (some v) = .tup [v, .p (.bool true)] := rfl
theorem mkZ_one {v : PV} : mkZ [v] = .p v := rfl
def msK (H : Heap) (id : Nat) (es' : Option (List (PV × AV))) : Option Heap := es'.map fun es' => H.set id (.box (mapCells es'))
theorem mset_str {H : Heap} {id : Nat} {k : List UInt8} {v : AV} (h : v.ok = true) : msetA H .str (.mp id) (.p (.str k)) v = (mapK H[id]?).bind fun es => msK H id (mput (.str k) v es) := by
  simp only [msetA, keyIs, h, Bool.and_self, ifB]; rfl
theorem mset_int {H : Heap} {id : Nat} {ki : IntKind} {k : Int} {v : AV} (h : v.ok = true) : msetA H (.int ki) (.mp id) (.p (.int ki k)) v = (mapK H[id]?).bind fun es => msK H id (mput (.int ki k) v es) := by
  simp only [msetA, keyIs, decide_true, h, Bool.and_self, ifB]; rfl
theorem msK_some {H : Heap} {id : Nat} {es' : List (PV × AV)} : msK H id (some es') = some (H.set id (.box (mapCells es'))) := rfl
theorem ok_own {id n} : (AV.own id n).ok = true := rfl
theorem ok_p {v} : (AV.p v).ok = true := rfl
def isnilK (neg : Bool) (n : Nat) (b : Option (Nat × List PV)) : Option AV := b.bind fun _ => if 0 < n then some (.p (.bool neg)) else none
theorem isnil_own {H : Heap} {neg id n s l} : isnilA H neg (.own id n) (.p (.sl .nil s l)) = isnilK neg n (rowAt H[id]? n) := by
  simp only [isnilA, rowOf_eq]; rfl
theorem isnilK_pos {neg n} {r : Nat × List PV} (h : 0 < n) : isnilK neg n (some r) = some (.p (.bool neg)) := by
  simp [isnilK, h]
theorem isnil_p {H : Heap} {neg} {v w : PV} : isnilA H neg (.p v) (.p w) = eqkA 4 neg (.p v) (.p w) := by
  unfold isnilA; rfl
def browK (H : Heap) (sz : Nat) (ag : Bool) (n : Nat) (ps : Option (List PV)) : Option (AV × Heap) := ps.bind fun ps => if ps.length = n * sz ∧ n ≤ lim then some (.own H.length n, H ++ [.row false sz (chunks sz ag n ps)]) else none
theorem brow_K {H : Heap} {sz ag n} {cs : List AV} : browA H sz ag n (some cs) = browK H sz ag n (pures cs) := rfl
theorem browK_pos {H : Heap} {sz ag n} {ps : List PV} (h : ps.length = n * sz) (h' : n ≤ 1073741824) : browK H sz ag n (some ps) = some (.own H.length n, H ++ [.row false sz (chunks sz ag n ps)]) := by
  simp only [browK, Option.bind_some]
  rw [if_pos ⟨h, h'⟩]
section
variable {Γ : Ctx} {env : Env} {H : Heap} {live : List Nat} {Q : Out → Prop} {r : List St} {dst : Option Nat}
theorem L_treeq {q : QOp} (h : q.plain = true) : WpL Γ (⟨dst, none, .inr (.treeq q)⟩ :: r) env H live Q ↔ opX Γ ((evQ Γ noCall (look env) H q).bind fun v => treeA H v) dst r env live Q := by
  rw [L_of]
  unfold opX WpO
  have e : ∀ n, evX Γ (callOf Γ (ev Γ n)) (look env) H (.treeq q) = (evQ Γ noCall (look env) H q).bind fun v => treeA H v := fun n => by
    have : evQ Γ (callOf Γ (ev Γ n)) (look env) H q = evQ Γ noCall (look env) H q := by cases q <;> first | rfl | cases h
    simp only [evX, this]
  simp only [e]
  exact ⟨fun ⟨_, h⟩ => h, fun h => ⟨0, h⟩⟩
theorem L_tree_load {sz ag x} : WpL Γ (⟨dst, none, .inr (.treeq (.load sz ag x))⟩ :: r) env H live Q ↔ opX Γ ((loadA H sz ag (Arg.ev Γ (look env) x)).bind fun v => treeA H v) dst r env live Q := L_treeq rfl
theorem L_tree_mov {x} : WpL Γ (⟨dst, none, .inr (.treeq (.mov x))⟩ :: r) env H live Q ↔ opX Γ (treeA H (Arg.ev Γ (look env) x)) dst r env live Q := L_treeq rfl
theorem L_tree_mget {kd zero comma x k} : WpL Γ (⟨dst, none, .inr (.treeq (.mget kd zero comma x k))⟩ :: r) env H live Q ↔ opX Γ ((mgetA H kd zero comma (Arg.ev Γ (look env) x) (Arg.ev Γ (look env) k)).bind fun v => treeA H v) dst r env live Q := L_treeq rfl
end
def treeK (q : Option (List PV × Heap)) : Option (AV × Heap) := q.bind fun r => r.1.head?.map fun p => (.p p, r.2)
theorem tree_K {H : Heap} {v : AV} : treeA H v = treeK (treesOf H [v]) := rfl
theorem treeK_some {p : PV} {ps : List PV} {h : Heap} : treeK (some (p :: ps, h)) = some (.p p, h) := rfl
theorem at_last {l : List Blk} {b : Blk} {i : Nat} (h : i = l.length) : (l ++ [b])[i]? = some b := by subst h; exact List.getElem?_concat_length
theorem at_left {l m : List Blk} {i : Nat} (h : i < l.length) : (l ++ m)[i]? = l[i]? := List.getElem?_append_left h
theorem set_last {l : List Blk} {b c : Blk} {i : Nat} (h : i = l.length) : (l ++ [b]).set i c = l ++ [c] := by
  subst h
  rw [List.set_append_right _ _ (Nat.le_refl _), Nat.sub_self]; rfl
theorem set_left {l m : List Blk} {c : Blk} {i : Nat} (h : i < l.length) : (l ++ m).set i c = l.set i c ++ m := List.set_append_left _ _ h
attribute [go_sem] mapK_some mget_str mget_int mgK_some mres_none mres_some mres_noneC mres_someC mkZ_one mset_str mset_int msK_some ok_own ok_p isnil_own isnilK_pos isnil_p brow_K browK_pos L_tree_mget L_tree_load L_tree_mov tree_K treeK_some
end Ab
namespace Ab
open Go (IntKind BinOp UnOp)
abbrev noVal : Val := (false, 0)
def aggS (kind : Int) (l : List (SK × Ser)) : SK × Ser := (fitK (nJ l), ⟨labelL jAgg (namesJ l ++ [aggName kind]), bJ l, sJ l, colsV jAgg noVal kind (joinW l (bJ l) (sJ l) (nJ l)) (nJ l), 0⟩)
def aggM (kind : Int) (l : List (SK × Ser)) : List AV × Heap :=
  if errJ (sersOf l) ≠ 0 then ([.p (.sl .nil 5 []), .p (.int .i64 (errJ (sersOf l)))], []) else ([.own 0 1, .p (.int .i64 0)], [.row false 5 (sers [aggS kind l])])
theorem resM_Apply {kk : SK} (kind : Int) (l : List (SK × Ser)) (h0 : l ≠ []) (hl : l.length ≤ 100) (hv : ∀ x ∈ l, x.2.vals.length ≤ 1000000) (hn : ∀ x ∈ l, x.2.name.length ≤ 4096) :
    resM Γ 0 217 [.p (.str jAgg), .p (.agg [.bool false, .int .i64 0]), .p (.int .i64 kind), .p (.sl kk 5 (sers l))] [] = some (aggM kind l) := by
  unfold aggM
  have d1 := res_doesJ_agg
  by_cases he : errJ (sersOf l) = 0
  · rw [if_neg (fun h => h he)]
    have hpos : 0 < l.length := List.length_pos_iff.2 h0
    have e1 := res_join_ok (kk := kk) l (by omega) hv h0 he
    have hn1 := nJ_le he h0
    have L := fun k2 a B0 B1 B2 B3 hB ha Q => Apply_l1_ok (k2 := k2) l (by omega) a B0 B1 B2 B3 hB ha Q
    have ex : extraJ jAgg noVal kind = [aggName kind] := by
      unfold extraJ
      rw [if_neg (by decide), if_pos rfl]
    obtain ⟨t1, t2⟩ := texts_ok (nm := jAgg) (p := noVal) (kind := kind) hl hn
    rw [ex] at t1 t2
    have eL := fun kk => res_seriesLabelL (kk := kk) jAgg (namesJ l ++ [aggName kind]) (by decide) t2 t1
    have eS := res_series (K := .any) 226 [.ptr [.clo 253 []], .ptr [.ptr (jC (bJ l) (sJ l) .any (joinW l (bJ l) (sJ l) (nJ l)))], .ptr [.bool false, .int .i64 0], .ptr [.int .i64 kind]] (labelL jAgg (namesJ l ++ [aggName kind])) (bJ l) (sJ l)
      (joinW l (bJ l) (sJ l) (nJ l)) (fun i => placeV jAgg noVal kind (knL (atV (joinW l (bJ l) (sJ l) (nJ l)) i))) (nJ l) (by omega) (many_ok h0) (fun i hi =>
        res_Apply1 (a := bJ l) (b := sJ l) (K := .any) (F := 253) (nm := jAgg) (fun kk k p kind hk => res_cl_agg k p kind hk) (joinW l (bJ l) (sJ l) (nJ l)) (by rw [joinW_len]; omega) i (joinW_ok hi) (by omega) noVal kind)
    have hag := res_aggName kind
    have hIs := res_fixedIs false 0
    have hI : isV noVal = true := by decide
    have hIs : res Γ 126 [.agg [.bool false, .int .i64 0]] = some [.bool true] := by rw [← hI]; exact hIs
    have hnl := @namesJ_len l
    unfold aggS
    rw [colsV_vals]
    generalize valsF (fun i => placeV jAgg noVal kind (knL (atV (joinW l (bJ l) (sJ l) (nJ l)) i))) (nJ l) = V at *
    generalize joinW l (bJ l) (sJ l) (nJ l) = m at *
    unfold Ser.pv at eS
    unfold jAgg at *
    refine resM_code (fn := fjoin_Apply) rfl rfl ?_
    simp (disch := first | assumption | omega | decide | (simp only [lens] <;> omega) | fail) only [go_sem, fjoin_Apply, d1, e1, ne_eq, not_true_eq_false]
    refine L kk _ _ _ _ _ ⟨⟨[_, _], rfl⟩, ⟨[_], rfl⟩, ⟨[_], rfl⟩, ⟨[_], rfl⟩⟩ ⟨_, rfl⟩ _ ?_ l.length 0 _ (by omega)
    simp (disch := first | assumption | omega | decide | (simp only [lens] <;> omega) | fail) only [go_sem, hag, hIs, eL, eS]
    rfl
  · rw [if_pos he]
    have e1 := res_join_err (kk := kk) l (by omega) hv he
    unfold jAgg at *
    refine resM_code (fn := fjoin_Apply) rfl rfl ?_
    simp (disch := first | assumption | omega | decide | (simp only [lens] <;> omega) | fail) only [go_sem, fjoin_Apply, d1, e1]
set_option maxRecDepth 10000 in
theorem rAppG_l1_ok {K : SK} (kind : Int) (lab : List UInt8) (a b : Int) (m : List (SK × Ser)) (hm : m.length ≤ 1000000) (n : Nat) (hn : n ≤ 1000000) (h0 : 0 < m.length) (hml : (m.getD 0 noSer).2.vals.length = n) (hi : ∀ i, i < n → ∀ x ∈ m, i < x.2.vals.length) (Q : Out → Prop)
    (hQ : Q (.nrm, [(15, .bx 0 0)], [serB lab a b (.own 1 n) 0, .row false 2 (vpv (valsF (fun i => placeV jAgg noVal kind (knL (atV m i))) n))])) : ∀ (k i : Nat) (env : Env) (H : Heap), i + 1 + k = n →
    norm [0, 2, 5, 12, 15, 16] (some 0) env H = some ([(0, .p (.str jAgg)), (2, .p (.int .i64 kind)), (5, .p (.ptr [.bool false, .int .i64 0])), (12, .p (.sl K 5 (sers m))), (15, .bx 0 0), (16, .p (.int .i64 ((i + 1 : Nat) : Int)))], [serB lab a b (.own 1 (i + 1)) 0, .row false 2 (vpv (valsF (fun i => placeV jAgg noVal kind (knL (atV m i))) (i + 1)))]) →
    Wp Γ r22_Apply_l1 env H (InBlk [15] 0 Q) := by
  obtain ⟨x, hx⟩ : ∃ x, m.getD 0 noSer = x := ⟨_, rfl⟩
  rw [hx] at hml
  intro k
  induction k with
  | zero =>
    intro i env H hi' hN
    have hi' : i + 1 = n := by omega
    rw [hi'] at hN
    rw [W_loop (L := r22_Apply_l1) rfl]
    rw [hN]
    simp (disch := first | assumption | omega | decide | (simp only [lens] <;> omega) | fail) only [go_sem, hx, serC, hml]
    exact hQ
  | succ k ih =>
    intro i env H hi' hN
    have ih := fun env H => ih (i + 1) env H (by omega)
    rw [valsF_succ] at ih
    have e1 := res_atJ (kk := K) m hm (i + 1) (hi (i + 1) (by omega)) (by omega)
    have e2 : res Γ 236 [.str jAgg, .agg [.bool false, .int .i64 0], .int .i64 kind, .sl .any 2 (vpv (atV m (i + 1)))] = some [.agg [.bool (placeV jAgg noVal kind (knL (atV m (i + 1)))).1, .int .i64 (placeV jAgg noVal kind (knL (atV m (i + 1)))).2], .bool true] := res_one_agg (kk := .any) (atV m (i + 1)) noVal kind (by rw [atV_len]; omega)
    have hlen := @valsF_len (fun i => placeV jAgg noVal kind (knL (atV m i))) (i + 1)
    rw [W_loop (L := r22_Apply_l1) rfl]
    rw [hN]
    simp (disch := first | assumption | omega | decide | (simp only [lens] <;> omega) | fail) only [go_sem, hx, serC, hml, e1, e2]
    refine ih _ _ ?_
    simp (disch := first | assumption | omega | decide | (simp only [lens] <;> omega) | fail) only [go_sem]
    rfl
set_option maxRecDepth 10000 in
theorem rAppG_l1_first {K : SK} (kind : Int) (lab : List UInt8) (a b : Int) (m : List (SK × Ser)) (hm : m.length ≤ 1000000) (n : Nat) (hn : n ≤ 1000000) (h0 : 0 < m.length) (hml : (m.getD 0 noSer).2.vals.length = n) (hi : ∀ i, i < n → ∀ x ∈ m, i < x.2.vals.length) (Q : Out → Prop)
    (hQ0 : n = 0 → Q (.nrm, [(15, .bx 0 0)], [serB lab a b (.p (.sl .nil 2 [])) 0]))
    (hQ : n ≠ 0 → Q (.nrm, [(15, .bx 0 0)], [serB lab a b (.own 1 n) 0, .row false 2 (vpv (valsF (fun i => placeV jAgg noVal kind (knL (atV m i))) n))])) (env : Env) (H : Heap)
    (hN : norm [0, 2, 5, 12, 15, 16] (some 0) env H = some ([(0, .p (.str jAgg)), (2, .p (.int .i64 kind)), (5, .p (.ptr [.bool false, .int .i64 0])), (12, .p (.sl K 5 (sers m))), (15, .bx 0 0), (16, .p (.int .i64 0))], [serB lab a b (.p (.sl .nil 2 [])) 0])) :
    Wp Γ r22_Apply_l1 env H (InBlk [15] 0 Q) := by
  obtain ⟨x, hx⟩ : ∃ x, m.getD 0 noSer = x := ⟨_, rfl⟩
  by_cases h : n = 0
  · rw [hx] at hml
    rw [h] at hml
    rw [W_loop (L := r22_Apply_l1) rfl]
    rw [hN]
    simp (disch := first | assumption | omega | decide | (simp only [lens] <;> omega) | fail) only [go_sem, hx, serC, hml]
    exact hQ0 h
  · have L := rAppG_l1_ok (K := K) kind lab a b m hm n hn h0 hml hi Q (hQ h) (n - 1) 0
    rw [hx] at hml
    have e1 : res Γ 235 [.sl K 5 (sers m), .int .i64 0] = some [.sl .any 2 (vpv (atV m 0))] := res_atJ (kk := K) m hm 0 (hi 0 (by omega)) (by omega)
    have e2 : res Γ 236 [.str jAgg, .agg [.bool false, .int .i64 0], .int .i64 kind, .sl .any 2 (vpv (atV m 0))] = some [.agg [.bool (placeV jAgg noVal kind (knL (atV m 0))).1, .int .i64 (placeV jAgg noVal kind (knL (atV m 0))).2], .bool true] := res_one_agg (kk := .any) (atV m 0) noVal kind (by rw [atV_len]; omega)
    rw [W_loop (L := r22_Apply_l1) rfl]
    rw [hN]
    simp (disch := first | assumption | omega | decide | (simp only [lens] <;> omega) | fail) only [go_sem, hx, serC, hml, e1, e2]
    refine L _ _ (by omega) ?_
    simp (disch := first | assumption | omega | decide | (simp only [lens] <;> omega) | fail) only [go_sem]
    rfl
set_option maxRecDepth 10000 in
theorem resM_rApply {kk : SK} (kind : Int) (l : List (SK × Ser)) (h0 : l ≠ []) (hl : l.length ≤ 100) (hv : ∀ x ∈ l, x.2.vals.length ≤ 1000000) (hn : ∀ x ∈ l, x.2.name.length ≤ 4096) :
    resM Γ 0 224 [.p (.str jAgg), .p (.agg [.bool false, .int .i64 0]), .p (.int .i64 kind), .p (.sl kk 5 (sers l))] [] = some (aggM kind l) := by
  unfold aggM
  have hm : jAgg ∈ jAll := by decide
  have d1 : res Γ 236 [.str jAgg, .agg [.bool false, .int .i64 0], .int .i64 kind, .sl .nil 2 (vpv [])] = _ := res_one_agg (kk := .nil) [] noVal kind (by decide)
  rw [vpv_nil] at d1
  have eJ := res_r18Join (kk := kk) l (by omega) hv
  unfold joinR at eJ
  by_cases he : errJ (sersOf l) = 0
  · rw [if_neg (fun h => h he)]
    rw [if_pos he, if_neg h0, joinJ_eq] at eJ
    have hpos : 0 < l.length := List.length_pos_iff.2 h0
    have hn1 := nJ_le he h0
    have ex : extraJ jAgg noVal kind = [aggName kind] := by
      unfold extraJ
      rw [if_neg (by decide), if_pos rfl]
    obtain ⟨t1, t2⟩ := texts_ok (nm := jAgg) (p := noVal) (kind := kind) hl hn
    rw [ex] at t1 t2
    have eL := fun kk => res_r18LabelL (kk := kk) jAgg (namesJ l ++ [aggName kind]) (by decide) t2 t1
    have eN := resM_names (kk := kk) l (by omega)
    have hjl := @joinW_len l (bJ l) (sJ l) (nJ l)
    have hjg := joinW_get (b := bJ l) (st := sJ l) (n := nJ l) hpos
    have hml : ((joinW l (bJ l) (sJ l) (nJ l)).getD 0 noSer).2.vals.length = nJ l := by rw [hjg]; exact fitV_len
    have L := fun lab a b Q h1 h2 env H hN => rAppG_l1_first (K := .any) kind lab a b (joinW l (bJ l) (sJ l) (nJ l)) (by omega) (nJ l) (by omega) (by omega) hml (fun i hi => joinW_ok hi) Q h1 h2 env H hN
    have hag := res_r6Name kind
    have hnl := @namesJ_len l
    have hvl := @valsF_len (fun i => placeV jAgg noVal kind (knL (atV (joinW l (bJ l) (sJ l) (nJ l)) i))) (nJ l)
    have hb' : begJ (sersOf l) = bJ l := rfl
    have hs' : stepJ (sersOf l) = sJ l := rfl
    have hn' : (manyJ (sersOf l)).toNat = nJ l := rfl
    rw [hb', hs', hn'] at eJ
    have hv0 : nJ l = 0 → valsF (fun i => placeV jAgg noVal kind (knL (atV (joinW l (bJ l) (sJ l) (nJ l)) i))) (nJ l) = [] := fun h => by rw [h]; rfl
    unfold aggS
    rw [colsV_vals]
    generalize valsF (fun i => placeV jAgg noVal kind (knL (atV (joinW l (bJ l) (sJ l) (nJ l)) i))) (nJ l) = V at *
    generalize joinW l (bJ l) (sJ l) (nJ l) = m at *
    unfold fitK
    unfold jAgg at *
    refine resM_code (fn := r22_Apply) rfl rfl ?_
    simp (disch := first | assumption | omega | decide | (simp only [lens] <;> omega) | fail) only [go_sem, r22_Apply, d1, eJ, eN, st238, ne_eq, not_true_eq_false, hag, eL, hjg, serC, fitS]
    refine L (labelL [97, 103, 103, 114, 101, 103, 97, 116, 101] (namesJ l ++ [aggName kind])) (bJ l) (sJ l) _ (fun h => ?_) (fun h => ?_) _ _ ?_
    · rw [hv0 h, if_pos h]
      simp (disch := first | assumption | omega | decide | (simp only [lens] <;> omega) | fail) only [go_sem]
      rfl
    · rw [if_neg h]
      simp (disch := first | assumption | omega | decide | (simp only [lens] <;> omega) | fail) only [go_sem]
      rfl
    · simp (disch := first | assumption | omega | decide | (simp only [lens] <;> omega) | fail) only [go_sem]
  · rw [if_pos he]
    rw [if_neg he] at eJ
    unfold jAgg at *
    refine resM_code (fn := r22_Apply) rfl rfl ?_
    simp (disch := first | assumption | omega | decide | (simp only [lens] <;> omega) | fail) only [go_sem, r22_Apply, d1, eJ]
end Ab
