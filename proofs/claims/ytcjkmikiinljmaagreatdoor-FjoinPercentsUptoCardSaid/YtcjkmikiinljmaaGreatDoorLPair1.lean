import Derived.Test.YtcjkmikiinljmaaGreatDoorLJoin1
import Derived.Test.YtcjkmikiinljmaaGreatDoorAbPrim
import Derived.Test.YtcjkmikiinljmaaGreatDoorLIs
import Derived.Test.YtcjkmikiinljmaaGreatDoorLMd
import Derived.Test.YtcjkmikiinljmaaGreatDoorMMove2
namespace Ab
open Go (IntKind BinOp UnOp)
theorem rJoin_l3_ok {kk : SK} (l : List (SK × Ser)) (hl : l.length ≤ 1000000) (hv : ∀ x ∈ l, x.2.vals.length ≤ 1000000) (Q : Out → Prop)
    (hbad : (¬ ∀ x ∈ l, isS x.2 = true) → Q (.ret, [(2, .p (.sl .nil 5 [])), (3, .p (.int .i64 1))], []))
    (hQ : (∀ x ∈ l, isS x.2 = true) → Q (.nrm, [(0, .p (.sl kk 5 (sers l))), (4, .p (.int .i64 1)), (5, .p (.int .i64 (startJ 4294967295 (sersOf l)))), (6, .p (.int .i64 (endJ (sersOf l))))], [])) : ∀ (n i : Nat), i + n = l.length → (∀ x ∈ l.take i, isS x.2 = true) →
    Wp Γ r18_Join_l3 [(0, .p (.sl kk 5 (sers l))), (4, .p (.int .i64 1)), (5, .p (.int .i64 (startJ 4294967295 (sersOf (l.take i))))), (6, .p (.int .i64 (endJ (sersOf (l.take i))))), (7, .p (.int .i64 (i : Int)))] [] (InBlk [0, 4, 5, 6] 0 Q) := by
  intro n
  induction n with
  | zero =>
    intro i hi hS
    obtain rfl : i = l.length := by omega
    rw [List.take_length] at hS ⊢
    rw [W_loop (L := r18_Join_l3) rfl]
    simp (disch := first | assumption | omega | decide | (simp only [List.length_cons, List.length_nil, List.length_append, List.length_replicate, List.length_map, List.length_set, List.length_take, List.length_drop, strs_len, ints_len, bools_len, aggs_len, vpv_len]; done) | (simp only [List.length_cons, List.length_nil, List.length_append, List.length_replicate, List.length_map, List.length_set, List.length_take, List.length_drop, strs_len, ints_len, bools_len, aggs_len, vpv_len]; omega)) only [go_sem]
    exact hQ hS
  | succ n ih =>
    intro i hi hS
    have hlt : i < l.length := by omega
    have hmem := ser_mem hlt
    have ih := ih (i + 1) (by omega)
    rw [sers_snoc hlt, startJ_snoc, endJ_snoc, take_snoc' noSer hlt] at ih
    obtain ⟨x, hx⟩ : ∃ x, l.getD i noSer = x := ⟨_, rfl⟩
    rw [hx] at hmem ih
    have eI := res_r18Is (kk := x.1) x.2 (by have := hv x hmem; omega)
    cases hs : isS x.2
    · rw [hs] at eI
      unfold Ser.pv at eI
      rw [W_loop (L := r18_Join_l3) rfl]
      simp (disch := first | assumption | omega | decide | (simp only [List.length_cons, List.length_nil, List.length_append, List.length_replicate, List.length_map, List.length_set, List.length_take, List.length_drop, strs_len, ints_len, bools_len, aggs_len, vpv_len]; done) | (simp only [List.length_cons, List.length_nil, List.length_append, List.length_replicate, List.length_map, List.length_set, List.length_take, List.length_drop, strs_len, ints_len, bools_len, aggs_len, vpv_len]; omega)) only [go_sem, hx, serC, eI]
      exact hbad fun h => by rw [h x hmem] at hs; cases hs
    · rw [hs] at eI
      have hE := res_r18End (kk := x.1) x.2 hs
      unfold Ser.pv at eI hE
      rw [W_loop (L := r18_Join_l3) rfl]
      simp (disch := first | assumption | omega | decide | (simp only [List.length_cons, List.length_nil, List.length_append, List.length_replicate, List.length_map, List.length_set, List.length_take, List.length_drop, strs_len, ints_len, bools_len, aggs_len, vpv_len]; done) | (simp only [List.length_cons, List.length_nil, List.length_append, List.length_replicate, List.length_map, List.length_set, List.length_take, List.length_drop, strs_len, ints_len, bools_len, aggs_len, vpv_len]; omega)) only [go_sem, hx, serC, eI, hE, min_max2]
      refine ih fun y hy => ?_
      rcases List.mem_append.1 hy with hy | hy
      · exact hS y hy
      · rw [List.mem_singleton] at hy; subst hy; exact hs
theorem stepJ_split {l : List (SK × Ser)} {i : Nat} : stepJ (sersOf l) = (sersOf (l.drop i)).foldl stepT (stepJ (sersOf (l.take i))) := by
  unfold stepJ sersOf
  rw [← List.foldl_append, ← List.map_append, List.take_append_drop]
theorem rJoin_l2_ok {kk : SK} (l : List (SK × Ser)) (hl : l.length ≤ 1000000) (hS : ∀ x ∈ l, isS x.2 = true) (a b : Int) (Q : Out → Prop)
    (hbad : stepJ (sersOf l) = 0 → Q (.ret, [(2, .p (.sl .nil 5 [])), (3, .p (.int .i64 13))], []))
    (hQ : stepJ (sersOf l) ≠ 0 → Q (.nrm, [(0, .p (.sl kk 5 (sers l))), (4, .p (.int .i64 (stepJ (sersOf l) : Nat))), (5, .p (.int .i64 a)), (6, .p (.int .i64 b))], [])) : ∀ (n i : Nat), i + n = l.length → stepJ (sersOf (l.take i)) ≠ 0 →
    Wp Γ r18_Join_l2 [(0, .p (.sl kk 5 (sers l))), (4, .p (.int .i64 (stepJ (sersOf (l.take i)) : Nat))), (5, .p (.int .i64 a)), (6, .p (.int .i64 b)), (8, .p (.int .i64 (i : Int)))] [] (InBlk [0, 4, 5, 6] 2 Q) := by
  intro n
  induction n with
  | zero =>
    intro i hi h0
    obtain rfl : i = l.length := by omega
    rw [List.take_length] at h0 ⊢
    rw [W_loop (L := r18_Join_l2) rfl]
    simp (disch := first | assumption | omega | decide | (simp only [List.length_cons, List.length_nil, List.length_append, List.length_replicate, List.length_map, List.length_set, List.length_take, List.length_drop, strs_len, ints_len, bools_len, aggs_len, vpv_len]; done) | (simp only [List.length_cons, List.length_nil, List.length_append, List.length_replicate, List.length_map, List.length_set, List.length_take, List.length_drop, strs_len, ints_len, bools_len, aggs_len, vpv_len]; omega)) only [go_sem]
    exact hQ h0
  | succ n ih =>
    intro i hi h0
    have hlt : i < l.length := by omega
    have hmem := ser_mem hlt
    have ih := ih (i + 1) (by omega)
    have hsp := @stepJ_split l (i + 1)
    rw [sers_snoc hlt, stepJ_snoc] at ih hsp
    obtain ⟨x, hx⟩ : ∃ x, l.getD i noSer = x := ⟨_, rfl⟩
    rw [hx] at hmem ih hsp
    have hz := isS_size (hS x hmem)
    unfold sizeS at hz
    have hc := stepJ_le (sersOf (l.take i))
    obtain ⟨b', hb⟩ := Int.eq_ofNat_of_zero_le (show 0 ≤ x.2.step by omega)
    generalize stepJ (sersOf (l.take i)) = st at *
    have eG := res_gcd b' st (by omega) (by omega)
    have hg : 0 < Nat.gcd b' st := Nat.gcd_pos_of_pos_left st (by omega)
    have key := common_lt' (a := st) (b := b') (by omega) (by omega)
    have el := lcm_eq' (a := st) (b := b') (by omega)
    have e1 : stepT st x.2 = commonV st b' := by unfold stepT; rw [if_neg h0, hb]; rfl
    have q1 : x.2.step / (Nat.gcd b' st : Int) = ((b' / Nat.gcd b' st : Nat) : Int) := by rw [hb]; exact (Int.natCast_ediv _ _).symm
    have q2 : (16777216 : Int) / (st : Int) = ((16777216 / st : Nat) : Int) := (Int.natCast_ediv _ _).symm
    rw [← hb] at eG
    generalize Nat.gcd b' st = g at *
    by_cases h : Nat.lcm st b' ≤ 16777216
    · have hc2 : ¬ ((16777216 / st : Nat) : Int) < ((b' / g : Nat) : Int) := by
        intro hlt
        exact key.1 (by omega) h
      have em : (st : Int) * ((b' / g : Nat) : Int) = ((Nat.lcm st b' : Nat) : Int) := by rw [el, Int.natCast_mul]
      have e2 : commonV st b' = Nat.lcm st b' := by unfold commonV; rw [if_pos h]
      have hpos : 0 < Nat.lcm st b' := lcm_pos' (by omega) (by omega)
      rw [e1, e2] at ih
      rw [W_loop (L := r18_Join_l2) rfl]
      simp (disch := first | assumption | omega | decide | (simp only [List.length_cons, List.length_nil, List.length_append, List.length_replicate, List.length_map, List.length_set, List.length_take, List.length_drop, strs_len, ints_len, bools_len, aggs_len, vpv_len]; done) | (simp only [List.length_cons, List.length_nil, List.length_append, List.length_replicate, List.length_map, List.length_set, List.length_take, List.length_drop, strs_len, ints_len, bools_len, aggs_len, vpv_len]; omega)) only [go_sem, hx, serC, eG, map_quoI, q1, q2, em]
      exact ih (by omega)
    · have hc2 : ((16777216 / st : Nat) : Int) < ((b' / g : Nat) : Int) := by
        have := key.2 h
        omega
      have e2 : commonV st b' = 0 := by unfold commonV; rw [if_neg h]
      rw [e1, e2, stepT_zero] at hsp
      rw [W_loop (L := r18_Join_l2) rfl]
      simp (disch := first | assumption | omega | decide | (simp only [List.length_cons, List.length_nil, List.length_append, List.length_replicate, List.length_map, List.length_set, List.length_take, List.length_drop, strs_len, ints_len, bools_len, aggs_len, vpv_len]; done) | (simp only [List.length_cons, List.length_nil, List.length_append, List.length_replicate, List.length_map, List.length_set, List.length_take, List.length_drop, strs_len, ints_len, bools_len, aggs_len, vpv_len]; omega)) only [go_sem, hx, serC, eG, map_quoI, q1, q2]
      exact hbad hsp
theorem rJoin_l1_ok {kk : SK} (l : List (SK × Ser)) (hl : l.length ≤ 1000000) (hS : ∀ x ∈ l, isS x.2 = true) (b : Int) (hb : 0 ≤ b ∧ b ≤ 4294967295) (st n : Nat) (hst : 1 ≤ st ∧ st ≤ 16777216) (hn : n ≤ 131072) (Q : Out → Prop)
    (hQ : Q (.nrm, [(11, .own 0 l.length)], [.row false 5 (sers (joinW l b st n))])) : ∀ (k i : Nat), i + k = l.length →
    Wp Γ r18_Join_l1 [(0, .p (.sl kk 5 (sers l))), (4, .p (.int .i64 (st : Nat))), (5, .p (.int .i64 b)), (10, .p (.int .i64 (n : Nat))), (11, .own 0 i), (12, .p (.int .i64 (i : Int)))] [.row false 5 (sers (joinW (l.take i) b st n))] (InBlk [11] 4 Q) := by
  intro k
  induction k with
  | zero =>
    intro i hi
    obtain rfl : i = l.length := by omega
    rw [List.take_length]
    rw [W_loop (L := r18_Join_l1) rfl]
    simp (disch := first | assumption | omega | decide | (simp only [List.length_cons, List.length_nil, List.length_append, List.length_replicate, List.length_map, List.length_set, List.length_take, List.length_drop, strs_len, ints_len, bools_len, aggs_len, vpv_len]; done) | (simp only [List.length_cons, List.length_nil, List.length_append, List.length_replicate, List.length_map, List.length_set, List.length_take, List.length_drop, strs_len, ints_len, bools_len, aggs_len, vpv_len]; omega)) only [go_sem]
    exact hQ
  | succ k ih =>
    intro i hi
    have hlt : i < l.length := by omega
    have hmem := ser_mem hlt
    have ih := ih (i + 1) (by omega)
    have hsn : joinW (l.take (i + 1)) b st n = joinW (l.take i) b st n ++ [(fitK n, fitS (l.getD i noSer).2 b st n)] := by
      unfold joinW
      rw [take_snoc' noSer hlt, List.map_append]; rfl
    rw [hsn] at ih
    obtain ⟨x, hx⟩ : ∃ x, l.getD i noSer = x := ⟨_, rfl⟩
    rw [hx] at hmem ih
    have hF := res_r18Fit (kk := x.1) x.2 (hS x hmem) b st hb.1 hb.2 (by omega) (by omega) n hn
    have hlen : (sers (joinW (l.take i) b st n)).length = i := by rw [sers_len]; unfold joinW; rw [List.length_map, List.length_take]; omega
    unfold Ser.pv at hF
    rw [W_loop (L := r18_Join_l1) rfl]
    simp (disch := first | assumption | omega | decide | (simp only [List.length_cons, List.length_nil, List.length_append, List.length_replicate, List.length_map, List.length_set, List.length_take, List.length_drop, strs_len, ints_len, bools_len, aggs_len, vpv_len]; done) | (simp only [List.length_cons, List.length_nil, List.length_append, List.length_replicate, List.length_map, List.length_set, List.length_take, List.length_drop, strs_len, ints_len, bools_len, aggs_len, vpv_len]; omega)) only [go_sem, hx, serC, hF]
    exact ih
theorem res_r18Join {kk : SK} (l : List (SK × Ser)) (hl : l.length ≤ 1000000) (hv : ∀ x ∈ l, x.2.vals.length ≤ 1000000) : res Γ 231 [.sl kk 5 (sers l)] = some (joinR l) := by
  have hL3 := fun Q h1 h2 => rJoin_l3_ok (kk := kk) l hl hv Q h1 h2 l.length 0 (by omega) (by simp)
  have z1 : startJ 4294967295 (sersOf (l.take 0)) = 4294967295 := rfl
  have z2 : endJ (sersOf (l.take 0)) = 0 := rfl
  have z3 : stepJ (sersOf (l.take 0)) = 1 := rfl
  rw [z1, z2] at hL3
  by_cases hS : ∀ x ∈ l, isS x.2 = true
  · have eA : ¬ (sersOf l).all isS = false := by rw [all_isS.2 hS]; decide
    by_cases h0 : l = []
    · subst h0
      have eE : joinR [] = [.sl .nil 5 [], .int .i64 0] := rfl
      rw [eE]
      refine res_code (fn := r18_Join) rfl rfl ?_
      simp (disch := first | assumption | omega | decide | (simp only [List.length_cons, List.length_nil, List.length_append, List.length_replicate, List.length_map, List.length_set, List.length_take, List.length_drop, strs_len, ints_len, bools_len, aggs_len, vpv_len]; done) | (simp only [List.length_cons, List.length_nil, List.length_append, List.length_replicate, List.length_map, List.length_set, List.length_take, List.length_drop, strs_len, ints_len, bools_len, aggs_len, vpv_len]; omega)) only [go_sem, r18_Join]
      refine hL3 _ (fun h => absurd hS h) (fun _ => ?_)
      simp (disch := first | assumption | omega | decide | (simp only [List.length_cons, List.length_nil, List.length_append, List.length_replicate, List.length_map, List.length_set, List.length_take, List.length_drop, strs_len, ints_len, bools_len, aggs_len, vpv_len]; done) | (simp only [List.length_cons, List.length_nil, List.length_append, List.length_replicate, List.length_map, List.length_set, List.length_take, List.length_drop, strs_len, ints_len, bools_len, aggs_len, vpv_len]; omega)) only [go_sem]
    · have hne : sersOf l ≠ [] := by simpa [sersOf] using h0
      have hlen : 0 < l.length := List.length_pos_iff.2 h0
      have hL2 := fun a b Q h1 h2 => rJoin_l2_ok (kk := kk) l hl hS a b Q h1 h2 l.length 0 (by omega) (by rw [z3]; decide)
      rw [z3] at hL2
      by_cases hst : stepJ (sersOf l) = 0
      · have eE : errJ (sersOf l) = 13 := by unfold errJ; rw [if_neg eA, if_neg hne, if_pos hst]
        unfold joinR
        rw [eE, if_neg (by decide)]
        refine res_code (fn := r18_Join) rfl rfl ?_
        simp (disch := first | assumption | omega | decide | (simp only [List.length_cons, List.length_nil, List.length_append, List.length_replicate, List.length_map, List.length_set, List.length_take, List.length_drop, strs_len, ints_len, bools_len, aggs_len, vpv_len]; done) | (simp only [List.length_cons, List.length_nil, List.length_append, List.length_replicate, List.length_map, List.length_set, List.length_take, List.length_drop, strs_len, ints_len, bools_len, aggs_len, vpv_len]; omega)) only [go_sem, r18_Join]
        refine hL3 _ (fun h => absurd hS h) (fun _ => ?_)
        simp (disch := first | assumption | omega | decide | (simp only [List.length_cons, List.length_nil, List.length_append, List.length_replicate, List.length_map, List.length_set, List.length_take, List.length_drop, strs_len, ints_len, bools_len, aggs_len, vpv_len]; done) | (simp only [List.length_cons, List.length_nil, List.length_append, List.length_replicate, List.length_map, List.length_set, List.length_take, List.length_drop, strs_len, ints_len, bools_len, aggs_len, vpv_len]; omega)) only [go_sem]
        refine hL2 _ _ _ (fun _ => ?_) (fun h => absurd hst h)
        simp (disch := first | assumption | omega | decide | (simp only [List.length_cons, List.length_nil, List.length_append, List.length_replicate, List.length_map, List.length_set, List.length_take, List.length_drop, strs_len, ints_len, bools_len, aggs_len, vpv_len]; done) | (simp only [List.length_cons, List.length_nil, List.length_append, List.length_replicate, List.length_map, List.length_set, List.length_take, List.length_drop, strs_len, ints_len, bools_len, aggs_len, vpv_len]; omega)) only [go_sem]
      · have hst2 := stepJ_le (sersOf l)
        obtain ⟨c1, c2, c3, c4, c5, c6⟩ := begJ_bound h0 hS (by omega)
        have hb0 : startJ 4294967295 (sersOf l) - startJ 4294967295 (sersOf l) % (stepJ (sersOf l) : Int) = begJ (sersOf l) := rfl
        have hmod0 := Int.emod_nonneg (startJ 4294967295 (sersOf l)) (show (stepJ (sersOf l) : Int) ≠ 0 by omega)
        have hmodl := Int.emod_lt_of_pos (startJ 4294967295 (sersOf l)) (show 0 < (stepJ (sersOf l) : Int) by omega)
        have hmj : (endJ (sersOf l) - begJ (sersOf l) + (stepJ (sersOf l) : Int) - 1) / (stepJ (sersOf l) : Int) = manyJ (sersOf l) := rfl
        have hmn : 0 ≤ manyJ (sersOf l) := by unfold manyJ; exact Int.ediv_nonneg (by omega) (by omega)
        by_cases hm : 131072 < manyJ (sersOf l)
        · have eE : errJ (sersOf l) = 13 := by unfold errJ; rw [if_neg eA, if_neg hne, if_neg hst, if_pos hm]
          unfold joinR
          rw [eE, if_neg (by decide)]
          refine res_code (fn := r18_Join) rfl rfl ?_
          simp (disch := first | assumption | omega | decide | (simp only [List.length_cons, List.length_nil, List.length_append, List.length_replicate, List.length_map, List.length_set, List.length_take, List.length_drop, strs_len, ints_len, bools_len, aggs_len, vpv_len]; done) | (simp only [List.length_cons, List.length_nil, List.length_append, List.length_replicate, List.length_map, List.length_set, List.length_take, List.length_drop, strs_len, ints_len, bools_len, aggs_len, vpv_len]; omega)) only [go_sem, r18_Join]
          refine hL3 _ (fun h => absurd hS h) (fun _ => ?_)
          simp (disch := first | assumption | omega | decide | (simp only [List.length_cons, List.length_nil, List.length_append, List.length_replicate, List.length_map, List.length_set, List.length_take, List.length_drop, strs_len, ints_len, bools_len, aggs_len, vpv_len]; done) | (simp only [List.length_cons, List.length_nil, List.length_append, List.length_replicate, List.length_map, List.length_set, List.length_take, List.length_drop, strs_len, ints_len, bools_len, aggs_len, vpv_len]; omega)) only [go_sem]
          refine hL2 _ _ _ (fun h => absurd h hst) (fun _ => ?_)
          simp (disch := first | assumption | omega | decide | (simp only [List.length_cons, List.length_nil, List.length_append, List.length_replicate, List.length_map, List.length_set, List.length_take, List.length_drop, strs_len, ints_len, bools_len, aggs_len, vpv_len]; done) | (simp only [List.length_cons, List.length_nil, List.length_append, List.length_replicate, List.length_map, List.length_set, List.length_take, List.length_drop, strs_len, ints_len, bools_len, aggs_len, vpv_len]; omega)) only [go_sem, map_remI, hb0, map_quoI, hmj]
        · have eE : errJ (sersOf l) = 0 := by unfold errJ; rw [if_neg eA, if_neg hne, if_neg hst, if_neg hm]
          unfold joinR
          rw [eE, if_pos rfl, if_neg h0, joinJ_eq]
          obtain ⟨n, hn⟩ := Int.eq_ofNat_of_zero_le hmn
          rw [hn] at hmj hm
          rw [hn, Int.toNat_natCast]
          have hL1 := fun Q => rJoin_l1_ok (kk := kk) l hl hS (begJ (sersOf l)) (by omega) (stepJ (sersOf l)) n (by omega) (by omega) Q
          have hwl : (sers (joinW l (begJ (sersOf l)) (stepJ (sersOf l)) n)).length = l.length := by rw [sers_len]; unfold joinW; rw [List.length_map]
          refine res_code (fn := r18_Join) rfl rfl ?_
          simp (disch := first | assumption | omega | decide | (simp only [List.length_cons, List.length_nil, List.length_append, List.length_replicate, List.length_map, List.length_set, List.length_take, List.length_drop, strs_len, ints_len, bools_len, aggs_len, vpv_len]; done) | (simp only [List.length_cons, List.length_nil, List.length_append, List.length_replicate, List.length_map, List.length_set, List.length_take, List.length_drop, strs_len, ints_len, bools_len, aggs_len, vpv_len]; omega)) only [go_sem, r18_Join]
          refine hL3 _ (fun h => absurd hS h) (fun _ => ?_)
          simp (disch := first | assumption | omega | decide | (simp only [List.length_cons, List.length_nil, List.length_append, List.length_replicate, List.length_map, List.length_set, List.length_take, List.length_drop, strs_len, ints_len, bools_len, aggs_len, vpv_len]; done) | (simp only [List.length_cons, List.length_nil, List.length_append, List.length_replicate, List.length_map, List.length_set, List.length_take, List.length_drop, strs_len, ints_len, bools_len, aggs_len, vpv_len]; omega)) only [go_sem]
          refine hL2 _ _ _ (fun h => absurd h hst) (fun _ => ?_)
          simp (disch := first | assumption | omega | decide | (simp only [List.length_cons, List.length_nil, List.length_append, List.length_replicate, List.length_map, List.length_set, List.length_take, List.length_drop, strs_len, ints_len, bools_len, aggs_len, vpv_len]; done) | (simp only [List.length_cons, List.length_nil, List.length_append, List.length_replicate, List.length_map, List.length_set, List.length_take, List.length_drop, strs_len, ints_len, bools_len, aggs_len, vpv_len]; omega)) only [go_sem, map_remI, hb0, map_quoI, hmj]
          refine hL1 _ ?_ l.length 0 (by omega)
          simp (disch := first | assumption | omega | decide | (simp only [List.length_cons, List.length_nil, List.length_append, List.length_replicate, List.length_map, List.length_set, List.length_take, List.length_drop, strs_len, ints_len, bools_len, aggs_len, vpv_len]; done) | (simp only [List.length_cons, List.length_nil, List.length_append, List.length_replicate, List.length_map, List.length_set, List.length_take, List.length_drop, strs_len, ints_len, bools_len, aggs_len, vpv_len]; omega)) only [go_sem]
  · have ha : (sersOf l).all isS = false := by
      cases h : (sersOf l).all isS
      · rfl
      · exact absurd (all_isS.1 h) hS
    have eE : errJ (sersOf l) = 1 := by unfold errJ; rw [if_pos ha]
    unfold joinR
    rw [eE, if_neg (by decide)]
    refine res_code (fn := r18_Join) rfl rfl ?_
    simp (disch := first | assumption | omega | decide | (simp only [List.length_cons, List.length_nil, List.length_append, List.length_replicate, List.length_map, List.length_set, List.length_take, List.length_drop, strs_len, ints_len, bools_len, aggs_len, vpv_len]; done) | (simp only [List.length_cons, List.length_nil, List.length_append, List.length_replicate, List.length_map, List.length_set, List.length_take, List.length_drop, strs_len, ints_len, bools_len, aggs_len, vpv_len]; omega)) only [go_sem, r18_Join]
    refine hL3 _ (fun _ => ?_) (fun h => absurd h hS)
    simp (disch := first | assumption | omega | decide | (simp only [List.length_cons, List.length_nil, List.length_append, List.length_replicate, List.length_map, List.length_set, List.length_take, List.length_drop, strs_len, ints_len, bools_len, aggs_len, vpv_len]; done) | (simp only [List.length_cons, List.length_nil, List.length_append, List.length_replicate, List.length_map, List.length_set, List.length_take, List.length_drop, strs_len, ints_len, bools_len, aggs_len, vpv_len]; omega)) only [go_sem]
end Ab
namespace Ab
end Ab
namespace Ab
open Go (IntKind BinOp UnOp)
end Ab
namespace Ab
open Go (IntKind BinOp UnOp)
theorem ren_clo {r d f cs} : AV.ren r (d + 1) (.clo f cs) = (mapO (AV.ren r d) cs).map (.clo f) := rfl
attribute [go_sem] ren_clo
abbrev jC (a b : Int) (K : SK) (m : List (SK × Ser)) : List PV := [.str [], .int .i64 a, .int .i64 b, .sl .nil 2 [], .int .i64 0, .sl K 5 (sers m)]
theorem joinW_len {l : List (SK × Ser)} {b st n} : (joinW l b st n).length = l.length := by simp [joinW]
theorem joinW_get {l : List (SK × Ser)} {b : Int} {st n i : Nat} (h : i < l.length) : (joinW l b st n).getD i noSer = (fitK n, fitS (l.getD i noSer).2 b st n) := by
  unfold joinW
  rw [List.getD_eq_getElem?_getD, List.getElem?_map, List.getElem?_eq_getElem h, List.getD_eq_getElem?_getD, List.getElem?_eq_getElem h]
  rfl
abbrev bJ (l : List (SK × Ser)) : Int := begJ (sersOf l)
abbrev sJ (l : List (SK × Ser)) : Nat := stepJ (sersOf l)
abbrev nJ (l : List (SK × Ser)) : Nat := (manyJ (sersOf l)).toNat
theorem res_join_ok {kk : SK} (l : List (SK × Ser)) (hl : l.length ≤ 1000000) (hv : ∀ x ∈ l, x.2.vals.length ≤ 1000000) (h0 : l ≠ []) (he : errJ (sersOf l) = 0) : res Γ 229 [.sl kk 5 (sers l)] = some [.ptr (jC (bJ l) (sJ l) .any (joinW l (bJ l) (sJ l) (nJ l))), .int .i64 0] := by
  have e := res_seriesJoin (kk := kk) l hl hv
  unfold joinR at e
  rw [if_pos he, if_neg h0, joinJ_eq] at e
  have hpos : 0 < l.length := List.length_pos_iff.2 h0
  have hg := joinW_get (b := begJ (sersOf l)) (st := stepJ (sersOf l)) (n := (manyJ (sersOf l)).toNat) hpos
  have hlen := @joinW_len l (begJ (sersOf l)) (stepJ (sersOf l)) (manyJ (sersOf l)).toNat
  unfold bJ sJ nJ
  generalize joinW l (begJ (sersOf l)) (stepJ (sersOf l)) (manyJ (sersOf l)).toNat = m at *
  refine res_code (fn := fjoin_join) rfl rfl ?_
  simp (disch := first | assumption | omega | decide | (simp only [List.length_cons, List.length_nil, List.length_append, List.length_replicate, List.length_map, List.length_set, List.length_take, List.length_drop, strs_len, ints_len, bools_len, aggs_len, vpv_len]; done) | (simp only [List.length_cons, List.length_nil, List.length_append, List.length_replicate, List.length_map, List.length_set, List.length_take, List.length_drop, strs_len, ints_len, bools_len, aggs_len, vpv_len]; omega)) only [go_sem, fjoin_join, e, ne_eq, not_true_eq_false, hg, serC, fitS]
theorem res_join_nil {kk : SK} : res Γ 229 [.sl kk 5 []] = some [.ptr (jC 0 0 .nil []), .int .i64 0] := by
  have e : res Γ 254 [.sl kk 5 []] = some [.sl .nil 5 [], .int .i64 0] := res_seriesJoin (kk := kk) [] (by simp) (by simp)
  refine res_code (fn := fjoin_join) rfl rfl ?_
  simp (disch := first | assumption | omega | decide | (simp only [List.length_cons, List.length_nil, List.length_append, List.length_replicate, List.length_map, List.length_set, List.length_take, List.length_drop, strs_len, ints_len, bools_len, aggs_len, vpv_len]; done) | (simp only [List.length_cons, List.length_nil, List.length_append, List.length_replicate, List.length_map, List.length_set, List.length_take, List.length_drop, strs_len, ints_len, bools_len, aggs_len, vpv_len]; omega)) only [go_sem, fjoin_join, e, ne_eq, not_true_eq_false]
  rfl
theorem res_join_err {kk : SK} (l : List (SK × Ser)) (hl : l.length ≤ 1000000) (hv : ∀ x ∈ l, x.2.vals.length ≤ 1000000) (he : errJ (sersOf l) ≠ 0) : res Γ 229 [.sl kk 5 (sers l)] = some [.nilp, .int .i64 (errJ (sersOf l))] := by
  have e := res_seriesJoin (kk := kk) l hl hv
  unfold joinR at e
  rw [if_neg he] at e
  refine res_code (fn := fjoin_join) rfl rfl ?_
  simp (disch := first | assumption | omega | decide | (simp only [List.length_cons, List.length_nil, List.length_append, List.length_replicate, List.length_map, List.length_set, List.length_take, List.length_drop, strs_len, ints_len, bools_len, aggs_len, vpv_len]; done) | (simp only [List.length_cons, List.length_nil, List.length_append, List.length_replicate, List.length_map, List.length_set, List.length_take, List.length_drop, strs_len, ints_len, bools_len, aggs_len, vpv_len]; omega)) only [go_sem, fjoin_join, e]
theorem res_many {a b : Int} {K : SK} (m : List (SK × Ser)) : res Γ 239 [.ptr (jC a b K m)] = some [.int .i64 (if m = [] then 0 else ((m.getD 0 noSer).2.vals.length : Int))] := by
  by_cases h : m = []
  · subst h
    rw [if_pos rfl]
    refine res_code (fn := fjoin_joined_many) rfl rfl ?_
    simp (disch := first | assumption | omega | decide | (simp only [List.length_cons, List.length_nil, List.length_append, List.length_replicate, List.length_map, List.length_set, List.length_take, List.length_drop, strs_len, ints_len, bools_len, aggs_len, vpv_len]; done) | (simp only [List.length_cons, List.length_nil, List.length_append, List.length_replicate, List.length_map, List.length_set, List.length_take, List.length_drop, strs_len, ints_len, bools_len, aggs_len, vpv_len]; omega)) only [go_sem, fjoin_joined_many]
  · have hpos : 0 < m.length := List.length_pos_iff.2 h
    rw [if_neg h]
    refine res_code (fn := fjoin_joined_many) rfl rfl ?_
    simp (disch := first | assumption | omega | decide | (simp only [List.length_cons, List.length_nil, List.length_append, List.length_replicate, List.length_map, List.length_set, List.length_take, List.length_drop, strs_len, ints_len, bools_len, aggs_len, vpv_len]; done) | (simp only [List.length_cons, List.length_nil, List.length_append, List.length_replicate, List.length_map, List.length_set, List.length_take, List.length_drop, strs_len, ints_len, bools_len, aggs_len, vpv_len]; omega)) only [go_sem, fjoin_joined_many, serC]
theorem atV_snoc {m : List (SK × Ser)} {j i : Nat} (h : j < m.length) : atV (m.take (j + 1)) i = atV (m.take j) i ++ [(m.getD j noSer).2.vals.getD i (false, 0)] := by
  unfold atV
  rw [take_snoc' noSer h, List.map_append]; rfl
theorem atV_len {m : List (SK × Ser)} {i : Nat} : (atV m i).length = m.length := by simp [atV]
set_option maxRecDepth 10000 in
theorem known_l1_ok {k2 : SK} (m : List (SK × Ser)) (hm : m.length ≤ 1000000) (i : Nat) (hi : ∀ x ∈ m, i < x.2.vals.length) (hb : i < 1000000000) (Q : Out → Prop) (hQ : Q (.nrm, [(5, .own 0 m.length)], [.row false 2 (vpv (atV m i))])) : ∀ (n j : Nat) (R : Heap), j + n = m.length →
    Wp Γ fjoin_joined_known_l1 [(1, .p (.int .i64 (i : Int))), (5, .own 0 j), (11, .p (.sl k2 5 (sers m))), (12, .p (.int .i64 (m.length : Int))), (13, .p (.int .i64 (j : Int)))] (.row false 2 (vpv (atV (m.take j) i)) :: R) (InBlk [5] 0 Q) := by
  intro n
  induction n with
  | zero =>
    intro j R hj
    obtain rfl : j = m.length := by omega
    rw [List.take_length]
    rw [W_loop (L := fjoin_joined_known_l1) rfl]
    simp (disch := first | assumption | omega | decide | (simp only [List.length_cons, List.length_nil, List.length_append, List.length_replicate, List.length_map, List.length_set, List.length_take, List.length_drop, strs_len, ints_len, bools_len, aggs_len, vpv_len]; done) | (simp only [List.length_cons, List.length_nil, List.length_append, List.length_replicate, List.length_map, List.length_set, List.length_take, List.length_drop, strs_len, ints_len, bools_len, aggs_len, vpv_len]; omega)) only [go_sem]
    exact hQ
  | succ n ih =>
    intro j R hj
    have hlt : j < m.length := by omega
    have hmem := ser_mem hlt
    have ih := fun R => ih (j + 1) R (by omega)
    rw [atV_snoc hlt] at ih
    have hlen : (atV (m.take j) i).length = j := by rw [atV_len, List.length_take]; omega
    have hvl := hi _ hmem
    obtain ⟨x, hx⟩ : ∃ x, m.getD j noSer = x := ⟨_, rfl⟩
    rw [hx] at ih hvl
    rw [W_loop (L := fjoin_joined_known_l1) rfl]
    simp (disch := first | assumption | omega | decide | (simp only [List.length_cons, List.length_nil, List.length_append, List.length_replicate, List.length_map, List.length_set, List.length_take, List.length_drop, strs_len, ints_len, bools_len, aggs_len, vpv_len]; done) | (simp only [List.length_cons, List.length_nil, List.length_append, List.length_replicate, List.length_map, List.length_set, List.length_take, List.length_drop, strs_len, ints_len, bools_len, aggs_len, vpv_len]; omega)) only [go_sem, hx, serC, valP]
    exact ih _
theorem res_known {a b : Int} {K : SK} (m : List (SK × Ser)) (hm : m.length ≤ 1000000) (i : Nat) (hi : ∀ x ∈ m, i < x.2.vals.length) (hb : i < 1000000000) : res Γ 241 [.ptr (jC a b K m), .int .i64 (i : Int)] = some [.sl .any 2 (vpv (knL (atV m i)))] := by
  have hlen := @atV_len m i
  have e := res_aggKnown (kk := .any) (atV m i) (by omega)
  have L := fun k2 Q => known_l1_ok (k2 := k2) m hm i hi hb Q
  refine res_code (fn := fjoin_joined_known) rfl rfl ?_
  simp (disch := first | assumption | omega | decide | (simp only [List.length_cons, List.length_nil, List.length_append, List.length_replicate, List.length_map, List.length_set, List.length_take, List.length_drop, strs_len, ints_len, bools_len, aggs_len, vpv_len]; done) | (simp only [List.length_cons, List.length_nil, List.length_append, List.length_replicate, List.length_map, List.length_set, List.length_take, List.length_drop, strs_len, ints_len, bools_len, aggs_len, vpv_len]; omega)) only [go_sem, fjoin_joined_known]
  refine L K _ ?_ m.length 0 _ (by omega)
  simp (disch := first | assumption | omega | decide | (simp only [List.length_cons, List.length_nil, List.length_append, List.length_replicate, List.length_map, List.length_set, List.length_take, List.length_drop, strs_len, ints_len, bools_len, aggs_len, vpv_len]; done) | (simp only [List.length_cons, List.length_nil, List.length_append, List.length_replicate, List.length_map, List.length_set, List.length_take, List.length_drop, strs_len, ints_len, bools_len, aggs_len, vpv_len]; omega)) only [go_sem, e]
def valsF (g : Nat → Val) (n : Nat) : List Val := (List.range n).map g
theorem valsF_len {g n} : (valsF g n).length = n := by simp [valsF]
theorem valsF_succ {g n} : valsF g (n + 1) = valsF g n ++ [g n] := by simp [valsF, List.range_succ]
abbrev serB (nm : List UInt8) (a b : Int) (v : AV) (c : Int) : Blk := .box [.p (.str nm), .p (.int .i64 a), .p (.int .i64 b), v, .p (.int .i64 c)]
theorem series_l1_ok (f : Nat) (caps : List PV) (nm : List UInt8) (a b : Int) (g : Nat → Val) (n : Nat) (hn : n ≤ 1000000) (B : Blk) (hg : ∀ i : Nat, i < n → res Γ f (.int .i64 (i : Int) :: caps) = some [.agg [.bool (g i).1, .int .i64 (g i).2]]) (Q : Out → Prop)
    (hQ : Q (.nrm, [(6, .bx 0 0), (7, .bx 1 0)], [B, serB nm a b (.own 2 n) 0, .row false 2 (vpv (valsF g n))])) : ∀ (k i : Nat), i + 1 + k = n →
    Wp Γ fjoin_joined_series_l1 [(2, .p (.clo f caps)), (6, .bx 0 0), (7, .bx 1 0), (22, .p (.int .i64 (n : Int))), (23, .p (.int .i64 ((i + 1 : Nat) : Int)))] [B, serB nm a b (.own 2 (i + 1)) 0, .row false 2 (vpv (valsF g (i + 1)))] (InBlk [6, 7] 0 Q) := by
  intro k
  induction k with
  | zero =>
    intro i hi
    have hi : i + 1 = n := by omega
    rw [hi]
    rw [W_loop (L := fjoin_joined_series_l1) rfl]
    simp (disch := first | assumption | omega | decide | (simp only [List.length_cons, List.length_nil, List.length_append, List.length_replicate, List.length_map, List.length_set, List.length_take, List.length_drop, strs_len, ints_len, bools_len, aggs_len, vpv_len]; done) | (simp only [List.length_cons, List.length_nil, List.length_append, List.length_replicate, List.length_map, List.length_set, List.length_take, List.length_drop, strs_len, ints_len, bools_len, aggs_len, vpv_len]; omega)) only [go_sem]
    exact hQ
  | succ k ih =>
    intro i hi
    have ih := ih (i + 1) (by omega)
    rw [valsF_succ] at ih
    have e := hg (i + 1) (by omega)
    have hlen := @valsF_len g (i + 1)
    rw [W_loop (L := fjoin_joined_series_l1) rfl]
    simp (disch := first | assumption | omega | decide | (simp only [List.length_cons, List.length_nil, List.length_append, List.length_replicate, List.length_map, List.length_set, List.length_take, List.length_drop, strs_len, ints_len, bools_len, aggs_len, vpv_len]; done) | (simp only [List.length_cons, List.length_nil, List.length_append, List.length_replicate, List.length_map, List.length_set, List.length_take, List.length_drop, strs_len, ints_len, bools_len, aggs_len, vpv_len]; omega)) only [go_sem, e]
    exact ih
theorem res_series {K : SK} (f : Nat) (caps : List PV) (nm : List UInt8) (a b : Int) (m : List (SK × Ser)) (g : Nat → Val) (n : Nat) (hn : n ≤ 1000000) (hm : (if m = [] then 0 else ((m.getD 0 noSer).2.vals.length : Int)) = (n : Int)) (hg : ∀ i : Nat, i < n → res Γ f (.int .i64 (i : Int) :: caps) = some [.agg [.bool (g i).1, .int .i64 (g i).2]]) :
    res Γ 227 [.ptr (jC a b K m), .str nm, .clo f caps] = some [(Ser.mk nm a b (valsF g n) 0).pv (fitK n)] := by
  have e1 := res_many (a := a) (b := b) (K := K) m
  rw [hm] at e1
  unfold fitK Ser.pv
  by_cases h0 : n = 0
  · subst h0
    rw [if_pos rfl]
    refine res_code (fn := fjoin_joined_series) rfl rfl ?_
    simp (disch := first | assumption | omega | decide | (simp only [List.length_cons, List.length_nil, List.length_append, List.length_replicate, List.length_map, List.length_set, List.length_take, List.length_drop, strs_len, ints_len, bools_len, aggs_len, vpv_len]; done) | (simp only [List.length_cons, List.length_nil, List.length_append, List.length_replicate, List.length_map, List.length_set, List.length_take, List.length_drop, strs_len, ints_len, bools_len, aggs_len, vpv_len]; omega)) only [go_sem, fjoin_joined_series, e1]
    rw [W_loop (L := fjoin_joined_series_l1) rfl]
    simp (disch := first | assumption | omega | decide | (simp only [List.length_cons, List.length_nil, List.length_append, List.length_replicate, List.length_map, List.length_set, List.length_take, List.length_drop, strs_len, ints_len, bools_len, aggs_len, vpv_len]; done) | (simp only [List.length_cons, List.length_nil, List.length_append, List.length_replicate, List.length_map, List.length_set, List.length_take, List.length_drop, strs_len, ints_len, bools_len, aggs_len, vpv_len]; omega)) only [go_sem]
    rfl
  · rw [if_neg h0]
    have e2 : res Γ f (.int .i64 0 :: caps) = some [.agg [.bool (g 0).1, .int .i64 (g 0).2]] := hg 0 (by omega)
    have e0 : vpv [] = [] := rfl
    have L := fun B Q => series_l1_ok f caps nm a b g n hn B hg Q
    have ev : valsF g 1 = [g 0] := rfl
    have hlen := @valsF_len g n
    refine res_code (fn := fjoin_joined_series) rfl rfl ?_
    simp (disch := first | assumption | omega | decide | (simp only [List.length_cons, List.length_nil, List.length_append, List.length_replicate, List.length_map, List.length_set, List.length_take, List.length_drop, strs_len, ints_len, bools_len, aggs_len, vpv_len]; done) | (simp only [List.length_cons, List.length_nil, List.length_append, List.length_replicate, List.length_map, List.length_set, List.length_take, List.length_drop, strs_len, ints_len, bools_len, aggs_len, vpv_len]; omega)) only [go_sem, fjoin_joined_series, e1]
    rw [W_loop (L := fjoin_joined_series_l1) rfl]
    simp (disch := first | assumption | omega | decide | (simp only [List.length_cons, List.length_nil, List.length_append, List.length_replicate, List.length_map, List.length_set, List.length_take, List.length_drop, strs_len, ints_len, bools_len, aggs_len, vpv_len]; done) | (simp only [List.length_cons, List.length_nil, List.length_append, List.length_replicate, List.length_map, List.length_set, List.length_take, List.length_drop, strs_len, ints_len, bools_len, aggs_len, vpv_len]; omega)) only [go_sem, e2]
    refine L _ _ ?_ (n - 1) 0 (by omega)
    simp (disch := first | assumption | omega | decide | (simp only [List.length_cons, List.length_nil, List.length_append, List.length_replicate, List.length_map, List.length_set, List.length_take, List.length_drop, strs_len, ints_len, bools_len, aggs_len, vpv_len]; done) | (simp only [List.length_cons, List.length_nil, List.length_append, List.length_replicate, List.length_map, List.length_set, List.length_take, List.length_drop, strs_len, ints_len, bools_len, aggs_len, vpv_len]; omega)) only [go_sem]
end Ab
namespace Ab
open Go (IntKind BinOp UnOp)
theorem joinW_ok {l : List (SK × Ser)} {b : Int} {st n i : Nat} (hi : i < n) : ∀ x ∈ joinW l b st n, i < x.2.vals.length := by
  intro x hx
  obtain ⟨y, hy, rfl⟩ := List.mem_map.1 hx
  have : (fitS y.2 b st n).vals.length = n := fitV_len
  rw [this]; exact hi
theorem many_ok {l : List (SK × Ser)} {b : Int} {st n : Nat} (h0 : l ≠ []) : (if joinW l b st n = [] then 0 else (((joinW l b st n).getD 0 noSer).2.vals.length : Int)) = (n : Int) := by
  have hpos : 0 < l.length := List.length_pos_iff.2 h0
  rw [if_neg (fun h => by have := congrArg List.length h; rw [joinW_len, List.length_nil] at this; omega), joinW_get hpos]
  have : (fitS (l.getD 0 noSer).2 b st n).vals.length = n := fitV_len
  rw [this]
theorem nJ_le {l : List (SK × Ser)} (he : errJ (sersOf l) = 0) (h0 : l ≠ []) : nJ l ≤ 131072 := by
  unfold errJ at he
  have hne : sersOf l ≠ [] := by simpa [sersOf] using h0
  by_cases a1 : (sersOf l).all isS = false
  · rw [if_pos a1] at he; omega
  · rw [if_neg a1, if_neg hne] at he
    by_cases a2 : stepJ (sersOf l) = 0
    · rw [if_pos a2] at he; omega
    · rw [if_neg a2] at he
      by_cases a3 : 131072 < manyJ (sersOf l)
      · rw [if_pos a3] at he; omega
      · unfold nJ; omega
end Ab
namespace Ab
open Go (IntKind BinOp UnOp)
abbrev colJ (m : List (SK × Ser)) (k i : Nat) : Val := (m.getD k noSer).2.vals.getD i (false, 0)
def shareV (x y : Val) : Val := mulV (true, 100000000) (divV x y)
theorem res_share (x y : Val) : res Γ 259 [.agg [.bool x.1, .int .i64 x.2], .agg [.bool y.1, .int .i64 y.2]] = some [.agg [.bool (shareV x y).1, .int .i64 (shareV x y).2]] := by
  have e1 : res Γ 137 [.int .i64 100] = some [.agg [.bool true, .int .i64 100000000]] := res_fixedInt (n := 100) (by omega)
  have e2 := res_fixedDivV x y
  have e3 := res_fixedMulV (true, 100000000) (divV x y)
  unfold shareV
  generalize divV x y = d at *
  generalize mulV (true, 100000000) d = w at *
  refine res_code (fn := fjoin_share) rfl rfl ?_
  simp (disch := first | assumption | omega | decide | (simp only [List.length_cons, List.length_nil, List.length_append, List.length_replicate, List.length_map, List.length_set, List.length_take, List.length_drop, strs_len, ints_len, bools_len, aggs_len, vpv_len]; done) | (simp only [List.length_cons, List.length_nil, List.length_append, List.length_replicate, List.length_map, List.length_set, List.length_take, List.length_drop, strs_len, ints_len, bools_len, aggs_len, vpv_len]; omega)) only [go_sem, fjoin_share, e1, e2, e3]
theorem res_two1 {F : Nat} {g : Val → Val → Val} {a b : Int} {K : SK} (hF : ∀ x y : Val, res Γ F [.agg [.bool x.1, .int .i64 x.2], .agg [.bool y.1, .int .i64 y.2]] = some [.agg [.bool (g x y).1, .int .i64 (g x y).2]])
    (m : List (SK × Ser)) (hm : m.length = 2) (i : Nat) (hi : ∀ x ∈ m, i < x.2.vals.length) (hb : i < 1000000000) :
    res Γ 273 [.int .i64 (i : Int), .ptr [.clo F []], .ptr [.ptr (jC a b K m)]] = some [.agg [.bool (g (colJ m 0 i) (colJ m 1 i)).1, .int .i64 (g (colJ m 0 i) (colJ m 1 i)).2]] := by
  have h0 := hi _ (ser_mem (show 0 < m.length by omega))
  have h1 := hi _ (ser_mem (show 1 < m.length by omega))
  unfold colJ
  obtain ⟨x, hx⟩ : ∃ x, m.getD 0 noSer = x := ⟨_, rfl⟩
  obtain ⟨y, hy⟩ : ∃ y, m.getD 1 noSer = y := ⟨_, rfl⟩
  rw [hx] at h0 ⊢
  rw [hy] at h1 ⊢
  have e := hF (x.2.vals.getD i (false, 0)) (y.2.vals.getD i (false, 0))
  generalize g (x.2.vals.getD i (false, 0)) (y.2.vals.getD i (false, 0)) = w at *
  refine res_code (fn := fjoin_two_1) rfl rfl ?_
  simp (disch := first | assumption | omega | decide | (simp only [List.length_cons, List.length_nil, List.length_append, List.length_replicate, List.length_map, List.length_set, List.length_take, List.length_drop, strs_len, ints_len, bools_len, aggs_len, vpv_len]; done) | (simp only [List.length_cons, List.length_nil, List.length_append, List.length_replicate, List.length_map, List.length_set, List.length_take, List.length_drop, strs_len, ints_len, bools_len, aggs_len, vpv_len]; omega)) only [go_sem, fjoin_two_1, hx, hy, serC, valP, e]
theorem res_shares1 {a b : Int} {K : SK} (m : List (SK × Ser)) (hm : m.length ≤ 1000000) (k : Nat) (hk : k < m.length) (i : Nat) (hi : ∀ x ∈ m, i < x.2.vals.length) (hb : i < 1000000000) :
    res Γ 272 [.int .i64 (i : Int), .ptr [.ptr (jC a b K m)], .ptr [.int .i64 (k : Int)]] = some [.agg [.bool (shareV (colJ m k i) (aggV 2 (knL (atV m i)))).1, .int .i64 (shareV (colJ m k i) (aggV 2 (knL (atV m i)))).2]] := by
  have h0 := hi _ (ser_mem hk)
  have hkl := knL_len (atV m i)
  rw [atV_len] at hkl
  have e1 := res_known (a := a) (b := b) (K := K) m hm i hi hb
  have e2 := res_aggOf2 (kk := .any) (knL (atV m i)) (by omega)
  unfold colJ
  generalize knL (atV m i) = l at *
  generalize aggV 2 l = s at *
  obtain ⟨x, hx⟩ : ∃ x, m.getD k noSer = x := ⟨_, rfl⟩
  rw [hx] at h0 ⊢
  have e3 := res_share (x.2.vals.getD i (false, 0)) s
  generalize shareV (x.2.vals.getD i (false, 0)) s = w at *
  refine res_code (fn := fjoin_shares_1) rfl rfl ?_
  simp (disch := first | assumption | omega | decide | (simp only [List.length_cons, List.length_nil, List.length_append, List.length_replicate, List.length_map, List.length_set, List.length_take, List.length_drop, strs_len, ints_len, bools_len, aggs_len, vpv_len]; done) | (simp only [List.length_cons, List.length_nil, List.length_append, List.length_replicate, List.length_map, List.length_set, List.length_take, List.length_drop, strs_len, ints_len, bools_len, aggs_len, vpv_len]; omega)) only [go_sem, fjoin_shares_1, hx, serC, valP, e1, e2, e3]
def twoS (nm : List UInt8) (g : Val → Val → Val) (x y : SK × Ser) : SK × Ser :=
  (fitK (nJ [x, y]), ⟨labelL nm [x.2.name, y.2.name], bJ [x, y], sJ [x, y], valsF (fun i => g (colJ (joinW [x, y] (bJ [x, y]) (sJ [x, y]) (nJ [x, y])) 0 i) (colJ (joinW [x, y] (bJ [x, y]) (sJ [x, y]) (nJ [x, y])) 1 i)) (nJ [x, y]), 0⟩)
def twoR (nm : List UInt8) (g : Val → Val → Val) (x y : SK × Ser) : List PV :=
  if errJ (sersOf [x, y]) ≠ 0 then [noSer.2.pv .nil, .int .i64 (errJ (sersOf [x, y]))] else [(twoS nm g x y).2.pv (twoS nm g x y).1, .int .i64 0]
theorem res_two {F : Nat} {g : Val → Val → Val} (hF : ∀ x y : Val, res Γ F [.agg [.bool x.1, .int .i64 x.2], .agg [.bool y.1, .int .i64 y.2]] = some [.agg [.bool (g x y).1, .int .i64 (g x y).2]])
    (nm : List UInt8) (hnm : nm.length ≤ 1000000) (x y : SK × Ser) (hx : x.2.vals.length ≤ 1000000) (hy : y.2.vals.length ≤ 1000000) (nx : x.2.name.length ≤ 4096) (ny : y.2.name.length ≤ 4096) :
    res Γ 257 [.str nm, x.2.pv x.1, y.2.pv y.1, .clo F []] = some (twoR nm g x y) := by
  have hv : ∀ z ∈ [x, y], z.2.vals.length ≤ 1000000 := by
    intro z hz
    rcases List.mem_cons.1 hz with rfl | hz
    · exact hx
    · rw [List.mem_singleton.1 hz]; exact hy
  have es : sers [x, y] = [x.2.pv x.1, y.2.pv y.1] := rfl
  unfold twoR
  by_cases he : errJ (sersOf [x, y]) = 0
  · rw [if_neg (fun h => h he)]
    have hne : [x, y] ≠ [] := by simp
    have e1 := res_join_ok (kk := .tight) [x, y] (by simp) hv hne he
    rw [es] at e1
    have hn := nJ_le he hne
    have eL : res Γ 30 [.str nm, .sl .tight 1 [.str x.2.name, .str y.2.name]] = some [.str (labelL nm [x.2.name, y.2.name])] := res_seriesLabelL (kk := .tight) nm [x.2.name, y.2.name] hnm (by simp) (by simp [joinB]; omega)
    have eS := res_series (K := .any) 273 [.ptr [.clo F []], .ptr [.ptr (jC (bJ [x, y]) (sJ [x, y]) .any (joinW [x, y] (bJ [x, y]) (sJ [x, y]) (nJ [x, y])))]] (labelL nm [x.2.name, y.2.name]) (bJ [x, y]) (sJ [x, y])
      (joinW [x, y] (bJ [x, y]) (sJ [x, y]) (nJ [x, y])) (fun i => g (colJ (joinW [x, y] (bJ [x, y]) (sJ [x, y]) (nJ [x, y])) 0 i) (colJ (joinW [x, y] (bJ [x, y]) (sJ [x, y]) (nJ [x, y])) 1 i)) (nJ [x, y]) (by omega) (many_ok hne)
      (fun i hi => res_two1 hF _ (by rw [joinW_len]; rfl) i (joinW_ok hi) (by omega))
    unfold twoS
    generalize valsF (fun i => g (colJ (joinW [x, y] (bJ [x, y]) (sJ [x, y]) (nJ [x, y])) 0 i) (colJ (joinW [x, y] (bJ [x, y]) (sJ [x, y]) (nJ [x, y])) 1 i)) (nJ [x, y]) = V at *
    generalize joinW [x, y] (bJ [x, y]) (sJ [x, y]) (nJ [x, y]) = m at *
    unfold Ser.pv at *
    refine res_code (fn := fjoin_two) rfl rfl ?_
    simp (disch := first | assumption | omega | decide | (simp only [List.length_cons, List.length_nil, List.length_append, List.length_replicate, List.length_map, List.length_set, List.length_take, List.length_drop, strs_len, ints_len, bools_len, aggs_len, vpv_len]; done) | (simp only [List.length_cons, List.length_nil, List.length_append, List.length_replicate, List.length_map, List.length_set, List.length_take, List.length_drop, strs_len, ints_len, bools_len, aggs_len, vpv_len]; omega)) only [go_sem, fjoin_two, e1, eL, eS, ne_eq, not_true_eq_false]
  · rw [if_pos he]
    have e1 := res_join_err (kk := .tight) [x, y] (by simp) hv he
    rw [es] at e1
    generalize errJ (sersOf [x, y]) = E at *
    unfold Ser.pv noSer at *
    refine res_code (fn := fjoin_two) rfl rfl ?_
    simp (disch := first | assumption | omega | decide | (simp only [List.length_cons, List.length_nil, List.length_append, List.length_replicate, List.length_map, List.length_set, List.length_take, List.length_drop, strs_len, ints_len, bools_len, aggs_len, vpv_len]; done) | (simp only [List.length_cons, List.length_nil, List.length_append, List.length_replicate, List.length_map, List.length_set, List.length_take, List.length_drop, strs_len, ints_len, bools_len, aggs_len, vpv_len]; omega)) only [go_sem, fjoin_two, e1, vpv_nil]
theorem st227 : stillF Γ 2 227 = true := rfl
theorem seriesM_l1_ok (f : Nat) (P : PV) (k : Int) (nm : List UInt8) (a b : Int) (g : Nat → Val) (n : Nat) (hn : n ≤ 1000000) (B : Blk) (hg : ∀ i : Nat, i < n → res Γ f [.int .i64 (i : Int), .ptr [P], .ptr [.int .i64 k]] = some [.agg [.bool (g i).1, .int .i64 (g i).2]]) (Q : Out → Prop)
    (hQ : Q (.nrm, [(6, .bx 2 0), (7, .bx 3 0)], [.box [.p P], .box [.p (.int .i64 k)], B, serB nm a b (.own 4 n) 0, .row false 2 (vpv (valsF g n))])) : ∀ (j i : Nat), i + 1 + j = n →
    Wp Γ fjoin_joined_series_l1 [(2, .clo f [.bx 0 0, .bx 1 0]), (6, .bx 2 0), (7, .bx 3 0), (22, .p (.int .i64 (n : Int))), (23, .p (.int .i64 ((i + 1 : Nat) : Int)))] [.box [.p P], .box [.p (.int .i64 k)], B, serB nm a b (.own 4 (i + 1)) 0, .row false 2 (vpv (valsF g (i + 1)))] (InBlk [6, 7] 0 Q) := by
  intro j
  induction j with
  | zero =>
    intro i hi
    have hi : i + 1 = n := by omega
    rw [hi]
    rw [W_loop (L := fjoin_joined_series_l1) rfl]
    simp (disch := first | assumption | omega | decide | (simp only [List.length_cons, List.length_nil, List.length_append, List.length_replicate, List.length_map, List.length_set, List.length_take, List.length_drop, strs_len, ints_len, bools_len, aggs_len, vpv_len]; done) | (simp only [List.length_cons, List.length_nil, List.length_append, List.length_replicate, List.length_map, List.length_set, List.length_take, List.length_drop, strs_len, ints_len, bools_len, aggs_len, vpv_len]; omega)) only [go_sem]
    exact hQ
  | succ j ih =>
    intro i hi
    have ih := ih (i + 1) (by omega)
    rw [valsF_succ] at ih
    have e := hg (i + 1) (by omega)
    have hlen := @valsF_len g (i + 1)
    rw [W_loop (L := fjoin_joined_series_l1) rfl]
    simp (disch := first | assumption | omega | decide | (simp only [List.length_cons, List.length_nil, List.length_append, List.length_replicate, List.length_map, List.length_set, List.length_take, List.length_drop, strs_len, ints_len, bools_len, aggs_len, vpv_len]; done) | (simp only [List.length_cons, List.length_nil, List.length_append, List.length_replicate, List.length_map, List.length_set, List.length_take, List.length_drop, strs_len, ints_len, bools_len, aggs_len, vpv_len]; omega)) only [go_sem, e]
    exact ih
def serA (nm : List UInt8) (a b : Int) (_g : Nat → Val) (n : Nat) : AV := if n = 0 then .p (.agg [.str nm, .int .i64 a, .int .i64 b, .sl .nil 2 [], .int .i64 0]) else .agg [.p (.str nm), .p (.int .i64 a), .p (.int .i64 b), .own 2 n, .p (.int .i64 0)]
def serH (g : Nat → Val) (n : Nat) : Heap := if n = 0 then [] else [.row false 2 (vpv (valsF g n))]
theorem resM_series {K : SK} (f : Nat) (k : Int) (nm : List UInt8) (a b : Int) (m : List (SK × Ser)) (g : Nat → Val) (n : Nat) (hn : n ≤ 1000000) (hm : (if m = [] then 0 else ((m.getD 0 noSer).2.vals.length : Int)) = (n : Int))
    (hg : ∀ i : Nat, i < n → res Γ f [.int .i64 (i : Int), .ptr [.ptr (jC a b K m)], .ptr [.int .i64 k]] = some [.agg [.bool (g i).1, .int .i64 (g i).2]]) :
    resM Γ 2 227 [.p (.ptr (jC a b K m)), .p (.str nm), .clo f [.bx 0 0, .bx 1 0]] [.box [.p (.ptr (jC a b K m))], .box [.p (.int .i64 k)]] = some ([serA nm a b g n], .box [.p (.ptr (jC a b K m))] :: .box [.p (.int .i64 k)] :: serH g n) := by
  have e1 := res_many (a := a) (b := b) (K := K) m
  rw [hm] at e1
  unfold serA serH
  by_cases h0 : n = 0
  · subst h0
    rw [if_pos rfl, if_pos rfl]
    refine resM_code (fn := fjoin_joined_series) rfl rfl ?_
    simp (disch := first | assumption | omega | decide | (simp only [List.length_cons, List.length_nil, List.length_append, List.length_replicate, List.length_map, List.length_set, List.length_take, List.length_drop, strs_len, ints_len, bools_len, aggs_len, vpv_len]; done) | (simp only [List.length_cons, List.length_nil, List.length_append, List.length_replicate, List.length_map, List.length_set, List.length_take, List.length_drop, strs_len, ints_len, bools_len, aggs_len, vpv_len]; omega)) only [go_sem, fjoin_joined_series, e1]
    rw [W_loop (L := fjoin_joined_series_l1) rfl]
    simp (disch := first | assumption | omega | decide | (simp only [List.length_cons, List.length_nil, List.length_append, List.length_replicate, List.length_map, List.length_set, List.length_take, List.length_drop, strs_len, ints_len, bools_len, aggs_len, vpv_len]; done) | (simp only [List.length_cons, List.length_nil, List.length_append, List.length_replicate, List.length_map, List.length_set, List.length_take, List.length_drop, strs_len, ints_len, bools_len, aggs_len, vpv_len]; omega)) only [go_sem]
  · rw [if_neg h0, if_neg h0]
    have e2 : res Γ f [.int .i64 0, .ptr [.ptr (jC a b K m)], .ptr [.int .i64 k]] = some [.agg [.bool (g 0).1, .int .i64 (g 0).2]] := hg 0 (by omega)
    have e0 : vpv [] = [] := rfl
    have L := fun B Q => seriesM_l1_ok f (.ptr (jC a b K m)) k nm a b g n hn B hg Q
    have ev : valsF g 1 = [g 0] := rfl
    have hlen := @valsF_len g n
    refine resM_code (fn := fjoin_joined_series) rfl rfl ?_
    simp (disch := first | assumption | omega | decide | (simp only [List.length_cons, List.length_nil, List.length_append, List.length_replicate, List.length_map, List.length_set, List.length_take, List.length_drop, strs_len, ints_len, bools_len, aggs_len, vpv_len]; done) | (simp only [List.length_cons, List.length_nil, List.length_append, List.length_replicate, List.length_map, List.length_set, List.length_take, List.length_drop, strs_len, ints_len, bools_len, aggs_len, vpv_len]; omega)) only [go_sem, fjoin_joined_series, e1]
    rw [W_loop (L := fjoin_joined_series_l1) rfl]
    simp (disch := first | assumption | omega | decide | (simp only [List.length_cons, List.length_nil, List.length_append, List.length_replicate, List.length_map, List.length_set, List.length_take, List.length_drop, strs_len, ints_len, bools_len, aggs_len, vpv_len]; done) | (simp only [List.length_cons, List.length_nil, List.length_append, List.length_replicate, List.length_map, List.length_set, List.length_take, List.length_drop, strs_len, ints_len, bools_len, aggs_len, vpv_len]; omega)) only [go_sem, e2]
    refine L _ _ ?_ (n - 1) 0 (by omega)
    simp (disch := first | assumption | omega | decide | (simp only [List.length_cons, List.length_nil, List.length_append, List.length_replicate, List.length_map, List.length_set, List.length_take, List.length_drop, strs_len, ints_len, bools_len, aggs_len, vpv_len]; done) | (simp only [List.length_cons, List.length_nil, List.length_append, List.length_replicate, List.length_map, List.length_set, List.length_take, List.length_drop, strs_len, ints_len, bools_len, aggs_len, vpv_len]; omega)) only [go_sem]
end Ab
