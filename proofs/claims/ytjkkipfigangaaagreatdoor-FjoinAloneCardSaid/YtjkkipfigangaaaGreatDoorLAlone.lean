import Derived.Test.YtjkkipfigangaaaGreatDoorLApplied
namespace Ab
open Go (IntKind BinOp UnOp)
theorem mdV_sameJ (a : Int) (h : -4611686018427387904 ≤ a ∧ a ≤ 4611686018427387904) : mdV a 1000000 1000000 = some a := by
  unfold mdV
  rw [if_neg (by decide)]
  have e1 : a.natAbs * (1000000 : Int).natAbs / (1000000 : Int).natAbs = a.natAbs := Nat.mul_div_cancel _ (by decide)
  have e2 : a.natAbs * (1000000 : Int).natAbs % (1000000 : Int).natAbs = 0 := Nat.mul_mod_left _ _
  simp only [e1, e2]
  rw [if_neg (show ¬ (1000000 : Int).natAbs - 0 ≤ 0 by decide), if_pos (by unfold maxN; omega)]
  by_cases h0 : a < 0
  · rw [if_pos (by simp [h0]), show -((a.natAbs : Nat) : Int) = a by omega]
  · rw [if_neg (by simp [h0]), show ((a.natAbs : Nat) : Int) = a by omega]
theorem isV_two {v : Val} (h : isV v = true) : v = noV ∨ knV v = true := by
  obtain ⟨b, n⟩ := v
  cases b
  · unfold isV at h
    simp only [Bool.false_eq_true, if_false, decide_eq_true_eq] at h
    subst h
    exact .inl rfl
  · exact .inr (by simp [knV, h])
theorem knV_true {v : Val} (h : knV v = true) : v = (true, v.2) := by
  have := (knV_iff.1 h).1
  obtain ⟨b, n⟩ := v
  cases b
  · cases this
  · rfl
theorem addV_one {v : Val} (h : knV v = true) : addV [v] = v := by
  have hb := knV_bound h
  unfold addV
  simp only [List.foldl_cons, List.foldl_nil]
  have e0 : ofV 0 = (true, 0) := by decide
  rw [e0, sumV_yes (by decide) h]
  show ofV (0 + v.2) = v
  rw [Int.zero_add, ofV_in hb, ← knV_true h]
theorem avg_oneJ {v : Val} (h : knV v = true) : aggV 1 [v] = v := by
  have hb := knV_bound h
  have e : knL [v] = [v] := by simp [knL, h]
  rw [agg1_cons e, addV_one h]
  have ei : intV ((List.length [v] : Nat) : Int) = (true, 1000000) := intV_small (n := 1) (by omega)
  have ek : knV (true, 1000000) = true := knV_iff.2 ⟨rfl, by show -maxN ≤ (1000000 : Int) ∧ (1000000 : Int) ≤ maxN; unfold maxN; omega⟩
  rw [ei, divV_yes h ek]
  show valV (mdV v.2 1000000 1000000) = _
  rw [mdV_sameJ _ hb]
  show ofV v.2 = _
  rw [ofV_in hb, ← knV_true h]
theorem agg_one {c : Int} (hc : 1 ≤ c ∧ c ≤ 5) {v : Val} (h : isV v = true) : aggV c [v] = v := by
  rcases isV_two h with rfl | hk
  · rfl
  · have e : knL [v] = [v] := by simp [knL, hk]
    have : c = 1 ∨ c = 2 ∨ c = 3 ∨ c = 4 ∨ c = 5 := by omega
    rcases this with rfl | rfl | rfl | rfl | rfl
    · exact avg_oneJ hk
    · unfold aggV
      rw [e]
      exact addV_one hk
    · unfold aggV
      rw [e]
      rfl
    · unfold aggV
      rw [e]
      rfl
    · unfold aggV
      rw [e]
      rfl
theorem getD_memJ {l : List (List UInt8)} {i : Nat} (h : i < l.length) : l.getD i [] ∈ l := by
  rw [List.getD_eq_getElem?_getD, List.getElem?_eq_getElem h]; simp
def sixJ : List (List UInt8) := [jSum, jAvg, jMin, jMax, jMed, jDif]
theorem place_one {nm : List UInt8} (hm : nm ∈ sixJ) {p : Val} {v : Val} (h : isV v = true) : placeV nm p 0 (knL [v]) = v := by
  have a : ∀ c : Int, 1 ≤ c ∧ c ≤ 5 → aggV c (knL [v]) = v := fun c hc => by rw [aggV_knL]; exact agg_one hc h
  simp only [sixJ, List.mem_cons, List.not_mem_nil, or_false] at hm
  rcases hm with rfl | rfl | rfl | rfl | rfl | rfl
  · unfold placeV
    rw [if_pos rfl]; exact a 2 (by omega)
  · unfold placeV
    rw [if_neg (by decide), if_pos rfl]; exact a 1 (by omega)
  · unfold placeV
    rw [if_neg (by decide), if_neg (by decide), if_pos rfl]; exact a 5 (by omega)
  · unfold placeV
    rw [if_neg (by decide), if_neg (by decide), if_neg (by decide), if_pos rfl]; exact a 4 (by omega)
  · unfold placeV
    rw [if_neg (by decide), if_neg (by decide), if_neg (by decide), if_neg (by decide), if_pos rfl]
    rcases isV_two h with rfl | hk
    · rfl
    · have e : knL [v] = [v] := by simp [knL, hk]
      rw [e]
      have en : sortI (nums [v]) = [v.2] := by unfold nums; rw [e]; rfl
      unfold medV
      rw [en]
      show (if [v.2].length = 0 then noV else if [v.2].length % 2 = 1 then ((true, [v.2].getD ([v.2].length / 2) 0) : Val) else _) = v
      rw [if_neg (by simp), if_pos (by simp)]
      have : ([v.2].length / 2) = 0 := by simp
      rw [this]
      exact (knV_true hk).symm
  · unfold placeV
    rw [if_neg (by decide), if_neg (by decide), if_neg (by decide), if_neg (by decide), if_neg (by decide), if_neg (by decide), if_neg (by decide), if_neg (by decide), if_neg (by decide), if_pos rfl]
    rcases isV_two h with rfl | hk
    · rfl
    · have e : knL [v] = [v] := by simp [knL, hk]
      rw [e]; rfl
theorem plc_at {s : Ser} (hs : 1 ≤ s.step) {k : Nat} (hk : k ≤ s.vals.length) : plcS s (s.start + k * s.step) = k := by
  have hle := plcS_le s (s.start + k * s.step)
  have key : ∀ i : Nat, i < s.vals.length → (i < plcS s (s.start + k * s.step) ↔ i < k) := fun i hi => by
    rw [plcS_iff hs hi]
    constructor
    · intro h
      have h2 : (i : Int) * s.step < (k : Int) * s.step := by omega
      have := Int.lt_of_mul_lt_mul_right h2 (by omega)
      omega
    · intro h
      have := Int.mul_lt_mul_of_pos_right (show (i : Int) < (k : Int) by omega) (show 0 < s.step by omega)
      omega
  generalize plcS s (s.start + k * s.step) = q at *
  rcases Nat.lt_trichotomy q k with h | h | h
  · have := (key q (by omega)).2 h; omega
  · exact h
  · have := (key k (by omega)).1 h; omega
theorem within_one {s : Ser} (hs : 1 ≤ s.step) {k : Nat} (hk : k < s.vals.length) : withinV s (s.start + k * s.step) (s.start + k * s.step + s.step) = [s.vals.getD k (false, 0)] := by
  unfold withinV
  have e : s.start + (k : Int) * s.step + s.step = s.start + ((k + 1 : Nat) : Int) * s.step := by
    have : ((k + 1 : Nat) : Int) * s.step = (k : Int) * s.step + s.step := by rw [Int.natCast_add, Int.add_mul]; simp
    omega
  rw [e, plc_at hs (by omega), plc_at hs (by omega), take_snoc' (false, 0) hk, List.drop_append_of_le_length (by rw [List.length_take]; omega), List.drop_eq_nil_of_le (by rw [List.length_take]; omega)]
  rfl
theorem consV_ok {s : Ser} (hz : sizeS s) : 1 ≤ consV s ∧ consV s ≤ 5 := by
  unfold sizeS at hz
  unfold consV
  split <;> omega
theorem fit_self {s : Ser} (hs : isS s = true) : fitV s s.start s.step s.vals.length = s.vals := by
  have hz := isS_size hs
  have hc := consV_ok hz
  have hst : 1 ≤ s.step := by unfold sizeS at hz; omega
  rw [isS_yes hz, List.all_eq_true] at hs
  refine List.ext_getElem fitV_len fun i h1 h2 => ?_
  simp only [fitV, List.getElem_map, List.getElem_range]
  rw [within_one hst h2, List.getD_eq_getElem?_getD, List.getElem?_eq_getElem h2, Option.getD_some]
  exact agg_one hc (hs _ (List.getElem_mem h2))
theorem alone_facts {k : SK} {s : Ser} (hs : isS s = true) (h1 : s.step ≤ 16777216) (h2 : s.start % s.step = 0) (hl : s.vals.length ≤ 120) :
    errJ (sersOf [(k, s)]) = 0 ∧ bJ [(k, s)] = s.start ∧ ((sJ [(k, s)] : Nat) : Int) = s.step ∧ nJ [(k, s)] = s.vals.length := by
  have hz := isS_size hs
  unfold sizeS at hz
  obtain ⟨b, hb⟩ := Int.eq_ofNat_of_zero_le (show 0 ≤ s.step by omega)
  have e1 : stepJ (sersOf [(k, s)]) = b := by
    have : stepJ (sersOf [(k, s)]) = stepT 1 s := rfl
    rw [this]
    unfold stepT commonV
    have h1b : Nat.lcm 1 b = b := by unfold Nat.lcm; simp
    rw [if_neg (by decide), hb, Int.toNat_natCast, h1b, if_pos (by omega)]
  have e2 : startJ 4294967295 (sersOf [(k, s)]) = s.start := by
    have : startJ 4294967295 (sersOf [(k, s)]) = min 4294967295 s.start := rfl
    rw [this]; omega
  have e3 : begJ (sersOf [(k, s)]) = s.start := by
    unfold begJ
    rw [e1, e2, ← hb, h2]; omega
  have hE := endS_bound hs
  have e4 : endJ (sersOf [(k, s)]) = endS s := by
    have : endJ (sersOf [(k, s)]) = max 0 (endS s) := rfl
    rw [this]; omega
  have e5 : manyJ (sersOf [(k, s)]) = (s.vals.length : Int) := by
    unfold manyJ
    rw [e1, e3, e4, ← hb]
    unfold endS
    have e : s.start + (s.vals.length : Int) * s.step - s.start + s.step - 1 = (s.step - 1) + (s.vals.length : Int) * s.step := by omega
    rw [e, Int.add_mul_ediv_right _ _ (by omega), Int.ediv_eq_zero_of_lt (by omega) (by omega), Int.zero_add]
  refine ⟨?_, e3, ?_, ?_⟩
  · unfold errJ
    rw [if_neg (by simp [sersOf, hs]), if_neg (by simp [sersOf]), if_neg (by rw [e1]; omega), if_neg (by rw [e5]; omega)]
  · show ((stepJ (sersOf [(k, s)]) : Nat) : Int) = _
    rw [e1, hb]
  · show (manyJ (sersOf [(k, s)])).toNat = _
    rw [e5]; omega
theorem cols_alone {nm : List UInt8} (hm : nm ∈ sixJ) {p : Val} {k : SK} {s : Ser} (hs : isS s = true) (b : Int) (hb : b = s.start) (st : Nat) (hst : (st : Int) = s.step) : colsV nm p 0 (joinW [(k, s)] b st s.vals.length) s.vals.length = s.vals := by
  have hz := isS_size hs
  have hv := hs
  rw [isS_yes hz, List.all_eq_true] at hv
  refine List.ext_getElem colsV_len fun i h1 h2 => ?_
  simp only [colsV, List.getElem_map, List.getElem_range]
  have e : atV (joinW [(k, s)] b st s.vals.length) i = [s.vals.getD i (false, 0)] := by
    show [(fitV s b st s.vals.length).getD i (false, 0)] = _
    rw [hb, hst, fit_self hs]
  rw [e, List.getD_eq_getElem?_getD, List.getElem?_eq_getElem h2, Option.getD_some]
  exact place_one hm (hv _ (List.getElem_mem h2))
theorem six_sub {nm : List UInt8} (h : nm ∈ sixJ) : nm ∈ jAll := by
  simp only [sixJ, List.mem_cons, List.not_mem_nil, or_false] at h
  simp only [jAll, List.mem_cons, List.not_mem_nil, or_false]
  rcases h with h | h | h | h | h | h
  · exact .inl h
  · exact .inr (.inl h)
  · exact .inr (.inr (.inl h))
  · exact .inr (.inr (.inr (.inl h)))
  · exact .inr (.inr (.inr (.inr (.inl h))))
  · exact .inr (.inr (.inr (.inr (.inr (.inr (.inr (.inr (.inr (.inl h)))))))))
theorem six_len {nm : List UInt8} (h : nm ∈ sixJ) : nm.length ≤ 1000000 := by
  simp only [sixJ, List.mem_cons, List.not_mem_nil, or_false] at h
  rcases h with rfl | rfl | rfl | rfl | rfl | rfl <;> decide
theorem apply_alone {nm : List UInt8} (hm : nm ∈ sixJ) {k : SK} {s : Ser} (hs : isS s = true) (h1 : s.step ≤ 16777216) (h2 : s.start % s.step = 0) (hl : s.vals.length ≤ 120) :
    ∃ (lab : List UInt8) (kk : SK), res Γ 217 [.str nm, .agg [.bool false, .int .i64 0], .int .i64 0, .sl .tight 5 [s.pv k]] = some [.sl .tight 5 [(Ser.mk lab s.start s.step s.vals 0).pv kk], .int .i64 0] := by
  have hz := isS_size hs
  unfold sizeS at hz
  obtain ⟨f1, f2, f3, f4⟩ := alone_facts (k := k) hs h1 h2 hl
  have e := res_Apply (kk := .tight) nm (six_len hm) noV 0 [(k, s)] (by simp) (by simp; omega) (by simp; omega)
  unfold applyR at e
  rw [if_neg (fun h => h (six_sub hm)), if_neg (fun h => h f1), if_neg (by simp), f4, cols_alone hm hs _ f2 _ f3, f2, f3] at e
  exact ⟨_, _, e⟩
theorem Alone_l1_ok {k kk : SK} (s : Ser) (hl : s.vals.length ≤ 120) (lab : List UInt8) (a b : AV) (Q : Out → Prop) (ha : (∃ v, a = .p v) ∧ (∃ v, b = .p v))
    (hQ : Q (.nrm, [(1, .bx 0 0), (3, a), (4, b)], [.box [.p (.str s.name), .p (.int .i64 s.start), .p (.int .i64 s.step), .p (.sl k 2 (vpv s.vals)), .p (.int .i64 s.cons)]])) : ∀ (n i : Nat), i + n = s.vals.length →
    Wp Γ l22_FjoinAlone_l1 [(1, .bx 0 0), (3, a), (4, b), (5, .p (.sl .tight 5 (sers [(kk, Ser.mk lab s.start s.step s.vals 0)]))), (7, .p (.int .i64 (i : Int)))] [.box [.p (.str s.name), .p (.int .i64 s.start), .p (.int .i64 s.step), .p (.sl k 2 (vpv s.vals)), .p (.int .i64 s.cons)]] (InBlk [1, 3, 4] 2 Q) := by
  obtain ⟨⟨va, rfl⟩, ⟨vb, rfl⟩⟩ := ha
  have hg : [(kk, Ser.mk lab s.start s.step s.vals 0)].getD 0 noSer = (kk, Ser.mk lab s.start s.step s.vals 0) := rfl
  have hln : [(kk, Ser.mk lab s.start s.step s.vals 0)].length = 1 := rfl
  generalize [(kk, Ser.mk lab s.start s.step s.vals 0)] = X at *
  intro n
  induction n with
  | zero =>
    intro i hi
    obtain rfl : i = s.vals.length := by omega
    rw [W_loop (L := l22_FjoinAlone_l1) rfl]
    simp (disch := first | assumption | omega | decide | (simp only [List.length_cons, List.length_nil, List.length_append, List.length_replicate, List.length_map, List.length_set, List.length_take, List.length_drop, strs_len, ints_len, bools_len, aggs_len, vpv_len]; done) | (simp only [List.length_cons, List.length_nil, List.length_append, List.length_replicate, List.length_map, List.length_set, List.length_take, List.length_drop, strs_len, ints_len, bools_len, aggs_len, vpv_len]; omega)) only [go_sem]
    exact hQ
  | succ n ih =>
    intro i hi
    rw [W_loop (L := l22_FjoinAlone_l1) rfl]
    simp (disch := first | assumption | omega | decide | (simp only [List.length_cons, List.length_nil, List.length_append, List.length_replicate, List.length_map, List.length_set, List.length_take, List.length_drop, strs_len, ints_len, bools_len, aggs_len, vpv_len]; done) | (simp only [List.length_cons, List.length_nil, List.length_append, List.length_replicate, List.length_map, List.length_set, List.length_take, List.length_drop, strs_len, ints_len, bools_len, aggs_len, vpv_len]; omega)) only [go_sem, hg, serC, valP]
    exact ih (i + 1) (by omega)
theorem Alone_l2_ok {k : SK} (s : Ser) (hs : isS s = true) (h1 : s.step ≤ 16777216) (h2 : s.start % s.step = 0) (hl : s.vals.length ≤ 120) (Q : Out → Prop) (hQ : ∀ H, Q (.nrm, [], H)) : ∀ (n i : Nat), i + n = 6 →
    Wp Γ l22_FjoinAlone_l2 [(1, .bx 0 0), (3, .p (.sl .tight 1 (strs sixJ))), (4, .p (.int .i64 (i : Int)))] [.box [.p (.str s.name), .p (.int .i64 s.start), .p (.int .i64 s.step), .p (.sl k 2 (vpv s.vals)), .p (.int .i64 s.cons)]] (InBlk [] 0 Q) := by
  have hln : sixJ.length = 6 := rfl
  have hmem : ∀ i, i < 6 → sixJ.getD i [] ∈ sixJ := fun i hi => getD_memJ (by rw [hln]; exact hi)
  have hap := fun nm hm => apply_alone (nm := nm) hm (k := k) hs h1 h2 hl
  generalize sixJ = S at *
  intro n
  induction n with
  | zero =>
    intro i hi
    obtain rfl : i = 6 := by omega
    rw [W_loop (L := l22_FjoinAlone_l2) rfl]
    simp (disch := first | assumption | omega | decide | (simp only [List.length_cons, List.length_nil, List.length_append, List.length_replicate, List.length_map, List.length_set, List.length_take, List.length_drop, strs_len, ints_len, bools_len, aggs_len, vpv_len]; done) | (simp only [List.length_cons, List.length_nil, List.length_append, List.length_replicate, List.length_map, List.length_set, List.length_take, List.length_drop, strs_len, ints_len, bools_len, aggs_len, vpv_len]; omega)) only [go_sem]
    exact hQ _
  | succ n ih =>
    intro i hi
    obtain ⟨lab, kk, e⟩ := hap _ (hmem i (by omega))
    have hsr : [(Ser.mk lab s.start s.step s.vals 0).pv kk] = sers [(kk, Ser.mk lab s.start s.step s.vals 0)] := rfl
    rw [hsr] at e
    unfold Ser.pv at e
    have hg : [(kk, Ser.mk lab s.start s.step s.vals 0)].getD 0 noSer = (kk, Ser.mk lab s.start s.step s.vals 0) := rfl
    have hln1 : [(kk, Ser.mk lab s.start s.step s.vals 0)].length = 1 := rfl
    have L := fun Q => Alone_l1_ok (k := k) (kk := kk) s hl lab (.p (.sl .tight 1 (strs S))) (.p (.int .i64 (i : Int))) Q ⟨⟨_, rfl⟩, ⟨_, rfl⟩⟩
    generalize [(kk, Ser.mk lab s.start s.step s.vals 0)] = X at *
    rw [W_loop (L := l22_FjoinAlone_l2) rfl]
    simp (disch := first | assumption | omega | decide | (simp only [List.length_cons, List.length_nil, List.length_append, List.length_replicate, List.length_map, List.length_set, List.length_take, List.length_drop, strs_len, ints_len, bools_len, aggs_len, vpv_len]; done) | (simp only [List.length_cons, List.length_nil, List.length_append, List.length_replicate, List.length_map, List.length_set, List.length_take, List.length_drop, strs_len, ints_len, bools_len, aggs_len, vpv_len]; omega)) only [go_sem, e, hg, serC, ne_eq, not_true_eq_false]
    refine L _ ?_ s.vals.length 0 (by omega)
    simp (disch := first | assumption | omega | decide | (simp only [List.length_cons, List.length_nil, List.length_append, List.length_replicate, List.length_map, List.length_set, List.length_take, List.length_drop, strs_len, ints_len, bools_len, aggs_len, vpv_len]; done) | (simp only [List.length_cons, List.length_nil, List.length_append, List.length_replicate, List.length_map, List.length_set, List.length_take, List.length_drop, strs_len, ints_len, bools_len, aggs_len, vpv_len]; omega)) only [go_sem]
    exact ih (i + 1) (by omega)
theorem six_str : strs sixJ = [.str jSum, .str jAvg, .str jMin, .str jMax, .str jMed, .str jDif] := rfl
theorem res_FjoinAloneA {k : SK} (s : Ser) (o : Ser.Ok k s) : res Γ 290 [s.pv k] = some [.bool true] := by
  have hk := res_known22
  have hlen := o.len
  have hlen : s.vals.length ≤ 9223372036854775807 := hlen
  have e1 : res Γ 218 [.sl .tight 5 [s.pv k]] = some [.bool (heavyJ [(k, s)])] := res_heavy22 (k1 := .tight) [(k, s)] (by simp) (by simpa using hlen)
  have e2 := res_r18Is (kk := k) s hlen
  unfold Ser.pv at e1 e2 ⊢
  cases hh : heavyJ [(k, s)]
  · rw [hh] at e1
    have hl : s.vals.length ≤ 120 := ((heavyJ_no hh).2 (k, s) (by simp)).1
    cases hs : isS s
    · rw [hs] at e2
      refine res_code (fn := l22_FjoinAlone) rfl rfl ?_
      simp (disch := first | assumption | omega | decide | (simp only [List.length_cons, List.length_nil, List.length_append, List.length_replicate, List.length_map, List.length_set, List.length_take, List.length_drop, strs_len, ints_len, bools_len, aggs_len, vpv_len]; done) | (simp only [List.length_cons, List.length_nil, List.length_append, List.length_replicate, List.length_map, List.length_set, List.length_take, List.length_drop, strs_len, ints_len, bools_len, aggs_len, vpv_len]; omega)) only [go_sem, l22_FjoinAlone, e1, e2]
    · rw [hs] at e2
      have hz := isS_size hs
      unfold sizeS at hz
      by_cases h1 : 16777216 < s.step
      · refine res_code (fn := l22_FjoinAlone) rfl rfl ?_
        simp (disch := first | assumption | omega | decide | (simp only [List.length_cons, List.length_nil, List.length_append, List.length_replicate, List.length_map, List.length_set, List.length_take, List.length_drop, strs_len, ints_len, bools_len, aggs_len, vpv_len]; done) | (simp only [List.length_cons, List.length_nil, List.length_append, List.length_replicate, List.length_map, List.length_set, List.length_take, List.length_drop, strs_len, ints_len, bools_len, aggs_len, vpv_len]; omega)) only [go_sem, l22_FjoinAlone, e1, e2]
      · by_cases h2 : s.start % s.step = 0
        · have L := fun Q hQ => Alone_l2_ok (k := k) s hs (by omega) h2 hl Q hQ 6 0 (by omega)
          rw [six_str] at L
          unfold jSum jAvg jMin jMax jMed jDif at L
          refine res_code (fn := l22_FjoinAlone) rfl rfl ?_
          simp (disch := first | assumption | omega | decide | (simp only [List.length_cons, List.length_nil, List.length_append, List.length_replicate, List.length_map, List.length_set, List.length_take, List.length_drop, strs_len, ints_len, bools_len, aggs_len, vpv_len]; done) | (simp only [List.length_cons, List.length_nil, List.length_append, List.length_replicate, List.length_map, List.length_set, List.length_take, List.length_drop, strs_len, ints_len, bools_len, aggs_len, vpv_len]; omega)) only [go_sem, l22_FjoinAlone, e1, e2, map_remI, h2, ne_eq, not_true_eq_false, List.replicate_succ, List.replicate_zero, strs]
          refine L _ fun H => ?_
          simp (disch := first | assumption | omega | decide | (simp only [List.length_cons, List.length_nil, List.length_append, List.length_replicate, List.length_map, List.length_set, List.length_take, List.length_drop, strs_len, ints_len, bools_len, aggs_len, vpv_len]; done) | (simp only [List.length_cons, List.length_nil, List.length_append, List.length_replicate, List.length_map, List.length_set, List.length_take, List.length_drop, strs_len, ints_len, bools_len, aggs_len, vpv_len]; omega)) only [go_sem, hk]
        · refine res_code (fn := l22_FjoinAlone) rfl rfl ?_
          simp (disch := first | assumption | omega | decide | (simp only [List.length_cons, List.length_nil, List.length_append, List.length_replicate, List.length_map, List.length_set, List.length_take, List.length_drop, strs_len, ints_len, bools_len, aggs_len, vpv_len]; done) | (simp only [List.length_cons, List.length_nil, List.length_append, List.length_replicate, List.length_map, List.length_set, List.length_take, List.length_drop, strs_len, ints_len, bools_len, aggs_len, vpv_len]; omega)) only [go_sem, l22_FjoinAlone, e1, e2, map_remI]
  · rw [hh] at e1
    refine res_code (fn := l22_FjoinAlone) rfl rfl ?_
    simp (disch := first | assumption | omega | decide | (simp only [List.length_cons, List.length_nil, List.length_append, List.length_replicate, List.length_map, List.length_set, List.length_take, List.length_drop, strs_len, ints_len, bools_len, aggs_len, vpv_len]; done) | (simp only [List.length_cons, List.length_nil, List.length_append, List.length_replicate, List.length_map, List.length_set, List.length_take, List.length_drop, strs_len, ints_len, bools_len, aggs_len, vpv_len]; omega)) only [go_sem, l22_FjoinAlone, e1]
end Ab
