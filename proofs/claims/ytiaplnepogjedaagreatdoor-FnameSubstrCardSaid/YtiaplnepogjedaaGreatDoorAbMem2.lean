import Derived.Test.YtiaplnepogjedaaGreatDoorLBase
import Derived.Test.YtiaplnepogjedaaGreatDoorAbRow
import Derived.Test.YtiaplnepogjedaaGreatDoorCode
namespace Ab
open Go (IntKind BinOp UnOp)
def keyB (s : List UInt8) (ns : List Int) : List (List UInt8) := ns.map (nodeB (splitB 46 (baseB s)))
theorem keyB_take {s : List UInt8} {ns : List Int} {i : Nat} (h : i < ns.length) : keyB s (ns.take (i + 1)) = keyB s (ns.take i) ++ [nodeB (splitB 46 (baseB s)) (ns.getD i 0)] := by
  rw [take_snoc 0 h]; simp [keyB]
theorem keyB_len {s : List UInt8} {ns : List Int} : (keyB s ns).length = ns.length := by simp [keyB]
theorem i64_at {ns : List Int} (h : ∀ n ∈ ns, -9223372036854775808 ≤ n ∧ n ≤ 9223372036854775807) (i : Nat) : -9223372036854775808 ≤ ns.getD i 0 ∧ ns.getD i 0 ≤ 9223372036854775807 := by
  by_cases hi : i < ns.length
  · rw [List.getD_eq_getElem?_getD, List.getElem?_eq_getElem hi]; exact h _ (List.getElem_mem hi)
  · rw [List.getD_eq_getElem?_getD, List.getElem?_eq_none (by omega)]; simp
theorem fname_Key_l1_ok {kk : SK} (s : List UInt8) (x1 x2 x3 x4 : PV) (ns : List Int) (hs : s.length < 900000000) (hn : ns.length < 100000000) (hr : ∀ n ∈ ns, -9223372036854775808 ≤ n ∧ n ≤ 9223372036854775807) (Q : Out → Prop) : ∀ (k i : Nat), i + k = ns.length →
    (∀ H, Q (.nrm, [(5, .own 1 ns.length)], [H, .row false 1 (strs (keyB s ns))])) →
    Wp Γ fname_Key_l1 [(2, .bx 0 0), (5, .own 1 i), (8, .p (.sl kk 1 (ints .i64 ns))), (9, .p (.int .i64 (ns.length : Int))), (10, .p (.int .i64 (i : Int)))] [.box [.p (.str s), .p x1, .p x2, .p x3, .p x4], .row false 1 (strs (keyB s (ns.take i)))] (InBlk [5] 0 Q) := by
  have hb := baseB_len s
  intro k
  induction k with
  | zero =>
    intro i hi hQ
    obtain rfl : i = ns.length := by omega
    rw [W_loop (L := fname_Key_l1) rfl]
    simp (disch := first | assumption | omega | decide | (simp only [List.length_cons, List.length_nil, List.length_append, List.length_replicate, List.length_map, List.length_set, List.length_take, List.length_drop, strs_len, ints_len, bools_len, aggs_len, vpv_len]; done) | (simp only [List.length_cons, List.length_nil, List.length_append, List.length_replicate, List.length_map, List.length_set, List.length_take, List.length_drop, strs_len, ints_len, bools_len, aggs_len, vpv_len]; omega)) only [go_sem]
    rw [List.take_length]
    exact hQ _
  | succ k ih =>
    intro i hi hQ
    obtain ⟨g1, g2⟩ := i64_at hr i
    have g3 : (keyB s (ns.take i)).length = i := by rw [keyB_len, List.length_take]; omega
    rw [W_loop (L := fname_Key_l1) rfl]
    simp (disch := first | assumption | omega | decide | (simp only [List.length_cons, List.length_nil, List.length_append, List.length_replicate, List.length_map, List.length_set, List.length_take, List.length_drop, strs_len, ints_len, bools_len, aggs_len, vpv_len]; done) | (simp only [List.length_cons, List.length_nil, List.length_append, List.length_replicate, List.length_map, List.length_set, List.length_take, List.length_drop, strs_len, ints_len, bools_len, aggs_len, vpv_len]; omega)) only [go_sem]
    rw [← keyB_take (by omega)]
    exact ih (i + 1) (by omega) hQ
theorem r24_Key_l1_ok {kk : SK} (s : List UInt8) (x1 x2 x3 x4 : PV) (ns : List Int) (hs : s.length < 900000000) (hn : ns.length < 100000000) (hr : ∀ n ∈ ns, -9223372036854775808 ≤ n ∧ n ≤ 9223372036854775807) (Q : Out → Prop) : ∀ (k i : Nat), i + k = ns.length →
    (∀ H, Q (.nrm, [(5, .own 1 ns.length)], [H, .row false 1 (strs (keyB s ns))])) →
    Wp Γ r24_Key_l1 [(1, .p (.sl kk 1 (ints .i64 ns))), (2, .bx 0 0), (5, .own 1 i), (6, .p (.int .i64 (i : Int)))] [.box [.p (.str s), .p x1, .p x2, .p x3, .p x4], .row false 1 (strs (keyB s (ns.take i)))] (InBlk [5] 0 Q) := by
  have hb := baseB_len s
  intro k
  induction k with
  | zero =>
    intro i hi hQ
    obtain rfl : i = ns.length := by omega
    rw [W_loop (L := r24_Key_l1) rfl]
    simp (disch := first | assumption | omega | decide | (simp only [List.length_cons, List.length_nil, List.length_append, List.length_replicate, List.length_map, List.length_set, List.length_take, List.length_drop, strs_len, ints_len, bools_len, aggs_len, vpv_len]; done) | (simp only [List.length_cons, List.length_nil, List.length_append, List.length_replicate, List.length_map, List.length_set, List.length_take, List.length_drop, strs_len, ints_len, bools_len, aggs_len, vpv_len]; omega)) only [go_sem]
    rw [List.take_length]
    exact hQ _
  | succ k ih =>
    intro i hi hQ
    obtain ⟨g1, g2⟩ := i64_at hr i
    have g3 : (keyB s (ns.take i)).length = i := by rw [keyB_len, List.length_take]; omega
    rw [W_loop (L := r24_Key_l1) rfl]
    simp (disch := first | assumption | omega | decide | (simp only [List.length_cons, List.length_nil, List.length_append, List.length_replicate, List.length_map, List.length_set, List.length_take, List.length_drop, strs_len, ints_len, bools_len, aggs_len, vpv_len]; done) | (simp only [List.length_cons, List.length_nil, List.length_append, List.length_replicate, List.length_map, List.length_set, List.length_take, List.length_drop, strs_len, ints_len, bools_len, aggs_len, vpv_len]; omega)) only [go_sem]
    rw [← keyB_take (by omega)]
    exact ih (i + 1) (by omega) hQ
theorem splitB_mem (c : UInt8) : ∀ (s x : List UInt8), x ∈ splitB c s → x.length ≤ s.length
  | [], x, h => by simp [splitB] at h; subst h; simp
  | b :: l, x, h => by
    have ih := splitB_mem c l
    simp only [splitB] at h
    split at h
    · simp only [List.mem_cons] at h
      rcases h with rfl | h
      · simp
      · have := ih x h; simp; omega
    · cases hh : splitB c l with
      | nil => rw [hh] at h; simp at h; subst h; simp
      | cons a t =>
        rw [hh] at h ih
        simp only [List.mem_cons] at h
        rcases h with rfl | h
        · have := ih a (by simp); simp; omega
        · have := ih x (by simp [h]); simp; omega
theorem nodeB_len (s : List UInt8) (i : Int) : (nodeB (splitB 46 s) i).length ≤ s.length := by
  unfold nodeB
  simp only
  generalize (if i < 0 then i + ((splitB 46 s).length : Int) else i) = j
  split
  · simp
  · rename_i h
    have hj : j.toNat < (splitB 46 s).length := by omega
    rw [List.getD_eq_getElem?_getD, List.getElem?_eq_getElem hj]
    exact splitB_mem 46 s _ (List.getElem_mem hj)
theorem keyB_join {s : List UInt8} {ns : List Int} (hs : s.length ≤ 100000) (hn : ns.length ≤ 1000) : (joinB [46] (keyB s ns)).length ≤ 1000000000 := by
  have h := joinB_len [46] s.length (keyB s ns) (fun x hx => by
    simp only [keyB, List.mem_map] at hx
    obtain ⟨n, _, rfl⟩ := hx
    exact Nat.le_trans (nodeB_len _ _) (baseB_len s))
  rw [keyB_len] at h
  have : ns.length * (s.length + [46].length) ≤ 1000 * 100001 := Nat.mul_le_mul hn (by simp; omega)
  omega
@[go_sem] theorem res_fnameKey {kk : SK} (s : List UInt8) (x1 x2 x3 x4 : PV) (ns : List Int) (hs : s.length ≤ 100000) (hn : ns.length ≤ 1000) (hr : ∀ n ∈ ns, -9223372036854775808 ≤ n ∧ n ≤ 9223372036854775807) :
    res Γ 6 [.agg [.str s, x1, x2, x3, x4], .sl kk 1 (ints .i64 ns)] = some [.str (joinB [46] (keyB s ns))] := by
  have hj := @keyB_join s ns hs hn
  have hk := @keyB_len s ns
  refine res_code (fn := fname_Key) rfl rfl ?_
  simp (disch := first | assumption | omega | decide | (simp only [List.length_cons, List.length_nil, List.length_append, List.length_replicate, List.length_map, List.length_set, List.length_take, List.length_drop, strs_len, ints_len, bools_len, aggs_len, vpv_len]; done) | (simp only [List.length_cons, List.length_nil, List.length_append, List.length_replicate, List.length_map, List.length_set, List.length_take, List.length_drop, strs_len, ints_len, bools_len, aggs_len, vpv_len]; omega)) only [go_sem, fname_Key]
  refine fname_Key_l1_ok s x1 x2 x3 x4 ns (by omega) (by omega) hr _ ns.length 0 (by omega) (fun H => ?_)
  simp (disch := first | assumption | omega | decide | (simp only [List.length_cons, List.length_nil, List.length_append, List.length_replicate, List.length_map, List.length_set, List.length_take, List.length_drop, strs_len, ints_len, bools_len, aggs_len, vpv_len]; done) | (simp only [List.length_cons, List.length_nil, List.length_append, List.length_replicate, List.length_map, List.length_set, List.length_take, List.length_drop, strs_len, ints_len, bools_len, aggs_len, vpv_len]; omega)) only [go_sem]
@[go_sem] theorem res_r24Key {kk : SK} (s : List UInt8) (x1 x2 x3 x4 : PV) (ns : List Int) (hs : s.length ≤ 100000) (hn : ns.length ≤ 1000) (hr : ∀ n ∈ ns, -9223372036854775808 ≤ n ∧ n ≤ 9223372036854775807) :
    res Γ 7 [.agg [.str s, x1, x2, x3, x4], .sl kk 1 (ints .i64 ns)] = some [.str (joinB [46] (keyB s ns))] := by
  have hj := @keyB_join s ns hs hn
  have hk := @keyB_len s ns
  refine res_code (fn := r24_Key) rfl rfl ?_
  simp (disch := first | assumption | omega | decide | (simp only [List.length_cons, List.length_nil, List.length_append, List.length_replicate, List.length_map, List.length_set, List.length_take, List.length_drop, strs_len, ints_len, bools_len, aggs_len, vpv_len]; done) | (simp only [List.length_cons, List.length_nil, List.length_append, List.length_replicate, List.length_map, List.length_set, List.length_take, List.length_drop, strs_len, ints_len, bools_len, aggs_len, vpv_len]; omega)) only [go_sem, r24_Key]
  refine r24_Key_l1_ok s x1 x2 x3 x4 ns (by omega) (by omega) hr _ ns.length 0 (by omega) (fun H => ?_)
  simp (disch := first | assumption | omega | decide | (simp only [List.length_cons, List.length_nil, List.length_append, List.length_replicate, List.length_map, List.length_set, List.length_take, List.length_drop, strs_len, ints_len, bools_len, aggs_len, vpv_len]; done) | (simp only [List.length_cons, List.length_nil, List.length_append, List.length_replicate, List.length_map, List.length_set, List.length_take, List.length_drop, strs_len, ints_len, bools_len, aggs_len, vpv_len]; omega)) only [go_sem]
end Ab
namespace Ab
open Go (IntKind BinOp UnOp)
theorem ints_lit {k : IntKind} {a : Int} : [PV.int k a] = ints k [a] := rfl
@[go_sem] theorem res_known24 : res Γ 8 [] = some [.bool true] := by
  have e1 : baseB [115, 99, 97, 108, 101, 40, 97, 46, 98, 44, 50, 41] = [97, 46, 98] := by decide +kernel
  have e2 : joinB [46] (keyB [115, 99, 97, 108, 101, 40, 97, 46, 98, 44, 50, 41] [1]) = [98] := by decide +kernel
  have e3 := res_fnameKey (kk := .tight) [115, 99, 97, 108, 101, 40, 97, 46, 98, 44, 50, 41] (.int .i64 0) (.int .i64 0) (.sl .nil 2 []) (.int .i64 0) [1] (by decide) (by decide) (by decide)
  rw [e2, ← ints_lit] at e3
  refine res_code (fn := l24_known) rfl rfl ?_
  simp (disch := first | assumption | omega | decide | (simp only [List.length_cons, List.length_nil, List.length_append, List.length_replicate, List.length_map, List.length_set, List.length_take, List.length_drop, strs_len, ints_len, bools_len, aggs_len, vpv_len]; done) | (simp only [List.length_cons, List.length_nil, List.length_append, List.length_replicate, List.length_map, List.length_set, List.length_take, List.length_drop, strs_len, ints_len, bools_len, aggs_len, vpv_len]; omega)) only [go_sem, l24_known, e1, e3]
end Ab
namespace Ab
abbrev Val := Bool × Int
def maxN : Int := 4611686018427387904
def isV (v : Val) : Bool := if v.1 = true then decide (-maxN ≤ v.2 ∧ v.2 ≤ maxN) else decide (v.2 = 0)
end Ab
namespace Ab
open Go (IntKind BinOp UnOp)
theorem isV_eq (b : Bool) (n : Int) : isV (b, n) = if b = true then decide (-4611686018427387904 ≤ n ∧ n ≤ 4611686018427387904) else decide (n = 0) := rfl
@[go_sem] theorem res_fixedIs (b : Bool) (n : Int) : res Γ 126 [.agg [.bool b, .int .i64 n]] = some [.bool (isV (b, n))] := by
  refine res_code (fn := fixed_Is) rfl rfl ?_
  cases b
  · simp (disch := first | assumption | omega | decide | (simp only [List.length_cons, List.length_nil, List.length_append, List.length_replicate, List.length_map, List.length_set, List.length_take, List.length_drop, strs_len, ints_len, bools_len, aggs_len, vpv_len]; done) | (simp only [List.length_cons, List.length_nil, List.length_append, List.length_replicate, List.length_map, List.length_set, List.length_take, List.length_drop, strs_len, ints_len, bools_len, aggs_len, vpv_len]; omega)) only [go_sem, fixed_Is, isV_eq]
  · repeat' (first | (simp (disch := first | assumption | omega | decide | (simp only [List.length_cons, List.length_nil, List.length_append, List.length_replicate, List.length_map, List.length_set, List.length_take, List.length_drop, strs_len, ints_len, bools_len, aggs_len, vpv_len]; done) | (simp only [List.length_cons, List.length_nil, List.length_append, List.length_replicate, List.length_map, List.length_set, List.length_take, List.length_drop, strs_len, ints_len, bools_len, aggs_len, vpv_len]; omega)) only [go_sem, fixed_Is, isV_eq]) | refine cond_split (fun hc => ?_) (fun hc => ?_) | refine gd_split_f (fun hc => ?_) (fun hc => ?_) | refine gd_split_t (fun hc => ?_) (fun hc => ?_))
    all_goals (simp only [Option.some.injEq, List.cons.injEq, PV.bool.injEq, and_true]; first | (symm; apply decide_eq_false; omega) | (rw [Bool.eq_iff_iff]; simp only [decide_eq_true_eq]; omega))
@[go_sem] theorem res_r1Is (b : Bool) (n : Int) : res Γ 120 [.agg [.bool b, .int .i64 n]] = some [.bool (isV (b, n))] := by
  refine res_code (fn := r1_Is) rfl rfl ?_
  cases b
  · simp (disch := first | assumption | omega | decide | (simp only [List.length_cons, List.length_nil, List.length_append, List.length_replicate, List.length_map, List.length_set, List.length_take, List.length_drop, strs_len, ints_len, bools_len, aggs_len, vpv_len]; done) | (simp only [List.length_cons, List.length_nil, List.length_append, List.length_replicate, List.length_map, List.length_set, List.length_take, List.length_drop, strs_len, ints_len, bools_len, aggs_len, vpv_len]; omega)) only [go_sem, r1_Is, isV_eq]
  · repeat' (first | (simp (disch := first | assumption | omega | decide | (simp only [List.length_cons, List.length_nil, List.length_append, List.length_replicate, List.length_map, List.length_set, List.length_take, List.length_drop, strs_len, ints_len, bools_len, aggs_len, vpv_len]; done) | (simp only [List.length_cons, List.length_nil, List.length_append, List.length_replicate, List.length_map, List.length_set, List.length_take, List.length_drop, strs_len, ints_len, bools_len, aggs_len, vpv_len]; omega)) only [go_sem, r1_Is, isV_eq]) | refine cond_split (fun hc => ?_) (fun hc => ?_) | refine gd_split_f (fun hc => ?_) (fun hc => ?_) | refine gd_split_t (fun hc => ?_) (fun hc => ?_))
    all_goals (simp only [Option.some.injEq, List.cons.injEq, PV.bool.injEq, and_true]; first | (symm; apply decide_eq_false; omega) | (rw [Bool.eq_iff_iff]; simp only [decide_eq_true_eq]; omega))
end Ab
namespace Ab
open Go (IntKind BinOp UnOp)
def sizeS (s : Ser) : Prop := s.name.length ≤ 4096 ∧ 0 ≤ s.start ∧ s.start ≤ 4294967295 ∧ 1 ≤ s.step ∧ s.step ≤ 1099511627776 ∧ s.vals.length ≤ 131072 ∧ 0 ≤ s.cons ∧ s.cons ≤ 5
instance {s : Ser} : Decidable (sizeS s) := by unfold sizeS; infer_instance
def isS (s : Ser) : Bool := decide (sizeS s) && s.vals.all isV
theorem isS_no {s : Ser} (h : ¬ sizeS s) : isS s = false := by unfold isS; rw [decide_eq_false h]; rfl
theorem isS_yes {s : Ser} (h : sizeS s) : isS s = s.vals.all isV := by unfold isS; rw [decide_eq_true h]; rfl
@[go_sem] theorem res_seriesIs1 (b : Bool) (n : Int) : res Γ 119 [.agg [.bool b, .int .i64 n]] = some [.bool (!isV (b, n))] := by
  refine res_code (fn := series_Is_1) rfl rfl ?_
  simp (disch := first | assumption | omega | decide | (simp only [List.length_cons, List.length_nil, List.length_append, List.length_replicate, List.length_map, List.length_set, List.length_take, List.length_drop, strs_len, ints_len, bools_len, aggs_len, vpv_len]; done) | (simp only [List.length_cons, List.length_nil, List.length_append, List.length_replicate, List.length_map, List.length_set, List.length_take, List.length_drop, strs_len, ints_len, bools_len, aggs_len, vpv_len]; omega)) only [go_sem, series_Is_1]
theorem all_take {l : List Val} {i : Nat} (h : i < l.length) : (l.take (i + 1)).all isV = ((l.take i).all isV && isV (l.getD i (false, 0))) := by
  rw [take_snoc' (false, 0) h, List.all_append]
  simp only [List.all_cons, List.all_nil, Bool.and_true]
theorem all_bad {l : List Val} {i : Nat} (h : i < l.length) (hv : isV (l.getD i (false, 0)) = false) : l.all isV = false := by
  rw [List.all_eq_false]
  refine ⟨l[i], List.getElem_mem h, ?_⟩
  rw [List.getD_eq_getElem?_getD, List.getElem?_eq_getElem h] at hv
  simpa using hv
theorem IndexFunc_l1_ok {kk : SK} (l : List Val) (hl : l.length < 1000000000) (Q : Out → Prop) : ∀ (k i : Nat), i + k = l.length → (l.take i).all isV = true →
    (l.all isV = true → Q (.nrm, [], [])) → (l.all isV = false → ∀ j : Nat, Q (.ret, [(4, .p (.int .i64 (j : Int)))], [])) →
    Wp Γ slices_IndexFunc_api_Val_api_Val_l1 [(0, .p (.sl kk 2 (vpv l))), (1, .p (.clo 119 [])), (7, .p (.int .i64 (l.length : Int))), (8, .p (.int .i64 (i : Int)))] [] (InBlk [] 0 Q) := by
  intro k
  induction k with
  | zero =>
    intro i hi ha h1 h2
    obtain rfl : i = l.length := by omega
    rw [List.take_length] at ha
    rw [W_loop (L := slices_IndexFunc_api_Val_api_Val_l1) rfl]
    simp (disch := first | assumption | omega | decide | (simp only [List.length_cons, List.length_nil, List.length_append, List.length_replicate, List.length_map, List.length_set, List.length_take, List.length_drop, strs_len, ints_len, bools_len, aggs_len, vpv_len]; done) | (simp only [List.length_cons, List.length_nil, List.length_append, List.length_replicate, List.length_map, List.length_set, List.length_take, List.length_drop, strs_len, ints_len, bools_len, aggs_len, vpv_len]; omega)) only [go_sem]
    exact h1 ha
  | succ k ih =>
    intro i hi ha h1 h2
    have e := all_take (l := l) (i := i) (by omega)
    rw [W_loop (L := slices_IndexFunc_api_Val_api_Val_l1) rfl]
    simp (disch := first | assumption | omega | decide | (simp only [List.length_cons, List.length_nil, List.length_append, List.length_replicate, List.length_map, List.length_set, List.length_take, List.length_drop, strs_len, ints_len, bools_len, aggs_len, vpv_len]; done) | (simp only [List.length_cons, List.length_nil, List.length_append, List.length_replicate, List.length_map, List.length_set, List.length_take, List.length_drop, strs_len, ints_len, bools_len, aggs_len, vpv_len]; omega)) only [go_sem, valP]
    cases hv : isV (l.getD i (false, 0))
    · simp (disch := first | assumption | omega | decide | (simp only [List.length_cons, List.length_nil, List.length_append, List.length_replicate, List.length_map, List.length_set, List.length_take, List.length_drop, strs_len, ints_len, bools_len, aggs_len, vpv_len]; done) | (simp only [List.length_cons, List.length_nil, List.length_append, List.length_replicate, List.length_map, List.length_set, List.length_take, List.length_drop, strs_len, ints_len, bools_len, aggs_len, vpv_len]; omega)) only [go_sem]
      exact h2 (all_bad (by omega) hv) i
    · simp (disch := first | assumption | omega | decide | (simp only [List.length_cons, List.length_nil, List.length_append, List.length_replicate, List.length_map, List.length_set, List.length_take, List.length_drop, strs_len, ints_len, bools_len, aggs_len, vpv_len]; done) | (simp only [List.length_cons, List.length_nil, List.length_append, List.length_replicate, List.length_map, List.length_set, List.length_take, List.length_drop, strs_len, ints_len, bools_len, aggs_len, vpv_len]; omega)) only [go_sem]
      exact ih (i + 1) (by omega) (by rw [e, ha, hv]; rfl) h1 h2
theorem res_IndexFunc {kk : SK} (l : List Val) (hl : l.length < 1000000000) : ∃ r : Int, res Γ 127 [.sl kk 2 (vpv l), .clo 119 []] = some [.int .i64 r] ∧ decide (0 ≤ r) = !(l.all isV) := by
  cases ha : l.all isV
  · -- which one is not told
    have hx : ∃ j : Nat, (j < l.length ∧ isV (l.getD j (false, 0)) = false) ∧ ∀ i, i < j → isV (l.getD i (false, 0)) = true := by
      have : ∃ j, j < l.length ∧ isV (l.getD j (false, 0)) = false := by
        rw [List.all_eq_false] at ha
        obtain ⟨x, hx, hv⟩ := ha
        obtain ⟨j, hj, rfl⟩ := List.getElem_of_mem hx
        exact ⟨j, hj, by rw [List.getD_eq_getElem?_getD, List.getElem?_eq_getElem hj]; simpa using hv⟩
      obtain ⟨j, h1, h2⟩ := this
      induction j using Nat.strongRecOn with
      | ind j ih =>
        by_cases hall : ∀ i, i < j → isV (l.getD i (false, 0)) = true
        · exact ⟨j, ⟨h1, h2⟩, hall⟩
        · simp only [Classical.not_forall] at hall
          obtain ⟨i, hi, hv⟩ := hall
          exact ih i hi (by omega) (by simpa using hv)
    obtain ⟨j, ⟨hj1, hj2⟩, hj3⟩ := hx
    refine ⟨j, ?_, by simp⟩
    have step : ∀ (d i : Nat) (Q : Out → Prop), i + d = j → Q (.ret, [(4, .p (.int .i64 (j : Int)))], []) →
        Wp Γ slices_IndexFunc_api_Val_api_Val_l1 [(0, .p (.sl kk 2 (vpv l))), (1, .p (.clo 119 [])), (7, .p (.int .i64 (l.length : Int))), (8, .p (.int .i64 (i : Int)))] [] (InBlk [] 0 Q) := by
      intro d
      induction d with
      | zero =>
        intro i Q hi hQ
        obtain rfl : i = j := by omega
        rw [W_loop (L := slices_IndexFunc_api_Val_api_Val_l1) rfl]
        simp (disch := first | assumption | omega | decide | (simp only [List.length_cons, List.length_nil, List.length_append, List.length_replicate, List.length_map, List.length_set, List.length_take, List.length_drop, strs_len, ints_len, bools_len, aggs_len, vpv_len]; done) | (simp only [List.length_cons, List.length_nil, List.length_append, List.length_replicate, List.length_map, List.length_set, List.length_take, List.length_drop, strs_len, ints_len, bools_len, aggs_len, vpv_len]; omega)) only [go_sem, valP, hj2]
        exact hQ
      | succ d ih =>
        intro i Q hi hQ
        have hv := hj3 i (by omega)
        rw [W_loop (L := slices_IndexFunc_api_Val_api_Val_l1) rfl]
        simp (disch := first | assumption | omega | decide | (simp only [List.length_cons, List.length_nil, List.length_append, List.length_replicate, List.length_map, List.length_set, List.length_take, List.length_drop, strs_len, ints_len, bools_len, aggs_len, vpv_len]; done) | (simp only [List.length_cons, List.length_nil, List.length_append, List.length_replicate, List.length_map, List.length_set, List.length_take, List.length_drop, strs_len, ints_len, bools_len, aggs_len, vpv_len]; omega)) only [go_sem, valP, hv]
        exact ih (i + 1) Q (by omega) hQ
    refine res_code (fn := slices_IndexFunc_api_Val_api_Val) rfl rfl ?_
    simp (disch := first | assumption | omega | decide | (simp only [List.length_cons, List.length_nil, List.length_append, List.length_replicate, List.length_map, List.length_set, List.length_take, List.length_drop, strs_len, ints_len, bools_len, aggs_len, vpv_len]; done) | (simp only [List.length_cons, List.length_nil, List.length_append, List.length_replicate, List.length_map, List.length_set, List.length_take, List.length_drop, strs_len, ints_len, bools_len, aggs_len, vpv_len]; omega)) only [go_sem, slices_IndexFunc_api_Val_api_Val]
    refine step j 0 _ (by omega) ?_
    simp (disch := first | assumption | omega | decide | (simp only [List.length_cons, List.length_nil, List.length_append, List.length_replicate, List.length_map, List.length_set, List.length_take, List.length_drop, strs_len, ints_len, bools_len, aggs_len, vpv_len]; done) | (simp only [List.length_cons, List.length_nil, List.length_append, List.length_replicate, List.length_map, List.length_set, List.length_take, List.length_drop, strs_len, ints_len, bools_len, aggs_len, vpv_len]; omega)) only [go_sem]
  · refine ⟨-1, ?_, by simp⟩
    refine res_code (fn := slices_IndexFunc_api_Val_api_Val) rfl rfl ?_
    simp (disch := first | assumption | omega | decide | (simp only [List.length_cons, List.length_nil, List.length_append, List.length_replicate, List.length_map, List.length_set, List.length_take, List.length_drop, strs_len, ints_len, bools_len, aggs_len, vpv_len]; done) | (simp only [List.length_cons, List.length_nil, List.length_append, List.length_replicate, List.length_map, List.length_set, List.length_take, List.length_drop, strs_len, ints_len, bools_len, aggs_len, vpv_len]; omega)) only [go_sem, slices_IndexFunc_api_Val_api_Val]
    refine IndexFunc_l1_ok l hl _ l.length 0 (by omega) rfl (fun h => ?_) (fun h => ?_)
    · simp (disch := first | assumption | omega | decide | (simp only [List.length_cons, List.length_nil, List.length_append, List.length_replicate, List.length_map, List.length_set, List.length_take, List.length_drop, strs_len, ints_len, bools_len, aggs_len, vpv_len]; done) | (simp only [List.length_cons, List.length_nil, List.length_append, List.length_replicate, List.length_map, List.length_set, List.length_take, List.length_drop, strs_len, ints_len, bools_len, aggs_len, vpv_len]; omega)) only [go_sem]
    · rw [ha] at h; cases h
@[go_sem] theorem res_ContainsFunc {kk : SK} (l : List Val) (hl : l.length < 1000000000) : res Γ 118 [.sl kk 2 (vpv l), .clo 119 []] = some [.bool (!l.all isV)] := by
  obtain ⟨r, h1, h2⟩ := res_IndexFunc (kk := kk) l hl
  refine res_code (fn := slices_ContainsFunc_api_Val_api_Val) rfl rfl ?_
  simp (disch := first | assumption | omega | decide | (simp only [List.length_cons, List.length_nil, List.length_append, List.length_replicate, List.length_map, List.length_set, List.length_take, List.length_drop, strs_len, ints_len, bools_len, aggs_len, vpv_len]; done) | (simp only [List.length_cons, List.length_nil, List.length_append, List.length_replicate, List.length_map, List.length_set, List.length_take, List.length_drop, strs_len, ints_len, bools_len, aggs_len, vpv_len]; omega)) only [go_sem, slices_ContainsFunc_api_Val_api_Val, h1, h2]
theorem res_seriesIs {kk : SK} (s : Ser) (hl : s.vals.length ≤ 9223372036854775807) : res Γ 111 [s.pv kk] = some [.bool (isS s)] := by
  unfold Ser.pv
  refine res_code (fn := series_Is) rfl rfl ?_
  repeat' (first | (simp (disch := first | assumption | omega | decide | (simp only [List.length_cons, List.length_nil, List.length_append, List.length_replicate, List.length_map, List.length_set, List.length_take, List.length_drop, strs_len, ints_len, bools_len, aggs_len, vpv_len]; done) | (simp only [List.length_cons, List.length_nil, List.length_append, List.length_replicate, List.length_map, List.length_set, List.length_take, List.length_drop, strs_len, ints_len, bools_len, aggs_len, vpv_len]; omega)) only [go_sem, series_Is]) | refine cond_split (fun hc => ?_) (fun hc => ?_) | refine gd_split_f (fun hc => ?_) (fun hc => ?_) | refine gd_split_t (fun hc => ?_) (fun hc => ?_))
  all_goals first
    | (rw [isS_no (by unfold sizeS; omega)]; done)
    | (rw [isS_no (by unfold sizeS; omega), decide_eq_false (by omega)]; done)
    | (rw [isS_yes (by unfold sizeS; omega)]; simp)
    | skip
theorem r18_Is_l1_ok {kk : SK} (s : Ser) (hl : s.vals.length < 1000000000) (Q : Out → Prop) : ∀ (k i : Nat), i + k = s.vals.length → (s.vals.take i).all isV = true →
    (s.vals.all isV = true → ∀ H, Q (.nrm, [], H)) → (s.vals.all isV = false → ∀ H, Q (.ret, [(2, .p (.bool false))], H)) →
    Wp Γ r18_Is_l1 [(1, .bx 0 0), (3, .p (.int .i64 (i : Int)))] [.box [.p (.str s.name), .p (.int .i64 s.start), .p (.int .i64 s.step), .p (.sl kk 2 (vpv s.vals)), .p (.int .i64 s.cons)]] (InBlk [] 0 Q) := by
  intro k
  induction k with
  | zero =>
    intro i hi ha h1 h2
    obtain rfl : i = s.vals.length := by omega
    rw [List.take_length] at ha
    rw [W_loop (L := r18_Is_l1) rfl]
    simp (disch := first | assumption | omega | decide | (simp only [List.length_cons, List.length_nil, List.length_append, List.length_replicate, List.length_map, List.length_set, List.length_take, List.length_drop, strs_len, ints_len, bools_len, aggs_len, vpv_len]; done) | (simp only [List.length_cons, List.length_nil, List.length_append, List.length_replicate, List.length_map, List.length_set, List.length_take, List.length_drop, strs_len, ints_len, bools_len, aggs_len, vpv_len]; omega)) only [go_sem]
    exact h1 ha _
  | succ k ih =>
    intro i hi ha h1 h2
    have e := all_take (l := s.vals) (i := i) (by omega)
    rw [W_loop (L := r18_Is_l1) rfl]
    simp (disch := first | assumption | omega | decide | (simp only [List.length_cons, List.length_nil, List.length_append, List.length_replicate, List.length_map, List.length_set, List.length_take, List.length_drop, strs_len, ints_len, bools_len, aggs_len, vpv_len]; done) | (simp only [List.length_cons, List.length_nil, List.length_append, List.length_replicate, List.length_map, List.length_set, List.length_take, List.length_drop, strs_len, ints_len, bools_len, aggs_len, vpv_len]; omega)) only [go_sem, valP]
    cases hv : isV (s.vals.getD i (false, 0))
    · simp (disch := first | assumption | omega | decide | (simp only [List.length_cons, List.length_nil, List.length_append, List.length_replicate, List.length_map, List.length_set, List.length_take, List.length_drop, strs_len, ints_len, bools_len, aggs_len, vpv_len]; done) | (simp only [List.length_cons, List.length_nil, List.length_append, List.length_replicate, List.length_map, List.length_set, List.length_take, List.length_drop, strs_len, ints_len, bools_len, aggs_len, vpv_len]; omega)) only [go_sem]
      exact h2 (all_bad (by omega) hv) _
    · simp (disch := first | assumption | omega | decide | (simp only [List.length_cons, List.length_nil, List.length_append, List.length_replicate, List.length_map, List.length_set, List.length_take, List.length_drop, strs_len, ints_len, bools_len, aggs_len, vpv_len]; done) | (simp only [List.length_cons, List.length_nil, List.length_append, List.length_replicate, List.length_map, List.length_set, List.length_take, List.length_drop, strs_len, ints_len, bools_len, aggs_len, vpv_len]; omega)) only [go_sem]
      exact ih (i + 1) (by omega) (by rw [e, ha, hv]; rfl) h1 h2
theorem res_r18Is {kk : SK} (s : Ser) (hl : s.vals.length ≤ 9223372036854775807) : res Γ 113 [s.pv kk] = some [.bool (isS s)] := by
  unfold Ser.pv
  refine res_code (fn := r18_Is) rfl rfl ?_
  repeat' (first | (simp (disch := first | assumption | omega | decide | (simp only [List.length_cons, List.length_nil, List.length_append, List.length_replicate, List.length_map, List.length_set, List.length_take, List.length_drop, strs_len, ints_len, bools_len, aggs_len, vpv_len]; done) | (simp only [List.length_cons, List.length_nil, List.length_append, List.length_replicate, List.length_map, List.length_set, List.length_take, List.length_drop, strs_len, ints_len, bools_len, aggs_len, vpv_len]; omega)) only [go_sem, r18_Is]) | refine cond_split (fun hc => ?_) (fun hc => ?_) | refine gd_split_f (fun hc => ?_) (fun hc => ?_) | refine gd_split_t (fun hc => ?_) (fun hc => ?_))
  all_goals first
    | (rw [isS_no (by unfold sizeS; omega)]; done)
    | skip
  all_goals
    have hs : sizeS s := by unfold sizeS; omega
    rw [isS_yes hs]
    refine r18_Is_l1_ok s (by omega) _ s.vals.length 0 (by omega) rfl (fun h H => ?_) (fun h H => ?_)
    · simp (disch := first | assumption | omega | decide | (simp only [List.length_cons, List.length_nil, List.length_append, List.length_replicate, List.length_map, List.length_set, List.length_take, List.length_drop, strs_len, ints_len, bools_len, aggs_len, vpv_len]; done) | (simp only [List.length_cons, List.length_nil, List.length_append, List.length_replicate, List.length_map, List.length_set, List.length_take, List.length_drop, strs_len, ints_len, bools_len, aggs_len, vpv_len]; omega)) only [go_sem, h]
    · simp (disch := first | assumption | omega | decide | (simp only [List.length_cons, List.length_nil, List.length_append, List.length_replicate, List.length_map, List.length_set, List.length_take, List.length_drop, strs_len, ints_len, bools_len, aggs_len, vpv_len]; done) | (simp only [List.length_cons, List.length_nil, List.length_append, List.length_replicate, List.length_map, List.length_set, List.length_take, List.length_drop, strs_len, ints_len, bools_len, aggs_len, vpv_len]; omega)) only [go_sem, h]
end Ab
namespace Ab
open Go (IntKind BinOp UnOp)
def RunM (Γ : Ctx) (k f : Nat) (as : List AV) (HL : Heap) (r : List AV × Heap) : Prop := ∃ n x, callOf Γ (ev Γ n) f as HL = some x ∧ tidy k x = some r
theorem RunM_det {Γ : Ctx} {k f : Nat} {as : List AV} {HL : Heap} {r r' : List AV × Heap} (h : RunM Γ k f as HL r) (h' : RunM Γ k f as HL r') : r = r' := by
  obtain ⟨n, x, h1, h2⟩ := h
  obtain ⟨m, x', h3, h4⟩ := h'
  have e1 := call_le (Nat.le_max_left n m) _ _ _ _ h1
  have e2 := call_le (Nat.le_max_right n m) _ _ _ _ h3
  rw [e1] at e2
  cases e2
  rw [h2] at h4
  cases h4
  rfl
open Classical in
noncomputable def resM (Γ : Ctx) (k f : Nat) (as : List AV) (HL : Heap) : Option (List AV × Heap) := if h : ∃ r, RunM Γ k f as HL r then some h.choose else none
theorem resM_of {Γ k f as HL r} (h : RunM Γ k f as HL r) : resM Γ k f as HL = some r := by
  have h' : ∃ r, RunM Γ k f as HL r := ⟨_, h⟩
  unfold resM
  rw [dif_pos h']
  exact congrArg some (RunM_det h'.choose_spec h)
theorem of_resM {Γ k f as HL r} (h : resM Γ k f as HL = some r) : RunM Γ k f as HL r := by
  unfold resM at h
  split at h
  · rename_i h'
    cases h
    exact h'.choose_spec
  · cases h

section
variable {Γ : Ctx} {env : Env} {H : Heap} {live : List Nat} {Q : Out → Prop} {r : List St} {dst : Option Nat}

def cmD (H : Heap) (L : List Nat) (r : Option (List AV × Heap)) : Option (List AV × Heap) := r.bind fun r => joinBack H L r
noncomputable def cmC (Γ : Ctx) (H : Heap) (f : Nat) (L : List Nat) (b : Bool) (as : Option (List AV)) (HL : Option Heap) : Option (List AV × Heap) :=
  ifB b (as.bind fun as => HL.bind fun HL => cmD H L (resM Γ L.length f as HL))
noncomputable def cmB (Γ : Ctx) (H : Heap) (f : Nat) (as : List AV) (L : List Nat) : Option (List AV × Heap) :=
  cmC Γ H f L (L.isEmpty || stillF Γ L.length f) (mapO (AV.ren (place L) 3) as) (pickB H (place L) L)
noncomputable def cmA (Γ : Ctx) (H : Heap) (args : List AV) (fc : Option (Nat × List AV)) : Option (List AV × Heap) :=
  fc.bind fun fc => cmB Γ H fc.1 (args ++ fc.2) (reach H 64 ((args ++ fc.2).flatMap AV.refs) [])
def resX (x : Option (List AV × Heap)) : Option (AV × Heap) := x.map fun r => (results r.1, r.2)
theorem L_calls {f args} : WpL Γ (⟨dst, none, .inr (.calls f args)⟩ :: r) env H live Q ↔ opX Γ (resX (cmA Γ H (args.map (Arg.ev Γ (look env))) (callee (Arg.ev Γ (look env) f)))) dst r env live Q := by
  rw [L_of]
  unfold opX WpO
  constructor
  · rintro ⟨n, h⟩
    dsimp only at h
    rw [optP_iff] at h ⊢
    obtain ⟨v, h1, h2⟩ := h
    simp only [evX, callS, Option.map_eq_some_iff, Option.bind_eq_some_iff, ifB_some] at h1
    obtain ⟨rr, ⟨fc, hfc, hst, as', has, HL, hp, x, hcr, r', htd, hj⟩, rfl⟩ := h1
    refine ⟨_, ?_, h2⟩
    rw [pick_eq] at hp
    simp only [resX, cmA, cmB, cmC, cmD, hfc, Option.bind_some, hst, has, hp, ifB, resM_of ⟨n, x, hcr, htd⟩, hj, Option.map_some]
  · intro h
    rw [optP_iff] at h
    obtain ⟨v, h1, h2⟩ := h
    simp only [resX, cmA, cmB, cmC, cmD, Option.map_eq_some_iff, Option.bind_eq_some_iff, ifB_some] at h1
    obtain ⟨rr, ⟨fc, hfc, hst, as', has, HL, hp, r', hres, hj⟩, rfl⟩ := h1
    obtain ⟨n, x, hcr, htd⟩ := of_resM hres
    rw [← pick_eq] at hp
    refine ⟨n, ?_⟩
    simp only [evX, callS, hfc, Option.bind_some, hst, has, hp, hcr, htd, hj, Option.map_some, ifB]
    exact h2
theorem cmA_some {args : List AV} {f : Nat} {caps : List AV} : cmA Γ H args (some (f, caps)) = cmB Γ H f (args ++ caps) (reach H 64 ((args ++ caps).flatMap AV.refs) []) := rfl
theorem cmB_eq {as : List AV} {f : Nat} {L : List Nat} : cmB Γ H f as L = cmC Γ H f L (L.isEmpty || stillF Γ L.length f) (mapO (AV.ren (place L) 3) as) (pickB H (place L) L) := rfl
theorem cmC_some {as : List AV} {HL : Heap} {f : Nat} {L : List Nat} : cmC Γ H f L true (some as) (some HL) = cmD H L (resM Γ L.length f as HL) := rfl
def jbB (H : Heap) (L : List Nat) (rs : Option (List AV)) (bs : Option (List Blk)) : Option (List AV × Heap) := rs.bind fun rs => bs.map fun bs => (rs, putBack H L bs ++ bs.drop L.length)
theorem cmD_some {L : List Nat} {rs : List AV} {B : Heap} : cmD H L (some (rs, B)) = jbB H L (mapO (AV.ren (backTo H L) 3) rs) (mapO (Blk.ren (backTo H L)) B) := rfl
theorem jbB_some {L : List Nat} {rs : List AV} {bs : List Blk} : jbB H L (some rs) (some bs) = some (rs, putBack H L bs ++ bs.drop L.length) := rfl
theorem resX_some {rs : List AV} {h : Heap} : resX (some (rs, h)) = some (results rs, h) := rfl
theorem putBack_nil {bs : List Blk} : putBack H [] bs = H := by cases bs <;> rfl
theorem putBack_cons {id : Nat} {L : List Nat} {b : Blk} {bs : List Blk} : putBack H (id :: L) (b :: bs) = putBack (H.set id b) L bs := rfl
def btK (b : Bool) (H : Heap) (L : List Nat) (id : Nat) : Option Nat := match b with | true => L[id]? | false => some (H.length + (id - L.length))
theorem backTo_eq {L : List Nat} {id : Nat} : backTo H L id = btK (decide (id < L.length)) H L id := by
  unfold backTo btK
  by_cases h : id < L.length <;> simp [h]
theorem btK_t {L : List Nat} {id : Nat} : btK true H L id = L[id]? := rfl
theorem btK_f {L : List Nat} {id : Nat} : btK false H L id = some (H.length + (id - L.length)) := rfl

def tzB (H : Heap) (L : List Nat) (vs : Option (List AV)) (HL : Option Heap) : Option (List PV × Heap) := vs.bind fun vs => HL.bind fun HL => (mapO (reify HL 4) vs).map fun ps => (ps, kill H L)
def tzA (H : Heap) (vs : List AV) (L : List Nat) : Option (List PV × Heap) := tzB H L (mapO (AV.ren (place L) 3) vs) (pickB H (place L) L)
theorem trees_eq {vs : List AV} : treesOf H vs = tzA H vs (reach H 64 (vs.flatMap AV.refs) []) := by
  unfold treesOf tzA tzB
  simp only [pick_eq]
theorem tzA_eq {vs : List AV} {L : List Nat} : tzA H vs L = tzB H L (mapO (AV.ren (place L) 3) vs) (pickB H (place L) L) := rfl
theorem tzB_some {vs : List AV} {HL : Heap} {L : List Nat} : tzB H L (some vs) (some HL) = (mapO (reify HL 4) vs).map fun ps => (ps, kill H L) := rfl
def killK (H : Heap) (id : Nat) (L : List Nat) (b : Option Blk) : Heap := kill (match b with | some b => H.set id (killB b) | none => H) L
theorem kill_nil : kill H [] = H := rfl
theorem kill_cons {id : Nat} {L : List Nat} : kill H (id :: L) = killK H id L H[id]? := rfl
theorem killK_some {id : Nat} {L : List Nat} {b : Blk} : killK H id L (some b) = kill (H.set id (killB b)) L := rfl
theorem killB_row {f sz xs} : killB (.row f sz xs) = .row true sz xs := rfl
theorem killB_box {cs} : killB (.box cs) = .dead := rfl
theorem killB_dead : killB .dead = .dead := rfl
noncomputable def czC (x : Option (List PV)) (H : Heap) : Option (AV × Heap) := x.map fun rs => (results (rs.map .p), H)
noncomputable def czB (Γ : Ctx) (f : Nat) (q : Option (List PV × Heap)) : Option (AV × Heap) := q.bind fun q => czC (res Γ f q.1) q.2
noncomputable def czA (Γ : Ctx) (H : Heap) (args : List AV) (fc : Option (Nat × List AV)) : Option (AV × Heap) := fc.bind fun fc => czB Γ fc.1 (treesOf H (args ++ fc.2))
theorem L_callz {f args} : WpL Γ (⟨dst, none, .inr (.callz f args)⟩ :: r) env H live Q ↔ opX Γ (czA Γ H (args.map (Arg.ev Γ (look env))) (callee (Arg.ev Γ (look env) f))) dst r env live Q := by
  rw [L_of]
  unfold opX WpO
  constructor
  · rintro ⟨n, h⟩
    dsimp only at h
    rw [optP_iff] at h ⊢
    obtain ⟨v, h1, h2⟩ := h
    simp only [evX, callZ, Option.map_eq_some_iff, Option.bind_eq_some_iff] at h1
    obtain ⟨rr, ⟨fc, hfc, q, hq, x, hcr, rs, hrs, rfl⟩, rfl⟩ := h1
    refine ⟨_, ?_, h2⟩
    simp only [czA, czB, czC, hfc, Option.bind_some, hq, res_of ⟨n, x, hcr, hrs⟩, Option.map_some]
  · intro h
    rw [optP_iff] at h
    obtain ⟨v, h1, h2⟩ := h
    simp only [czA, czB, czC, Option.map_eq_some_iff, Option.bind_eq_some_iff] at h1
    obtain ⟨fc, hfc, q, hq, rs, hres, rfl⟩ := h1
    obtain ⟨n, x, hcr, hrs⟩ := of_res hres
    refine ⟨n, ?_⟩
    simp only [evX, callZ, hfc, Option.bind_some, hq, hcr, hrs, Option.map_some]
    exact h2
theorem czA_some {args : List AV} {f : Nat} {caps : List AV} : czA Γ H args (some (f, caps)) = czB Γ f (treesOf H (args ++ caps)) := rfl
theorem czB_some {f : Nat} {ps : List PV} {h : Heap} : czB Γ f (some (ps, h)) = czC (res Γ f ps) h := rfl
theorem czC_some {rs : List PV} {h : Heap} : czC (some rs) h = some (results (rs.map .p), h) := rfl

theorem L_bslicef {sz ag n zero parts} : WpL Γ (⟨dst, none, .inr (.bslicef sz ag n zero parts)⟩ :: r) env H live Q ↔ opX Γ (bslicefA H sz ag n (fillA (zero.map .p) (parts.map fun q => (q.off, q.sz, Arg.ev Γ (look env) q.arg)))) dst r env live Q := L_of.trans (WpO_x rfl)
def bsfK (sz : Nat) (ag : Bool) (n : Nat) (q : Option (List PV × Heap)) : Option (AV × Heap) := q.bind fun q => ifB (q.1.length == n * sz) (some (.p (.sl .tight sz (chunks sz ag n q.1)), q.2))
theorem L_fbox {x} : WpL Γ (⟨dst, none, .inr (.fbox x)⟩ :: r) env H live Q ↔ opX Γ (fboxA H (Arg.ev Γ (look env) x)) dst r env live Q := L_of.trans (WpO_x rfl)
def fbK (b : Bool) (q : Option (List PV × Heap)) : Option (AV × Heap) := q.bind fun q => ifB (b && !q.1.isEmpty) (some (.p (.ptr q.1), q.2))
theorem fbox_K {v : AV} : fboxA H v = fbK v.ok (treesOf H v.cells) := rfl
theorem fbK_some {b : Bool} {ps : List PV} {h : Heap} : fbK b (some (ps, h)) = ifB (b && !ps.isEmpty) (some (.p (.ptr ps), h)) := rfl
theorem bslf_some {sz ag n} {cs : List AV} : bslicefA H sz ag n (some cs) = bsfK sz ag n (treesOf H cs) := rfl
theorem bsfK_some {sz ag n} {ps : List PV} {h : Heap} : bsfK sz ag n (some (ps, h)) = ifB (ps.length == n * sz) (some (.p (.sl .tight sz (chunks sz ag n ps)), h)) := rfl
end

section
variable {Γ : Ctx} {env : Env} {H : Heap} {live : List Nat} {Q : Out → Prop} {r : List St} {dst : Option Nat}
def pqR (H : Heap) (v : Option AV) : Option (AV × Heap) := v.map fun v => (v, H)
theorem pqR_some {v : AV} : pqR H (some v) = some (v, H) := rfl
theorem L_pq {q : QOp} (h : q.plain = true) : WpL Γ (⟨dst, none, .inr (.pureq q)⟩ :: r) env H live Q ↔ opX Γ (pqR H (evQ Γ noCall (look env) [] q)) dst r env live Q := by
  rw [L_of]
  unfold opX WpO
  have e : ∀ n, evX Γ (callOf Γ (ev Γ n)) (look env) H (.pureq q) = pqR H (evQ Γ noCall (look env) [] q) := fun n => by
    have : evQ Γ (callOf Γ (ev Γ n)) (look env) [] q = evQ Γ noCall (look env) [] q := by cases q <;> first | rfl | cases h
    simp only [evX, this, pqR]
  simp only [e]
  exact ⟨fun ⟨_, h⟩ => h, fun h => ⟨0, h⟩⟩
theorem L_pq_iaddr {sz x i} : WpL Γ (⟨dst, none, .inr (.pureq (.iaddr sz x i))⟩ :: r) env H live Q ↔ opX Γ (pqR H (iaddrA [] sz (Arg.ev Γ (look env) x) (Arg.ev Γ (look env) i))) dst r env live Q := L_pq rfl
theorem L_pq_load {sz ag x} : WpL Γ (⟨dst, none, .inr (.pureq (.load sz ag x))⟩ :: r) env H live Q ↔ opX Γ (pqR H (loadA [] sz ag (Arg.ev Γ (look env) x))) dst r env live Q := L_pq rfl
theorem L_pq_faddr {off x} : WpL Γ (⟨dst, none, .inr (.pureq (.faddr off x))⟩ :: r) env H live Q ↔ opX Γ (pqR H (faddrA [] off (Arg.ev Γ (look env) x))) dst r env live Q := L_pq rfl
theorem L_pq_len {s x} : WpL Γ (⟨dst, none, .inr (.pureq (.len s x))⟩ :: r) env H live Q ↔ opX Γ (pqR H ((asLen [] s (Arg.ev Γ (look env) x)).map fun (n : Nat) => AV.p (.int .i64 (n : Int)))) dst r env live Q := L_pq rfl
theorem L_pq_call {f args} : WpL Γ (⟨dst, none, .inr (.pureq (.call f args))⟩ :: r) env H live Q ↔ opX Γ (pqR H ((callR Γ [] (Arg.ev Γ (look env) f) (args.map (Arg.ev Γ (look env)))).bind fun rs =>
      ifB (allP (args.map (Arg.ev Γ (look env))) && (Arg.ev Γ (look env) f).isP || rs.all flat) (some (results (rs.map .p))))) dst r env live Q := by
  rw [L_of]
  unfold opX WpO pqR
  constructor
  · rintro ⟨n, h⟩
    dsimp only at h
    rw [optP_iff] at h ⊢
    obtain ⟨v, h1, h2⟩ := h
    simp only [evX, evQ] at h1
    obtain ⟨x, h1', rfl⟩ := Option.map_eq_some_iff.1 h1
    obtain ⟨rs, h3, h4⟩ := Option.bind_eq_some_iff.1 h1'
    exact ⟨_, by rw [callR_of h3, Option.bind_some, h4]; rfl, h2⟩
  · intro h
    rw [optP_iff] at h
    obtain ⟨v, h1, h2⟩ := h
    obtain ⟨x, h1', e⟩ := Option.map_eq_some_iff.1 h1
    obtain ⟨rs, h3, h4⟩ := Option.bind_eq_some_iff.1 h1'
    obtain ⟨n, h5⟩ := callR_spec h3
    refine ⟨n, ?_⟩
    subst e
    simp only [evX, evQ, h5, Option.bind_some, h4, Option.map_some]
    exact h2
attribute [go_sem] pqR_some L_pq_iaddr L_pq_load L_pq_faddr L_pq_len L_pq_call
end

def tdB (_B : Heap) (_L : List Nat) (rs : Option (List AV)) (H : Option Heap) : Option (List AV × Heap) := rs.bind fun rs => H.map fun H => (rs, H)
def tdA (B : Heap) (rs : List AV) (L : List Nat) : Option (List AV × Heap) := tdB B L (mapO (AV.ren (place L) 3) rs) (pickB B (place L) L)
theorem tidy_eq {k : Nat} {rs : List AV} {B : Heap} : tidy k (rs, B) = tdA B rs (reach B 64 (rs.flatMap AV.refs ++ (B.take k).flatMap Blk.refs) (List.range k)) := by
  unfold tidy tdA tdB
  simp only [pick_eq]
theorem tdA_eq {rs : List AV} {B : Heap} {L : List Nat} : tdA B rs L = tdB B L (mapO (AV.ren (place L) 3) rs) (pickB B (place L) L) := rfl
theorem tdB_some {rs : List AV} {B H : Heap} {L : List Nat} : tdB B L (some rs) (some H) = some (rs, H) := rfl
def EndsM (k : Nat) (rvs : List RV) (r : List AV × Heap) : Out → Prop
  | (.ex _, _, _) => False
  | (_, e, h) => optP (mapO (RV.get e h) rvs) fun vs => tidy k (vs, h) = some r
def endM (k : Nat) (vs : Option (List AV)) (h : Heap) (r : List AV × Heap) : Prop := optP vs fun vs => tidy k (vs, h) = some r
theorem endM_some {k vs h r} : endM k (some vs) h r ↔ tidy k (vs, h) = some r := Iff.rfl
theorem EndsM_nrm {k rvs r e h} : EndsM k rvs r (.nrm, e, h) ↔ endM k (mapO (RV.get e h) rvs) h r := Iff.rfl
theorem EndsM_ret {k rvs r e h} : EndsM k rvs r (.ret, e, h) ↔ endM k (mapO (RV.get e h) rvs) h r := Iff.rfl
def EndsK (rvs : List RV) (K : List AV → Heap → Prop) : Out → Prop
  | (.ex _, _, _) => False
  | (_, e, h) => optP (mapO (RV.get e h) rvs) fun vs => K vs h
def endKK (vs : Option (List AV)) (h : Heap) (K : List AV → Heap → Prop) : Prop := optP vs fun vs => K vs h
theorem endKK_some {vs h} {K : List AV → Heap → Prop} : endKK (some vs) h K ↔ K vs h := Iff.rfl
theorem EndsK_nrm {rvs e h} {K : List AV → Heap → Prop} : EndsK rvs K (.nrm, e, h) ↔ endKK (mapO (RV.get e h) rvs) h K := Iff.rfl
theorem EndsK_ret {rvs e h} {K : List AV → Heap → Prop} : EndsK rvs K (.ret, e, h) ↔ endKK (mapO (RV.get e h) rvs) h K := Iff.rfl
attribute [go_sem] endKK_some EndsK_nrm EndsK_ret
theorem callK {Γ : Ctx} {f : Nat} {fn : AFn} {args : List AV} {HL : Heap} {K : List AV → Heap → Prop} (hf : Γ.fn f = some (.code fn)) (hl : args.length = fn.np)
    (h : Wp Γ fn.body (envFrom 0 args) HL (EndsK fn.results K)) : ∃ n vs h, callOf Γ (ev Γ n) f args HL = some (vs, h) ∧ K vs h := by
  obtain ⟨n, ⟨x, e, hh⟩, h1, h2⟩ := h
  have fin : (x ≠ .ret → x = .nrm) ∧ ∃ vs, mapO (RV.get e hh) fn.results = some vs ∧ K vs hh := by
    cases x
    · rw [EndsK, optP_iff] at h2
      exact ⟨fun _ => rfl, h2⟩
      simp
    · exact h2.elim
    · rw [EndsK, optP_iff] at h2
      exact ⟨fun h => absurd rfl h, h2⟩
      simp
  obtain ⟨hx, vs, h3, h4⟩ := fin
  refine ⟨n, vs, hh, ?_, h4⟩
  unfold callOf
  rw [hf, initEnv_eq]
  simp only [hl, if_true, h1]
  cases x
  · simp only [h3]
  · simp at hx
  · simp only [h3]
theorem tidy_fresh {sz : Nat} {xs : List PV} : tidy 0 ([.own 0 xs.length], [.row false sz xs]) = some ([.own 0 xs.length], [.row false sz xs]) := rfl
theorem resM_fresh {Γ : Ctx} {f : Nat} {g} {ps : List PV} {sz : Nat} {xs : List PV} (hf : Γ.fn f = some (.fresh g)) (h : g ps = some (sz, xs)) (h0 : 0 < sz) (hl : xs.length ≤ 1073741824) :
    resM Γ 0 f (ps.map .p) [] = some ([.own 0 xs.length], [.row false sz xs]) := by
  refine resM_of ⟨0, ([.own 0 xs.length], [.row false sz xs]), ?_, tidy_fresh⟩
  unfold callOf
  rw [hf]
  simp only [pures_map, h]
  rw [if_pos ⟨h0, by simp only [lim]; exact hl⟩]
  rfl
theorem isEmpty_nil {α : Type} : ([] : List α).isEmpty = true := rfl
theorem isEmpty_cons {α : Type} {a : α} {l : List α} : (a :: l).isEmpty = false := rfl
theorem range_0 : List.range 0 = [] := rfl
theorem range_1 : List.range 1 = [0] := rfl
theorem range_2 : List.range 2 = [0, 1] := rfl
theorem range_3 : List.range 3 = [0, 1, 2] := rfl
theorem range_4 : List.range 4 = [0, 1, 2, 3] := rfl
theorem range_5 : List.range 5 = [0, 1, 2, 3, 4] := rfl
theorem range_6 : List.range 6 = [0, 1, 2, 3, 4, 5] := rfl
theorem brefs_row {f sz xs} : Blk.refs (.row f sz xs) = [] := rfl
theorem brefs_dead : Blk.refs .dead = [] := rfl
theorem brefs_map {cs : List PV} : Blk.refs (.box (cs.map .p)) = [] := refsAt_map (cs := cs)
theorem brefs_box {cs : List AV} : Blk.refs (.box cs) = cs.flatMap AV.refs := rfl
theorem refsAt_dead : refsAt (some .dead) = [] := rfl
theorem ren_dead {p} : Blk.ren p .dead = some .dead := rfl
theorem flatMap_nil {α β : Type} {f : α → List β} : [].flatMap f = [] := rfl
attribute [go_sem low] brefs_box
attribute [go_sem] L_calls cmA_some cmB_eq cmC_some cmD_some jbB_some resX_some putBack_nil putBack_cons backTo_eq btK_t btK_f trees_eq tzA_eq tzB_some kill_nil kill_cons killK_some killB_row killB_box killB_dead
  L_fbox fbox_K fbK_some L_callz czA_some czB_some czC_some L_bslicef bslf_some bsfK_some tidy_eq tdA_eq tdB_some EndsM_nrm EndsM_ret endM_some isEmpty_nil isEmpty_cons range_0 range_1 range_2 range_3 range_4 range_5 range_6 brefs_row brefs_dead brefs_map refsAt_dead ren_dead
  List.take_succ_cons List.take_zero List.drop_succ_cons List.drop_zero
end Ab
namespace Ab
open Go (IntKind BinOp UnOp)
def refs2 : AV → List Nat
  | .own id _ | .bx id _ | .el id _ _ _ => [id]
  | .agg cs | .tup cs | .clo _ cs => cs.flatMap fun
    | .own id _ | .bx id _ | .el id _ _ _ => [id]
    | _ => []
  | _ => []
theorem refs_agg {cs : List AV} : AV.refs (.agg cs) = cs.flatMap refs2 := by
  simp only [AV.refs]; rfl
theorem refs_tup {cs : List AV} : AV.refs (.tup cs) = cs.flatMap refs2 := by
  simp only [AV.refs]; rfl
theorem refs_clo {f : Nat} {cs : List AV} : AV.refs (.clo f cs) = cs.flatMap refs2 := by
  simp only [AV.refs]; rfl
theorem refs2_p {v} : refs2 (.p v) = [] := rfl
theorem refs2_own {id n} : refs2 (.own id n) = [id] := rfl
theorem refs2_bx {id n} : refs2 (.bx id n) = [id] := rfl
theorem refs2_el {id n i o} : refs2 (.el id n i o) = [id] := rfl
attribute [go_sem] refs_agg refs_tup refs_clo refs2_p refs2_own refs2_bx refs2_el
theorem app_tight {H sz x xs y ys} (hm : (x :: xs).length + (y :: ys).length ≤ 1073741824) : appendA H sz (.p (.sl .tight sz (x :: xs))) (y :: ys) = some (.own H.length (x :: xs ++ y :: ys).length, H ++ [.row false sz (x :: xs ++ y :: ys)]) := by
  simp only [appendA]
  rw [if_pos ⟨.inr ⟨trivial, trivial⟩, by simp only [List.length_append, lim]; omega⟩]
attribute [go_sem] app_tight vpv_nil
end Ab
