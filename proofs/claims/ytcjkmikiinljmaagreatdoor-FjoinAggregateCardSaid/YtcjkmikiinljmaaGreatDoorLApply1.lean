import Derived.Test.YtcjkmikiinljmaaGreatDoorAbPrim
import Derived.Test.YtcjkmikiinljmaaGreatDoorPSer
import Derived.Test.YtcjkmikiinljmaaGreatDoorLJoin2
import Derived.Test.YtcjkmikiinljmaaGreatDoorLLen
import Derived.Test.YtcjkmikiinljmaaGreatDoorLPlace
import Derived.Test.YtcjkmikiinljmaaGreatDoorLBuck2
namespace Ab
def trimN (s : List UInt8) : Nat → List UInt8
  | 0 => []
  | n + 1 => if s.getD n 0 = 48 then trimN s n else s.take (n + 1)
def trimB (s : List UInt8) : List UInt8 := trimN s s.length
def fracB (f : Nat) : List UInt8 := if f = 0 then [] else 46 :: trimB ((decB (1000000 + f)).drop 1)
def printB (v : Val) : List UInt8 :=
  if knV v = true then (if v.2 < 0 then [45] else []) ++ (decB (v.2.natAbs / 1000000) ++ fracB (v.2.natAbs % 1000000)) else [78, 111, 110, 101]
theorem trimN_len (s : List UInt8) : ∀ n, n ≤ s.length → (trimN s n).length ≤ n
  | 0, _ => by simp [trimN]
  | n + 1, h => by
    unfold trimN
    split
    · have := trimN_len s n (by omega); omega
    · rw [List.length_take]; omega
end Ab
namespace Ab
open Go (IntKind BinOp UnOp)
def chD (x : Nat) : UInt8 := UInt8.ofNat (48 + x)
theorem chD_ne {x : Nat} (h : x < 10) (h0 : x ≠ 0) : chD x ≠ 48 := by
  have : x = 1 ∨ x = 2 ∨ x = 3 ∨ x = 4 ∨ x = 5 ∨ x = 6 ∨ x = 7 ∨ x = 8 ∨ x = 9 := by omega
  rcases this with rfl | rfl | rfl | rfl | rfl | rfl | rfl | rfl | rfl <;> decide
theorem frac_digits {f : Nat} (h : f < 1000000) : (decB (1000000 + f)).drop 1 = [chD (f / 100000), chD (f / 10000 % 10), chD (f / 1000 % 10), chD (f / 100 % 10), chD (f / 10 % 10), chD (f % 10)] := by
  rw [decB_more (by omega), decB_more (by omega), decB_more (by omega), decB_more (by omega), decB_more (by omega), decB_more (by omega), decB_small (by omega)]
  simp only [List.cons_append, List.nil_append, List.drop_succ_cons, List.drop_zero]
  unfold chD
  have e1 : (1000000 + f) / 10 / 10 / 10 / 10 / 10 % 10 = f / 100000 := by omega
  have e2 : (1000000 + f) / 10 / 10 / 10 / 10 % 10 = f / 10000 % 10 := by omega
  have e3 : (1000000 + f) / 10 / 10 / 10 % 10 = f / 1000 % 10 := by omega
  have e4 : (1000000 + f) / 10 / 10 % 10 = f / 100 % 10 := by omega
  have e5 : (1000000 + f) / 10 % 10 = f / 10 % 10 := by omega
  have e6 : (1000000 + f) % 10 = f % 10 := by omega
  rw [e1, e2, e3, e4, e5, e6]
theorem trim_ne {s : List UInt8} : ∀ {n j : Nat}, j < n → n ≤ s.length → s.getD j 0 ≠ 48 → trimN s n ≠ []
  | 0, _, h, _, _ => absurd h (by omega)
  | n + 1, j, hj, hn, h => by
    unfold trimN
    by_cases hb : s.getD n 0 = 48
    · rw [if_pos hb]
      have : j ≠ n := fun e => h (e ▸ hb)
      exact trim_ne (by omega) (by omega) h
    · rw [if_neg hb]
      intro e
      have := congrArg List.length e
      rw [List.length_take, List.length_nil] at this
      omega
theorem frac_trim {f : Nat} (h : f < 1000000) (h0 : f ≠ 0) : trimB ((decB (1000000 + f)).drop 1) ≠ [] := by
  unfold trimB
  rw [frac_digits h]
  have key : ∀ j, j < 6 → ([chD (f / 100000), chD (f / 10000 % 10), chD (f / 1000 % 10), chD (f / 100 % 10), chD (f / 10 % 10), chD (f % 10)] : List UInt8).getD j 0 ≠ 48 → trimN [chD (f / 100000), chD (f / 10000 % 10), chD (f / 1000 % 10), chD (f / 100 % 10), chD (f / 10 % 10), chD (f % 10)] 6 ≠ [] :=
    fun j hj hne => trim_ne hj (by simp) hne
  by_cases c0 : f % 10 = 0
  · by_cases c1 : f / 10 % 10 = 0
    · by_cases c2 : f / 100 % 10 = 0
      · by_cases c3 : f / 1000 % 10 = 0
        · by_cases c4 : f / 10000 % 10 = 0
          · exact key 0 (by omega) (chD_ne (by omega) (by omega))
          · exact key 1 (by omega) (chD_ne (by omega) c4)
        · exact key 2 (by omega) (chD_ne (by omega) c3)
      · exact key 3 (by omega) (chD_ne (by omega) c2)
    · exact key 4 (by omega) (chD_ne (by omega) c1)
  · exact key 5 (by omega) (chD_ne (by omega) c0)
theorem byt_take {s : List UInt8} {n m : Nat} (h : m < n) : byt (s.take n) m = byt s m := by
  unfold byt
  rw [List.getD_eq_getElem?_getD, List.getElem?_take, if_pos h, List.getD_eq_getElem?_getD]
theorem byt48 {s : List UInt8} {i : Nat} : byt s i = 48 ↔ s.getD i 0 = 48 := by
  unfold byt
  have e : (48 : Int) = ((48 : UInt8).toNat : Int) := rfl
  rw [e]
  exact ⟨fun h => UInt8.toNat_inj.1 (by omega), fun h => by rw [h]⟩
theorem r2Print_l1_ok (H : Heap) (a : AV) (s : List UInt8) (hs : s.length ≤ 1000) (Q : Out → Prop) : ∀ n : Nat, n ≤ s.length → trimN s n ≠ [] → Q (.nrm, [(3, a), (6, .p (.str (trimN s n)))], H) →
    Wp Γ r2_Print_l1 [(3, a), (6, .p (.str (s.take n)))] H (InBlk [3, 6] 0 Q) := by
  intro n
  induction n with
  | zero => exact fun _ h => absurd rfl h
  | succ n ih =>
    intro hn ht hQ
    have hl : (s.take (n + 1)).length = n + 1 := by rw [List.length_take]; omega
    have ei : ((n + 1 : Nat) : Int) - 1 = (n : Int) := by omega
    have eb := byt_take (s := s) (n := n + 1) (m := n) (by omega)
    have et : (s.take (n + 1)).take n = s.take n := by rw [List.take_take, Nat.min_eq_left (by omega)]
    unfold trimN at ht hQ
    by_cases hb : byt s n = 48
    · rw [if_pos (byt48.1 hb)] at ht hQ
      rw [W_loop (L := r2_Print_l1) rfl]
      simp (disch := first | assumption | omega | decide | (simp only [List.length_cons, List.length_nil, List.length_append, List.length_replicate, List.length_map, List.length_set, List.length_take, List.length_drop, strs_len, ints_len, bools_len, aggs_len, vpv_len]; done) | (simp only [List.length_cons, List.length_nil, List.length_append, List.length_replicate, List.length_map, List.length_set, List.length_take, List.length_drop, strs_len, ints_len, bools_len, aggs_len, vpv_len]; omega)) only [go_sem, hl, ei, eb, hb, et]
      exact ih (by omega) ht hQ
    · rw [if_neg (fun h => hb (byt48.2 h))] at ht hQ
      rw [W_loop (L := r2_Print_l1) rfl]
      simp (disch := first | assumption | omega | decide | (simp only [List.length_cons, List.length_nil, List.length_append, List.length_replicate, List.length_map, List.length_set, List.length_take, List.length_drop, strs_len, ints_len, bools_len, aggs_len, vpv_len]; done) | (simp only [List.length_cons, List.length_nil, List.length_append, List.length_replicate, List.length_map, List.length_set, List.length_take, List.length_drop, strs_len, ints_len, bools_len, aggs_len, vpv_len]; omega)) only [go_sem, hl, ei, eb]
      exact hQ
theorem trimR_l1_ok (s : List UInt8) (hs : s.length ≤ 1000) (Q : Out → Prop) : ∀ n : Nat, n ≤ s.length → Q (.nrm, [(0, .p (.str (trimN s n)))], []) →
    Wp Γ strings_trimRightByte_l1 [(0, .p (.str (s.take n))), (1, .p (.int .u8 48))] [] (InBlk [0] 0 Q) := by
  intro n
  induction n with
  | zero =>
    intro _ hQ
    rw [List.take_zero]
    rw [W_loop (L := strings_trimRightByte_l1) rfl]
    simp (disch := first | assumption | omega | decide | (simp only [List.length_cons, List.length_nil, List.length_append, List.length_replicate, List.length_map, List.length_set, List.length_take, List.length_drop, strs_len, ints_len, bools_len, aggs_len, vpv_len]; done) | (simp only [List.length_cons, List.length_nil, List.length_append, List.length_replicate, List.length_map, List.length_set, List.length_take, List.length_drop, strs_len, ints_len, bools_len, aggs_len, vpv_len]; omega)) only [go_sem]
    exact hQ
  | succ n ih =>
    intro hn hQ
    have hl : (s.take (n + 1)).length = n + 1 := by rw [List.length_take]; omega
    have ei : ((n + 1 : Nat) : Int) - 1 = (n : Int) := by omega
    have eb := byt_take (s := s) (n := n + 1) (m := n) (by omega)
    have et : (s.take (n + 1)).take n = s.take n := by rw [List.take_take, Nat.min_eq_left (by omega)]
    unfold trimN at hQ
    by_cases hb : byt s n = 48
    · rw [if_pos (byt48.1 hb)] at hQ
      rw [W_loop (L := strings_trimRightByte_l1) rfl]
      simp (disch := first | assumption | omega | decide | (simp only [List.length_cons, List.length_nil, List.length_append, List.length_replicate, List.length_map, List.length_set, List.length_take, List.length_drop, strs_len, ints_len, bools_len, aggs_len, vpv_len]; done) | (simp only [List.length_cons, List.length_nil, List.length_append, List.length_replicate, List.length_map, List.length_set, List.length_take, List.length_drop, strs_len, ints_len, bools_len, aggs_len, vpv_len]; omega)) only [go_sem, hl, ei, eb, hb, et]
      exact ih (by omega) hQ
    · rw [if_neg (fun h => hb (byt48.2 h))] at hQ
      rw [W_loop (L := strings_trimRightByte_l1) rfl]
      simp (disch := first | assumption | omega | decide | (simp only [List.length_cons, List.length_nil, List.length_append, List.length_replicate, List.length_map, List.length_set, List.length_take, List.length_drop, strs_len, ints_len, bools_len, aggs_len, vpv_len]; done) | (simp only [List.length_cons, List.length_nil, List.length_append, List.length_replicate, List.length_map, List.length_set, List.length_take, List.length_drop, strs_len, ints_len, bools_len, aggs_len, vpv_len]; omega)) only [go_sem, hl, ei, eb]
      exact hQ
theorem res_trimRightByte (s : List UInt8) (hs : s.length ≤ 1000) : res Γ 266 [.str s, .int .u8 48] = some [.str (trimB s)] := by
  have e : s.take s.length = s := List.take_length
  have L := fun Q => trimR_l1_ok s hs Q s.length (Nat.le_refl _)
  rw [e] at L
  refine res_code (fn := strings_trimRightByte) rfl rfl ?_
  simp (disch := first | assumption | omega | decide | (simp only [List.length_cons, List.length_nil, List.length_append, List.length_replicate, List.length_map, List.length_set, List.length_take, List.length_drop, strs_len, ints_len, bools_len, aggs_len, vpv_len]; done) | (simp only [List.length_cons, List.length_nil, List.length_append, List.length_replicate, List.length_map, List.length_set, List.length_take, List.length_drop, strs_len, ints_len, bools_len, aggs_len, vpv_len]; omega)) only [go_sem, strings_trimRightByte]
  refine L _ ?_
  simp (disch := first | assumption | omega | decide | (simp only [List.length_cons, List.length_nil, List.length_append, List.length_replicate, List.length_map, List.length_set, List.length_take, List.length_drop, strs_len, ints_len, bools_len, aggs_len, vpv_len]; done) | (simp only [List.length_cons, List.length_nil, List.length_append, List.length_replicate, List.length_map, List.length_set, List.length_take, List.length_drop, strs_len, ints_len, bools_len, aggs_len, vpv_len]; omega)) only [go_sem, trimB]
theorem res_TrimRight0 (s : List UInt8) (hs : s.length ≤ 1000) : res Γ 240 [.str s, .str [48]] = some [.str (trimB s)] := by
  have e := res_trimRightByte s hs
  have eb : byt [48] 0 = 48 := rfl
  refine res_code (fn := strings_TrimRight) rfl rfl ?_
  by_cases h : s = []
  · subst h
    simp (disch := first | assumption | omega | decide | (simp only [List.length_cons, List.length_nil, List.length_append, List.length_replicate, List.length_map, List.length_set, List.length_take, List.length_drop, strs_len, ints_len, bools_len, aggs_len, vpv_len]; done) | (simp only [List.length_cons, List.length_nil, List.length_append, List.length_replicate, List.length_map, List.length_set, List.length_take, List.length_drop, strs_len, ints_len, bools_len, aggs_len, vpv_len]; omega)) only [go_sem, strings_TrimRight]
    rfl
  · simp (disch := first | assumption | omega | decide | (simp only [List.length_cons, List.length_nil, List.length_append, List.length_replicate, List.length_map, List.length_set, List.length_take, List.length_drop, strs_len, ints_len, bools_len, aggs_len, vpv_len]; done) | (simp only [List.length_cons, List.length_nil, List.length_append, List.length_replicate, List.length_map, List.length_set, List.length_take, List.length_drop, strs_len, ints_len, bools_len, aggs_len, vpv_len]; omega)) only [go_sem, strings_TrimRight, eb, e]
theorem decB_len20 {u : Nat} (h : u < 9223372036854775808) : (decB u).length ≤ 20 := decB_len 19 u (by omega)
theorem knV_false {b : Bool} {n : Int} (h : knV (b, n) = false) : b = false ∨ isV (b, n) = false := by
  unfold knV at h
  rwa [Bool.and_eq_false_iff] at h
theorem res_decPrint (b : Bool) (n : Int) : res Γ 228 [.agg [.bool b, .int .i64 n]] = some [.str (printB (b, n))] := by
  have eI := res_fixedIs b n
  unfold printB
  cases hk : knV (b, n)
  · rw [if_neg (by decide)]
    rcases knV_false hk with rfl | h
    · refine res_code (fn := dec_Print) rfl rfl ?_
      simp (disch := first | assumption | omega | decide | (simp only [List.length_cons, List.length_nil, List.length_append, List.length_replicate, List.length_map, List.length_set, List.length_take, List.length_drop, strs_len, ints_len, bools_len, aggs_len, vpv_len]; done) | (simp only [List.length_cons, List.length_nil, List.length_append, List.length_replicate, List.length_map, List.length_set, List.length_take, List.length_drop, strs_len, ints_len, bools_len, aggs_len, vpv_len]; omega)) only [go_sem, dec_Print]
    · rw [h] at eI
      cases b
      · refine res_code (fn := dec_Print) rfl rfl ?_
        simp (disch := first | assumption | omega | decide | (simp only [List.length_cons, List.length_nil, List.length_append, List.length_replicate, List.length_map, List.length_set, List.length_take, List.length_drop, strs_len, ints_len, bools_len, aggs_len, vpv_len]; done) | (simp only [List.length_cons, List.length_nil, List.length_append, List.length_replicate, List.length_map, List.length_set, List.length_take, List.length_drop, strs_len, ints_len, bools_len, aggs_len, vpv_len]; omega)) only [go_sem, dec_Print]
      · refine res_code (fn := dec_Print) rfl rfl ?_
        simp (disch := first | assumption | omega | decide | (simp only [List.length_cons, List.length_nil, List.length_append, List.length_replicate, List.length_map, List.length_set, List.length_take, List.length_drop, strs_len, ints_len, bools_len, aggs_len, vpv_len]; done) | (simp only [List.length_cons, List.length_nil, List.length_append, List.length_replicate, List.length_map, List.length_set, List.length_take, List.length_drop, strs_len, ints_len, bools_len, aggs_len, vpv_len]; omega)) only [go_sem, dec_Print, eI]
  · rw [if_pos rfl]
    have hb := knV_bound hk
    have hI : b = true ∧ isV (b, n) = true := by unfold knV at hk; simpa using hk
    obtain ⟨rfl, hI⟩ := hI
    rw [hI] at eI
    dsimp only at hb ⊢
    have main : ∀ (m : Nat) (sg : List UInt8), m ≤ 4611686018427387904 → sg.length ≤ 1 →
        let q := m / 1000000
        let f := m % 1000000
        (m : Int) / 1000000 = (q : Int) ∧ (m : Int) % 1000000 = (f : Int) ∧ f < 1000000 ∧ q < 9223372036854775808 ∧ (decB q).length ≤ 20 ∧ (decB (1000000 + f)).length ≤ 20 ∧ 0 < (decB (1000000 + f)).length := by
      intro m sg hm hsg q f
      have hq : q ≤ 4611686018427387904 := Nat.le_trans (Nat.div_le_self _ _) hm
      refine ⟨by omega, by omega, by omega, by omega, decB_len20 (by omega), decB_len20 (by omega), ?_⟩
      rw [decB_more (by omega), List.length_append]; simp
    by_cases hneg : n < 0
    · obtain ⟨m, hm⟩ : ∃ m : Nat, -n = (m : Int) := ⟨n.natAbs, by omega⟩
      have ha : n.natAbs = m := by omega
      have eneg : 0 - n = (m : Int) := by omega
      obtain ⟨q1, q2, q3, q4, q5, q6, q7⟩ := main m [45] (by omega) (by simp)
      rw [ha, if_pos hneg]
      generalize m / 1000000 = q at *
      generalize m % 1000000 = f at *
      have eD := res_decDigits q q4
      have eF : res Γ 105 [.int .i64 (1000000 + (f : Int))] = some [.str (decB (1000000 + f))] := res_decDigits (1000000 + f) (by omega)
      have eT := res_TrimRight0 ((decB (1000000 + f)).drop 1) (by rw [List.length_drop]; omega)
      have tl : (trimB ((decB (1000000 + f)).drop 1)).length ≤ 20 := by
        have := trimN_len ((decB (1000000 + f)).drop 1) _ (Nat.le_refl _)
        rw [List.length_drop] at this
        unfold trimB
        rw [List.length_drop]; omega
      unfold fracB
      by_cases hf : f = 0
      · subst hf
        rw [if_pos rfl]
        refine res_code (fn := dec_Print) rfl rfl ?_
        simp (disch := first | assumption | omega | decide | (simp only [List.length_cons, List.length_nil, List.length_append, List.length_replicate, List.length_map, List.length_set, List.length_take, List.length_drop, strs_len, ints_len, bools_len, aggs_len, vpv_len]; done) | (simp only [List.length_cons, List.length_nil, List.length_append, List.length_replicate, List.length_map, List.length_set, List.length_take, List.length_drop, strs_len, ints_len, bools_len, aggs_len, vpv_len]; omega)) only [go_sem, dec_Print, eI, eneg, map_quoI, map_remI, q1, q2, eD, ne_eq]
      · rw [if_neg hf]
        refine res_code (fn := dec_Print) rfl rfl ?_
        simp (disch := first | assumption | omega | decide | (simp only [List.length_cons, List.length_nil, List.length_append, List.length_replicate, List.length_map, List.length_set, List.length_take, List.length_drop, strs_len, ints_len, bools_len, aggs_len, vpv_len]; done) | (simp only [List.length_cons, List.length_nil, List.length_append, List.length_replicate, List.length_map, List.length_set, List.length_take, List.length_drop, strs_len, ints_len, bools_len, aggs_len, vpv_len]; omega)) only [go_sem, dec_Print, eI, eneg, map_quoI, map_remI, q1, q2, eD, eF, eT]
    · obtain ⟨m, hm⟩ : ∃ m : Nat, n = (m : Int) := ⟨n.natAbs, by omega⟩
      subst hm
      have ha : ((m : Int)).natAbs = m := by omega
      obtain ⟨q1, q2, q3, q4, q5, q6, q7⟩ := main m [] (by omega) (by simp)
      rw [ha, if_neg hneg]
      generalize m / 1000000 = q at *
      generalize m % 1000000 = f at *
      have eD := res_decDigits q q4
      have eF : res Γ 105 [.int .i64 (1000000 + (f : Int))] = some [.str (decB (1000000 + f))] := res_decDigits (1000000 + f) (by omega)
      have eT := res_TrimRight0 ((decB (1000000 + f)).drop 1) (by rw [List.length_drop]; omega)
      have tl : (trimB ((decB (1000000 + f)).drop 1)).length ≤ 20 := by
        have := trimN_len ((decB (1000000 + f)).drop 1) _ (Nat.le_refl _)
        rw [List.length_drop] at this
        unfold trimB
        rw [List.length_drop]; omega
      unfold fracB
      by_cases hf : f = 0
      · subst hf
        rw [if_pos rfl]
        refine res_code (fn := dec_Print) rfl rfl ?_
        simp (disch := first | assumption | omega | decide | (simp only [List.length_cons, List.length_nil, List.length_append, List.length_replicate, List.length_map, List.length_set, List.length_take, List.length_drop, strs_len, ints_len, bools_len, aggs_len, vpv_len]; done) | (simp only [List.length_cons, List.length_nil, List.length_append, List.length_replicate, List.length_map, List.length_set, List.length_take, List.length_drop, strs_len, ints_len, bools_len, aggs_len, vpv_len]; omega)) only [go_sem, dec_Print, eI, map_quoI, map_remI, q1, q2, eD, ne_eq]
      · rw [if_neg hf]
        refine res_code (fn := dec_Print) rfl rfl ?_
        simp (disch := first | assumption | omega | decide | (simp only [List.length_cons, List.length_nil, List.length_append, List.length_replicate, List.length_map, List.length_set, List.length_take, List.length_drop, strs_len, ints_len, bools_len, aggs_len, vpv_len]; done) | (simp only [List.length_cons, List.length_nil, List.length_append, List.length_replicate, List.length_map, List.length_set, List.length_take, List.length_drop, strs_len, ints_len, bools_len, aggs_len, vpv_len]; omega)) only [go_sem, dec_Print, eI, map_quoI, map_remI, q1, q2, eD, eF, eT]
theorem res_r2Print (b : Bool) (n : Int) : res Γ 237 [.agg [.bool b, .int .i64 n]] = some [.str (printB (b, n))] := by
  have eI := res_r1Known b n
  unfold printB
  cases hk : knV (b, n)
  · rw [if_neg (by decide)]
    rw [hk] at eI
    refine res_code (fn := r2_Print) rfl rfl ?_
    simp (disch := first | assumption | omega | decide | (simp only [List.length_cons, List.length_nil, List.length_append, List.length_replicate, List.length_map, List.length_set, List.length_take, List.length_drop, strs_len, ints_len, bools_len, aggs_len, vpv_len]; done) | (simp only [List.length_cons, List.length_nil, List.length_append, List.length_replicate, List.length_map, List.length_set, List.length_take, List.length_drop, strs_len, ints_len, bools_len, aggs_len, vpv_len]; omega)) only [go_sem, r2_Print, eI]
  · rw [if_pos rfl]
    have hb := knV_bound hk
    have hI : b = true ∧ isV (b, n) = true := by unfold knV at hk; simpa using hk
    obtain ⟨rfl, hI⟩ := hI
    rw [hk] at eI
    dsimp only at hb ⊢
    have main : ∀ (m : Nat) (sg : List UInt8), m ≤ 4611686018427387904 → sg.length ≤ 1 →
        let q := m / 1000000
        let f := m % 1000000
        (m : Int) / 1000000 = (q : Int) ∧ (m : Int) % 1000000 = (f : Int) ∧ f < 1000000 ∧ q < 9223372036854775808 ∧ (decB q).length ≤ 20 ∧ (decB (1000000 + f)).length ≤ 20 ∧ 0 < (decB (1000000 + f)).length := by
      intro m sg hm hsg q f
      have hq : q ≤ 4611686018427387904 := Nat.le_trans (Nat.div_le_self _ _) hm
      refine ⟨by omega, by omega, by omega, by omega, decB_len20 (by omega), decB_len20 (by omega), ?_⟩
      rw [decB_more (by omega), List.length_append]; simp
    by_cases hneg : n < 0
    · obtain ⟨m, hm⟩ : ∃ m : Nat, -n = (m : Int) := ⟨n.natAbs, by omega⟩
      have ha : n.natAbs = m := by omega
      have eneg : 0 - n = (m : Int) := by omega
      obtain ⟨q1, q2, q3, q4, q5, q6, q7⟩ := main m [45] (by omega) (by simp)
      rw [ha, if_pos hneg]
      generalize m / 1000000 = q at *
      generalize m % 1000000 = f at *
      have eD := res_r2Digits q q4
      have eF : res Γ 107 [.int .i64 (1000000 + (f : Int))] = some [.str (decB (1000000 + f))] := res_r2Digits (1000000 + f) (by omega)
      have dl : ((decB (1000000 + f)).drop 1).length ≤ 1000 := by rw [List.length_drop]; omega
      have dt : ((decB (1000000 + f)).drop 1).take ((decB (1000000 + f)).drop 1).length = (decB (1000000 + f)).drop 1 := List.take_length
      have eT := fun H a Q => r2Print_l1_ok H a ((decB (1000000 + f)).drop 1) dl Q _ (Nat.le_refl _)
      rw [dt] at eT
      have tl : (trimB ((decB (1000000 + f)).drop 1)).length ≤ 20 := by
        have := trimN_len ((decB (1000000 + f)).drop 1) _ (Nat.le_refl _)
        rw [List.length_drop] at this
        unfold trimB
        rw [List.length_drop]; omega
      unfold fracB
      by_cases hf : f = 0
      · subst hf
        rw [if_pos rfl]
        refine res_code (fn := r2_Print) rfl rfl ?_
        simp (disch := first | assumption | omega | decide | (simp only [List.length_cons, List.length_nil, List.length_append, List.length_replicate, List.length_map, List.length_set, List.length_take, List.length_drop, strs_len, ints_len, bools_len, aggs_len, vpv_len]; done) | (simp only [List.length_cons, List.length_nil, List.length_append, List.length_replicate, List.length_map, List.length_set, List.length_take, List.length_drop, strs_len, ints_len, bools_len, aggs_len, vpv_len]; omega)) only [go_sem, r2_Print, eI, eneg, map_quoI, map_remI, q1, q2, eD]
      · rw [if_neg hf]
        refine res_code (fn := r2_Print) rfl rfl ?_
        simp (disch := first | assumption | omega | decide | (simp only [List.length_cons, List.length_nil, List.length_append, List.length_replicate, List.length_map, List.length_set, List.length_take, List.length_drop, strs_len, ints_len, bools_len, aggs_len, vpv_len]; done) | (simp only [List.length_cons, List.length_nil, List.length_append, List.length_replicate, List.length_map, List.length_set, List.length_take, List.length_drop, strs_len, ints_len, bools_len, aggs_len, vpv_len]; omega)) only [go_sem, r2_Print, eI, eneg, map_quoI, map_remI, q1, q2, eD, eF]
        refine eT _ _ _ (frac_trim q3 hf) ?_
        have et : trimN ((decB (1000000 + f)).drop 1) ((decB (1000000 + f)).drop 1).length = trimB ((decB (1000000 + f)).drop 1) := rfl
        rw [et]
        simp (disch := first | assumption | omega | decide | (simp only [List.length_cons, List.length_nil, List.length_append, List.length_replicate, List.length_map, List.length_set, List.length_take, List.length_drop, strs_len, ints_len, bools_len, aggs_len, vpv_len]; done) | (simp only [List.length_cons, List.length_nil, List.length_append, List.length_replicate, List.length_map, List.length_set, List.length_take, List.length_drop, strs_len, ints_len, bools_len, aggs_len, vpv_len]; omega)) only [go_sem]
    · obtain ⟨m, hm⟩ : ∃ m : Nat, n = (m : Int) := ⟨n.natAbs, by omega⟩
      subst hm
      have ha : ((m : Int)).natAbs = m := by omega
      obtain ⟨q1, q2, q3, q4, q5, q6, q7⟩ := main m [] (by omega) (by simp)
      rw [ha, if_neg hneg]
      generalize m / 1000000 = q at *
      generalize m % 1000000 = f at *
      have eD := res_r2Digits q q4
      have eF : res Γ 107 [.int .i64 (1000000 + (f : Int))] = some [.str (decB (1000000 + f))] := res_r2Digits (1000000 + f) (by omega)
      have dl : ((decB (1000000 + f)).drop 1).length ≤ 1000 := by rw [List.length_drop]; omega
      have dt : ((decB (1000000 + f)).drop 1).take ((decB (1000000 + f)).drop 1).length = (decB (1000000 + f)).drop 1 := List.take_length
      have eT := fun H a Q => r2Print_l1_ok H a ((decB (1000000 + f)).drop 1) dl Q _ (Nat.le_refl _)
      rw [dt] at eT
      have tl : (trimB ((decB (1000000 + f)).drop 1)).length ≤ 20 := by
        have := trimN_len ((decB (1000000 + f)).drop 1) _ (Nat.le_refl _)
        rw [List.length_drop] at this
        unfold trimB
        rw [List.length_drop]; omega
      unfold fracB
      by_cases hf : f = 0
      · subst hf
        rw [if_pos rfl]
        refine res_code (fn := r2_Print) rfl rfl ?_
        simp (disch := first | assumption | omega | decide | (simp only [List.length_cons, List.length_nil, List.length_append, List.length_replicate, List.length_map, List.length_set, List.length_take, List.length_drop, strs_len, ints_len, bools_len, aggs_len, vpv_len]; done) | (simp only [List.length_cons, List.length_nil, List.length_append, List.length_replicate, List.length_map, List.length_set, List.length_take, List.length_drop, strs_len, ints_len, bools_len, aggs_len, vpv_len]; omega)) only [go_sem, r2_Print, eI, map_quoI, map_remI, q1, q2, eD]
      · rw [if_neg hf]
        refine res_code (fn := r2_Print) rfl rfl ?_
        simp (disch := first | assumption | omega | decide | (simp only [List.length_cons, List.length_nil, List.length_append, List.length_replicate, List.length_map, List.length_set, List.length_take, List.length_drop, strs_len, ints_len, bools_len, aggs_len, vpv_len]; done) | (simp only [List.length_cons, List.length_nil, List.length_append, List.length_replicate, List.length_map, List.length_set, List.length_take, List.length_drop, strs_len, ints_len, bools_len, aggs_len, vpv_len]; omega)) only [go_sem, r2_Print, eI, map_quoI, map_remI, q1, q2, eD, eF]
        refine eT _ _ _ (frac_trim q3 hf) ?_
        have et : trimN ((decB (1000000 + f)).drop 1) ((decB (1000000 + f)).drop 1).length = trimB ((decB (1000000 + f)).drop 1) := rfl
        rw [et]
        simp (disch := first | assumption | omega | decide | (simp only [List.length_cons, List.length_nil, List.length_append, List.length_replicate, List.length_map, List.length_set, List.length_take, List.length_drop, strs_len, ints_len, bools_len, aggs_len, vpv_len]; done) | (simp only [List.length_cons, List.length_nil, List.length_append, List.length_replicate, List.length_map, List.length_set, List.length_take, List.length_drop, strs_len, ints_len, bools_len, aggs_len, vpv_len]; omega)) only [go_sem]
end Ab
namespace Ab
open Go (IntKind BinOp UnOp)
theorem ren_clo {r d f cs} : AV.ren r (d + 1) (.clo f cs) = (mapO (AV.ren r d) cs).map (.clo f) := rfl
attribute [go_sem] ren_clo
abbrev jC (a b : Int) (K : SK) (m : List (SK × Ser)) : List PV := [.str [], .int .i64 a, .int .i64 b, .sl .nil 2 [], .int .i64 0, .sl K 5 (sers m)]
theorem joinW_len {l : List (SK × Ser)} {b st n} : (joinW l b st n).length = l.length := by simp [joinW]
theorem joinW_get {l : List (SK × Ser)} {b : Int} {st n i : Nat} (h : i < l.length) : (joinW l b st n).getD i noSer = (fitK n, fitS (l.getD i noSer).2 b st n) := by
  unfold joinW
  rw [List.getD_eq_getElem?_getD, List.getElem?_map, List.getElem?_eq_getElem h, List.getD_eq_getElem?_getD, List.getElem?_eq_getElem h]
  rfl
abbrev bJ (l : List (SK × Ser)) : Int := begJ (sersOf l)
abbrev sJ (l : List (SK × Ser)) : Nat := stepJ (sersOf l)
abbrev nJ (l : List (SK × Ser)) : Nat := (manyJ (sersOf l)).toNat
theorem res_join_ok {kk : SK} (l : List (SK × Ser)) (hl : l.length ≤ 1000000) (hv : ∀ x ∈ l, x.2.vals.length ≤ 1000000) (h0 : l ≠ []) (he : errJ (sersOf l) = 0) : res Γ 229 [.sl kk 5 (sers l)] = some [.ptr (jC (bJ l) (sJ l) .any (joinW l (bJ l) (sJ l) (nJ l))), .int .i64 0] := by
  have e := res_seriesJoin (kk := kk) l hl hv
  unfold joinR at e
  rw [if_pos he, if_neg h0, joinJ_eq] at e
  have hpos : 0 < l.length := List.length_pos_iff.2 h0
  have hg := joinW_get (b := begJ (sersOf l)) (st := stepJ (sersOf l)) (n := (manyJ (sersOf l)).toNat) hpos
  have hlen := @joinW_len l (begJ (sersOf l)) (stepJ (sersOf l)) (manyJ (sersOf l)).toNat
  unfold bJ sJ nJ
  generalize joinW l (begJ (sersOf l)) (stepJ (sersOf l)) (manyJ (sersOf l)).toNat = m at *
  refine res_code (fn := fjoin_join) rfl rfl ?_
  simp (disch := first | assumption | omega | decide | (simp only [List.length_cons, List.length_nil, List.length_append, List.length_replicate, List.length_map, List.length_set, List.length_take, List.length_drop, strs_len, ints_len, bools_len, aggs_len, vpv_len]; done) | (simp only [List.length_cons, List.length_nil, List.length_append, List.length_replicate, List.length_map, List.length_set, List.length_take, List.length_drop, strs_len, ints_len, bools_len, aggs_len, vpv_len]; omega)) only [go_sem, fjoin_join, e, ne_eq, not_true_eq_false, hg, serC, fitS]
theorem res_join_nil {kk : SK} : res Γ 229 [.sl kk 5 []] = some [.ptr (jC 0 0 .nil []), .int .i64 0] := by
  have e : res Γ 254 [.sl kk 5 []] = some [.sl .nil 5 [], .int .i64 0] := res_seriesJoin (kk := kk) [] (by simp) (by simp)
  refine res_code (fn := fjoin_join) rfl rfl ?_
  simp (disch := first | assumption | omega | decide | (simp only [List.length_cons, List.length_nil, List.length_append, List.length_replicate, List.length_map, List.length_set, List.length_take, List.length_drop, strs_len, ints_len, bools_len, aggs_len, vpv_len]; done) | (simp only [List.length_cons, List.length_nil, List.length_append, List.length_replicate, List.length_map, List.length_set, List.length_take, List.length_drop, strs_len, ints_len, bools_len, aggs_len, vpv_len]; omega)) only [go_sem, fjoin_join, e, ne_eq, not_true_eq_false]
  rfl
theorem res_join_err {kk : SK} (l : List (SK × Ser)) (hl : l.length ≤ 1000000) (hv : ∀ x ∈ l, x.2.vals.length ≤ 1000000) (he : errJ (sersOf l) ≠ 0) : res Γ 229 [.sl kk 5 (sers l)] = some [.nilp, .int .i64 (errJ (sersOf l))] := by
  have e := res_seriesJoin (kk := kk) l hl hv
  unfold joinR at e
  rw [if_neg he] at e
  refine res_code (fn := fjoin_join) rfl rfl ?_
  simp (disch := first | assumption | omega | decide | (simp only [List.length_cons, List.length_nil, List.length_append, List.length_replicate, List.length_map, List.length_set, List.length_take, List.length_drop, strs_len, ints_len, bools_len, aggs_len, vpv_len]; done) | (simp only [List.length_cons, List.length_nil, List.length_append, List.length_replicate, List.length_map, List.length_set, List.length_take, List.length_drop, strs_len, ints_len, bools_len, aggs_len, vpv_len]; omega)) only [go_sem, fjoin_join, e]
theorem res_many {a b : Int} {K : SK} (m : List (SK × Ser)) : res Γ 239 [.ptr (jC a b K m)] = some [.int .i64 (if m = [] then 0 else ((m.getD 0 noSer).2.vals.length : Int))] := by
  by_cases h : m = []
  · subst h
    rw [if_pos rfl]
    refine res_code (fn := fjoin_joined_many) rfl rfl ?_
    simp (disch := first | assumption | omega | decide | (simp only [List.length_cons, List.length_nil, List.length_append, List.length_replicate, List.length_map, List.length_set, List.length_take, List.length_drop, strs_len, ints_len, bools_len, aggs_len, vpv_len]; done) | (simp only [List.length_cons, List.length_nil, List.length_append, List.length_replicate, List.length_map, List.length_set, List.length_take, List.length_drop, strs_len, ints_len, bools_len, aggs_len, vpv_len]; omega)) only [go_sem, fjoin_joined_many]
  · have hpos : 0 < m.length := List.length_pos_iff.2 h
    rw [if_neg h]
    refine res_code (fn := fjoin_joined_many) rfl rfl ?_
    simp (disch := first | assumption | omega | decide | (simp only [List.length_cons, List.length_nil, List.length_append, List.length_replicate, List.length_map, List.length_set, List.length_take, List.length_drop, strs_len, ints_len, bools_len, aggs_len, vpv_len]; done) | (simp only [List.length_cons, List.length_nil, List.length_append, List.length_replicate, List.length_map, List.length_set, List.length_take, List.length_drop, strs_len, ints_len, bools_len, aggs_len, vpv_len]; omega)) only [go_sem, fjoin_joined_many, serC]
theorem atV_snoc {m : List (SK × Ser)} {j i : Nat} (h : j < m.length) : atV (m.take (j + 1)) i = atV (m.take j) i ++ [(m.getD j noSer).2.vals.getD i (false, 0)] := by
  unfold atV
  rw [take_snoc' noSer h, List.map_append]; rfl
theorem atV_len {m : List (SK × Ser)} {i : Nat} : (atV m i).length = m.length := by simp [atV]
set_option maxRecDepth 10000 in
theorem known_l1_ok {k2 : SK} (m : List (SK × Ser)) (hm : m.length ≤ 1000000) (i : Nat) (hi : ∀ x ∈ m, i < x.2.vals.length) (hb : i < 1000000000) (Q : Out → Prop) (hQ : Q (.nrm, [(5, .own 0 m.length)], [.row false 2 (vpv (atV m i))])) : ∀ (n j : Nat) (R : Heap), j + n = m.length →
    Wp Γ fjoin_joined_known_l1 [(1, .p (.int .i64 (i : Int))), (5, .own 0 j), (11, .p (.sl k2 5 (sers m))), (12, .p (.int .i64 (m.length : Int))), (13, .p (.int .i64 (j : Int)))] (.row false 2 (vpv (atV (m.take j) i)) :: R) (InBlk [5] 0 Q) := by
  intro n
  induction n with
  | zero =>
    intro j R hj
    obtain rfl : j = m.length := by omega
    rw [List.take_length]
    rw [W_loop (L := fjoin_joined_known_l1) rfl]
    simp (disch := first | assumption | omega | decide | (simp only [List.length_cons, List.length_nil, List.length_append, List.length_replicate, List.length_map, List.length_set, List.length_take, List.length_drop, strs_len, ints_len, bools_len, aggs_len, vpv_len]; done) | (simp only [List.length_cons, List.length_nil, List.length_append, List.length_replicate, List.length_map, List.length_set, List.length_take, List.length_drop, strs_len, ints_len, bools_len, aggs_len, vpv_len]; omega)) only [go_sem]
    exact hQ
  | succ n ih =>
    intro j R hj
    have hlt : j < m.length := by omega
    have hmem := ser_mem hlt
    have ih := fun R => ih (j + 1) R (by omega)
    rw [atV_snoc hlt] at ih
    have hlen : (atV (m.take j) i).length = j := by rw [atV_len, List.length_take]; omega
    have hvl := hi _ hmem
    obtain ⟨x, hx⟩ : ∃ x, m.getD j noSer = x := ⟨_, rfl⟩
    rw [hx] at ih hvl
    rw [W_loop (L := fjoin_joined_known_l1) rfl]
    simp (disch := first | assumption | omega | decide | (simp only [List.length_cons, List.length_nil, List.length_append, List.length_replicate, List.length_map, List.length_set, List.length_take, List.length_drop, strs_len, ints_len, bools_len, aggs_len, vpv_len]; done) | (simp only [List.length_cons, List.length_nil, List.length_append, List.length_replicate, List.length_map, List.length_set, List.length_take, List.length_drop, strs_len, ints_len, bools_len, aggs_len, vpv_len]; omega)) only [go_sem, hx, serC, valP]
    exact ih _
theorem res_known {a b : Int} {K : SK} (m : List (SK × Ser)) (hm : m.length ≤ 1000000) (i : Nat) (hi : ∀ x ∈ m, i < x.2.vals.length) (hb : i < 1000000000) : res Γ 241 [.ptr (jC a b K m), .int .i64 (i : Int)] = some [.sl .any 2 (vpv (knL (atV m i)))] := by
  have hlen := @atV_len m i
  have e := res_aggKnown (kk := .any) (atV m i) (by omega)
  have L := fun k2 Q => known_l1_ok (k2 := k2) m hm i hi hb Q
  refine res_code (fn := fjoin_joined_known) rfl rfl ?_
  simp (disch := first | assumption | omega | decide | (simp only [List.length_cons, List.length_nil, List.length_append, List.length_replicate, List.length_map, List.length_set, List.length_take, List.length_drop, strs_len, ints_len, bools_len, aggs_len, vpv_len]; done) | (simp only [List.length_cons, List.length_nil, List.length_append, List.length_replicate, List.length_map, List.length_set, List.length_take, List.length_drop, strs_len, ints_len, bools_len, aggs_len, vpv_len]; omega)) only [go_sem, fjoin_joined_known]
  refine L K _ ?_ m.length 0 _ (by omega)
  simp (disch := first | assumption | omega | decide | (simp only [List.length_cons, List.length_nil, List.length_append, List.length_replicate, List.length_map, List.length_set, List.length_take, List.length_drop, strs_len, ints_len, bools_len, aggs_len, vpv_len]; done) | (simp only [List.length_cons, List.length_nil, List.length_append, List.length_replicate, List.length_map, List.length_set, List.length_take, List.length_drop, strs_len, ints_len, bools_len, aggs_len, vpv_len]; omega)) only [go_sem, e]
def valsF (g : Nat → Val) (n : Nat) : List Val := (List.range n).map g
theorem valsF_len {g n} : (valsF g n).length = n := by simp [valsF]
theorem valsF_succ {g n} : valsF g (n + 1) = valsF g n ++ [g n] := by simp [valsF, List.range_succ]
abbrev serB (nm : List UInt8) (a b : Int) (v : AV) (c : Int) : Blk := .box [.p (.str nm), .p (.int .i64 a), .p (.int .i64 b), v, .p (.int .i64 c)]
theorem series_l1_ok (f : Nat) (caps : List PV) (nm : List UInt8) (a b : Int) (g : Nat → Val) (n : Nat) (hn : n ≤ 1000000) (B : Blk) (hg : ∀ i : Nat, i < n → res Γ f (.int .i64 (i : Int) :: caps) = some [.agg [.bool (g i).1, .int .i64 (g i).2]]) (Q : Out → Prop)
    (hQ : Q (.nrm, [(6, .bx 0 0), (7, .bx 1 0)], [B, serB nm a b (.own 2 n) 0, .row false 2 (vpv (valsF g n))])) : ∀ (k i : Nat), i + 1 + k = n →
    Wp Γ fjoin_joined_series_l1 [(2, .p (.clo f caps)), (6, .bx 0 0), (7, .bx 1 0), (22, .p (.int .i64 (n : Int))), (23, .p (.int .i64 ((i + 1 : Nat) : Int)))] [B, serB nm a b (.own 2 (i + 1)) 0, .row false 2 (vpv (valsF g (i + 1)))] (InBlk [6, 7] 0 Q) := by
  intro k
  induction k with
  | zero =>
    intro i hi
    have hi : i + 1 = n := by omega
    rw [hi]
    rw [W_loop (L := fjoin_joined_series_l1) rfl]
    simp (disch := first | assumption | omega | decide | (simp only [List.length_cons, List.length_nil, List.length_append, List.length_replicate, List.length_map, List.length_set, List.length_take, List.length_drop, strs_len, ints_len, bools_len, aggs_len, vpv_len]; done) | (simp only [List.length_cons, List.length_nil, List.length_append, List.length_replicate, List.length_map, List.length_set, List.length_take, List.length_drop, strs_len, ints_len, bools_len, aggs_len, vpv_len]; omega)) only [go_sem]
    exact hQ
  | succ k ih =>
    intro i hi
    have ih := ih (i + 1) (by omega)
    rw [valsF_succ] at ih
    have e := hg (i + 1) (by omega)
    have hlen := @valsF_len g (i + 1)
    rw [W_loop (L := fjoin_joined_series_l1) rfl]
    simp (disch := first | assumption | omega | decide | (simp only [List.length_cons, List.length_nil, List.length_append, List.length_replicate, List.length_map, List.length_set, List.length_take, List.length_drop, strs_len, ints_len, bools_len, aggs_len, vpv_len]; done) | (simp only [List.length_cons, List.length_nil, List.length_append, List.length_replicate, List.length_map, List.length_set, List.length_take, List.length_drop, strs_len, ints_len, bools_len, aggs_len, vpv_len]; omega)) only [go_sem, e]
    exact ih
theorem res_series {K : SK} (f : Nat) (caps : List PV) (nm : List UInt8) (a b : Int) (m : List (SK × Ser)) (g : Nat → Val) (n : Nat) (hn : n ≤ 1000000) (hm : (if m = [] then 0 else ((m.getD 0 noSer).2.vals.length : Int)) = (n : Int)) (hg : ∀ i : Nat, i < n → res Γ f (.int .i64 (i : Int) :: caps) = some [.agg [.bool (g i).1, .int .i64 (g i).2]]) :
    res Γ 227 [.ptr (jC a b K m), .str nm, .clo f caps] = some [(Ser.mk nm a b (valsF g n) 0).pv (fitK n)] := by
  have e1 := res_many (a := a) (b := b) (K := K) m
  rw [hm] at e1
  unfold fitK Ser.pv
  by_cases h0 : n = 0
  · subst h0
    rw [if_pos rfl]
    refine res_code (fn := fjoin_joined_series) rfl rfl ?_
    simp (disch := first | assumption | omega | decide | (simp only [List.length_cons, List.length_nil, List.length_append, List.length_replicate, List.length_map, List.length_set, List.length_take, List.length_drop, strs_len, ints_len, bools_len, aggs_len, vpv_len]; done) | (simp only [List.length_cons, List.length_nil, List.length_append, List.length_replicate, List.length_map, List.length_set, List.length_take, List.length_drop, strs_len, ints_len, bools_len, aggs_len, vpv_len]; omega)) only [go_sem, fjoin_joined_series, e1]
    rw [W_loop (L := fjoin_joined_series_l1) rfl]
    simp (disch := first | assumption | omega | decide | (simp only [List.length_cons, List.length_nil, List.length_append, List.length_replicate, List.length_map, List.length_set, List.length_take, List.length_drop, strs_len, ints_len, bools_len, aggs_len, vpv_len]; done) | (simp only [List.length_cons, List.length_nil, List.length_append, List.length_replicate, List.length_map, List.length_set, List.length_take, List.length_drop, strs_len, ints_len, bools_len, aggs_len, vpv_len]; omega)) only [go_sem]
    rfl
  · rw [if_neg h0]
    have e2 : res Γ f (.int .i64 0 :: caps) = some [.agg [.bool (g 0).1, .int .i64 (g 0).2]] := hg 0 (by omega)
    have e0 : vpv [] = [] := rfl
    have L := fun B Q => series_l1_ok f caps nm a b g n hn B hg Q
    have ev : valsF g 1 = [g 0] := rfl
    have hlen := @valsF_len g n
    refine res_code (fn := fjoin_joined_series) rfl rfl ?_
    simp (disch := first | assumption | omega | decide | (simp only [List.length_cons, List.length_nil, List.length_append, List.length_replicate, List.length_map, List.length_set, List.length_take, List.length_drop, strs_len, ints_len, bools_len, aggs_len, vpv_len]; done) | (simp only [List.length_cons, List.length_nil, List.length_append, List.length_replicate, List.length_map, List.length_set, List.length_take, List.length_drop, strs_len, ints_len, bools_len, aggs_len, vpv_len]; omega)) only [go_sem, fjoin_joined_series, e1]
    rw [W_loop (L := fjoin_joined_series_l1) rfl]
    simp (disch := first | assumption | omega | decide | (simp only [List.length_cons, List.length_nil, List.length_append, List.length_replicate, List.length_map, List.length_set, List.length_take, List.length_drop, strs_len, ints_len, bools_len, aggs_len, vpv_len]; done) | (simp only [List.length_cons, List.length_nil, List.length_append, List.length_replicate, List.length_map, List.length_set, List.length_take, List.length_drop, strs_len, ints_len, bools_len, aggs_len, vpv_len]; omega)) only [go_sem, e2]
    refine L _ _ ?_ (n - 1) 0 (by omega)
    simp (disch := first | assumption | omega | decide | (simp only [List.length_cons, List.length_nil, List.length_append, List.length_replicate, List.length_map, List.length_set, List.length_take, List.length_drop, strs_len, ints_len, bools_len, aggs_len, vpv_len]; done) | (simp only [List.length_cons, List.length_nil, List.length_append, List.length_replicate, List.length_map, List.length_set, List.length_take, List.length_drop, strs_len, ints_len, bools_len, aggs_len, vpv_len]; omega)) only [go_sem]
end Ab
