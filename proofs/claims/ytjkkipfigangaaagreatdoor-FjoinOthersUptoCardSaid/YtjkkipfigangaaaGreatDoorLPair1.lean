import Derived.Test.YtjkkipfigangaaaGreatDoorPPrint
import Derived.Test.YtjkkipfigangaaaGreatDoorPDiv2
import Derived.Test.YtjkkipfigangaaaGreatDoorLAgg
import Derived.Test.YtjkkipfigangaaaGreatDoorLLabel
namespace Ab
open Go (IntKind BinOp UnOp)
def chD (x : Nat) : UInt8 := UInt8.ofNat (48 + x)
theorem chD_ne {x : Nat} (h : x < 10) (h0 : x ≠ 0) : chD x ≠ 48 := by
  have : x = 1 ∨ x = 2 ∨ x = 3 ∨ x = 4 ∨ x = 5 ∨ x = 6 ∨ x = 7 ∨ x = 8 ∨ x = 9 := by omega
  rcases this with rfl | rfl | rfl | rfl | rfl | rfl | rfl | rfl | rfl <;> decide
theorem frac_digits {f : Nat} (h : f < 1000000) : (decB (1000000 + f)).drop 1 = [chD (f / 100000), chD (f / 10000 % 10), chD (f / 1000 % 10), chD (f / 100 % 10), chD (f / 10 % 10), chD (f % 10)] := by
  rw [decB_more (by omega), decB_more (by omega), decB_more (by omega), decB_more (by omega), decB_more (by omega), decB_more (by omega), decB_small (by omega)]
  simp only [List.cons_append, List.nil_append, List.drop_succ_cons, List.drop_zero]
  unfold chD
  have e1 : (1000000 + f) / 10 / 10 / 10 / 10 / 10 % 10 = f / 100000 := by omega
  have e2 : (1000000 + f) / 10 / 10 / 10 / 10 % 10 = f / 10000 % 10 := by omega
  have e3 : (1000000 + f) / 10 / 10 / 10 % 10 = f / 1000 % 10 := by omega
  have e4 : (1000000 + f) / 10 / 10 % 10 = f / 100 % 10 := by omega
  have e5 : (1000000 + f) / 10 % 10 = f / 10 % 10 := by omega
  have e6 : (1000000 + f) % 10 = f % 10 := by omega
  rw [e1, e2, e3, e4, e5, e6]
theorem trim_ne {s : List UInt8} : ∀ {n j : Nat}, j < n → n ≤ s.length → s.getD j 0 ≠ 48 → trimN s n ≠ []
  | 0, _, h, _, _ => absurd h (by omega)
  | n + 1, j, hj, hn, h => by
    unfold trimN
    by_cases hb : s.getD n 0 = 48
    · rw [if_pos hb]
      have : j ≠ n := fun e => h (e ▸ hb)
      exact trim_ne (by omega) (by omega) h
    · rw [if_neg hb]
      intro e
      have := congrArg List.length e
      rw [List.length_take, List.length_nil] at this
      omega
theorem frac_trim {f : Nat} (h : f < 1000000) (h0 : f ≠ 0) : trimB ((decB (1000000 + f)).drop 1) ≠ [] := by
  unfold trimB
  rw [frac_digits h]
  have key : ∀ j, j < 6 → ([chD (f / 100000), chD (f / 10000 % 10), chD (f / 1000 % 10), chD (f / 100 % 10), chD (f / 10 % 10), chD (f % 10)] : List UInt8).getD j 0 ≠ 48 → trimN [chD (f / 100000), chD (f / 10000 % 10), chD (f / 1000 % 10), chD (f / 100 % 10), chD (f / 10 % 10), chD (f % 10)] 6 ≠ [] :=
    fun j hj hne => trim_ne hj (by simp) hne
  by_cases c0 : f % 10 = 0
  · by_cases c1 : f / 10 % 10 = 0
    · by_cases c2 : f / 100 % 10 = 0
      · by_cases c3 : f / 1000 % 10 = 0
        · by_cases c4 : f / 10000 % 10 = 0
          · exact key 0 (by omega) (chD_ne (by omega) (by omega))
          · exact key 1 (by omega) (chD_ne (by omega) c4)
        · exact key 2 (by omega) (chD_ne (by omega) c3)
      · exact key 3 (by omega) (chD_ne (by omega) c2)
    · exact key 4 (by omega) (chD_ne (by omega) c1)
  · exact key 5 (by omega) (chD_ne (by omega) c0)
theorem byt_take {s : List UInt8} {n m : Nat} (h : m < n) : byt (s.take n) m = byt s m := by
  unfold byt
  rw [List.getD_eq_getElem?_getD, List.getElem?_take, if_pos h, List.getD_eq_getElem?_getD]
theorem byt48 {s : List UInt8} {i : Nat} : byt s i = 48 ↔ s.getD i 0 = 48 := by
  unfold byt
  have e : (48 : Int) = ((48 : UInt8).toNat : Int) := rfl
  rw [e]
  exact ⟨fun h => UInt8.toNat_inj.1 (by omega), fun h => by rw [h]⟩
theorem r2Print_l1_ok (H : Heap) (a : AV) (s : List UInt8) (hs : s.length ≤ 1000) (Q : Out → Prop) : ∀ n : Nat, n ≤ s.length → trimN s n ≠ [] → Q (.nrm, [(3, a), (6, .p (.str (trimN s n)))], H) →
    Wp Γ r2_Print_l1 [(3, a), (6, .p (.str (s.take n)))] H (InBlk [3, 6] 0 Q) := by
  intro n
  induction n with
  | zero => exact fun _ h => absurd rfl h
  | succ n ih =>
    intro hn ht hQ
    have hl : (s.take (n + 1)).length = n + 1 := by rw [List.length_take]; omega
    have ei : ((n + 1 : Nat) : Int) - 1 = (n : Int) := by omega
    have eb := byt_take (s := s) (n := n + 1) (m := n) (by omega)
    have et : (s.take (n + 1)).take n = s.take n := by rw [List.take_take, Nat.min_eq_left (by omega)]
    unfold trimN at ht hQ
    by_cases hb : byt s n = 48
    · rw [if_pos (byt48.1 hb)] at ht hQ
      rw [W_loop (L := r2_Print_l1) rfl]
      simp (disch := first | assumption | omega | decide | (simp only [lens] <;> omega) | fail) only [go_sem, hl, ei, eb, hb, et]
      exact ih (by omega) ht hQ
    · rw [if_neg (fun h => hb (byt48.2 h))] at ht hQ
      rw [W_loop (L := r2_Print_l1) rfl]
      simp (disch := first | assumption | omega | decide | (simp only [lens] <;> omega) | fail) only [go_sem, hl, ei, eb, et]
      exact hQ
theorem trimR_l1_ok (s : List UInt8) (hs : s.length ≤ 1000) (Q : Out → Prop) : ∀ n : Nat, n ≤ s.length → Q (.nrm, [(0, .p (.str (trimN s n)))], []) →
    Wp Γ strings_trimRightByte_l1 [(0, .p (.str (s.take n))), (1, .p (.int .u8 48))] [] (InBlk [0] 0 Q) := by
  intro n
  induction n with
  | zero =>
    intro _ hQ
    rw [List.take_zero]
    rw [W_loop (L := strings_trimRightByte_l1) rfl]
    simp (disch := first | assumption | omega | decide | (simp only [lens] <;> omega) | fail) only [go_sem]
    exact hQ
  | succ n ih =>
    intro hn hQ
    have hl : (s.take (n + 1)).length = n + 1 := by rw [List.length_take]; omega
    have ei : ((n + 1 : Nat) : Int) - 1 = (n : Int) := by omega
    have eb := byt_take (s := s) (n := n + 1) (m := n) (by omega)
    have et : (s.take (n + 1)).take n = s.take n := by rw [List.take_take, Nat.min_eq_left (by omega)]
    unfold trimN at hQ
    by_cases hb : byt s n = 48
    · rw [if_pos (byt48.1 hb)] at hQ
      rw [W_loop (L := strings_trimRightByte_l1) rfl]
      simp (disch := first | assumption | omega | decide | (simp only [lens] <;> omega) | fail) only [go_sem, hl, ei, eb, hb, et]
      exact ih (by omega) hQ
    · rw [if_neg (fun h => hb (byt48.2 h))] at hQ
      rw [W_loop (L := strings_trimRightByte_l1) rfl]
      simp (disch := first | assumption | omega | decide | (simp only [lens] <;> omega) | fail) only [go_sem, hl, ei, eb, et]
      exact hQ
theorem res_trimRightByte (s : List UInt8) (hs : s.length ≤ 1000) : res Γ 266 [.str s, .int .u8 48] = some [.str (trimB s)] := by
  have e : s.take s.length = s := List.take_length
  have L := fun Q => trimR_l1_ok s hs Q s.length (Nat.le_refl _)
  rw [e] at L
  refine res_code (fn := strings_trimRightByte) rfl rfl ?_
  simp (disch := first | assumption | omega | decide | (simp only [lens] <;> omega) | fail) only [go_sem, strings_trimRightByte]
  refine L _ ?_
  simp (disch := first | assumption | omega | decide | (simp only [lens] <;> omega) | fail) only [go_sem, trimB]
theorem res_TrimRight0 (s : List UInt8) (hs : s.length ≤ 1000) : res Γ 240 [.str s, .str [48]] = some [.str (trimB s)] := by
  have e := res_trimRightByte s hs
  have eb : byt [48] 0 = 48 := rfl
  refine res_code (fn := strings_TrimRight) rfl rfl ?_
  by_cases h : s = []
  · subst h
    simp (disch := first | assumption | omega | decide | (simp only [lens] <;> omega) | fail) only [go_sem, strings_TrimRight]
    rfl
  · simp (disch := first | assumption | omega | decide | (simp only [lens] <;> omega) | fail) only [go_sem, strings_TrimRight, eb, e]
theorem decB_len20 {u : Nat} (h : u < 9223372036854775808) : (decB u).length ≤ 20 := decB_len 19 u (by omega)
theorem knV_false {b : Bool} {n : Int} (h : knV (b, n) = false) : b = false ∨ isV (b, n) = false := by
  unfold knV at h
  rwa [Bool.and_eq_false_iff] at h
theorem res_decPrint (b : Bool) (n : Int) : res Γ 228 [.agg [.bool b, .int .i64 n]] = some [.str (printB (b, n))] := by
  have eI := res_fixedIs b n
  unfold printB
  cases hk : knV (b, n)
  · rw [if_neg (by decide)]
    rcases knV_false hk with rfl | h
    · refine res_code (fn := dec_Print) rfl rfl ?_
      simp (disch := first | assumption | omega | decide | (simp only [lens] <;> omega) | fail) only [go_sem, dec_Print]
    · rw [h] at eI
      cases b
      · refine res_code (fn := dec_Print) rfl rfl ?_
        simp (disch := first | assumption | omega | decide | (simp only [lens] <;> omega) | fail) only [go_sem, dec_Print]
      · refine res_code (fn := dec_Print) rfl rfl ?_
        simp (disch := first | assumption | omega | decide | (simp only [lens] <;> omega) | fail) only [go_sem, dec_Print, eI]
  · rw [if_pos rfl]
    have hb := knV_bound hk
    have hI : b = true ∧ isV (b, n) = true := by unfold knV at hk; simpa using hk
    obtain ⟨rfl, hI⟩ := hI
    rw [hI] at eI
    dsimp only at hb ⊢
    have main : ∀ (m : Nat) (sg : List UInt8), m ≤ 4611686018427387904 → sg.length ≤ 1 →
        let q := m / 1000000
        let f := m % 1000000
        (m : Int) / 1000000 = (q : Int) ∧ (m : Int) % 1000000 = (f : Int) ∧ f < 1000000 ∧ q < 9223372036854775808 ∧ (decB q).length ≤ 20 ∧ (decB (1000000 + f)).length ≤ 20 ∧ 0 < (decB (1000000 + f)).length := by
      intro m sg hm hsg q f
      have hq : q ≤ 4611686018427387904 := Nat.le_trans (Nat.div_le_self _ _) hm
      refine ⟨by omega, by omega, by omega, by omega, decB_len20 (by omega), decB_len20 (by omega), ?_⟩
      rw [decB_more (by omega), List.length_append]; simp
    by_cases hneg : n < 0
    · obtain ⟨m, hm⟩ : ∃ m : Nat, -n = (m : Int) := ⟨n.natAbs, by omega⟩
      have ha : n.natAbs = m := by omega
      have eneg : 0 - n = (m : Int) := by omega
      obtain ⟨q1, q2, q3, q4, q5, q6, q7⟩ := main m [45] (by omega) (by simp)
      rw [ha, if_pos hneg]
      generalize m / 1000000 = q at *
      generalize m % 1000000 = f at *
      have eD := res_decDigits q q4
      have eF : res Γ 105 [.int .i64 (1000000 + (f : Int))] = some [.str (decB (1000000 + f))] := res_decDigits (1000000 + f) (by omega)
      have eT := res_TrimRight0 ((decB (1000000 + f)).drop 1) (by rw [List.length_drop]; omega)
      have tl : (trimB ((decB (1000000 + f)).drop 1)).length ≤ 20 := by
        have := trimN_len ((decB (1000000 + f)).drop 1) _ (Nat.le_refl _)
        rw [List.length_drop] at this
        unfold trimB
        rw [List.length_drop]; omega
      unfold fracB
      by_cases hf : f = 0
      · subst hf
        rw [if_pos rfl]
        refine res_code (fn := dec_Print) rfl rfl ?_
        simp (disch := first | assumption | omega | decide | (simp only [lens] <;> omega) | fail) only [go_sem, dec_Print, eI, eneg, map_quoI, map_remI, q1, q2, eD, ne_eq, not_true_eq_false]
      · rw [if_neg hf]
        refine res_code (fn := dec_Print) rfl rfl ?_
        simp (disch := first | assumption | omega | decide | (simp only [lens] <;> omega) | fail) only [go_sem, dec_Print, eI, eneg, map_quoI, map_remI, q1, q2, eD, eF, eT]
    · obtain ⟨m, hm⟩ : ∃ m : Nat, n = (m : Int) := ⟨n.natAbs, by omega⟩
      subst hm
      have ha : ((m : Int)).natAbs = m := by omega
      obtain ⟨q1, q2, q3, q4, q5, q6, q7⟩ := main m [] (by omega) (by simp)
      rw [ha, if_neg hneg]
      generalize m / 1000000 = q at *
      generalize m % 1000000 = f at *
      have eD := res_decDigits q q4
      have eF : res Γ 105 [.int .i64 (1000000 + (f : Int))] = some [.str (decB (1000000 + f))] := res_decDigits (1000000 + f) (by omega)
      have eT := res_TrimRight0 ((decB (1000000 + f)).drop 1) (by rw [List.length_drop]; omega)
      have tl : (trimB ((decB (1000000 + f)).drop 1)).length ≤ 20 := by
        have := trimN_len ((decB (1000000 + f)).drop 1) _ (Nat.le_refl _)
        rw [List.length_drop] at this
        unfold trimB
        rw [List.length_drop]; omega
      unfold fracB
      by_cases hf : f = 0
      · subst hf
        rw [if_pos rfl]
        refine res_code (fn := dec_Print) rfl rfl ?_
        simp (disch := first | assumption | omega | decide | (simp only [lens] <;> omega) | fail) only [go_sem, dec_Print, eI, map_quoI, map_remI, q1, q2, eD, ne_eq, not_true_eq_false]
      · rw [if_neg hf]
        refine res_code (fn := dec_Print) rfl rfl ?_
        simp (disch := first | assumption | omega | decide | (simp only [lens] <;> omega) | fail) only [go_sem, dec_Print, eI, map_quoI, map_remI, q1, q2, eD, eF, eT]
theorem res_r2Print (b : Bool) (n : Int) : res Γ 237 [.agg [.bool b, .int .i64 n]] = some [.str (printB (b, n))] := by
  have eI := res_r1Known b n
  unfold printB
  cases hk : knV (b, n)
  · rw [if_neg (by decide)]
    rw [hk] at eI
    refine res_code (fn := r2_Print) rfl rfl ?_
    simp (disch := first | assumption | omega | decide | (simp only [lens] <;> omega) | fail) only [go_sem, r2_Print, eI]
  · rw [if_pos rfl]
    have hb := knV_bound hk
    have hI : b = true ∧ isV (b, n) = true := by unfold knV at hk; simpa using hk
    obtain ⟨rfl, hI⟩ := hI
    rw [hk] at eI
    dsimp only at hb ⊢
    have main : ∀ (m : Nat) (sg : List UInt8), m ≤ 4611686018427387904 → sg.length ≤ 1 →
        let q := m / 1000000
        let f := m % 1000000
        (m : Int) / 1000000 = (q : Int) ∧ (m : Int) % 1000000 = (f : Int) ∧ f < 1000000 ∧ q < 9223372036854775808 ∧ (decB q).length ≤ 20 ∧ (decB (1000000 + f)).length ≤ 20 ∧ 0 < (decB (1000000 + f)).length := by
      intro m sg hm hsg q f
      have hq : q ≤ 4611686018427387904 := Nat.le_trans (Nat.div_le_self _ _) hm
      refine ⟨by omega, by omega, by omega, by omega, decB_len20 (by omega), decB_len20 (by omega), ?_⟩
      rw [decB_more (by omega), List.length_append]; simp
    by_cases hneg : n < 0
    · obtain ⟨m, hm⟩ : ∃ m : Nat, -n = (m : Int) := ⟨n.natAbs, by omega⟩
      have ha : n.natAbs = m := by omega
      have eneg : 0 - n = (m : Int) := by omega
      obtain ⟨q1, q2, q3, q4, q5, q6, q7⟩ := main m [45] (by omega) (by simp)
      rw [ha, if_pos hneg]
      generalize m / 1000000 = q at *
      generalize m % 1000000 = f at *
      have eD := res_r2Digits q q4
      have eF : res Γ 107 [.int .i64 (1000000 + (f : Int))] = some [.str (decB (1000000 + f))] := res_r2Digits (1000000 + f) (by omega)
      have dl : ((decB (1000000 + f)).drop 1).length ≤ 1000 := by rw [List.length_drop]; omega
      have dt : ((decB (1000000 + f)).drop 1).take ((decB (1000000 + f)).drop 1).length = (decB (1000000 + f)).drop 1 := List.take_length
      have eT := fun H a Q => r2Print_l1_ok H a ((decB (1000000 + f)).drop 1) dl Q _ (Nat.le_refl _)
      rw [dt] at eT
      have tl : (trimB ((decB (1000000 + f)).drop 1)).length ≤ 20 := by
        have := trimN_len ((decB (1000000 + f)).drop 1) _ (Nat.le_refl _)
        rw [List.length_drop] at this
        unfold trimB
        rw [List.length_drop]; omega
      unfold fracB
      by_cases hf : f = 0
      · subst hf
        rw [if_pos rfl]
        refine res_code (fn := r2_Print) rfl rfl ?_
        simp (disch := first | assumption | omega | decide | (simp only [lens] <;> omega) | fail) only [go_sem, r2_Print, eI, eneg, map_quoI, map_remI, q1, q2, eD, ne_eq, not_true_eq_false]
      · rw [if_neg hf]
        refine res_code (fn := r2_Print) rfl rfl ?_
        simp (disch := first | assumption | omega | decide | (simp only [lens] <;> omega) | fail) only [go_sem, r2_Print, eI, eneg, map_quoI, map_remI, q1, q2, eD, eF]
        refine eT _ _ _ (frac_trim q3 hf) ?_
        have et : trimN ((decB (1000000 + f)).drop 1) ((decB (1000000 + f)).drop 1).length = trimB ((decB (1000000 + f)).drop 1) := rfl
        rw [et]
        simp (disch := first | assumption | omega | decide | (simp only [lens] <;> omega) | fail) only [go_sem]
    · obtain ⟨m, hm⟩ : ∃ m : Nat, n = (m : Int) := ⟨n.natAbs, by omega⟩
      subst hm
      have ha : ((m : Int)).natAbs = m := by omega
      obtain ⟨q1, q2, q3, q4, q5, q6, q7⟩ := main m [] (by omega) (by simp)
      rw [ha, if_neg hneg]
      generalize m / 1000000 = q at *
      generalize m % 1000000 = f at *
      have eD := res_r2Digits q q4
      have eF : res Γ 107 [.int .i64 (1000000 + (f : Int))] = some [.str (decB (1000000 + f))] := res_r2Digits (1000000 + f) (by omega)
      have dl : ((decB (1000000 + f)).drop 1).length ≤ 1000 := by rw [List.length_drop]; omega
      have dt : ((decB (1000000 + f)).drop 1).take ((decB (1000000 + f)).drop 1).length = (decB (1000000 + f)).drop 1 := List.take_length
      have eT := fun H a Q => r2Print_l1_ok H a ((decB (1000000 + f)).drop 1) dl Q _ (Nat.le_refl _)
      rw [dt] at eT
      have tl : (trimB ((decB (1000000 + f)).drop 1)).length ≤ 20 := by
        have := trimN_len ((decB (1000000 + f)).drop 1) _ (Nat.le_refl _)
        rw [List.length_drop] at this
        unfold trimB
        rw [List.length_drop]; omega
      unfold fracB
      by_cases hf : f = 0
      · subst hf
        rw [if_pos rfl]
        refine res_code (fn := r2_Print) rfl rfl ?_
        simp (disch := first | assumption | omega | decide | (simp only [lens] <;> omega) | fail) only [go_sem, r2_Print, eI, map_quoI, map_remI, q1, q2, eD, ne_eq, not_true_eq_false]
      · rw [if_neg hf]
        refine res_code (fn := r2_Print) rfl rfl ?_
        simp (disch := first | assumption | omega | decide | (simp only [lens] <;> omega) | fail) only [go_sem, r2_Print, eI, map_quoI, map_remI, q1, q2, eD, eF]
        refine eT _ _ _ (frac_trim q3 hf) ?_
        have et : trimN ((decB (1000000 + f)).drop 1) ((decB (1000000 + f)).drop 1).length = trimB ((decB (1000000 + f)).drop 1) := rfl
        rw [et]
        simp (disch := first | assumption | omega | decide | (simp only [lens] <;> omega) | fail) only [go_sem]
end Ab
namespace Ab
open Go (IntKind BinOp UnOp)
theorem ren_clo {r d f cs} : AV.ren r (d + 1) (.clo f cs) = (mapO (AV.ren r d) cs).map (.clo f) := rfl
attribute [go_sem] ren_clo
abbrev jC (a b : Int) (K : SK) (m : List (SK × Ser)) : List PV := [.str [], .int .i64 a, .int .i64 b, .sl .nil 2 [], .int .i64 0, .sl K 5 (sers m)]
theorem joinW_len {l : List (SK × Ser)} {b st n} : (joinW l b st n).length = l.length := by simp [joinW]
theorem joinW_get {l : List (SK × Ser)} {b : Int} {st n i : Nat} (h : i < l.length) : (joinW l b st n).getD i noSer = (fitK n, fitS (l.getD i noSer).2 b st n) := by
  unfold joinW
  rw [List.getD_eq_getElem?_getD, List.getElem?_map, List.getElem?_eq_getElem h, List.getD_eq_getElem?_getD, List.getElem?_eq_getElem h]
  rfl
abbrev bJ (l : List (SK × Ser)) : Int := begJ (sersOf l)
abbrev sJ (l : List (SK × Ser)) : Nat := stepJ (sersOf l)
abbrev nJ (l : List (SK × Ser)) : Nat := (manyJ (sersOf l)).toNat
theorem res_join_ok {kk : SK} (l : List (SK × Ser)) (hl : l.length ≤ 1000000) (hv : ∀ x ∈ l, x.2.vals.length ≤ 1000000) (h0 : l ≠ []) (he : errJ (sersOf l) = 0) : res Γ 229 [.sl kk 5 (sers l)] = some [.ptr (jC (bJ l) (sJ l) .any (joinW l (bJ l) (sJ l) (nJ l))), .int .i64 0] := by
  have e := res_seriesJoin (kk := kk) l hl hv
  unfold joinR at e
  rw [if_pos he, if_neg h0, joinJ_eq] at e
  have hpos : 0 < l.length := List.length_pos_iff.2 h0
  have hg := joinW_get (b := begJ (sersOf l)) (st := stepJ (sersOf l)) (n := (manyJ (sersOf l)).toNat) hpos
  have hlen := @joinW_len l (begJ (sersOf l)) (stepJ (sersOf l)) (manyJ (sersOf l)).toNat
  unfold bJ sJ nJ
  generalize joinW l (begJ (sersOf l)) (stepJ (sersOf l)) (manyJ (sersOf l)).toNat = m at *
  refine res_code (fn := fjoin_join) rfl rfl ?_
  simp (disch := first | assumption | omega | decide | (simp only [lens] <;> omega) | fail) only [go_sem, fjoin_join, e, ne_eq, not_true_eq_false, hg, serC, fitS]
theorem res_join_nil {kk : SK} : res Γ 229 [.sl kk 5 []] = some [.ptr (jC 0 0 .nil []), .int .i64 0] := by
  have e : res Γ 254 [.sl kk 5 []] = some [.sl .nil 5 [], .int .i64 0] := res_seriesJoin (kk := kk) [] (by simp) (by simp)
  refine res_code (fn := fjoin_join) rfl rfl ?_
  simp (disch := first | assumption | omega | decide | (simp only [lens] <;> omega) | fail) only [go_sem, fjoin_join, e, ne_eq, not_true_eq_false]
  rfl
theorem res_join_err {kk : SK} (l : List (SK × Ser)) (hl : l.length ≤ 1000000) (hv : ∀ x ∈ l, x.2.vals.length ≤ 1000000) (he : errJ (sersOf l) ≠ 0) : res Γ 229 [.sl kk 5 (sers l)] = some [.nilp, .int .i64 (errJ (sersOf l))] := by
  have e := res_seriesJoin (kk := kk) l hl hv
  unfold joinR at e
  rw [if_neg he] at e
  refine res_code (fn := fjoin_join) rfl rfl ?_
  simp (disch := first | assumption | omega | decide | (simp only [lens] <;> omega) | fail) only [go_sem, fjoin_join, e]
theorem res_many {a b : Int} {K : SK} (m : List (SK × Ser)) : res Γ 239 [.ptr (jC a b K m)] = some [.int .i64 (if m = [] then 0 else ((m.getD 0 noSer).2.vals.length : Int))] := by
  by_cases h : m = []
  · subst h
    rw [if_pos rfl]
    refine res_code (fn := fjoin_joined_many) rfl rfl ?_
    simp (disch := first | assumption | omega | decide | (simp only [lens] <;> omega) | fail) only [go_sem, fjoin_joined_many]
  · have hpos : 0 < m.length := List.length_pos_iff.2 h
    rw [if_neg h]
    refine res_code (fn := fjoin_joined_many) rfl rfl ?_
    simp (disch := first | assumption | omega | decide | (simp only [lens] <;> omega) | fail) only [go_sem, fjoin_joined_many, serC]
theorem atV_snoc {m : List (SK × Ser)} {j i : Nat} (h : j < m.length) : atV (m.take (j + 1)) i = atV (m.take j) i ++ [(m.getD j noSer).2.vals.getD i (false, 0)] := by
  unfold atV
  rw [take_snoc' noSer h, List.map_append]; rfl
theorem atV_len {m : List (SK × Ser)} {i : Nat} : (atV m i).length = m.length := by simp [atV]
set_option maxRecDepth 10000 in
theorem known_l1_ok {k2 : SK} (m : List (SK × Ser)) (hm : m.length ≤ 1000000) (i : Nat) (hi : ∀ x ∈ m, i < x.2.vals.length) (hb : i < 1000000000) (Q : Out → Prop) (hQ : Q (.nrm, [(5, .own 0 m.length)], [.row false 2 (vpv (atV m i))])) : ∀ (n j : Nat) (R : Heap), j + n = m.length →
    Wp Γ fjoin_joined_known_l1 [(1, .p (.int .i64 (i : Int))), (5, .own 0 j), (11, .p (.sl k2 5 (sers m))), (12, .p (.int .i64 (m.length : Int))), (13, .p (.int .i64 (j : Int)))] (.row false 2 (vpv (atV (m.take j) i)) :: R) (InBlk [5] 0 Q) := by
  intro n
  induction n with
  | zero =>
    intro j R hj
    obtain rfl : j = m.length := by omega
    rw [List.take_length]
    rw [W_loop (L := fjoin_joined_known_l1) rfl]
    simp (disch := first | assumption | omega | decide | (simp only [lens] <;> omega) | fail) only [go_sem]
    exact hQ
  | succ n ih =>
    intro j R hj
    have hlt : j < m.length := by omega
    have hmem := ser_mem hlt
    have ih := fun R => ih (j + 1) R (by omega)
    rw [atV_snoc hlt] at ih
    have hlen : (atV (m.take j) i).length = j := by rw [atV_len, List.length_take]; omega
    have hvl := hi _ hmem
    obtain ⟨x, hx⟩ : ∃ x, m.getD j noSer = x := ⟨_, rfl⟩
    rw [hx] at ih hvl
    rw [W_loop (L := fjoin_joined_known_l1) rfl]
    simp (disch := first | assumption | omega | decide | (simp only [lens] <;> omega) | fail) only [go_sem, hx, serC, valP]
    exact ih _
theorem res_known {a b : Int} {K : SK} (m : List (SK × Ser)) (hm : m.length ≤ 1000000) (i : Nat) (hi : ∀ x ∈ m, i < x.2.vals.length) (hb : i < 1000000000) : res Γ 241 [.ptr (jC a b K m), .int .i64 (i : Int)] = some [.sl .any 2 (vpv (knL (atV m i)))] := by
  have hlen := @atV_len m i
  have e := res_aggKnown (kk := .any) (atV m i) (by omega)
  have L := fun k2 Q => known_l1_ok (k2 := k2) m hm i hi hb Q
  refine res_code (fn := fjoin_joined_known) rfl rfl ?_
  simp (disch := first | assumption | omega | decide | (simp only [lens] <;> omega) | fail) only [go_sem, fjoin_joined_known]
  refine L K _ ?_ m.length 0 _ (by omega)
  simp (disch := first | assumption | omega | decide | (simp only [lens] <;> omega) | fail) only [go_sem, e]
def valsF (g : Nat → Val) (n : Nat) : List Val := (List.range n).map g
theorem valsF_len {g n} : (valsF g n).length = n := by simp [valsF]
theorem valsF_succ {g n} : valsF g (n + 1) = valsF g n ++ [g n] := by simp [valsF, List.range_succ]
abbrev serB (nm : List UInt8) (a b : Int) (v : AV) (c : Int) : Blk := .box [.p (.str nm), .p (.int .i64 a), .p (.int .i64 b), v, .p (.int .i64 c)]
theorem series_l1_ok (f : Nat) (caps : List PV) (nm : List UInt8) (a b : Int) (g : Nat → Val) (n : Nat) (hn : n ≤ 1000000) (B : Blk) (hg : ∀ i : Nat, i < n → res Γ f (.int .i64 (i : Int) :: caps) = some [.agg [.bool (g i).1, .int .i64 (g i).2]]) (Q : Out → Prop)
    (hQ : Q (.nrm, [(6, .bx 0 0), (7, .bx 1 0)], [B, serB nm a b (.own 2 n) 0, .row false 2 (vpv (valsF g n))])) : ∀ (k i : Nat), i + 1 + k = n →
    Wp Γ fjoin_joined_series_l1 [(2, .p (.clo f caps)), (6, .bx 0 0), (7, .bx 1 0), (22, .p (.int .i64 (n : Int))), (23, .p (.int .i64 ((i + 1 : Nat) : Int)))] [B, serB nm a b (.own 2 (i + 1)) 0, .row false 2 (vpv (valsF g (i + 1)))] (InBlk [6, 7] 0 Q) := by
  intro k
  induction k with
  | zero =>
    intro i hi
    have hi : i + 1 = n := by omega
    rw [hi]
    rw [W_loop (L := fjoin_joined_series_l1) rfl]
    simp (disch := first | assumption | omega | decide | (simp only [lens] <;> omega) | fail) only [go_sem]
    exact hQ
  | succ k ih =>
    intro i hi
    have ih := ih (i + 1) (by omega)
    rw [valsF_succ] at ih
    have e := hg (i + 1) (by omega)
    have hlen := @valsF_len g (i + 1)
    rw [W_loop (L := fjoin_joined_series_l1) rfl]
    simp (disch := first | assumption | omega | decide | (simp only [lens] <;> omega) | fail) only [go_sem, e]
    exact ih
theorem res_series {K : SK} (f : Nat) (caps : List PV) (nm : List UInt8) (a b : Int) (m : List (SK × Ser)) (g : Nat → Val) (n : Nat) (hn : n ≤ 1000000) (hm : (if m = [] then 0 else ((m.getD 0 noSer).2.vals.length : Int)) = (n : Int)) (hg : ∀ i : Nat, i < n → res Γ f (.int .i64 (i : Int) :: caps) = some [.agg [.bool (g i).1, .int .i64 (g i).2]]) :
    res Γ 227 [.ptr (jC a b K m), .str nm, .clo f caps] = some [(Ser.mk nm a b (valsF g n) 0).pv (fitK n)] := by
  have e1 := res_many (a := a) (b := b) (K := K) m
  rw [hm] at e1
  unfold fitK Ser.pv
  by_cases h0 : n = 0
  · subst h0
    rw [if_pos rfl]
    refine res_code (fn := fjoin_joined_series) rfl rfl ?_
    simp (disch := first | assumption | omega | decide | (simp only [lens] <;> omega) | fail) only [go_sem, fjoin_joined_series, e1]
    rw [W_loop (L := fjoin_joined_series_l1) rfl]
    simp (disch := first | assumption | omega | decide | (simp only [lens] <;> omega) | fail) only [go_sem]
    rfl
  · rw [if_neg h0]
    have e2 : res Γ f (.int .i64 0 :: caps) = some [.agg [.bool (g 0).1, .int .i64 (g 0).2]] := hg 0 (by omega)
    have e0 : vpv [] = [] := rfl
    have L := fun B Q => series_l1_ok f caps nm a b g n hn B hg Q
    have ev : valsF g 1 = [g 0] := rfl
    have hlen := @valsF_len g n
    refine res_code (fn := fjoin_joined_series) rfl rfl ?_
    simp (disch := first | assumption | omega | decide | (simp only [lens] <;> omega) | fail) only [go_sem, fjoin_joined_series, e1]
    rw [W_loop (L := fjoin_joined_series_l1) rfl]
    simp (disch := first | assumption | omega | decide | (simp only [lens] <;> omega) | fail) only [go_sem, e2]
    refine L _ _ ?_ (n - 1) 0 (by omega)
    simp (disch := first | assumption | omega | decide | (simp only [lens] <;> omega) | fail) only [go_sem]
end Ab
namespace Ab
open Go (IntKind BinOp UnOp)
def namesJ (l : List (SK × Ser)) : List (List UInt8) := l.map fun x => x.2.name
def extraJ (nm : List UInt8) (p : Val) (kind : Int) : List (List UInt8) := if nm = jPer then [printB p] else if nm = jAgg then [aggName kind] else []
def fixP (p : Val) : Val := if isV p = true then p else noV
theorem placeV_fix {nm : List UInt8} {p : Val} {kind : Int} {k : List Val} : placeV nm (fixP p) kind k = placeV nm p kind k := by
  unfold fixP
  by_cases h : isV p = true
  · rw [if_pos h]
  · rw [if_neg h]
    unfold placeV
    rw [← rankV_bad (p := p) (Bool.eq_false_iff.2 h)]
theorem colsV_vals {nm : List UInt8} {p : Val} {kind : Int} {m : List (SK × Ser)} {n : Nat} : colsV nm p kind m n = valsF (fun i => placeV nm p kind (knL (atV m i))) n := rfl
theorem namesJ_snoc {l : List (SK × Ser)} {i : Nat} (h : i < l.length) : namesJ (l.take (i + 1)) = namesJ (l.take i) ++ [(l.getD i noSer).2.name] := by
  unfold namesJ
  rw [take_snoc' noSer h, List.map_append]; rfl
theorem namesJ_len {l : List (SK × Ser)} : (namesJ l).length = l.length := by simp [namesJ]
theorem res_Apply1 {F : Nat} {nm : List UInt8} {a b : Int} {K : SK} (hF : ∀ (kk : SK) (k : List Val) (p : Val) (kind : Int), k.length < 100000000 → res Γ F [placeP kk k p kind] = some [.agg [.bool (placeV nm p kind k).1, .int .i64 (placeV nm p kind k).2]])
    (m : List (SK × Ser)) (hm : m.length ≤ 1000000) (i : Nat) (hi : ∀ x ∈ m, i < x.2.vals.length) (hb : i < 1000000000) (p : Val) (kind : Int) :
    res Γ 226 [.int .i64 (i : Int), .ptr [.clo F []], .ptr [.ptr (jC a b K m)], .ptr [.bool p.1, .int .i64 p.2], .ptr [.int .i64 kind]] = some [.agg [.bool (placeV nm p kind (knL (atV m i))).1, .int .i64 (placeV nm p kind (knL (atV m i))).2]] := by
  have hkl := knL_len (atV m i)
  rw [atV_len] at hkl
  have e1 := res_known (a := a) (b := b) (K := K) m hm i hi hb
  have e2 := hF .any (knL (atV m i)) p kind (by omega)
  refine res_code (fn := fjoin_Apply_1) rfl rfl ?_
  simp (disch := first | assumption | omega | decide | (simp only [lens] <;> omega) | fail) only [go_sem, fjoin_Apply_1, e1, e2]
set_option maxRecDepth 10000 in
theorem Apply_l1_ok {k2 : SK} (l : List (SK × Ser)) (hl : l.length ≤ 1000000) (a : AV) (B0 B1 B2 B3 : Blk) (hB : (∃ cs : List PV, B0 = .box (cs.map .p)) ∧ (∃ cs : List PV, B1 = .box (cs.map .p)) ∧ (∃ cs : List PV, B2 = .box (cs.map .p)) ∧ (∃ cs : List PV, B3 = .box (cs.map .p))) (ha : ∃ v, a = .p v) (Q : Out → Prop)
    (hQ : Q (.nrm, [(0, a), (5, .bx 0 0), (6, .bx 1 0), (10, .bx 2 0), (11, .bx 3 0), (13, .own 4 l.length)], [B0, B1, B2, B3, .row false 1 (strs (namesJ l))])) : ∀ (n i : Nat) (R : Heap), i + n = l.length →
    Wp Γ fjoin_Apply_l1 [(0, a), (5, .bx 0 0), (6, .bx 1 0), (10, .bx 2 0), (11, .bx 3 0), (13, .own 4 i), (33, .p (.sl k2 5 (sers l))), (34, .p (.int .i64 (l.length : Int))), (35, .p (.int .i64 (i : Int)))] (B0 :: B1 :: B2 :: B3 :: .row false 1 (strs (namesJ (l.take i))) :: R) (InBlk [0, 5, 6, 10, 11, 13] 0 Q) := by
  obtain ⟨⟨c0, rfl⟩, ⟨c1, rfl⟩, ⟨c2, rfl⟩, ⟨c3, rfl⟩⟩ := hB
  obtain ⟨v, rfl⟩ := ha
  intro n
  induction n with
  | zero =>
    intro i R hi
    obtain rfl : i = l.length := by omega
    rw [List.take_length]
    rw [W_loop (L := fjoin_Apply_l1) rfl]
    simp (disch := first | assumption | omega | decide | (simp only [lens] <;> omega) | fail) only [go_sem]
    exact hQ
  | succ n ih =>
    intro i R hi
    have hlt : i < l.length := by omega
    have ih := fun R => ih (i + 1) R (by omega)
    rw [namesJ_snoc hlt] at ih
    have hlen : (namesJ (l.take i)).length = i := by rw [namesJ_len, List.length_take]; omega
    obtain ⟨x, hx⟩ : ∃ x, l.getD i noSer = x := ⟨_, rfl⟩
    rw [hx] at ih
    rw [W_loop (L := fjoin_Apply_l1) rfl]
    simp (disch := first | assumption | omega | decide | (simp only [lens] <;> omega) | fail) only [go_sem, hx, serC]
    exact ih _
def applyR (nm : List UInt8) (p : Val) (kind : Int) (l : List (SK × Ser)) : List PV :=
  if nm ∉ jAll then [.sl .nil 5 [], .int .i64 9] else if errJ (sersOf l) ≠ 0 then [.sl .nil 5 [], .int .i64 (errJ (sersOf l))] else if l = [] then [.sl .nil 5 [], .int .i64 0]
  else [.sl .tight 5 [(Ser.mk (labelL nm (namesJ l ++ extraJ nm p kind)) (bJ l) (sJ l) (colsV nm p kind (joinW l (bJ l) (sJ l) (nJ l)) (nJ l)) 0).pv (fitK (nJ l))], .int .i64 0]
theorem joinW_ok {l : List (SK × Ser)} {b : Int} {st n i : Nat} (hi : i < n) : ∀ x ∈ joinW l b st n, i < x.2.vals.length := by
  intro x hx
  obtain ⟨y, hy, rfl⟩ := List.mem_map.1 hx
  have : (fitS y.2 b st n).vals.length = n := fitV_len
  rw [this]; exact hi
theorem many_ok {l : List (SK × Ser)} {b : Int} {st n : Nat} (h0 : l ≠ []) : (if joinW l b st n = [] then 0 else (((joinW l b st n).getD 0 noSer).2.vals.length : Int)) = (n : Int) := by
  have hpos : 0 < l.length := List.length_pos_iff.2 h0
  rw [if_neg (fun h => by have := congrArg List.length h; rw [joinW_len, List.length_nil] at this; omega), joinW_get hpos]
  have : (fitS (l.getD 0 noSer).2 b st n).vals.length = n := fitV_len
  rw [this]
theorem nJ_le {l : List (SK × Ser)} (he : errJ (sersOf l) = 0) (h0 : l ≠ []) : nJ l ≤ 131072 := by
  unfold errJ at he
  have hne : sersOf l ≠ [] := by simpa [sersOf] using h0
  by_cases a1 : (sersOf l).all isS = false
  · rw [if_pos a1] at he; omega
  · rw [if_neg a1, if_neg hne] at he
    by_cases a2 : stepJ (sersOf l) = 0
    · rw [if_pos a2] at he; omega
    · rw [if_neg a2] at he
      by_cases a3 : 131072 < manyJ (sersOf l)
      · rw [if_pos a3] at he; omega
      · unfold nJ; omega
theorem aggName_len (k : Int) : (aggName k).length ≤ 100 := by
  unfold aggName
  repeat' split
  all_goals decide
theorem printB_len (v : Val) : (printB v).length ≤ 100 := by
  unfold printB
  split
  · rename_i hk
    have hb := knV_bound hk
    have h1 : (decB (v.2.natAbs / 1000000)).length ≤ 20 := decB_len20 (by omega)
    have h2 : (fracB (v.2.natAbs % 1000000)).length ≤ 25 := by
      unfold fracB
      split
      · simp
      · have h3 : (decB (1000000 + v.2.natAbs % 1000000)).length ≤ 20 := decB_len20 (by omega)
        have := trimN_len ((decB (1000000 + v.2.natAbs % 1000000)).drop 1) _ (Nat.le_refl _)
        unfold trimB
        rw [List.length_drop] at this
        rw [List.length_cons, List.length_drop]; omega
    rw [List.length_append, List.length_append]
    split <;> simp <;> omega
  · decide
theorem joinB_le {sep : List UInt8} {B : Nat} : ∀ {l : List (List UInt8)}, (∀ x ∈ l, x.length ≤ B) → (joinB sep l).length ≤ l.length * (B + sep.length)
  | [], _ => by simp [joinB]
  | [s], h => by have := h s (by simp); simp [joinB]; omega
  | s :: t :: r, h => by
    have ih := joinB_le (sep := sep) (B := B) (l := t :: r) fun x hx => h x (by simp only [List.mem_cons] at hx ⊢; exact .inr hx)
    have h1 := h s (by simp)
    have e : joinB sep (s :: t :: r) = s ++ sep ++ joinB sep (t :: r) := rfl
    have e2 : (s :: t :: r).length * (B + sep.length) = (B + sep.length) + (t :: r).length * (B + sep.length) := by
      rw [List.length_cons, Nat.add_mul, Nat.one_mul, Nat.add_comm]
    rw [e, e2, List.length_append, List.length_append]
    omega
theorem texts_ok {nm : List UInt8} {p : Val} {kind : Int} {l : List (SK × Ser)} (hl : l.length ≤ 100) (hn : ∀ x ∈ l, x.2.name.length ≤ 4096) : (joinB [44] (namesJ l ++ extraJ nm p kind)).length ≤ 1000000000 ∧ (namesJ l ++ extraJ nm p kind).length < 1000000000 := by
  have hx : (extraJ nm p kind).length ≤ 1 := by
    unfold extraJ
    split
    · simp
    · split <;> simp
  have hb : ∀ x ∈ namesJ l ++ extraJ nm p kind, x.length ≤ 4096 := fun x hx => by
    rcases List.mem_append.1 hx with hx | hx
    · obtain ⟨y, hy, rfl⟩ := List.mem_map.1 hx
      exact hn y hy
    · unfold extraJ at hx
      split at hx
      · rw [List.mem_singleton] at hx; subst hx; have := printB_len p; omega
      · split at hx
        · rw [List.mem_singleton] at hx; subst hx; have := aggName_len kind; omega
        · cases hx
  have hlen : (namesJ l ++ extraJ nm p kind).length ≤ 101 := by rw [List.length_append, namesJ_len]; omega
  have := joinB_le (sep := [44]) hb
  have h2 : (namesJ l ++ extraJ nm p kind).length * (4096 + ([44] : List UInt8).length) ≤ 101 * 4097 := Nat.mul_le_mul hlen (by simp)
  omega
set_option maxRecDepth 10000 in
theorem res_Apply {kk : SK} (nm : List UInt8) (hnm : nm.length ≤ 1000000) (p : Val) (kind : Int) (l : List (SK × Ser)) (hl : l.length ≤ 100) (hv : ∀ x ∈ l, x.2.vals.length ≤ 1000000) (hn : ∀ x ∈ l, x.2.name.length ≤ 4096) :
    res Γ 217 [.str nm, .agg [.bool p.1, .int .i64 p.2], .int .i64 kind, .sl kk 5 (sers l)] = some (applyR nm p kind l) := by
  unfold applyR
  by_cases hm : nm ∈ jAll
  · rw [if_neg (fun h => h hm)]
    obtain ⟨F, d1, d2⟩ := res_doesJ hm
    by_cases he : errJ (sersOf l) = 0
    · rw [if_neg (fun h => h he)]
      by_cases h0 : l = []
      · subst h0
        rw [if_pos rfl]
        have e1 := @res_join_nil kk
        rw [sers_nil]
        refine res_code (fn := fjoin_Apply) rfl rfl ?_
        simp (disch := first | assumption | omega | decide | (simp only [lens] <;> omega) | fail) only [go_sem, fjoin_Apply, d1, e1, ne_eq, not_true_eq_false]
      · rw [if_neg h0]
        have hpos : 0 < l.length := List.length_pos_iff.2 h0
        have e1 := res_join_ok (kk := kk) l (by omega) hv h0 he
        have hn1 := nJ_le he h0
        have L := fun k2 a B0 B1 B2 B3 hB ha Q => Apply_l1_ok (k2 := k2) l (by omega) a B0 B1 B2 B3 hB ha Q
        obtain ⟨t1, t2⟩ := texts_ok (nm := nm) (p := p) (kind := kind) hl hn
        have eL := fun kk => res_seriesLabelL (kk := kk) nm (namesJ l ++ extraJ nm p kind) hnm t2 t1
        have eS := res_series (K := .any) 226 [.ptr [.clo F []], .ptr [.ptr (jC (bJ l) (sJ l) .any (joinW l (bJ l) (sJ l) (nJ l)))], .ptr [.bool (fixP p).1, .int .i64 (fixP p).2], .ptr [.int .i64 kind]] (labelL nm (namesJ l ++ extraJ nm p kind)) (bJ l) (sJ l)
          (joinW l (bJ l) (sJ l) (nJ l)) (fun i => placeV nm p kind (knL (atV (joinW l (bJ l) (sJ l) (nJ l)) i))) (nJ l) (by omega) (many_ok h0) (fun i hi => by
            have := res_Apply1 (a := bJ l) (b := sJ l) (K := .any) d2 (joinW l (bJ l) (sJ l) (nJ l)) (by rw [joinW_len]; omega) i (joinW_ok hi) (by omega) (fixP p) kind
            rw [placeV_fix] at this
            exact this)
        have hpr := res_decPrint p.1 p.2
        have hag := res_aggName kind
        have hIs := res_fixedIs p.1 p.2
        have hnl := @namesJ_len l
        rw [colsV_vals]
        generalize valsF (fun i => placeV nm p kind (knL (atV (joinW l (bJ l) (sJ l) (nJ l)) i))) (nJ l) = V at *
        generalize joinW l (bJ l) (sJ l) (nJ l) = m at *
        have hp2 : (p.1, p.2) = p := rfl
        rw [hp2] at hpr hIs
        unfold Ser.pv at eS ⊢
        unfold fixP noV at eS
        have hjj : jPer ≠ jAgg := by decide
        by_cases c1 : nm = jPer
        · have ex : extraJ nm p kind = [printB p] := by unfold extraJ; rw [if_pos c1]
          rw [ex] at eL eS ⊢
          have c1' : nm = [112, 101, 114, 99, 101, 110, 116, 105, 108, 101, 79, 102, 83, 101, 114, 105, 101, 115] := c1
          cases hI : isV p
          · rw [hI] at hIs
            rw [if_neg (by rw [hI]; decide)] at eS
            refine res_code (fn := fjoin_Apply) rfl rfl ?_
            simp (disch := first | assumption | omega | decide | (simp only [lens] <;> omega) | fail) only [go_sem, fjoin_Apply, d1, e1, ne_eq, not_true_eq_false]
            refine L kk _ _ _ _ _ ⟨⟨[_, _], rfl⟩, ⟨[_], rfl⟩, ⟨[_], rfl⟩, ⟨[_], rfl⟩⟩ ⟨_, rfl⟩ _ ?_ l.length 0 _ (by omega)
            simp (disch := first | assumption | omega | decide | (simp only [lens] <;> omega) | fail) only [go_sem, hpr, hIs, eL, eS]
          · rw [hI] at hIs
            rw [if_pos hI] at eS
            refine res_code (fn := fjoin_Apply) rfl rfl ?_
            simp (disch := first | assumption | omega | decide | (simp only [lens] <;> omega) | fail) only [go_sem, fjoin_Apply, d1, e1, ne_eq, not_true_eq_false]
            refine L kk _ _ _ _ _ ⟨⟨[_, _], rfl⟩, ⟨[_], rfl⟩, ⟨[_], rfl⟩, ⟨[_], rfl⟩⟩ ⟨_, rfl⟩ _ ?_ l.length 0 _ (by omega)
            simp (disch := first | assumption | omega | decide | (simp only [lens] <;> omega) | fail) only [go_sem, hpr, hIs, eL, eS]
        · by_cases c2 : nm = jAgg
          · have ex : extraJ nm p kind = [aggName kind] := by unfold extraJ; rw [if_neg c1, if_pos c2]
            rw [ex] at eL eS ⊢
            have c1' : ¬ nm = [112, 101, 114, 99, 101, 110, 116, 105, 108, 101, 79, 102, 83, 101, 114, 105, 101, 115] := c1
            have c2' : nm = [97, 103, 103, 114, 101, 103, 97, 116, 101] := c2
            cases hI : isV p
            · rw [hI] at hIs
              rw [if_neg (by rw [hI]; decide)] at eS
              refine res_code (fn := fjoin_Apply) rfl rfl ?_
              simp (disch := first | assumption | omega | decide | (simp only [lens] <;> omega) | fail) only [go_sem, fjoin_Apply, d1, e1, ne_eq, not_true_eq_false]
              refine L kk _ _ _ _ _ ⟨⟨[_, _], rfl⟩, ⟨[_], rfl⟩, ⟨[_], rfl⟩, ⟨[_], rfl⟩⟩ ⟨_, rfl⟩ _ ?_ l.length 0 _ (by omega)
              simp (disch := first | assumption | omega | decide | (simp only [lens] <;> omega) | fail) only [go_sem, hag, hIs, eL, eS]
            · rw [hI] at hIs
              rw [if_pos hI] at eS
              refine res_code (fn := fjoin_Apply) rfl rfl ?_
              simp (disch := first | assumption | omega | decide | (simp only [lens] <;> omega) | fail) only [go_sem, fjoin_Apply, d1, e1, ne_eq, not_true_eq_false]
              refine L kk _ _ _ _ _ ⟨⟨[_, _], rfl⟩, ⟨[_], rfl⟩, ⟨[_], rfl⟩, ⟨[_], rfl⟩⟩ ⟨_, rfl⟩ _ ?_ l.length 0 _ (by omega)
              simp (disch := first | assumption | omega | decide | (simp only [lens] <;> omega) | fail) only [go_sem, hag, hIs, eL, eS]
          · have ex : extraJ nm p kind = [] := by unfold extraJ; rw [if_neg c1, if_neg c2]
            rw [ex, List.append_nil] at eL eS ⊢
            have c1' : ¬ nm = [112, 101, 114, 99, 101, 110, 116, 105, 108, 101, 79, 102, 83, 101, 114, 105, 101, 115] := c1
            have c2' : ¬ nm = [97, 103, 103, 114, 101, 103, 97, 116, 101] := c2
            cases hI : isV p
            · rw [hI] at hIs
              rw [if_neg (by rw [hI]; decide)] at eS
              refine res_code (fn := fjoin_Apply) rfl rfl ?_
              simp (disch := first | assumption | omega | decide | (simp only [lens] <;> omega) | fail) only [go_sem, fjoin_Apply, d1, e1, ne_eq, not_true_eq_false]
              refine L kk _ _ _ _ _ ⟨⟨[_, _], rfl⟩, ⟨[_], rfl⟩, ⟨[_], rfl⟩, ⟨[_], rfl⟩⟩ ⟨_, rfl⟩ _ ?_ l.length 0 _ (by omega)
              simp (disch := first | assumption | omega | decide | (simp only [lens] <;> omega) | fail) only [go_sem, hIs, eL, eS]
            · rw [hI] at hIs
              rw [if_pos hI] at eS
              refine res_code (fn := fjoin_Apply) rfl rfl ?_
              simp (disch := first | assumption | omega | decide | (simp only [lens] <;> omega) | fail) only [go_sem, fjoin_Apply, d1, e1, ne_eq, not_true_eq_false]
              refine L kk _ _ _ _ _ ⟨⟨[_, _], rfl⟩, ⟨[_], rfl⟩, ⟨[_], rfl⟩, ⟨[_], rfl⟩⟩ ⟨_, rfl⟩ _ ?_ l.length 0 _ (by omega)
              simp (disch := first | assumption | omega | decide | (simp only [lens] <;> omega) | fail) only [go_sem, hIs, eL, eS]
    · rw [if_pos he]
      have e1 := res_join_err (kk := kk) l (by omega) hv he
      refine res_code (fn := fjoin_Apply) rfl rfl ?_
      simp (disch := first | assumption | omega | decide | (simp only [lens] <;> omega) | fail) only [go_sem, fjoin_Apply, d1, e1]
  · rw [if_pos hm]
    have d1 := res_doesJ_no hm
    refine res_code (fn := fjoin_Apply) rfl rfl ?_
    simp (disch := first | assumption | omega | decide | (simp only [lens] <;> omega) | fail) only [go_sem, fjoin_Apply, d1]
end Ab
namespace Ab
open Go (IntKind BinOp UnOp)
abbrev colJ (m : List (SK × Ser)) (k i : Nat) : Val := (m.getD k noSer).2.vals.getD i (false, 0)
def shareV (x y : Val) : Val := mulV (true, 100000000) (divV x y)
theorem res_share (x y : Val) : res Γ 259 [.agg [.bool x.1, .int .i64 x.2], .agg [.bool y.1, .int .i64 y.2]] = some [.agg [.bool (shareV x y).1, .int .i64 (shareV x y).2]] := by
  have e1 : res Γ 137 [.int .i64 100] = some [.agg [.bool true, .int .i64 100000000]] := res_fixedInt (n := 100) (by omega)
  have e2 := res_fixedDivV x y
  have e3 := res_fixedMulV (true, 100000000) (divV x y)
  unfold shareV
  generalize divV x y = d at *
  generalize mulV (true, 100000000) d = w at *
  refine res_code (fn := fjoin_share) rfl rfl ?_
  simp (disch := first | assumption | omega | decide | (simp only [lens] <;> omega) | fail) only [go_sem, fjoin_share, e1, e2, e3]
theorem res_two1 {F : Nat} {g : Val → Val → Val} {a b : Int} {K : SK} (hF : ∀ x y : Val, res Γ F [.agg [.bool x.1, .int .i64 x.2], .agg [.bool y.1, .int .i64 y.2]] = some [.agg [.bool (g x y).1, .int .i64 (g x y).2]])
    (m : List (SK × Ser)) (hm : m.length = 2) (i : Nat) (hi : ∀ x ∈ m, i < x.2.vals.length) (hb : i < 1000000000) :
    res Γ 273 [.int .i64 (i : Int), .ptr [.clo F []], .ptr [.ptr (jC a b K m)]] = some [.agg [.bool (g (colJ m 0 i) (colJ m 1 i)).1, .int .i64 (g (colJ m 0 i) (colJ m 1 i)).2]] := by
  have h0 := hi _ (ser_mem (show 0 < m.length by omega))
  have h1 := hi _ (ser_mem (show 1 < m.length by omega))
  unfold colJ
  obtain ⟨x, hx⟩ : ∃ x, m.getD 0 noSer = x := ⟨_, rfl⟩
  obtain ⟨y, hy⟩ : ∃ y, m.getD 1 noSer = y := ⟨_, rfl⟩
  rw [hx] at h0 ⊢
  rw [hy] at h1 ⊢
  have e := hF (x.2.vals.getD i (false, 0)) (y.2.vals.getD i (false, 0))
  generalize g (x.2.vals.getD i (false, 0)) (y.2.vals.getD i (false, 0)) = w at *
  refine res_code (fn := fjoin_two_1) rfl rfl ?_
  simp (disch := first | assumption | omega | decide | (simp only [lens] <;> omega) | fail) only [go_sem, fjoin_two_1, hx, hy, serC, valP, e]
theorem res_shares1 {a b : Int} {K : SK} (m : List (SK × Ser)) (hm : m.length ≤ 1000000) (k : Nat) (hk : k < m.length) (i : Nat) (hi : ∀ x ∈ m, i < x.2.vals.length) (hb : i < 1000000000) :
    res Γ 272 [.int .i64 (i : Int), .ptr [.ptr (jC a b K m)], .ptr [.int .i64 (k : Int)]] = some [.agg [.bool (shareV (colJ m k i) (aggV 2 (knL (atV m i)))).1, .int .i64 (shareV (colJ m k i) (aggV 2 (knL (atV m i)))).2]] := by
  have h0 := hi _ (ser_mem hk)
  have hkl := knL_len (atV m i)
  rw [atV_len] at hkl
  have e1 := res_known (a := a) (b := b) (K := K) m hm i hi hb
  have e2 := res_aggOf2 (kk := .any) (knL (atV m i)) (by omega)
  unfold colJ
  generalize knL (atV m i) = l at *
  generalize aggV 2 l = s at *
  obtain ⟨x, hx⟩ : ∃ x, m.getD k noSer = x := ⟨_, rfl⟩
  rw [hx] at h0 ⊢
  have e3 := res_share (x.2.vals.getD i (false, 0)) s
  generalize shareV (x.2.vals.getD i (false, 0)) s = w at *
  refine res_code (fn := fjoin_shares_1) rfl rfl ?_
  simp (disch := first | assumption | omega | decide | (simp only [lens] <;> omega) | fail) only [go_sem, fjoin_shares_1, hx, serC, valP, e1, e2, e3]
def twoS (nm : List UInt8) (g : Val → Val → Val) (x y : SK × Ser) : SK × Ser :=
  (fitK (nJ [x, y]), ⟨labelL nm [x.2.name, y.2.name], bJ [x, y], sJ [x, y], valsF (fun i => g (colJ (joinW [x, y] (bJ [x, y]) (sJ [x, y]) (nJ [x, y])) 0 i) (colJ (joinW [x, y] (bJ [x, y]) (sJ [x, y]) (nJ [x, y])) 1 i)) (nJ [x, y]), 0⟩)
def twoR (nm : List UInt8) (g : Val → Val → Val) (x y : SK × Ser) : List PV :=
  if errJ (sersOf [x, y]) ≠ 0 then [noSer.2.pv .nil, .int .i64 (errJ (sersOf [x, y]))] else [(twoS nm g x y).2.pv (twoS nm g x y).1, .int .i64 0]
theorem res_two {F : Nat} {g : Val → Val → Val} (hF : ∀ x y : Val, res Γ F [.agg [.bool x.1, .int .i64 x.2], .agg [.bool y.1, .int .i64 y.2]] = some [.agg [.bool (g x y).1, .int .i64 (g x y).2]])
    (nm : List UInt8) (hnm : nm.length ≤ 1000000) (x y : SK × Ser) (hx : x.2.vals.length ≤ 1000000) (hy : y.2.vals.length ≤ 1000000) (nx : x.2.name.length ≤ 4096) (ny : y.2.name.length ≤ 4096) :
    res Γ 257 [.str nm, x.2.pv x.1, y.2.pv y.1, .clo F []] = some (twoR nm g x y) := by
  have hv : ∀ z ∈ [x, y], z.2.vals.length ≤ 1000000 := by
    intro z hz
    rcases List.mem_cons.1 hz with rfl | hz
    · exact hx
    · rw [List.mem_singleton.1 hz]; exact hy
  have es : sers [x, y] = [x.2.pv x.1, y.2.pv y.1] := rfl
  unfold twoR
  by_cases he : errJ (sersOf [x, y]) = 0
  · rw [if_neg (fun h => h he)]
    have hne : [x, y] ≠ [] := by simp
    have e1 := res_join_ok (kk := .tight) [x, y] (by simp) hv hne he
    rw [es] at e1
    have hn := nJ_le he hne
    have eL : res Γ 30 [.str nm, .sl .tight 1 [.str x.2.name, .str y.2.name]] = some [.str (labelL nm [x.2.name, y.2.name])] := res_seriesLabelL (kk := .tight) nm [x.2.name, y.2.name] hnm (by simp) (by simp [joinB]; omega)
    have eS := res_series (K := .any) 273 [.ptr [.clo F []], .ptr [.ptr (jC (bJ [x, y]) (sJ [x, y]) .any (joinW [x, y] (bJ [x, y]) (sJ [x, y]) (nJ [x, y])))]] (labelL nm [x.2.name, y.2.name]) (bJ [x, y]) (sJ [x, y])
      (joinW [x, y] (bJ [x, y]) (sJ [x, y]) (nJ [x, y])) (fun i => g (colJ (joinW [x, y] (bJ [x, y]) (sJ [x, y]) (nJ [x, y])) 0 i) (colJ (joinW [x, y] (bJ [x, y]) (sJ [x, y]) (nJ [x, y])) 1 i)) (nJ [x, y]) (by omega) (many_ok hne)
      (fun i hi => res_two1 hF _ (by rw [joinW_len]; rfl) i (joinW_ok hi) (by omega))
    unfold twoS
    generalize valsF (fun i => g (colJ (joinW [x, y] (bJ [x, y]) (sJ [x, y]) (nJ [x, y])) 0 i) (colJ (joinW [x, y] (bJ [x, y]) (sJ [x, y]) (nJ [x, y])) 1 i)) (nJ [x, y]) = V at *
    generalize joinW [x, y] (bJ [x, y]) (sJ [x, y]) (nJ [x, y]) = m at *
    unfold Ser.pv at *
    refine res_code (fn := fjoin_two) rfl rfl ?_
    simp (disch := first | assumption | omega | decide | (simp only [lens] <;> omega) | fail) only [go_sem, fjoin_two, e1, eL, eS, ne_eq, not_true_eq_false]
  · rw [if_pos he]
    have e1 := res_join_err (kk := .tight) [x, y] (by simp) hv he
    rw [es] at e1
    generalize errJ (sersOf [x, y]) = E at *
    unfold Ser.pv noSer at *
    refine res_code (fn := fjoin_two) rfl rfl ?_
    simp (disch := first | assumption | omega | decide | (simp only [lens] <;> omega) | fail) only [go_sem, fjoin_two, e1, vpv_nil]
theorem st227 : stillF Γ 2 227 = true := rfl
theorem seriesM_l1_ok (f : Nat) (P : PV) (k : Int) (nm : List UInt8) (a b : Int) (g : Nat → Val) (n : Nat) (hn : n ≤ 1000000) (B : Blk) (hg : ∀ i : Nat, i < n → res Γ f [.int .i64 (i : Int), .ptr [P], .ptr [.int .i64 k]] = some [.agg [.bool (g i).1, .int .i64 (g i).2]]) (Q : Out → Prop)
    (hQ : Q (.nrm, [(6, .bx 2 0), (7, .bx 3 0)], [.box [.p P], .box [.p (.int .i64 k)], B, serB nm a b (.own 4 n) 0, .row false 2 (vpv (valsF g n))])) : ∀ (j i : Nat), i + 1 + j = n →
    Wp Γ fjoin_joined_series_l1 [(2, .clo f [.bx 0 0, .bx 1 0]), (6, .bx 2 0), (7, .bx 3 0), (22, .p (.int .i64 (n : Int))), (23, .p (.int .i64 ((i + 1 : Nat) : Int)))] [.box [.p P], .box [.p (.int .i64 k)], B, serB nm a b (.own 4 (i + 1)) 0, .row false 2 (vpv (valsF g (i + 1)))] (InBlk [6, 7] 0 Q) := by
  intro j
  induction j with
  | zero =>
    intro i hi
    have hi : i + 1 = n := by omega
    rw [hi]
    rw [W_loop (L := fjoin_joined_series_l1) rfl]
    simp (disch := first | assumption | omega | decide | (simp only [lens] <;> omega) | fail) only [go_sem]
    exact hQ
  | succ j ih =>
    intro i hi
    have ih := ih (i + 1) (by omega)
    rw [valsF_succ] at ih
    have e := hg (i + 1) (by omega)
    have hlen := @valsF_len g (i + 1)
    rw [W_loop (L := fjoin_joined_series_l1) rfl]
    simp (disch := first | assumption | omega | decide | (simp only [lens] <;> omega) | fail) only [go_sem, e]
    exact ih
def serA (nm : List UInt8) (a b : Int) (g : Nat → Val) (n : Nat) : AV := if n = 0 then .p (.agg [.str nm, .int .i64 a, .int .i64 b, .sl .nil 2 [], .int .i64 0]) else .agg [.p (.str nm), .p (.int .i64 a), .p (.int .i64 b), .own 2 n, .p (.int .i64 0)]
def serH (g : Nat → Val) (n : Nat) : Heap := if n = 0 then [] else [.row false 2 (vpv (valsF g n))]
theorem resM_series {K : SK} (f : Nat) (k : Int) (nm : List UInt8) (a b : Int) (m : List (SK × Ser)) (g : Nat → Val) (n : Nat) (hn : n ≤ 1000000) (hm : (if m = [] then 0 else ((m.getD 0 noSer).2.vals.length : Int)) = (n : Int))
    (hg : ∀ i : Nat, i < n → res Γ f [.int .i64 (i : Int), .ptr [.ptr (jC a b K m)], .ptr [.int .i64 k]] = some [.agg [.bool (g i).1, .int .i64 (g i).2]]) :
    resM Γ 2 227 [.p (.ptr (jC a b K m)), .p (.str nm), .clo f [.bx 0 0, .bx 1 0]] [.box [.p (.ptr (jC a b K m))], .box [.p (.int .i64 k)]] = some ([serA nm a b g n], .box [.p (.ptr (jC a b K m))] :: .box [.p (.int .i64 k)] :: serH g n) := by
  have e1 := res_many (a := a) (b := b) (K := K) m
  rw [hm] at e1
  unfold serA serH
  by_cases h0 : n = 0
  · subst h0
    rw [if_pos rfl, if_pos rfl]
    refine resM_code (fn := fjoin_joined_series) rfl rfl ?_
    simp (disch := first | assumption | omega | decide | (simp only [lens] <;> omega) | fail) only [go_sem, fjoin_joined_series, e1]
    rw [W_loop (L := fjoin_joined_series_l1) rfl]
    simp (disch := first | assumption | omega | decide | (simp only [lens] <;> omega) | fail) only [go_sem]
  · rw [if_neg h0, if_neg h0]
    have e2 : res Γ f [.int .i64 0, .ptr [.ptr (jC a b K m)], .ptr [.int .i64 k]] = some [.agg [.bool (g 0).1, .int .i64 (g 0).2]] := hg 0 (by omega)
    have e0 : vpv [] = [] := rfl
    have L := fun B Q => seriesM_l1_ok f (.ptr (jC a b K m)) k nm a b g n hn B hg Q
    have ev : valsF g 1 = [g 0] := rfl
    have hlen := @valsF_len g n
    refine resM_code (fn := fjoin_joined_series) rfl rfl ?_
    simp (disch := first | assumption | omega | decide | (simp only [lens] <;> omega) | fail) only [go_sem, fjoin_joined_series, e1]
    rw [W_loop (L := fjoin_joined_series_l1) rfl]
    simp (disch := first | assumption | omega | decide | (simp only [lens] <;> omega) | fail) only [go_sem, e2]
    refine L _ _ ?_ (n - 1) 0 (by omega)
    simp (disch := first | assumption | omega | decide | (simp only [lens] <;> omega) | fail) only [go_sem]
end Ab
