import Derived.Test.YtjkkipfigangaaaGreatDoorLApplied
namespace Ab
open Go (IntKind BinOp UnOp)
theorem fstE_all {f : Nat → Int} : ∀ {k i : Nat}, fstE f i k = 0 → ∀ j, i ≤ j → j < i + k → f j = 0
  | 0, i, _, j, h1, h2 => by omega
  | k + 1, i, h, j, h1, h2 => by
    by_cases h0 : f i = 0
    · rw [fstE_zero h0] at h
      by_cases e : j = i
      · rw [e]; exact h0
      · exact fstE_all h j (by omega) (by omega)
    · rw [fstE_not h0] at h
      exact absurd h h0
theorem twoS_of {nm : List UInt8} {g : Val → Val → Val} {x y x' y' : SK × Ser} (hx : x.2 = x'.2) (hy : y.2 = y'.2) : twoS nm g x y = twoS nm g x' y' := by
  obtain ⟨a, b⟩ := x
  obtain ⟨a', b'⟩ := x'
  obtain ⟨c, d⟩ := y
  obtain ⟨c', d'⟩ := y'
  cases hx
  cases hy
  rfl
theorem errP_of {x y x' y' : SK × Ser} (hx : x.2 = x'.2) (hy : y.2 = y'.2) : errJ (sersOf [x, y]) = errJ (sersOf [x', y']) := by
  have e : sersOf [x, y] = sersOf [x', y'] := by
    show [x.2, y.2] = [x'.2, y'.2]
    rw [hx, hy]
  rw [e]
theorem ownL_get {l : List (SK × Ser)} {i : Nat} : ((ownL l).getD i noSer).2 = (l.getD i noSer).2 := by
  unfold ownL
  rw [List.getD_eq_getElem?_getD, List.getElem?_map, List.getD_eq_getElem?_getD]
  cases l[i]? <;> rfl
theorem yAt_own {m : List (SK × Ser)} {i : Nat} : (yAt (ownL m) i).2 = (yAt m i).2 := by
  unfold yAt
  rw [ownL_len]
  exact ownL_get
theorem sharesR_own {nm : List UInt8} {l : List (SK × Ser)} : sharesR nm (ownL l) = sharesR nm l := by
  unfold sharesR
  have e1 : bJ (ownL l) = bJ l := by unfold bJ; rw [ownL_of]
  have e2 : sJ (ownL l) = sJ l := by unfold sJ; rw [ownL_of]
  have e3 : nJ (ownL l) = nJ l := by unfold nJ; rw [ownL_of]
  have e5 : ∀ b st n, joinW (ownL l) b st n = joinW l b st n := fun b st n => by unfold joinW ownL; rw [List.map_map]; rfl
  have e6 : ∀ a b g n k, shareL nm (ownL l) a b g n k = shareL nm l a b g n k := fun a b g n k => by
    unfold shareL
    simp only [ownL_get]
  rw [e1, e2, e3, e5, ownL_of, ownL_len, e6]
theorem pairR_own {nm : List UInt8} {m l : List (SK × Ser)} : pairR nm (ownL m) (ownL l) = pairR nm m l := by
  unfold pairR
  have e1 : errP (ownL m) (ownL l) = errP m l := by
    funext i
    exact errP_of ownL_get yAt_own
  have e2 : ∀ g k, pairL nm g (ownL m) (ownL l) k = pairL nm g m l k := fun g k => by
    unfold pairL
    exact List.map_congr_left fun i _ => twoS_of ownL_get yAt_own
  have e6 : (ownL m = []) = (m = []) := by unfold ownL; simp
  rw [e1, e2, ownL_len, ownL_len, sharesR_own]
  simp only [e6]
theorem pairR_cases (nm : List UInt8) (m l : List (SK × Ser)) (hl : l.length ≤ 1000000) : (∃ e : Int, pairR nm m l = [.sl .nil 5 [], .int .i64 e]) ∨ (∃ L : List (SK × Ser), L.length ≤ 1000000 ∧ (∀ x ∈ L, x.2.vals.length ≤ 1000000) ∧ pairR nm m l = [.sl .any 5 (sers L), .int .i64 0]) := by
  unfold pairR
  by_cases h1 : nm ≠ pDiv ∧ nm ≠ pPer
  · rw [if_pos h1]; exact .inl ⟨_, rfl⟩
  · rw [if_neg h1]
    by_cases h2 : nm = pPer ∧ m = []
    · rw [if_pos h2]
      unfold sharesR
      by_cases he : errJ (sersOf l) ≠ 0
      · rw [if_pos he]; exact .inl ⟨_, rfl⟩
      · rw [if_neg he]
        refine .inr ⟨_, ?_, fun x hx => ?_, rfl⟩
        · rw [shareL_len]; exact hl
        · obtain ⟨k, hk, rfl⟩ := List.mem_map.1 hx
          show (valsF _ _).length ≤ _
          have h0 : l ≠ [] := by
            rintro rfl
            simp at hk
          have := nJ_le (by omega) h0
          rw [valsF_len]; omega
    · rw [if_neg h2]
      by_cases h3 : m.length ≠ 1 ∧ (nm = pDiv ∨ m.length ≠ l.length)
      · rw [if_pos h3]; exact .inl ⟨_, rfl⟩
      · rw [if_neg h3]
        by_cases h4 : fstE (errP m l) 0 l.length ≠ 0
        · rw [if_pos h4]; exact .inl ⟨_, rfl⟩
        · rw [if_neg h4]
          refine .inr ⟨_, ?_, fun x hx => ?_, rfl⟩
          · rw [pairL_len]; exact hl
          · obtain ⟨k, hk, rfl⟩ := List.mem_map.1 hx
            have hk := List.mem_range.1 hk
            have he : errJ (sersOf [l.getD k noSer, yAt m k]) = 0 := fstE_all (f := errP m l) (i := 0) (k := l.length) (by omega) k (by omega) (by omega)
            have := nJ_le he (by simp)
            show (valsF _ _).length ≤ _
            rw [valsF_len]; omega
theorem res_paired {k1 k2 : SK} (nm : List UInt8) (hnm : nm.length ≤ 1000000) (m l : List (SK × Ser)) (hl : l.length ≤ 1048576) (hm : m.length ≤ 1048576) (hv : ∀ x ∈ l, x.2.vals.length ≤ 9223372036854775807) (hv' : ∀ x ∈ m, x.2.vals.length ≤ 9223372036854775807) :
    res Γ 220 [.str nm, .sl k1 5 (sers m), .sl k2 5 (sers l)] = some [.bool true] := by
  have hk := res_known22
  have hvv : ∀ x ∈ m ++ l, x.2.vals.length ≤ 9223372036854775807 := fun x hx => by
    rcases List.mem_append.1 hx with hx | hx
    · exact hv' x hx
    · exact hv x hx
  have hll : (m ++ l).length ≤ 9223372036854775807 := by rw [List.length_append]; omega
  have h1 := res_heavy22 (k1 := .any) (m ++ l) hll hvv
  have hsm : (sers m).length = m.length := sers_len
  have hsl : (sers l).length = l.length := sers_len
  have hsml : (sers (m ++ l)).length = m.length + l.length := by rw [sers_len, List.length_append]
  cases hh : heavyJ (m ++ l)
  · rw [hh] at h1
    obtain ⟨g1, g2⟩ := heavyJ_no hh
    rw [List.length_append] at g1
    have gv : ∀ x ∈ l, x.2.vals.length ≤ 1000000 := fun x hx => by have := (g2 x (List.mem_append.2 (.inr hx))).1; omega
    have gn : ∀ x ∈ l, x.2.name.length ≤ 4096 := fun x hx => by have := (g2 x (List.mem_append.2 (.inr hx))).2; omega
    have fv : ∀ x ∈ m, x.2.vals.length ≤ 1000000 := fun x hx => by have := (g2 x (List.mem_append.2 (.inl hx))).1; omega
    have fn : ∀ x ∈ m, x.2.name.length ≤ 4096 := fun x hx => by have := (g2 x (List.mem_append.2 (.inl hx))).2; omega
    have gv' : ∀ x ∈ ownL l, x.2.vals.length ≤ 1000000 := fun x hx => by obtain ⟨y, hy, rfl⟩ := List.mem_map.1 hx; exact gv y hy
    have gn' : ∀ x ∈ ownL l, x.2.name.length ≤ 4096 := fun x hx => by obtain ⟨y, hy, rfl⟩ := List.mem_map.1 hx; exact gn y hy
    have fv' : ∀ x ∈ ownL m, x.2.vals.length ≤ 1000000 := fun x hx => by obtain ⟨y, hy, rfl⟩ := List.mem_map.1 hx; exact fv y hy
    have fn' : ∀ x ∈ ownL m, x.2.name.length ≤ 4096 := fun x hx => by obtain ⟨y, hy, rfl⟩ := List.mem_map.1 hx; exact fn y hy
    have h2 := res_long22 (k1 := .any) (m ++ l) (by rw [List.length_append]; omega) (fun x hx => by have := (g2 x hx).1; omega)
    cases hlo : longJ (m ++ l)
    · rw [hlo] at h2
      have h3 := res_own22 (kk := k1) m (by omega) fv
      have h3' := res_own22 (kk := k2) l (by omega) gv
      have h4 := res_Pair (k1 := .any) (k2 := .any) nm hnm (ownL m) (ownL l) (by rw [ownL_len]; omega) (by rw [ownL_len]; omega) gv' gn' fv' fn'
      have h5 := res_rPair (k1 := k1) (k2 := k2) nm hnm m l (by omega) (by omega) gv gn fv fn
      have h6 := res_all22 (k1 := .any) (k2 := k1) (ownL m) m ownL_of (by rw [ownL_len]; omega) fv'
      have h6' := res_all22 (k1 := .any) (k2 := k2) (ownL l) l ownL_of (by rw [ownL_len]; omega) gv'
      rw [pairR_own] at h4
      rcases pairR_cases nm m l (by omega) with ⟨e, he⟩ | ⟨L, hs, hs', he⟩
      · rw [he] at h4 h5
        have h7 : res Γ 223 [.sl .nil 5 [], .sl .nil 5 []] = some [.bool true] := res_all22 (k1 := .nil) (k2 := .nil) [] [] rfl (by simp) (by simp)
        refine res_code (fn := l22_paired) rfl rfl ?_
        simp (disch := first | assumption | omega | decide | (simp only [lens] <;> omega) | fail) only [go_sem, l22_paired, h1, h2, h3, h3', h4, h5, h6, h6', h7, hk]
      · rw [he] at h4 h5
        have h7 := res_all22 (k1 := .any) (k2 := .any) L L rfl hs hs'
        refine res_code (fn := l22_paired) rfl rfl ?_
        simp (disch := first | assumption | omega | decide | (simp only [lens] <;> omega) | fail) only [go_sem, l22_paired, h1, h2, h3, h3', h4, h5, h6, h6', h7, hk]
    · rw [hlo] at h2
      refine res_code (fn := l22_paired) rfl rfl ?_
      simp (disch := first | assumption | omega | decide | (simp only [lens] <;> omega) | fail) only [go_sem, l22_paired, h1, h2]
  · rw [hh] at h1
    refine res_code (fn := l22_paired) rfl rfl ?_
    simp (disch := first | assumption | omega | decide | (simp only [lens] <;> omega) | fail) only [go_sem, l22_paired, h1]
def nameJ22 : List (List UInt8) := [[97, 103, 103, 114, 101, 103, 97, 116, 101], [97, 115, 80, 101, 114, 99, 101, 110, 116], [97, 118, 101, 114, 97, 103, 101, 83, 101, 114, 105, 101, 115], [99, 111, 117, 110, 116, 83, 101, 114, 105, 101, 115], [100, 105, 102, 102, 83, 101, 114, 105, 101, 115], [100, 105, 118, 105, 100, 101, 83, 101, 114, 105, 101, 115], [109, 97, 120, 83, 101, 114, 105, 101, 115], [109, 101, 100, 105, 97, 110, 83, 101, 114, 105, 101, 115], [109, 105, 110, 83, 101, 114, 105, 101, 115], [109, 117, 108, 116, 105, 112, 108, 121, 83, 101, 114, 105, 101, 115], [112, 101, 114, 99, 101, 110, 116, 105, 108, 101, 79, 102, 83, 101, 114, 105, 101, 115], [114, 97, 110, 103, 101, 79, 102, 83, 101, 114, 105, 101, 115], [115, 116, 100, 100, 101, 118, 83, 101, 114, 105, 101, 115], [115, 117, 109, 83, 101, 114, 105, 101, 115]]
theorem res_fjoinNames : res Γ 221 [] = some [.sl .tight 1 (strs nameJ22)] := by
  refine res_code (fn := fjoin_Names) rfl rfl ?_
  simp (disch := first | assumption | omega | decide | (simp only [lens] <;> omega) | fail) only [go_sem, fjoin_Names, List.replicate_succ, List.replicate_zero]
  rfl
theorem res_r22Names : res Γ 222 [] = some [.sl .tight 1 (strs nameJ22)] := by
  refine res_code (fn := r22_Names) rfl rfl ?_
  simp (disch := first | assumption | omega | decide | (simp only [lens] <;> omega) | fail) only [go_sem, r22_Names, List.replicate_succ, List.replicate_zero]
  rfl
theorem Others22_l1_ok {k1 k2 : SK} (l : List (List UInt8)) (hl : l.length < 1000) (a b : AV) (ha : ∃ p, a = .p p) (hb : ∃ p, b = .p p) (Q : Out → Prop) : ∀ (d i : Nat), i + d = l.length →
    Q (.nrm, [(0, a), (1, b)], []) →
    Wp Γ l22_FjoinOthers_l1 [(0, a), (1, b), (5, .p (.sl k1 1 (strs l))), (6, .p (.sl k2 1 (strs l))), (7, .p (.int .i64 (i : Int)))] [] (InBlk [0, 1] 0 Q) := by
  obtain ⟨a, rfl⟩ := ha
  obtain ⟨b, rfl⟩ := hb
  intro d
  induction d with
  | zero =>
    intro i hi hQ
    obtain rfl : i = l.length := by omega
    rw [W_loop (L := l22_FjoinOthers_l1) rfl]
    simp (disch := first | assumption | omega | decide | (simp only [lens] <;> omega) | fail) only [go_sem]
    exact hQ
  | succ d ih =>
    intro i hi hQ
    rw [W_loop (L := l22_FjoinOthers_l1) rfl]
    simp (disch := first | assumption | omega | decide | (simp only [lens] <;> omega) | fail) only [go_sem, ne_eq, not_true_eq_false]
    exact ih (i + 1) (by omega) hQ
theorem res_FjoinOthersA {k : SK} (nm : List UInt8) (l : List (SK × Ser)) (_ : l.length ≤ Go.maxLen) (hls : ∀ x ∈ l, Ser.Ok x.1 x.2) (hl : l.length ≤ 1048576) :
    res Γ 294 [.str nm, .sl k 5 (sers l)] = some [.bool true] := by
  have e4 := res_fjoinNames
  have e5 := res_r22Names
  have e3 := res_known22
  have hlen : nameJ22.length = 14 := rfl
  have L := fun b hb Q hQ => Others22_l1_ok (k1 := .tight) (k2 := .tight) nameJ22 (by decide) (.p (.str nm)) b ⟨_, rfl⟩ hb Q 14 0 rfl hQ
  generalize nameJ22 = N at *
  by_cases c1 : 300 < nm.length
  · refine res_code (fn := l22_FjoinOthers) rfl rfl ?_
    simp (disch := first | assumption | omega | decide | (simp only [lens] <;> omega) | fail) only [go_sem, l22_FjoinOthers]
  · have e1 := res_applied (kk := k) nm (by omega) (false, 0) 1 l (by omega) (fun x hx => (hls x hx).len)
    have e2 := res_paired (k1 := k) (k2 := k) nm (by omega) l l hl hl (fun x hx => (hls x hx).len) (fun x hx => (hls x hx).len)
    refine res_code (fn := l22_FjoinOthers) rfl rfl ?_
    simp (disch := first | assumption | omega | decide | (simp only [lens] <;> omega) | fail) only [go_sem, l22_FjoinOthers, e4, e5, ne_eq, not_true_eq_false]
    refine L _ ⟨_, rfl⟩ _ ?_
    simp (disch := first | assumption | omega | decide | (simp only [lens] <;> omega) | fail) only [go_sem, e1, e2, e3]
end Ab
