import Derived.Test.YtcjkmikiinljmaaGreatDoorLKnown22
import Derived.Test.YtcjkmikiinljmaaGreatDoorLApplied
namespace Ab
open Go (IntKind BinOp UnOp)
theorem fstE_all {f : Nat → Int} : ∀ {k i : Nat}, fstE f i k = 0 → ∀ j, i ≤ j → j < i + k → f j = 0
  | 0, i, _, j, h1, h2 => by omega
  | k + 1, i, h, j, h1, h2 => by
    by_cases h0 : f i = 0
    · rw [fstE_zero h0] at h
      by_cases e : j = i
      · rw [e]; exact h0
      · exact fstE_all h j (by omega) (by omega)
    · rw [fstE_not h0] at h
      exact absurd h h0
theorem twoS_of {nm : List UInt8} {g : Val → Val → Val} {x y x' y' : SK × Ser} (hx : x.2 = x'.2) (hy : y.2 = y'.2) : twoS nm g x y = twoS nm g x' y' := by
  obtain ⟨a, b⟩ := x
  obtain ⟨a', b'⟩ := x'
  obtain ⟨c, d⟩ := y
  obtain ⟨c', d'⟩ := y'
  cases hx
  cases hy
  rfl
theorem errP_of {x y x' y' : SK × Ser} (hx : x.2 = x'.2) (hy : y.2 = y'.2) : errJ (sersOf [x, y]) = errJ (sersOf [x', y']) := by
  have e : sersOf [x, y] = sersOf [x', y'] := by
    show [x.2, y.2] = [x'.2, y'.2]
    rw [hx, hy]
  rw [e]
theorem ownL_get {l : List (SK × Ser)} {i : Nat} : ((ownL l).getD i noSer).2 = (l.getD i noSer).2 := by
  unfold ownL
  rw [List.getD_eq_getElem?_getD, List.getElem?_map, List.getD_eq_getElem?_getD]
  cases l[i]? <;> rfl
theorem yAt_own {m : List (SK × Ser)} {i : Nat} : (yAt (ownL m) i).2 = (yAt m i).2 := by
  unfold yAt
  rw [ownL_len]
  exact ownL_get
theorem sharesR_own {nm : List UInt8} {l : List (SK × Ser)} : sharesR nm (ownL l) = sharesR nm l := by
  unfold sharesR
  have e1 : bJ (ownL l) = bJ l := by unfold bJ; rw [ownL_of]
  have e2 : sJ (ownL l) = sJ l := by unfold sJ; rw [ownL_of]
  have e3 : nJ (ownL l) = nJ l := by unfold nJ; rw [ownL_of]
  have e5 : ∀ b st n, joinW (ownL l) b st n = joinW l b st n := fun b st n => by unfold joinW ownL; rw [List.map_map]; rfl
  have e6 : ∀ a b g n k, shareL nm (ownL l) a b g n k = shareL nm l a b g n k := fun a b g n k => by
    unfold shareL
    simp only [ownL_get]
  rw [e1, e2, e3, e5, ownL_of, ownL_len, e6]
theorem pairR_own {nm : List UInt8} {m l : List (SK × Ser)} : pairR nm (ownL m) (ownL l) = pairR nm m l := by
  unfold pairR
  have e1 : errP (ownL m) (ownL l) = errP m l := by
    funext i
    exact errP_of ownL_get yAt_own
  have e2 : ∀ g k, pairL nm g (ownL m) (ownL l) k = pairL nm g m l k := fun g k => by
    unfold pairL
    exact List.map_congr_left fun i _ => twoS_of ownL_get yAt_own
  have e6 : (ownL m = []) = (m = []) := by unfold ownL; simp
  rw [e1, e2, ownL_len, ownL_len, sharesR_own]
  simp only [e6]
theorem pairR_cases (nm : List UInt8) (m l : List (SK × Ser)) (hl : l.length ≤ 1000000) : (∃ e : Int, pairR nm m l = [.sl .nil 5 [], .int .i64 e]) ∨ (∃ L : List (SK × Ser), L.length ≤ 1000000 ∧ (∀ x ∈ L, x.2.vals.length ≤ 1000000) ∧ pairR nm m l = [.sl .any 5 (sers L), .int .i64 0]) := by
  unfold pairR
  by_cases h1 : nm ≠ pDiv ∧ nm ≠ pPer
  · rw [if_pos h1]; exact .inl ⟨_, rfl⟩
  · rw [if_neg h1]
    by_cases h2 : nm = pPer ∧ m = []
    · rw [if_pos h2]
      unfold sharesR
      by_cases he : errJ (sersOf l) ≠ 0
      · rw [if_pos he]; exact .inl ⟨_, rfl⟩
      · rw [if_neg he]
        refine .inr ⟨_, ?_, fun x hx => ?_, rfl⟩
        · rw [shareL_len]; exact hl
        · obtain ⟨k, hk, rfl⟩ := List.mem_map.1 hx
          show (valsF _ _).length ≤ _
          have h0 : l ≠ [] := by
            rintro rfl
            simp at hk
          have := nJ_le (by omega) h0
          rw [valsF_len]; omega
    · rw [if_neg h2]
      by_cases h3 : m.length ≠ 1 ∧ (nm = pDiv ∨ m.length ≠ l.length)
      · rw [if_pos h3]; exact .inl ⟨_, rfl⟩
      · rw [if_neg h3]
        by_cases h4 : fstE (errP m l) 0 l.length ≠ 0
        · rw [if_pos h4]; exact .inl ⟨_, rfl⟩
        · rw [if_neg h4]
          refine .inr ⟨_, ?_, fun x hx => ?_, rfl⟩
          · rw [pairL_len]; exact hl
          · obtain ⟨k, hk, rfl⟩ := List.mem_map.1 hx
            have hk := List.mem_range.1 hk
            have he : errJ (sersOf [l.getD k noSer, yAt m k]) = 0 := fstE_all (f := errP m l) (i := 0) (k := l.length) (by omega) k (by omega) (by omega)
            have := nJ_le he (by simp)
            show (valsF _ _).length ≤ _
            rw [valsF_len]; omega
theorem res_paired {k1 k2 : SK} (nm : List UInt8) (hnm : nm.length ≤ 1000000) (m l : List (SK × Ser)) (hl : l.length ≤ 1048576) (hm : m.length ≤ 1048576) (hv : ∀ x ∈ l, x.2.vals.length ≤ 9223372036854775807) (hv' : ∀ x ∈ m, x.2.vals.length ≤ 9223372036854775807) :
    res Γ 220 [.str nm, .sl k1 5 (sers m), .sl k2 5 (sers l)] = some [.bool true] := by
  have hk := res_known22
  have hvv : ∀ x ∈ m ++ l, x.2.vals.length ≤ 9223372036854775807 := fun x hx => by
    rcases List.mem_append.1 hx with hx | hx
    · exact hv' x hx
    · exact hv x hx
  have hll : (m ++ l).length ≤ 9223372036854775807 := by rw [List.length_append]; omega
  have h1 := res_heavy22 (k1 := .any) (m ++ l) hll hvv
  have hsm : (sers m).length = m.length := sers_len
  have hsl : (sers l).length = l.length := sers_len
  have hsml : (sers (m ++ l)).length = m.length + l.length := by rw [sers_len, List.length_append]
  cases hh : heavyJ (m ++ l)
  · rw [hh] at h1
    obtain ⟨g1, g2⟩ := heavyJ_no hh
    rw [List.length_append] at g1
    have gv : ∀ x ∈ l, x.2.vals.length ≤ 1000000 := fun x hx => by have := (g2 x (List.mem_append.2 (.inr hx))).1; omega
    have gn : ∀ x ∈ l, x.2.name.length ≤ 4096 := fun x hx => by have := (g2 x (List.mem_append.2 (.inr hx))).2; omega
    have fv : ∀ x ∈ m, x.2.vals.length ≤ 1000000 := fun x hx => by have := (g2 x (List.mem_append.2 (.inl hx))).1; omega
    have fn : ∀ x ∈ m, x.2.name.length ≤ 4096 := fun x hx => by have := (g2 x (List.mem_append.2 (.inl hx))).2; omega
    have gv' : ∀ x ∈ ownL l, x.2.vals.length ≤ 1000000 := fun x hx => by obtain ⟨y, hy, rfl⟩ := List.mem_map.1 hx; exact gv y hy
    have gn' : ∀ x ∈ ownL l, x.2.name.length ≤ 4096 := fun x hx => by obtain ⟨y, hy, rfl⟩ := List.mem_map.1 hx; exact gn y hy
    have fv' : ∀ x ∈ ownL m, x.2.vals.length ≤ 1000000 := fun x hx => by obtain ⟨y, hy, rfl⟩ := List.mem_map.1 hx; exact fv y hy
    have fn' : ∀ x ∈ ownL m, x.2.name.length ≤ 4096 := fun x hx => by obtain ⟨y, hy, rfl⟩ := List.mem_map.1 hx; exact fn y hy
    have h2 := res_long22 (k1 := .any) (m ++ l) (by rw [List.length_append]; omega) (fun x hx => by have := (g2 x hx).1; omega)
    cases hlo : longJ (m ++ l)
    · rw [hlo] at h2
      have h3 := res_own22 (kk := k1) m (by omega) fv
      have h3' := res_own22 (kk := k2) l (by omega) gv
      have h4 := res_Pair (k1 := .any) (k2 := .any) nm hnm (ownL m) (ownL l) (by rw [ownL_len]; omega) (by rw [ownL_len]; omega) gv' gn' fv' fn'
      have h5 := res_rPair (k1 := k1) (k2 := k2) nm hnm m l (by omega) (by omega) gv gn fv fn
      have h6 := res_all22 (k1 := .any) (k2 := k1) (ownL m) m ownL_of (by rw [ownL_len]; omega) fv'
      have h6' := res_all22 (k1 := .any) (k2 := k2) (ownL l) l ownL_of (by rw [ownL_len]; omega) gv'
      rw [pairR_own] at h4
      rcases pairR_cases nm m l (by omega) with ⟨e, he⟩ | ⟨L, hs, hs', he⟩
      · rw [he] at h4 h5
        have h7 : res Γ 223 [.sl .nil 5 [], .sl .nil 5 []] = some [.bool true] := res_all22 (k1 := .nil) (k2 := .nil) [] [] rfl (by simp) (by simp)
        refine res_code (fn := l22_paired) rfl rfl ?_
        simp (disch := first | assumption | omega | decide | (simp only [List.length_cons, List.length_nil, List.length_append, List.length_replicate, List.length_map, List.length_set, List.length_take, List.length_drop, strs_len, ints_len, bools_len, aggs_len, vpv_len]; done) | (simp only [List.length_cons, List.length_nil, List.length_append, List.length_replicate, List.length_map, List.length_set, List.length_take, List.length_drop, strs_len, ints_len, bools_len, aggs_len, vpv_len]; omega)) only [go_sem, l22_paired, h1, h2, h3, h3', h4, h5, h6, h6', h7, hk]
      · rw [he] at h4 h5
        have h7 := res_all22 (k1 := .any) (k2 := .any) L L rfl hs hs'
        refine res_code (fn := l22_paired) rfl rfl ?_
        simp (disch := first | assumption | omega | decide | (simp only [List.length_cons, List.length_nil, List.length_append, List.length_replicate, List.length_map, List.length_set, List.length_take, List.length_drop, strs_len, ints_len, bools_len, aggs_len, vpv_len]; done) | (simp only [List.length_cons, List.length_nil, List.length_append, List.length_replicate, List.length_map, List.length_set, List.length_take, List.length_drop, strs_len, ints_len, bools_len, aggs_len, vpv_len]; omega)) only [go_sem, l22_paired, h1, h2, h3, h3', h4, h5, h6, h6', h7, hk]
    · rw [hlo] at h2
      refine res_code (fn := l22_paired) rfl rfl ?_
      simp (disch := first | assumption | omega | decide | (simp only [List.length_cons, List.length_nil, List.length_append, List.length_replicate, List.length_map, List.length_set, List.length_take, List.length_drop, strs_len, ints_len, bools_len, aggs_len, vpv_len]; done) | (simp only [List.length_cons, List.length_nil, List.length_append, List.length_replicate, List.length_map, List.length_set, List.length_take, List.length_drop, strs_len, ints_len, bools_len, aggs_len, vpv_len]; omega)) only [go_sem, l22_paired, h1, h2]
  · rw [hh] at h1
    refine res_code (fn := l22_paired) rfl rfl ?_
    simp (disch := first | assumption | omega | decide | (simp only [List.length_cons, List.length_nil, List.length_append, List.length_replicate, List.length_map, List.length_set, List.length_take, List.length_drop, strs_len, ints_len, bools_len, aggs_len, vpv_len]; done) | (simp only [List.length_cons, List.length_nil, List.length_append, List.length_replicate, List.length_map, List.length_set, List.length_take, List.length_drop, strs_len, ints_len, bools_len, aggs_len, vpv_len]; omega)) only [go_sem, l22_paired, h1]
theorem res_FjoinPercentsA {k1 k2 : SK} (m l : List (SK × Ser)) (_ : m.length ≤ Go.maxLen) (hms : ∀ x ∈ m, Ser.Ok x.1 x.2) (_ : l.length ≤ Go.maxLen) (hls : ∀ x ∈ l, Ser.Ok x.1 x.2) (hm : m.length ≤ 1048576) (hl : l.length ≤ 1048576) :
    res Γ 293 [.sl k1 5 (sers m), .sl k2 5 (sers l)] = some [.bool true] := by
  have e := res_paired (k1 := k1) (k2 := k2) pPer (by decide) m l hl hm (fun x hx => (hls x hx).len) (fun x hx => (hms x hx).len)
  have e' := res_paired (k1 := .nil) (k2 := k2) pPer (by decide) [] l hl (by simp) (fun x hx => (hls x hx).len) (fun x hx => by cases hx)
  rw [sers_nil] at e'
  unfold pPer at e e'
  refine res_code (fn := l22_FjoinPercents) rfl rfl ?_
  simp (disch := first | assumption | omega | decide | (simp only [List.length_cons, List.length_nil, List.length_append, List.length_replicate, List.length_map, List.length_set, List.length_take, List.length_drop, strs_len, ints_len, bools_len, aggs_len, vpv_len]; done) | (simp only [List.length_cons, List.length_nil, List.length_append, List.length_replicate, List.length_map, List.length_set, List.length_take, List.length_drop, strs_len, ints_len, bools_len, aggs_len, vpv_len]; omega)) only [go_sem, l22_FjoinPercents, e, e']
end Ab
