import Derived.Test.YtmggokdhhbaphaaDoorLGlob5
/- Patterns of one part: the reference's way, whole. -/
namespace Ab
open Go (IntKind BinOp UnOp)
theorem classE_spec {s : List UInt8} {i : Nat} (hi : i < s.length) :
    (classE s i = -1 ∧ (ixB (s.drop (i + 1)) 93 ≤ 0 ∨ classF ((s.drop (i + 1)).take (ixB (s.drop (i + 1)) 93).toNat) none256 = none)) ∨
    (∃ (x : Nat) (st : List Bool), 0 < x ∧ i + 1 + x < s.length ∧ classE s i = ((i + 1 + x : Nat) : Int) ∧ ixB (s.drop (i + 1)) 93 = (x : Int) ∧ (s.take (i + 1 + x)).drop (i + 1) = (s.drop (i + 1)).take x ∧ classF ((s.drop (i + 1)).take x) none256 = some st) := by
  have hx := @ixB_nn (s.drop (i + 1)) 93
  rw [List.length_drop] at hx
  unfold classE endAt
  by_cases h0 : ixB (s.drop (i + 1)) 93 < 0
  · refine .inl ⟨?_, .inl (by omega)⟩
    rw [if_pos h0, if_pos (Nat.le_refl _)]
  · rw [if_neg h0]
    obtain ⟨x, hxe⟩ := Int.eq_ofNat_of_zero_le (show 0 ≤ ixB (s.drop (i + 1)) 93 by omega)
    rw [hxe] at hx ⊢
    rw [Int.toNat_natCast, if_neg (by omega)]
    by_cases h1 : x = 0
    · subst h1
      exact .inl ⟨by rw [if_pos (by omega)], .inl (by omega)⟩
    · rw [if_neg (by omega)]
      have ec : (s.take (i + 1 + x)).drop (i + 1) = (s.drop (i + 1)).take x := by
        rw [List.drop_take, show i + 1 + x - (i + 1) = x by omega]
      rw [ec, ← classF_ok (acc := none256)]
      cases hc : classF ((s.drop (i + 1)).take x) none256 with
      | none => exact .inl ⟨rfl, .inr rfl⟩
      | some st => exact .inr ⟨x, st, by omega, by omega, rfl, rfl, ec, hc⟩
theorem toks_br_none {r : List UInt8} (h : ixB r 93 ≤ 0 ∨ classF (r.take (ixB r 93).toNat) none256 = none) : toksF (91 :: r) = none := by
  rw [toksF, if_neg (by decide), if_neg (by decide), if_pos rfl]
  rcases h with h | h
  · rw [if_pos h]
  · rw [h]; split <;> rfl
theorem toks_br {r : List UInt8} {x : Nat} {st : List Bool} (h0 : 0 < x) (h : ixB r 93 = (x : Int)) (hc : classF (r.take x) none256 = some st) : toksF (91 :: r) = (toksF (r.drop (x + 1))).map ((false, st) :: ·) := by
  rw [toksF, if_neg (by decide), if_neg (by decide), if_pos rfl, if_neg (by omega), h, Int.toNat_natCast, hc]
theorem simple_l1_ok (s : List UInt8) (hs : s.length < 900000000) (Q : Out → Prop) : ∀ (n i : Nat), s.length ≤ i + n → i ≤ s.length →
    (toksF (s.drop i) = none → Q (.ret, [(2, .p (.bool false))], [])) → (∀ t, toksF (s.drop i) = some t → Q (.nrm, [], [])) →
    Wp Γ r9_simple_l1 [(0, .p (.str s)), (3, .p (.int .i64 (i : Int)))] [] (InBlk [] 0 Q) := by
  intro n
  induction n with
  | zero =>
    intro i hn hi h1 h2
    obtain rfl : i = s.length := by omega
    rw [W_loop (L := r9_simple_l1) rfl]
    simp (disch := first | assumption | omega | decide | (simp only [List.length_cons, List.length_nil, List.length_append, List.length_replicate, List.length_map, List.length_set, List.length_take, List.length_drop, strs_len, ints_len, bools_len, aggs_len, vpv_len]; done) | (simp only [List.length_cons, List.length_nil, List.length_append, List.length_replicate, List.length_map, List.length_set, List.length_take, List.length_drop, strs_len, ints_len, bools_len, aggs_len, vpv_len]; omega)) only [go_sem]
    exact h2 [] (by rw [List.drop_length, toksF])
  | succ n ih =>
    intro i hn hi h1 h2
    by_cases hlt : i < s.length
    · have b0 := @byt_nonneg s i
      have b1 := @byt_le s i
      rw [drop1 hlt] at h1 h2
      by_cases e91 : byt s i = 91
      · have er := res_r9class s hs i hlt
        rw [(byt_eqG 91).1 e91] at h1 h2
        rcases classE_spec hlt with ⟨k1, k2⟩ | ⟨x, st, k1, k2, k3, k4, k5, k6⟩
        · rw [k1] at er
          rw [W_loop (L := r9_simple_l1) rfl]
          simp (disch := first | assumption | omega | decide | (simp only [List.length_cons, List.length_nil, List.length_append, List.length_replicate, List.length_map, List.length_set, List.length_take, List.length_drop, strs_len, ints_len, bools_len, aggs_len, vpv_len]; done) | (simp only [List.length_cons, List.length_nil, List.length_append, List.length_replicate, List.length_map, List.length_set, List.length_take, List.length_drop, strs_len, ints_len, bools_len, aggs_len, vpv_len]; omega)) only [go_sem, e91, er]
          exact h1 (toks_br_none k2)
        · rw [toks_br k1 k4 k6] at h1 h2
          rw [List.drop_drop] at h1 h2
          rw [k3] at er
          rw [W_loop (L := r9_simple_l1) rfl]
          simp (disch := first | assumption | omega | decide | (simp only [List.length_cons, List.length_nil, List.length_append, List.length_replicate, List.length_map, List.length_set, List.length_take, List.length_drop, strs_len, ints_len, bools_len, aggs_len, vpv_len]; done) | (simp only [List.length_cons, List.length_nil, List.length_append, List.length_replicate, List.length_map, List.length_set, List.length_take, List.length_drop, strs_len, ints_len, bools_len, aggs_len, vpv_len]; omega)) only [go_sem, e91, er]
          have := ih (i + 1 + (x + 1)) (by omega) (by omega) (fun h => h1 (toks_none h)) (fun t h => h2 _ (toks_some h))
          rw [show ((i + 1 + (x + 1) : Nat) : Int) = ((i + 1 + x : Nat) : Int) + 1 by omega] at this
          exact this
      · rw [toksF] at h1 h2
        by_cases e42 : byt s i = 42
        · rw [if_pos ((byt_eqG 42).1 e42)] at h1 h2
          rw [W_loop (L := r9_simple_l1) rfl]
          simp (disch := first | assumption | omega | decide | (simp only [List.length_cons, List.length_nil, List.length_append, List.length_replicate, List.length_map, List.length_set, List.length_take, List.length_drop, strs_len, ints_len, bools_len, aggs_len, vpv_len]; done) | (simp only [List.length_cons, List.length_nil, List.length_append, List.length_replicate, List.length_map, List.length_set, List.length_take, List.length_drop, strs_len, ints_len, bools_len, aggs_len, vpv_len]; omega)) only [go_sem, e42]
          exact ih (i + 1) (by omega) (by omega) (fun h => h1 (toks_none h)) (fun t h => h2 _ (toks_some h))
        · rw [if_neg (byt_ne (b := 42) e42)] at h1 h2
          by_cases e63 : byt s i = 63
          · rw [if_pos ((byt_eqG 63).1 e63)] at h1 h2
            rw [W_loop (L := r9_simple_l1) rfl]
            simp (disch := first | assumption | omega | decide | (simp only [List.length_cons, List.length_nil, List.length_append, List.length_replicate, List.length_map, List.length_set, List.length_take, List.length_drop, strs_len, ints_len, bools_len, aggs_len, vpv_len]; done) | (simp only [List.length_cons, List.length_nil, List.length_append, List.length_replicate, List.length_map, List.length_set, List.length_take, List.length_drop, strs_len, ints_len, bools_len, aggs_len, vpv_len]; omega)) only [go_sem, e63]
            exact ih (i + 1) (by omega) (by omega) (fun h => h1 (toks_none h)) (fun t h => h2 _ (toks_some h))
          · rw [if_neg (byt_ne (b := 63) e63), if_neg (byt_ne (b := 91) e91)] at h1 h2
            have er := res_r8Byte (byt s i) b0 (by omega)
            rw [byteI_byt] at er
            cases hb : byteOk (s.getD i 0)
            · rw [if_neg (by rw [hb]; decide)] at h1
              rw [hb] at er
              rw [W_loop (L := r9_simple_l1) rfl]
              simp (disch := first | assumption | omega | decide | (simp only [List.length_cons, List.length_nil, List.length_append, List.length_replicate, List.length_map, List.length_set, List.length_take, List.length_drop, strs_len, ints_len, bools_len, aggs_len, vpv_len]; done) | (simp only [List.length_cons, List.length_nil, List.length_append, List.length_replicate, List.length_map, List.length_set, List.length_take, List.length_drop, strs_len, ints_len, bools_len, aggs_len, vpv_len]; omega)) only [go_sem, er]
              exact h1 rfl
            · rw [if_pos hb] at h1 h2
              rw [hb] at er
              rw [W_loop (L := r9_simple_l1) rfl]
              simp (disch := first | assumption | omega | decide | (simp only [List.length_cons, List.length_nil, List.length_append, List.length_replicate, List.length_map, List.length_set, List.length_take, List.length_drop, strs_len, ints_len, bools_len, aggs_len, vpv_len]; done) | (simp only [List.length_cons, List.length_nil, List.length_append, List.length_replicate, List.length_map, List.length_set, List.length_take, List.length_drop, strs_len, ints_len, bools_len, aggs_len, vpv_len]; omega)) only [go_sem, er]
              exact ih (i + 1) (by omega) (by omega) (fun h => h1 (toks_none h)) (fun t h => h2 _ (toks_some h))
    · obtain rfl : i = s.length := by omega
      rw [W_loop (L := r9_simple_l1) rfl]
      simp (disch := first | assumption | omega | decide | (simp only [List.length_cons, List.length_nil, List.length_append, List.length_replicate, List.length_map, List.length_set, List.length_take, List.length_drop, strs_len, ints_len, bools_len, aggs_len, vpv_len]; done) | (simp only [List.length_cons, List.length_nil, List.length_append, List.length_replicate, List.length_map, List.length_set, List.length_take, List.length_drop, strs_len, ints_len, bools_len, aggs_len, vpv_len]; omega)) only [go_sem]
      exact h2 [] (by rw [List.drop_length, toksF])
theorem res_r9simple (s : List UInt8) (hs : s.length < 900000000) : res Γ 39 [.str s] = some [.bool (toksF s).isSome] := by
  refine res_code (fn := r9_simple) rfl rfl ?_
  simp (disch := first | assumption | omega | decide | (simp only [List.length_cons, List.length_nil, List.length_append, List.length_replicate, List.length_map, List.length_set, List.length_take, List.length_drop, strs_len, ints_len, bools_len, aggs_len, vpv_len]; done) | (simp only [List.length_cons, List.length_nil, List.length_append, List.length_replicate, List.length_map, List.length_set, List.length_take, List.length_drop, strs_len, ints_len, bools_len, aggs_len, vpv_len]; omega)) only [go_sem, r9_simple]
  refine simple_l1_ok s hs _ s.length 0 (by omega) (by omega) (fun h => ?_) (fun t h => ?_)
  · rw [List.drop_zero] at h
    simp (disch := first | assumption | omega | decide | (simp only [List.length_cons, List.length_nil, List.length_append, List.length_replicate, List.length_map, List.length_set, List.length_take, List.length_drop, strs_len, ints_len, bools_len, aggs_len, vpv_len]; done) | (simp only [List.length_cons, List.length_nil, List.length_append, List.length_replicate, List.length_map, List.length_set, List.length_take, List.length_drop, strs_len, ints_len, bools_len, aggs_len, vpv_len]; omega)) only [go_sem, h]
    rfl
  · rw [List.drop_zero] at h
    simp (disch := first | assumption | omega | decide | (simp only [List.length_cons, List.length_nil, List.length_append, List.length_replicate, List.length_map, List.length_set, List.length_take, List.length_drop, strs_len, ints_len, bools_len, aggs_len, vpv_len]; done) | (simp only [List.length_cons, List.length_nil, List.length_append, List.length_replicate, List.length_map, List.length_set, List.length_take, List.length_drop, strs_len, ints_len, bools_len, aggs_len, vpv_len]; omega)) only [go_sem, h]
    rfl
/-! ### Place by place -/
theorem take_rep_set {D : List Bool} {k m : Nat} {v : Bool} (h : k ≤ D.length) : (D.take k ++ List.replicate (m + 1) false).set k v = D.take k ++ v :: List.replicate m false := by
  rw [List.set_append_right _ _ (by rw [List.length_take]; omega), List.length_take, Nat.min_eq_left h, Nat.sub_self]
  rfl
theorem take_step {D : List Bool} {k m : Nat} (h : k < D.length) : D.take k ++ D.getD k false :: List.replicate m false = D.take (k + 1) ++ List.replicate m false := by
  rw [take_snoc' false h, List.append_assoc]
  rfl
theorem take_getG {D R : List Bool} {k j : Nat} (h : j < k) (hk : k ≤ D.length) : (D.take k ++ R).getD j false = D.getD j false := by
  rw [List.getD_eq_getElem?_getD, List.getElem?_append_left (by rw [List.length_take]; omega), List.getElem?_take, if_pos h, List.getD_eq_getElem?_getD]
/-- What is asked of a place's byte. -/
structure TokAt (p : List UInt8) (i e : Nat) (t : Tok) : Prop where
  notAny : t.1 = false
  ask : byt p i = 63 ∧ (∀ c, inT t c = true) ∨ byt p i = 91 ∧ i < e ∧ e ≤ p.length ∧ (∀ c, inT t c = inF ((p.take e).drop (i + 1)) c) ∨ byt p i ≠ 63 ∧ byt p i ≠ 91 ∧ (∀ c, inT t c = (p.getD i 0 == c))
abbrev mEnv (p s : List UInt8) (i e k : Nat) : Env := [(0, .p (.str p)), (1, .p (.str s)), (5, .own 0 (s.length + 1)), (6, .p (.int .i64 (i : Int))), (7, .own 1 (s.length + 1)), (8, .p (.int .i64 (e : Int))), (9, .p (.int .i64 (k : Int)))]
theorem m_l1_star (p s : List UInt8) (_hp : p.length < 900000000) (hs : s.length < 900000000) (i e : Nat) (hi : i < p.length) (h42 : byt p i = 42) {A D : List Bool} (hA : A.length = s.length + 1) (hD : D.length = s.length + 1)
    (d0 : D.getD 0 false = A.getD 0 false) (dS : ∀ k, k < s.length → D.getD (k + 1) false = (A.getD (k + 1) false || D.getD k false)) (Q : Out → Prop) : ∀ (m k : Nat), k + m = s.length + 1 →
    Q (.nrm, [(0, .p (.str p)), (1, .p (.str s)), (7, .own 1 (s.length + 1)), (8, .p (.int .i64 (e : Int)))], [.row false 1 (bools A), .row false 1 (bools D)]) →
    Wp Γ r9_matches_l1 (mEnv p s i e k) [.row false 1 (bools A), .row false 1 (bools (D.take k ++ List.replicate m false))] (InBlk [0, 1, 7, 8] 2 Q) := by
  intro m
  induction m with
  | zero =>
    intro k hk hQ
    obtain rfl : k = s.length + 1 := by omega
    rw [List.replicate_zero, List.append_nil, List.take_of_length_le (by omega)]
    rw [W_loop (L := r9_matches_l1) rfl]
    simp (disch := first | assumption | omega | decide | (simp only [List.length_cons, List.length_nil, List.length_append, List.length_replicate, List.length_map, List.length_set, List.length_take, List.length_drop, strs_len, ints_len, bools_len, aggs_len, vpv_len]; done) | (simp only [List.length_cons, List.length_nil, List.length_append, List.length_replicate, List.length_map, List.length_set, List.length_take, List.length_drop, strs_len, ints_len, bools_len, aggs_len, vpv_len]; omega)) only [go_sem]
    exact hQ
  | succ m ih =>
    intro k hk hQ
    have ih := ih (k + 1) (by omega) hQ
    have hst := fun v => take_rep_set (D := D) (k := k) (m := m) (v := v) (by omega)
    have hl : (D.take k ++ List.replicate (m + 1) false).length = s.length + 1 := by rw [List.length_append, List.length_take, List.length_replicate]; omega
    rw [← take_step (by omega)] at ih
    cases ha : A.getD k false
    · by_cases h0 : k = 0
      · subst h0
        rw [d0, ha] at ih
        rw [W_loop (L := r9_matches_l1) rfl]
        simp (disch := first | assumption | omega | decide | (simp only [List.length_cons, List.length_nil, List.length_append, List.length_replicate, List.length_map, List.length_set, List.length_take, List.length_drop, strs_len, ints_len, bools_len, aggs_len, vpv_len]; done) | (simp only [List.length_cons, List.length_nil, List.length_append, List.length_replicate, List.length_map, List.length_set, List.length_take, List.length_drop, strs_len, ints_len, bools_len, aggs_len, vpv_len]; omega)) only [go_sem, h42, ha]
        exact ih
      · obtain ⟨k, rfl⟩ : ∃ j, k = j + 1 := ⟨k - 1, by omega⟩
        have ek : ((k + 1 : Nat) : Int) - 1 = (k : Int) := by omega
        have eg : (D.take (k + 1) ++ List.replicate (m + 1) false).getD k false = D.getD k false := take_getG (by omega) (by omega)
        rw [dS k (by omega), ha, Bool.false_or] at ih
        rw [W_loop (L := r9_matches_l1) rfl]
        simp (disch := first | assumption | omega | decide | (simp only [List.length_cons, List.length_nil, List.length_append, List.length_replicate, List.length_map, List.length_set, List.length_take, List.length_drop, strs_len, ints_len, bools_len, aggs_len, vpv_len]; done) | (simp only [List.length_cons, List.length_nil, List.length_append, List.length_replicate, List.length_map, List.length_set, List.length_take, List.length_drop, strs_len, ints_len, bools_len, aggs_len, vpv_len]; omega)) only [go_sem, h42, ha, ek, eg, hst]
        exact ih
    · have : D.getD k false = true := by
        by_cases h0 : k = 0
        · subst h0; rw [d0, ha]
        · obtain ⟨k, rfl⟩ : ∃ j, k = j + 1 := ⟨k - 1, by omega⟩
          rw [dS k (by omega), ha]; rfl
      rw [this] at ih
      rw [W_loop (L := r9_matches_l1) rfl]
      simp (disch := first | assumption | omega | decide | (simp only [List.length_cons, List.length_nil, List.length_append, List.length_replicate, List.length_map, List.length_set, List.length_take, List.length_drop, strs_len, ints_len, bools_len, aggs_len, vpv_len]; done) | (simp only [List.length_cons, List.length_nil, List.length_append, List.length_replicate, List.length_map, List.length_set, List.length_take, List.length_drop, strs_len, ints_len, bools_len, aggs_len, vpv_len]; omega)) only [go_sem, h42, ha, hst]
      exact ih
theorem m_l1_set (p s : List UInt8) (hp : p.length < 900000000) (hs : s.length < 900000000) (i e : Nat) (hi : i < p.length) (h42 : byt p i ≠ 42) {t : Tok} (ht : TokAt p i e t) {A D : List Bool} (hA : A.length = s.length + 1) (hD : D.length = s.length + 1)
    (d0 : D.getD 0 false = false) (dS : ∀ k, k < s.length → D.getD (k + 1) false = (A.getD k false && inT t (s.getD k 0))) (Q : Out → Prop) : ∀ (m k : Nat), k + m = s.length + 1 →
    Q (.nrm, [(0, .p (.str p)), (1, .p (.str s)), (7, .own 1 (s.length + 1)), (8, .p (.int .i64 (e : Int)))], [.row false 1 (bools A), .row false 1 (bools D)]) →
    Wp Γ r9_matches_l1 (mEnv p s i e k) [.row false 1 (bools A), .row false 1 (bools (D.take k ++ List.replicate m false))] (InBlk [0, 1, 7, 8] 2 Q) := by
  intro m
  induction m with
  | zero =>
    intro k hk hQ
    obtain rfl : k = s.length + 1 := by omega
    rw [List.replicate_zero, List.append_nil, List.take_of_length_le (by omega)]
    rw [W_loop (L := r9_matches_l1) rfl]
    simp (disch := first | assumption | omega | decide | (simp only [List.length_cons, List.length_nil, List.length_append, List.length_replicate, List.length_map, List.length_set, List.length_take, List.length_drop, strs_len, ints_len, bools_len, aggs_len, vpv_len]; done) | (simp only [List.length_cons, List.length_nil, List.length_append, List.length_replicate, List.length_map, List.length_set, List.length_take, List.length_drop, strs_len, ints_len, bools_len, aggs_len, vpv_len]; omega)) only [go_sem]
    exact hQ
  | succ m ih =>
    intro k hk hQ
    have ih := ih (k + 1) (by omega) hQ
    have hst := fun v => take_rep_set (D := D) (k := k) (m := m) (v := v) (by omega)
    have hl : (D.take k ++ List.replicate (m + 1) false).length = s.length + 1 := by rw [List.length_append, List.length_take, List.length_replicate]; omega
    rw [← take_step (by omega)] at ih
    by_cases h0 : k = 0
    · subst h0
      rw [d0] at ih
      rw [W_loop (L := r9_matches_l1) rfl]
      simp (disch := first | assumption | omega | decide | (simp only [List.length_cons, List.length_nil, List.length_append, List.length_replicate, List.length_map, List.length_set, List.length_take, List.length_drop, strs_len, ints_len, bools_len, aggs_len, vpv_len]; done) | (simp only [List.length_cons, List.length_nil, List.length_append, List.length_replicate, List.length_map, List.length_set, List.length_take, List.length_drop, strs_len, ints_len, bools_len, aggs_len, vpv_len]; omega)) only [go_sem]
      exact ih
    · obtain ⟨k, rfl⟩ : ∃ j, k = j + 1 := ⟨k - 1, by omega⟩
      have ek : ((k + 1 : Nat) : Int) - 1 = (k : Int) := by omega
      rw [dS k (by omega)] at ih
      cases ha : A.getD k false
      · rw [ha, Bool.false_and] at ih
        rw [W_loop (L := r9_matches_l1) rfl]
        simp (disch := first | assumption | omega | decide | (simp only [List.length_cons, List.length_nil, List.length_append, List.length_replicate, List.length_map, List.length_set, List.length_take, List.length_drop, strs_len, ints_len, bools_len, aggs_len, vpv_len]; done) | (simp only [List.length_cons, List.length_nil, List.length_append, List.length_replicate, List.length_map, List.length_set, List.length_take, List.length_drop, strs_len, ints_len, bools_len, aggs_len, vpv_len]; omega)) only [go_sem, ha, ek]
        exact ih
      · rw [ha, Bool.true_and] at ih
        rcases ht.ask with ⟨h63, hc⟩ | ⟨h91, hie, hep, hc⟩ | ⟨h63, h91, hc⟩
        · rw [hc] at ih
          rw [W_loop (L := r9_matches_l1) rfl]
          simp (disch := first | assumption | omega | decide | (simp only [List.length_cons, List.length_nil, List.length_append, List.length_replicate, List.length_map, List.length_set, List.length_take, List.length_drop, strs_len, ints_len, bools_len, aggs_len, vpv_len]; done) | (simp only [List.length_cons, List.length_nil, List.length_append, List.length_replicate, List.length_map, List.length_set, List.length_take, List.length_drop, strs_len, ints_len, bools_len, aggs_len, vpv_len]; omega)) only [go_sem, ha, ek, h63, hst]
          exact ih
        · have er := res_r9in p e hep hp (s.getD k 0) i hie
          have eb : byt s k = ((s.getD k 0).toNat : Int) := rfl
          rw [hc] at ih
          cases hin : inF ((p.take e).drop (i + 1)) (s.getD k 0)
          · rw [hin] at er ih
            rw [W_loop (L := r9_matches_l1) rfl]
            simp (disch := first | assumption | omega | decide | (simp only [List.length_cons, List.length_nil, List.length_append, List.length_replicate, List.length_map, List.length_set, List.length_take, List.length_drop, strs_len, ints_len, bools_len, aggs_len, vpv_len]; done) | (simp only [List.length_cons, List.length_nil, List.length_append, List.length_replicate, List.length_map, List.length_set, List.length_take, List.length_drop, strs_len, ints_len, bools_len, aggs_len, vpv_len]; omega)) only [go_sem, ha, ek, h91, eb, er, hst, ne_eq, not_true_eq_false]
            exact ih
          · rw [hin] at er ih
            rw [W_loop (L := r9_matches_l1) rfl]
            simp (disch := first | assumption | omega | decide | (simp only [List.length_cons, List.length_nil, List.length_append, List.length_replicate, List.length_map, List.length_set, List.length_take, List.length_drop, strs_len, ints_len, bools_len, aggs_len, vpv_len]; done) | (simp only [List.length_cons, List.length_nil, List.length_append, List.length_replicate, List.length_map, List.length_set, List.length_take, List.length_drop, strs_len, ints_len, bools_len, aggs_len, vpv_len]; omega)) only [go_sem, ha, ek, h91, eb, er, hst]
            exact ih
        · rw [hc] at ih
          have eb : (p.getD i 0 == s.getD k 0) = decide (byt p i = byt s k) := by
            have : p.getD i 0 = s.getD k 0 ↔ byt p i = byt s k := by
              unfold byt
              rw [← UInt8.toNat_inj]; omega
            rw [Bool.eq_iff_iff, beq_iff_eq, decide_eq_true_eq]; exact this
          rw [eb] at ih
          rw [W_loop (L := r9_matches_l1) rfl]
          simp (disch := first | assumption | omega | decide | (simp only [List.length_cons, List.length_nil, List.length_append, List.length_replicate, List.length_map, List.length_set, List.length_take, List.length_drop, strs_len, ints_len, bools_len, aggs_len, vpv_len]; done) | (simp only [List.length_cons, List.length_nil, List.length_append, List.length_replicate, List.length_map, List.length_set, List.length_take, List.length_drop, strs_len, ints_len, bools_len, aggs_len, vpv_len]; omega)) only [go_sem, ha, ek, h91, h63, hst]
          exact ih
theorem m_l2_ok (p s : List UInt8) (hp : p.length < 900000000) (hs : s.length < 900000000) {T : List Tok} (Q : Out → Prop) (hQ : Q (.nrm, [(1, .p (.str s)), (5, .own 0 (s.length + 1))], [.row false 1 (bools (dpV T s))])) :
    ∀ (n i : Nat) (T1 T2 : List Tok) (env : Env) (H : Heap), p.length ≤ i + n → i ≤ p.length → T = T1 ++ T2 → toksF (p.drop i) = some T2 →
    norm [0, 1, 5, 6] (some 0) env H = some ([(0, .p (.str p)), (1, .p (.str s)), (5, .own 0 (s.length + 1)), (6, .p (.int .i64 (i : Int)))], [.row false 1 (bools (dpV T1 s))]) →
    Wp Γ r9_matches_l2 env H (InBlk [1, 5] 0 Q) := by
  intro n
  have fin : ∀ (T1 T2 : List Tok) (env : Env) (H : Heap), T = T1 ++ T2 → toksF (p.drop p.length) = some T2 →
    norm [0, 1, 5, 6] (some 0) env H = some ([(0, .p (.str p)), (1, .p (.str s)), (5, .own 0 (s.length + 1)), (6, .p (.int .i64 ((p.length : Nat) : Int)))], [.row false 1 (bools (dpV T1 s))]) →
    Wp Γ r9_matches_l2 env H (InBlk [1, 5] 0 Q) := by
    intro T1 T2 env H hT h2 hN
    rw [List.drop_length, toksF] at h2
    cases h2
    rw [List.append_nil] at hT
    subst hT
    rw [W_loop (L := r9_matches_l2) rfl]
    rw [hN]
    simp (disch := first | assumption | omega | decide | (simp only [List.length_cons, List.length_nil, List.length_append, List.length_replicate, List.length_map, List.length_set, List.length_take, List.length_drop, strs_len, ints_len, bools_len, aggs_len, vpv_len]; done) | (simp only [List.length_cons, List.length_nil, List.length_append, List.length_replicate, List.length_map, List.length_set, List.length_take, List.length_drop, strs_len, ints_len, bools_len, aggs_len, vpv_len]; omega)) only [go_sem]
    exact hQ
  induction n with
  | zero =>
    intro i T1 T2 env H hn hi hT h2 hN
    obtain rfl : i = p.length := by omega
    exact fin T1 T2 env H hT h2 hN
  | succ n ih =>
    intro i T1 T2 env H hn hi hT h2 hN
    by_cases hlt : i < p.length
    · have hA := @dpV_len T1 s
      have hrep : List.replicate (s.length + 1) (PV.bool false) = bools (List.replicate (s.length + 1) false) := bools_rep
      have ecast : ((s.length : Int) + 1).toNat = s.length + 1 := by omega
      have nrm : ∀ (j : Nat) (D A : List Bool), norm [0, 1, 5, 6] (some 0) [(6, .p (.int .i64 (j : Int))), (0, .p (.str p)), (1, .p (.str s)), (5, .own 1 (s.length + 1)), (6, .p (.int .i64 (j : Int)))] [.row false 1 (bools A), .row false 1 (bools D)] = some ([(0, .p (.str p)), (1, .p (.str s)), (5, .own 0 (s.length + 1)), (6, .p (.int .i64 (j : Int)))], [.row false 1 (bools D)]) := by
        intro j D A
        simp (disch := first | assumption | omega | decide | (simp only [List.length_cons, List.length_nil, List.length_append, List.length_replicate, List.length_map, List.length_set, List.length_take, List.length_drop, strs_len, ints_len, bools_len, aggs_len, vpv_len]; done) | (simp only [List.length_cons, List.length_nil, List.length_append, List.length_replicate, List.length_map, List.length_set, List.length_take, List.length_drop, strs_len, ints_len, bools_len, aggs_len, vpv_len]; omega)) only [go_sem]
      rw [drop1 hlt] at h2
      by_cases e91 : byt p i = 91
      · have er := res_r9class p hp i hlt
        rw [(byt_eqG 91).1 e91] at h2
        rcases classE_spec hlt with ⟨k1, k2⟩ | ⟨x, st, k1, k2, k3, k4, k5, k6⟩
        · rw [toks_br_none k2] at h2; cases h2
        · rw [toks_br k1 k4 k6] at h2
          obtain ⟨U, hU, rfl⟩ := Option.map_eq_some_iff.1 h2
          rw [List.drop_drop] at hU
          rw [k3] at er
          have tk : TokAt p i (i + 1 + x) (false, st) := ⟨rfl, .inr (.inl ⟨e91, by omega, by omega, fun c => by rw [toks_inT k6, k5]⟩)⟩
          have hD := @dpV_len (T1 ++ [(false, st)]) s
          rw [W_loop (L := r9_matches_l2) rfl]
          rw [hN]
          simp (disch := first | assumption | omega | decide | (simp only [List.length_cons, List.length_nil, List.length_append, List.length_replicate, List.length_map, List.length_set, List.length_take, List.length_drop, strs_len, ints_len, bools_len, aggs_len, vpv_len]; done) | (simp only [List.length_cons, List.length_nil, List.length_append, List.length_replicate, List.length_map, List.length_set, List.length_take, List.length_drop, strs_len, ints_len, bools_len, aggs_len, vpv_len]; omega)) only [go_sem, e91, er, ecast, hrep]
          refine m_l1_set p s hp hs i (i + 1 + x) hlt (by rw [e91]; decide) tk hA hD (dp_set0 rfl) (fun k hk => dp_set rfl hk) _ (s.length + 1) 0 (by omega) ?_
          simp (disch := first | assumption | omega | decide | (simp only [List.length_cons, List.length_nil, List.length_append, List.length_replicate, List.length_map, List.length_set, List.length_take, List.length_drop, strs_len, ints_len, bools_len, aggs_len, vpv_len]; done) | (simp only [List.length_cons, List.length_nil, List.length_append, List.length_replicate, List.length_map, List.length_set, List.length_take, List.length_drop, strs_len, ints_len, bools_len, aggs_len, vpv_len]; omega)) only [go_sem]
          refine ih (i + 1 + (x + 1)) (T1 ++ [(false, st)]) U _ _ (by omega) (by omega) (by rw [hT, List.append_assoc]; rfl) hU ?_
          simp (disch := first | assumption | omega | decide | (simp only [List.length_cons, List.length_nil, List.length_append, List.length_replicate, List.length_map, List.length_set, List.length_take, List.length_drop, strs_len, ints_len, bools_len, aggs_len, vpv_len]; done) | (simp only [List.length_cons, List.length_nil, List.length_append, List.length_replicate, List.length_map, List.length_set, List.length_take, List.length_drop, strs_len, ints_len, bools_len, aggs_len, vpv_len]; omega)) only [go_sem]
          rfl
      · rw [toksF, if_neg (byt_ne (b := 91) e91)] at h2
        by_cases e42 : byt p i = 42
        · rw [if_pos ((byt_eqG 42).1 e42)] at h2
          obtain ⟨U, hU, rfl⟩ := Option.map_eq_some_iff.1 h2
          have hD := @dpV_len (T1 ++ [(true, none256)]) s
          rw [W_loop (L := r9_matches_l2) rfl]
          rw [hN]
          simp (disch := first | assumption | omega | decide | (simp only [List.length_cons, List.length_nil, List.length_append, List.length_replicate, List.length_map, List.length_set, List.length_take, List.length_drop, strs_len, ints_len, bools_len, aggs_len, vpv_len]; done) | (simp only [List.length_cons, List.length_nil, List.length_append, List.length_replicate, List.length_map, List.length_set, List.length_take, List.length_drop, strs_len, ints_len, bools_len, aggs_len, vpv_len]; omega)) only [go_sem, ecast, hrep]
          refine m_l1_star p s hp hs i i hlt e42 hA hD (dp_star0 rfl) (fun k hk => dp_star rfl hk) _ (s.length + 1) 0 (by omega) ?_
          simp (disch := first | assumption | omega | decide | (simp only [List.length_cons, List.length_nil, List.length_append, List.length_replicate, List.length_map, List.length_set, List.length_take, List.length_drop, strs_len, ints_len, bools_len, aggs_len, vpv_len]; done) | (simp only [List.length_cons, List.length_nil, List.length_append, List.length_replicate, List.length_map, List.length_set, List.length_take, List.length_drop, strs_len, ints_len, bools_len, aggs_len, vpv_len]; omega)) only [go_sem]
          refine ih (i + 1) (T1 ++ [(true, none256)]) U _ _ (by omega) (by omega) (by rw [hT, List.append_assoc]; rfl) hU ?_
          simp (disch := first | assumption | omega | decide | (simp only [List.length_cons, List.length_nil, List.length_append, List.length_replicate, List.length_map, List.length_set, List.length_take, List.length_drop, strs_len, ints_len, bools_len, aggs_len, vpv_len]; done) | (simp only [List.length_cons, List.length_nil, List.length_append, List.length_replicate, List.length_map, List.length_set, List.length_take, List.length_drop, strs_len, ints_len, bools_len, aggs_len, vpv_len]; omega)) only [go_sem]
          rfl
        · rw [if_neg (byt_ne (b := 42) e42)] at h2
          have tail : ∀ {t : Tok} {U : List Tok}, TokAt p i i t → toksF (p.drop (i + 1)) = some U → T2 = t :: U → Wp Γ r9_matches_l2 env H (InBlk [1, 5] 0 Q) := by
            intro t U tk hU e2
            subst e2
            have hD := @dpV_len (T1 ++ [t]) s
            rw [W_loop (L := r9_matches_l2) rfl]
            rw [hN]
            simp (disch := first | assumption | omega | decide | (simp only [List.length_cons, List.length_nil, List.length_append, List.length_replicate, List.length_map, List.length_set, List.length_take, List.length_drop, strs_len, ints_len, bools_len, aggs_len, vpv_len]; done) | (simp only [List.length_cons, List.length_nil, List.length_append, List.length_replicate, List.length_map, List.length_set, List.length_take, List.length_drop, strs_len, ints_len, bools_len, aggs_len, vpv_len]; omega)) only [go_sem, ecast, hrep]
            refine m_l1_set p s hp hs i i hlt e42 tk hA hD (dp_set0 tk.notAny) (fun k hk => dp_set tk.notAny hk) _ (s.length + 1) 0 (by omega) ?_
            simp (disch := first | assumption | omega | decide | (simp only [List.length_cons, List.length_nil, List.length_append, List.length_replicate, List.length_map, List.length_set, List.length_take, List.length_drop, strs_len, ints_len, bools_len, aggs_len, vpv_len]; done) | (simp only [List.length_cons, List.length_nil, List.length_append, List.length_replicate, List.length_map, List.length_set, List.length_take, List.length_drop, strs_len, ints_len, bools_len, aggs_len, vpv_len]; omega)) only [go_sem]
            refine ih (i + 1) (T1 ++ [t]) U _ _ (by omega) (by omega) (by rw [hT, List.append_assoc]; rfl) hU ?_
            simp (disch := first | assumption | omega | decide | (simp only [List.length_cons, List.length_nil, List.length_append, List.length_replicate, List.length_map, List.length_set, List.length_take, List.length_drop, strs_len, ints_len, bools_len, aggs_len, vpv_len]; done) | (simp only [List.length_cons, List.length_nil, List.length_append, List.length_replicate, List.length_map, List.length_set, List.length_take, List.length_drop, strs_len, ints_len, bools_len, aggs_len, vpv_len]; omega)) only [go_sem]
            rfl
          by_cases e63 : byt p i = 63
          · rw [if_pos ((byt_eqG 63).1 e63)] at h2
            obtain ⟨U, hU, e2⟩ := Option.map_eq_some_iff.1 h2
            exact tail (t := (false, fillN none256 0 256)) ⟨rfl, .inl ⟨e63, fun c => by unfold inT; dsimp only; exact all_get c⟩⟩ hU e2.symm
          · rw [if_neg (byt_ne (b := 63) e63)] at h2
            split at h2
            · obtain ⟨U, hU, e2⟩ := Option.map_eq_some_iff.1 h2
              exact tail (t := single (p.getD i 0)) ⟨rfl, .inr (.inr ⟨e63, e91, fun c => single_in⟩)⟩ hU e2.symm
            · cases h2
    · obtain rfl : i = p.length := by omega
      exact fin T1 T2 env H hT h2 hN
theorem res_r9matches (p s : List UInt8) (hp : p.length < 900000000) (hs : s.length < 900000000) {T : List Tok} (h : toksF p = some T) : res Γ 44 [.str p, .str s] = some [.bool (mtD T s)] := by
  have hrep : List.replicate (s.length + 1) (PV.bool false) = bools (List.replicate (s.length + 1) false) := bools_rep
  have ecast : ((s.length : Int) + 1).toNat = s.length + 1 := by omega
  have e0 : (List.replicate (s.length + 1) false).set 0 true = dpV [] s := by rw [dpV_nil]; rfl
  have hl := @dpV_len T s
  have hlast := @dp_last T s
  refine res_code (fn := r9_matches) rfl rfl ?_
  simp (disch := first | assumption | omega | decide | (simp only [List.length_cons, List.length_nil, List.length_append, List.length_replicate, List.length_map, List.length_set, List.length_take, List.length_drop, strs_len, ints_len, bools_len, aggs_len, vpv_len]; done) | (simp only [List.length_cons, List.length_nil, List.length_append, List.length_replicate, List.length_map, List.length_set, List.length_take, List.length_drop, strs_len, ints_len, bools_len, aggs_len, vpv_len]; omega)) only [go_sem, r9_matches, ecast, hrep, e0]
  refine m_l2_ok p s hp hs (T := T) _ ?_ p.length 0 [] T _ _ (by omega) (by omega) rfl (by rw [List.drop_zero]; exact h) ?_
  · simp (disch := first | assumption | omega | decide | (simp only [List.length_cons, List.length_nil, List.length_append, List.length_replicate, List.length_map, List.length_set, List.length_take, List.length_drop, strs_len, ints_len, bools_len, aggs_len, vpv_len]; done) | (simp only [List.length_cons, List.length_nil, List.length_append, List.length_replicate, List.length_map, List.length_set, List.length_take, List.length_drop, strs_len, ints_len, bools_len, aggs_len, vpv_len]; omega)) only [go_sem, hlast]
  · simp (disch := first | assumption | omega | decide | (simp only [List.length_cons, List.length_nil, List.length_append, List.length_replicate, List.length_map, List.length_set, List.length_take, List.length_drop, strs_len, ints_len, bools_len, aggs_len, vpv_len]; done) | (simp only [List.length_cons, List.length_nil, List.length_append, List.length_replicate, List.length_map, List.length_set, List.length_take, List.length_drop, strs_len, ints_len, bools_len, aggs_len, vpv_len]; omega)) only [go_sem]
    rfl
theorem res_r9Match (p s : List UInt8) (hp : p.length < 900000000) (hs : s.length < 900000000) : res Γ 20 [.str p, .str s] = some [.bool (matchB p s)] := by
  have e := res_r9simple p hp
  unfold matchB
  cases ht : toksF p with
  | none =>
    rw [ht] at e
    have e : res Γ 39 [.str p] = some [.bool false] := e
    refine res_code (fn := r9_Match) rfl rfl ?_
    simp (disch := first | assumption | omega | decide | (simp only [List.length_cons, List.length_nil, List.length_append, List.length_replicate, List.length_map, List.length_set, List.length_take, List.length_drop, strs_len, ints_len, bools_len, aggs_len, vpv_len]; done) | (simp only [List.length_cons, List.length_nil, List.length_append, List.length_replicate, List.length_map, List.length_set, List.length_take, List.length_drop, strs_len, ints_len, bools_len, aggs_len, vpv_len]; omega)) only [go_sem, r9_Match, e]
  | some T =>
    rw [ht] at e
    have e : res Γ 39 [.str p] = some [.bool true] := e
    have e2 := res_r9matches p s hp hs ht
    refine res_code (fn := r9_Match) rfl rfl ?_
    simp (disch := first | assumption | omega | decide | (simp only [List.length_cons, List.length_nil, List.length_append, List.length_replicate, List.length_map, List.length_set, List.length_take, List.length_drop, strs_len, ints_len, bools_len, aggs_len, vpv_len]; done) | (simp only [List.length_cons, List.length_nil, List.length_append, List.length_replicate, List.length_map, List.length_set, List.length_take, List.length_drop, strs_len, ints_len, bools_len, aggs_len, vpv_len]; omega)) only [go_sem, r9_Match, e, e2]
end Ab
