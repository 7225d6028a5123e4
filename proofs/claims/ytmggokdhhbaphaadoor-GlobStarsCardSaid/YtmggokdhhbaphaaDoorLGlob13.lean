import Derived.Test.YtmggokdhhbaphaaDoorLGlob11
/- Laws on patterns, at the abstract level. -/
namespace Ab
open Go (IntKind BinOp UnOp)
theorem texts_l1_ok {k1 k2 : SK} (l : List (List UInt8)) (hl : l.length ≤ 1000000000) (Q : Out → Prop) (hQ : Q (.nrm, [], [])) : ∀ (n i : Nat), i + n = l.length →
    Wp Γ l9_texts_l1 [(0, .p (.sl k1 1 (strs l))), (1, .p (.sl k2 1 (strs l))), (5, .p (.int .i64 (i : Int)))] [] (InBlk [] 0 Q) := by
  intro n
  induction n with
  | zero =>
    intro i hi
    obtain rfl : i = l.length := by omega
    rw [W_loop (L := l9_texts_l1) rfl]
    simp (disch := first | assumption | omega | decide | (simp only [List.length_cons, List.length_nil, List.length_append, List.length_replicate, List.length_map, List.length_set, List.length_take, List.length_drop, strs_len, ints_len, bools_len, aggs_len, vpv_len]; done) | (simp only [List.length_cons, List.length_nil, List.length_append, List.length_replicate, List.length_map, List.length_set, List.length_take, List.length_drop, strs_len, ints_len, bools_len, aggs_len, vpv_len]; omega)) only [go_sem]
    exact hQ
  | succ n ih =>
    intro i hi
    rw [W_loop (L := l9_texts_l1) rfl]
    simp (disch := first | assumption | omega | decide | (simp only [List.length_cons, List.length_nil, List.length_append, List.length_replicate, List.length_map, List.length_set, List.length_take, List.length_drop, strs_len, ints_len, bools_len, aggs_len, vpv_len]; done) | (simp only [List.length_cons, List.length_nil, List.length_append, List.length_replicate, List.length_map, List.length_set, List.length_take, List.length_drop, strs_len, ints_len, bools_len, aggs_len, vpv_len]; omega)) only [go_sem, ne_eq, not_true_eq_false]
    exact ih (i + 1) (by omega)
theorem res_texts {k1 k2 : SK} (l : List (List UInt8)) (hl : l.length ≤ 1000000000) : res Γ 13 [.sl k1 1 (strs l), .sl k2 1 (strs l)] = some [.bool true] := by
  refine res_code (fn := l9_texts) rfl rfl ?_
  simp (disch := first | assumption | omega | decide | (simp only [List.length_cons, List.length_nil, List.length_append, List.length_replicate, List.length_map, List.length_set, List.length_take, List.length_drop, strs_len, ints_len, bools_len, aggs_len, vpv_len]; done) | (simp only [List.length_cons, List.length_nil, List.length_append, List.length_replicate, List.length_map, List.length_set, List.length_take, List.length_drop, strs_len, ints_len, bools_len, aggs_len, vpv_len]; omega)) only [go_sem, l9_texts, ne_eq, not_true_eq_false]
  refine texts_l1_ok l hl _ ?_ l.length 0 (by omega)
  simp (disch := first | assumption | omega | decide | (simp only [List.length_cons, List.length_nil, List.length_append, List.length_replicate, List.length_map, List.length_set, List.length_take, List.length_drop, strs_len, ints_len, bools_len, aggs_len, vpv_len]; done) | (simp only [List.length_cons, List.length_nil, List.length_append, List.length_replicate, List.length_map, List.length_set, List.length_take, List.length_drop, strs_len, ints_len, bools_len, aggs_len, vpv_len]; omega)) only [go_sem]
theorem res_textsNil {k1 k2 : SK} : res Γ 13 [.sl k1 1 [], .sl k2 1 []] = some [.bool true] := res_texts (k1 := k1) (k2 := k2) [] (by simp)
/-! ### What is plain -/
theorem plain_parts {p : List UInt8} (h : plainB p = true) : (splitB 46 p).all (fun q => (toksF q).isSome) = true := by
  rw [← plain_split, List.all_eq_true] at h
  rw [List.all_eq_true]
  intro q hq
  have := h q hq
  rw [← toks_plain_iff q.length (Nat.le_refl _), Bool.and_eq_true] at this
  exact this.1
theorem plain_okE {p : List UInt8} (h : plainB p = true) (h0 : p ≠ []) : okE p = true := by
  unfold okE
  rw [decide_eq_true h0, Bool.true_and, plain_parts h]
theorem plain_exp {p : List UInt8} (h : plainB p = true) : Exp p [p] := by
  refine .run p fun c hc => ?_
  unfold plainB at h
  have := List.all_eq_true.1 h c hc
  rw [Bool.or_eq_true, beq_iff_eq] at this
  rcases this with rfl | this
  · rfl
  · exact (byteOk_no this).2.2.2.2
theorem plain_of_bytes {p : List UInt8} (h : ∀ c ∈ p, byteOk c = true) : plainB p = true := by
  unfold plainB
  rw [List.all_eq_true]
  intro c hc
  rw [h c hc, Bool.or_true]
theorem expandR_plain {p : List UInt8} (h : plainB p = true) (h0 : p ≠ []) : expandR p [p] = [.sl .any 1 [.str p], .int .i64 0] := by
  unfold expandR
  rw [if_neg (by simp), if_pos (by simp [plain_okE h h0])]
  rfl
/-! ### A choice and a match that are known -/
def f1 (a : List UInt8) : List (List UInt8) := if a = [98] then [[98]] else [[99, 100], [99]]
theorem exp_in : Exp [99, 123, 100, 44, 125] [[99, 100], [99]] := by
  have := Exp.grp [99] [[100], []] (fun a => [a]) [] [[]] (by decide) (by simp) (fun a ha => by
    refine .run a fun c hc => ?_
    simp only [List.mem_cons, List.not_mem_nil, or_false] at ha
    rcases ha with rfl | rfl
    · rw [List.mem_singleton] at hc; subst hc; rfl
    · cases hc) (.run [] (by simp))
  exact this
theorem exp_known : Exp [97, 46, 123, 98, 44, 99, 123, 100, 44, 125, 125] [[97, 46, 98], [97, 46, 99, 100], [97, 46, 99]] := by
  have := Exp.grp [97, 46] [[98], [99, 123, 100, 44, 125]] f1 [] [[]] (by decide) (by simp) (fun a ha => by
    simp only [List.mem_cons, List.not_mem_nil, or_false] at ha
    rcases ha with rfl | rfl
    · exact .run [98] (by decide)
    · exact exp_in) (.run [] (by simp))
  exact this
theorem expandR_known : expandR [97, 46, 123, 98, 44, 99, 123, 100, 44, 125, 125] [[97, 46, 98], [97, 46, 99, 100], [97, 46, 99]] = [.sl .any 1 (strs [[97, 46, 98], [97, 46, 99, 100], [97, 46, 99]]), .int .i64 0] := by
  unfold expandR
  have h : ∀ p ∈ [[97, 46, 98], [97, 46, 99, 100], [97, 46, 99]], okE p = true := fun p hp => by
    simp only [List.mem_cons, List.not_mem_nil, or_false] at hp
    rcases hp with rfl | rfl | rfl <;> exact plain_okE (by decide) (by simp)
  rw [if_neg (by simp), if_pos (List.all_eq_true.2 h)]
theorem class_known : ∃ st, classF [48, 45, 50] none256 = some st := by
  have : (classF [48, 45, 50] none256).isSome = true := by rw [classF_ok]; decide
  exact Option.isSome_iff_exists.1 this
theorem match_known : matchB [115, 63, 91, 48, 45, 50, 93, 42] [115, 118, 49] = true := by
  obtain ⟨st, hst⟩ := class_known
  have e1 : toksF [42] = some [(true, none256)] := toks_star toks_nil
  have e2 : toksF [91, 48, 45, 50, 93, 42] = some [(false, st), (true, none256)] := by
    rw [toks_br (r := [48, 45, 50, 93, 42]) (x := 3) (st := st) (by decide) (by decide) hst]
    show (toksF [42]).map _ = _
    rw [e1]; rfl
  have e3 : toksF [63, 91, 48, 45, 50, 93, 42] = some [(false, fillN none256 0 256), (false, st), (true, none256)] := by
    rw [toksF, if_neg (by decide), if_pos rfl, e2]; rfl
  have e4 : toksF [115, 63, 91, 48, 45, 50, 93, 42] = some [single 115, (false, fillN none256 0 256), (false, st), (true, none256)] := by
    rw [toks_lit (by decide), e3]; rfl
  unfold matchB
  rw [e4]
  refine mtD_iff.2 ?_
  refine (Mt_set rfl).2 ⟨115, [118, 49], rfl, by rw [single_in]; rfl, ?_⟩
  refine (Mt_set rfl).2 ⟨118, [49], rfl, ?_, ?_⟩
  · unfold inT; dsimp only; exact all_get 118
  refine (Mt_set rfl).2 ⟨49, [], rfl, ?_, ?_⟩
  · rw [toks_inT hst]; decide
  exact (Mt_star rfl).2 ⟨0, by simp, rfl⟩
theorem res_known9 : res Γ 14 [] = some [.bool true] := by
  have e1 := res_globExpand [97, 46, 123, 98, 44, 99, 123, 100, 44, 125, 125] (by decide) exp_known
  rw [expandR_known] at e1
  have e2 := res_globMatch [115, 63, 91, 48, 45, 50, 93, 42] [115, 118, 49] (by decide) (by decide)
  rw [match_known] at e2
  have e3 := fun k1 k2 => res_texts (k1 := k1) (k2 := k2) [[97, 46, 98], [97, 46, 99, 100], [97, 46, 99]] (by decide)
  have e4 : strs [[97, 46, 98], [97, 46, 99, 100], [97, 46, 99]] = [.str [97, 46, 98], .str [97, 46, 99, 100], .str [97, 46, 99]] := rfl
  rw [e4] at e1 e3
  refine res_code (fn := l9_known) rfl rfl ?_
  simp (disch := first | assumption | omega | decide | (simp only [List.length_cons, List.length_nil, List.length_append, List.length_replicate, List.length_map, List.length_set, List.length_take, List.length_drop, strs_len, ints_len, bools_len, aggs_len, vpv_len]; done) | (simp only [List.length_cons, List.length_nil, List.length_append, List.length_replicate, List.length_map, List.length_set, List.length_take, List.length_drop, strs_len, ints_len, bools_len, aggs_len, vpv_len]; omega)) only [go_sem, l9_known, e1, e2, e3]
/-! ### The laws -/
theorem res_GlobExpandsA (s : List UInt8) : res Γ 92 [.str s] = some [.bool true] := by
  have hk := res_known9
  by_cases hl : 200 < s.length
  · refine res_code (fn := l9_GlobExpands) rfl rfl ?_
    simp (disch := first | assumption | omega | decide | (simp only [List.length_cons, List.length_nil, List.length_append, List.length_replicate, List.length_map, List.length_set, List.length_take, List.length_drop, strs_len, ints_len, bools_len, aggs_len, vpv_len]; done) | (simp only [List.length_cons, List.length_nil, List.length_append, List.length_replicate, List.length_map, List.length_set, List.length_take, List.length_drop, strs_len, ints_len, bools_len, aggs_len, vpv_len]; omega)) only [go_sem, l9_GlobExpands]
  · cases hsc : scan 0 s
    · have e1 := res_globExpand_no s (by omega) (.inr hsc)
      have e2 := res_r9Expand_no s (by omega) (.inr hsc)
      have e3 := res_textsNil (k1 := .nil) (k2 := .nil)
      refine res_code (fn := l9_GlobExpands) rfl rfl ?_
      simp (disch := first | assumption | omega | decide | (simp only [List.length_cons, List.length_nil, List.length_append, List.length_replicate, List.length_map, List.length_set, List.length_take, List.length_drop, strs_len, ints_len, bools_len, aggs_len, vpv_len]; done) | (simp only [List.length_cons, List.length_nil, List.length_append, List.length_replicate, List.length_map, List.length_set, List.length_take, List.length_drop, strs_len, ints_len, bools_len, aggs_len, vpv_len]; omega)) only [go_sem, l9_GlobExpands, e1, e2, e3, hk]
    · obtain ⟨out, hx⟩ := exp_of_scan hsc
      have e1 := res_globExpand s (by omega) hx
      obtain ⟨kk, e2⟩ := res_r9Expand s (by omega) hx
      unfold expandR at e1
      unfold expandK at e2
      by_cases ho : 512 < out.length
      · rw [if_pos ho] at e1 e2
        have e3 := res_textsNil (k1 := .nil) (k2 := .nil)
        refine res_code (fn := l9_GlobExpands) rfl rfl ?_
        simp (disch := first | assumption | omega | decide | (simp only [List.length_cons, List.length_nil, List.length_append, List.length_replicate, List.length_map, List.length_set, List.length_take, List.length_drop, strs_len, ints_len, bools_len, aggs_len, vpv_len]; done) | (simp only [List.length_cons, List.length_nil, List.length_append, List.length_replicate, List.length_map, List.length_set, List.length_take, List.length_drop, strs_len, ints_len, bools_len, aggs_len, vpv_len]; omega)) only [go_sem, l9_GlobExpands, e1, e2, e3, hk]
      · rw [if_neg ho] at e1 e2
        by_cases ha : out.all okE = true
        · rw [if_pos ha] at e1 e2
          have e3 := res_texts (k1 := .any) (k2 := kk) out (by omega)
          refine res_code (fn := l9_GlobExpands) rfl rfl ?_
          simp (disch := first | assumption | omega | decide | (simp only [List.length_cons, List.length_nil, List.length_append, List.length_replicate, List.length_map, List.length_set, List.length_take, List.length_drop, strs_len, ints_len, bools_len, aggs_len, vpv_len]; done) | (simp only [List.length_cons, List.length_nil, List.length_append, List.length_replicate, List.length_map, List.length_set, List.length_take, List.length_drop, strs_len, ints_len, bools_len, aggs_len, vpv_len]; omega)) only [go_sem, l9_GlobExpands, e1, e2, e3, hk]
        · rw [if_neg ha] at e1 e2
          have e3 := res_textsNil (k1 := .nil) (k2 := .nil)
          refine res_code (fn := l9_GlobExpands) rfl rfl ?_
          simp (disch := first | assumption | omega | decide | (simp only [List.length_cons, List.length_nil, List.length_append, List.length_replicate, List.length_map, List.length_set, List.length_take, List.length_drop, strs_len, ints_len, bools_len, aggs_len, vpv_len]; done) | (simp only [List.length_cons, List.length_nil, List.length_append, List.length_replicate, List.length_map, List.length_set, List.length_take, List.length_drop, strs_len, ints_len, bools_len, aggs_len, vpv_len]; omega)) only [go_sem, l9_GlobExpands, e1, e2, e3, hk]
theorem res_GlobMatchesA (p s : List UInt8) : res Γ 96 [.str p, .str s] = some [.bool true] := by
  have hk := res_known9
  refine res_code (fn := l9_GlobMatches) rfl rfl ?_
  by_cases hp : 200 < p.length
  · simp (disch := first | assumption | omega | decide | (simp only [List.length_cons, List.length_nil, List.length_append, List.length_replicate, List.length_map, List.length_set, List.length_take, List.length_drop, strs_len, ints_len, bools_len, aggs_len, vpv_len]; done) | (simp only [List.length_cons, List.length_nil, List.length_append, List.length_replicate, List.length_map, List.length_set, List.length_take, List.length_drop, strs_len, ints_len, bools_len, aggs_len, vpv_len]; omega)) only [go_sem, l9_GlobMatches]
  · by_cases hs : 200 < s.length
    · simp (disch := first | assumption | omega | decide | (simp only [List.length_cons, List.length_nil, List.length_append, List.length_replicate, List.length_map, List.length_set, List.length_take, List.length_drop, strs_len, ints_len, bools_len, aggs_len, vpv_len]; done) | (simp only [List.length_cons, List.length_nil, List.length_append, List.length_replicate, List.length_map, List.length_set, List.length_take, List.length_drop, strs_len, ints_len, bools_len, aggs_len, vpv_len]; omega)) only [go_sem, l9_GlobMatches]
    · have e1 := res_globMatch p s (by omega) (by omega)
      have e2 := res_r9Match p s (by omega) (by omega)
      have e3 := res_globPlain p (by omega)
      have e4 := res_r9Plain p (by omega)
      have eb : ∀ b : Bool, (b == b) = true := fun b => by cases b <;> rfl
      generalize matchB p s = m at *
      generalize plainB p = n at *
      simp (disch := first | assumption | omega | decide | (simp only [List.length_cons, List.length_nil, List.length_append, List.length_replicate, List.length_map, List.length_set, List.length_take, List.length_drop, strs_len, ints_len, bools_len, aggs_len, vpv_len]; done) | (simp only [List.length_cons, List.length_nil, List.length_append, List.length_replicate, List.length_map, List.length_set, List.length_take, List.length_drop, strs_len, ints_len, bools_len, aggs_len, vpv_len]; omega)) only [go_sem, l9_GlobMatches, e1, e2, e3, e4, hk, eb]
theorem res_GlobPartsA (s : List UInt8) : res Γ 97 [.str s] = some [.bool true] := by
  have hk := res_known9
  by_cases hl : 200 < s.length
  · refine res_code (fn := l9_GlobParts) rfl rfl ?_
    simp (disch := first | assumption | omega | decide | (simp only [List.length_cons, List.length_nil, List.length_append, List.length_replicate, List.length_map, List.length_set, List.length_take, List.length_drop, strs_len, ints_len, bools_len, aggs_len, vpv_len]; done) | (simp only [List.length_cons, List.length_nil, List.length_append, List.length_replicate, List.length_map, List.length_set, List.length_take, List.length_drop, strs_len, ints_len, bools_len, aggs_len, vpv_len]; omega)) only [go_sem, l9_GlobParts]
  · have e1 := res_globParts s (by omega)
    have e2 := res_r9Parts s (by omega)
    have hsl := splitB_len 46 s
    have hsc := @count_le s 46
    unfold partsR at e1 e2
    by_cases h : (splitB 46 s).all partOk = true ∧ (splitB 46 s).length ≤ 20
    · rw [if_pos h] at e1 e2
      have e3 := res_texts (k1 := .any) (k2 := .any) (splitB 46 s) (by omega)
      refine res_code (fn := l9_GlobParts) rfl rfl ?_
      simp (disch := first | assumption | omega | decide | (simp only [List.length_cons, List.length_nil, List.length_append, List.length_replicate, List.length_map, List.length_set, List.length_take, List.length_drop, strs_len, ints_len, bools_len, aggs_len, vpv_len]; done) | (simp only [List.length_cons, List.length_nil, List.length_append, List.length_replicate, List.length_map, List.length_set, List.length_take, List.length_drop, strs_len, ints_len, bools_len, aggs_len, vpv_len]; omega)) only [go_sem, l9_GlobParts, e1, e2, e3, hk]
    · rw [if_neg h] at e1 e2
      have e3 := res_textsNil (k1 := .nil) (k2 := .nil)
      refine res_code (fn := l9_GlobParts) rfl rfl ?_
      simp (disch := first | assumption | omega | decide | (simp only [List.length_cons, List.length_nil, List.length_append, List.length_replicate, List.length_map, List.length_set, List.length_take, List.length_drop, strs_len, ints_len, bools_len, aggs_len, vpv_len]; done) | (simp only [List.length_cons, List.length_nil, List.length_append, List.length_replicate, List.length_map, List.length_set, List.length_take, List.length_drop, strs_len, ints_len, bools_len, aggs_len, vpv_len]; omega)) only [go_sem, l9_GlobParts, e1, e2, e3, hk]
theorem GlobPlain_l1_ok {kk : SK} (p s : List UInt8) (l : List PV) (hp : p.length ≤ 200) (e3 : res Γ 13 [.sl kk 1 l, .sl .tight 1 [.str p]] = some [.bool true]) (Q : Out → Prop) (h1 : Q (.ret, [(4, .p (.bool true))], []))
    (h2 : (∀ c ∈ p, c ≠ 46) → Q (.nrm, [(0, .p (.str p)), (1, .p (.str s)), (5, .p (.sl kk 1 l)), (6, .p (.int .i64 0))], [])) : ∀ (n i : Nat), i + n = p.length → (∀ j, j < i → byt p j ≠ 46) →
    Wp Γ l9_GlobPlain_l1 [(0, .p (.str p)), (1, .p (.str s)), (5, .p (.sl kk 1 l)), (6, .p (.int .i64 0)), (7, .p (.int .i64 (i : Int)))] [] (InBlk [0, 1, 5, 6] 0 Q) := by
  have hk := res_known9
  intro n
  induction n with
  | zero =>
    intro i hi hn
    obtain rfl : i = p.length := by omega
    rw [W_loop (L := l9_GlobPlain_l1) rfl]
    simp (disch := first | assumption | omega | decide | (simp only [List.length_cons, List.length_nil, List.length_append, List.length_replicate, List.length_map, List.length_set, List.length_take, List.length_drop, strs_len, ints_len, bools_len, aggs_len, vpv_len]; done) | (simp only [List.length_cons, List.length_nil, List.length_append, List.length_replicate, List.length_map, List.length_set, List.length_take, List.length_drop, strs_len, ints_len, bools_len, aggs_len, vpv_len]; omega)) only [go_sem]
    refine h2 fun c hc h => ?_
    obtain ⟨j, hj, rfl⟩ := List.getElem_of_mem hc
    refine hn j hj ((byt_eqG 46).2 ?_)
    rw [List.getD_eq_getElem?_getD, List.getElem?_eq_getElem hj]; exact h
  | succ n ih =>
    intro i hi hn
    by_cases hb : byt p i = 46
    · rw [W_loop (L := l9_GlobPlain_l1) rfl]
      simp (disch := first | assumption | omega | decide | (simp only [List.length_cons, List.length_nil, List.length_append, List.length_replicate, List.length_map, List.length_set, List.length_take, List.length_drop, strs_len, ints_len, bools_len, aggs_len, vpv_len]; done) | (simp only [List.length_cons, List.length_nil, List.length_append, List.length_replicate, List.length_map, List.length_set, List.length_take, List.length_drop, strs_len, ints_len, bools_len, aggs_len, vpv_len]; omega)) only [go_sem, hb, e3, hk]
      exact h1
    · rw [W_loop (L := l9_GlobPlain_l1) rfl]
      simp (disch := first | assumption | omega | decide | (simp only [List.length_cons, List.length_nil, List.length_append, List.length_replicate, List.length_map, List.length_set, List.length_take, List.length_drop, strs_len, ints_len, bools_len, aggs_len, vpv_len]; done) | (simp only [List.length_cons, List.length_nil, List.length_append, List.length_replicate, List.length_map, List.length_set, List.length_take, List.length_drop, strs_len, ints_len, bools_len, aggs_len, vpv_len]; omega)) only [go_sem]
      refine ih (i + 1) (by omega) fun j hj => ?_
      by_cases h : j = i
      · subst h; exact hb
      · exact hn j (by omega)
theorem res_GlobPlainA (p s : List UInt8) : res Γ 93 [.str p, .str s] = some [.bool true] := by
  have hk := res_known9
  by_cases h1 : p.length < 1
  · refine res_code (fn := l9_GlobPlain) rfl rfl ?_
    simp (disch := first | assumption | omega | decide | (simp only [List.length_cons, List.length_nil, List.length_append, List.length_replicate, List.length_map, List.length_set, List.length_take, List.length_drop, strs_len, ints_len, bools_len, aggs_len, vpv_len]; done) | (simp only [List.length_cons, List.length_nil, List.length_append, List.length_replicate, List.length_map, List.length_set, List.length_take, List.length_drop, strs_len, ints_len, bools_len, aggs_len, vpv_len]; omega)) only [go_sem, l9_GlobPlain]
  · by_cases h2 : 200 < p.length
    · refine res_code (fn := l9_GlobPlain) rfl rfl ?_
      simp (disch := first | assumption | omega | decide | (simp only [List.length_cons, List.length_nil, List.length_append, List.length_replicate, List.length_map, List.length_set, List.length_take, List.length_drop, strs_len, ints_len, bools_len, aggs_len, vpv_len]; done) | (simp only [List.length_cons, List.length_nil, List.length_append, List.length_replicate, List.length_map, List.length_set, List.length_take, List.length_drop, strs_len, ints_len, bools_len, aggs_len, vpv_len]; omega)) only [go_sem, l9_GlobPlain]
    · by_cases h3 : 200 < s.length
      · refine res_code (fn := l9_GlobPlain) rfl rfl ?_
        simp (disch := first | assumption | omega | decide | (simp only [List.length_cons, List.length_nil, List.length_append, List.length_replicate, List.length_map, List.length_set, List.length_take, List.length_drop, strs_len, ints_len, bools_len, aggs_len, vpv_len]; done) | (simp only [List.length_cons, List.length_nil, List.length_append, List.length_replicate, List.length_map, List.length_set, List.length_take, List.length_drop, strs_len, ints_len, bools_len, aggs_len, vpv_len]; omega)) only [go_sem, l9_GlobPlain]
      · have e0 := res_r9Plain p (by omega)
        cases hpl : plainB p
        · rw [hpl] at e0
          refine res_code (fn := l9_GlobPlain) rfl rfl ?_
          simp (disch := first | assumption | omega | decide | (simp only [List.length_cons, List.length_nil, List.length_append, List.length_replicate, List.length_map, List.length_set, List.length_take, List.length_drop, strs_len, ints_len, bools_len, aggs_len, vpv_len]; done) | (simp only [List.length_cons, List.length_nil, List.length_append, List.length_replicate, List.length_map, List.length_set, List.length_take, List.length_drop, strs_len, ints_len, bools_len, aggs_len, vpv_len]; omega)) only [go_sem, l9_GlobPlain, e0]
        · rw [hpl] at e0
          have hne : p ≠ [] := fun h => by subst h; simp at h1
          have e1 := res_globExpand p (by omega) (plain_exp hpl)
          rw [expandR_plain hpl hne] at e1
          have e3 := res_texts (k1 := .any) (k2 := .tight) [p] (by simp)
          rw [strs_single] at e3
          refine res_code (fn := l9_GlobPlain) rfl rfl ?_
          simp (disch := first | assumption | omega | decide | (simp only [List.length_cons, List.length_nil, List.length_append, List.length_replicate, List.length_map, List.length_set, List.length_take, List.length_drop, strs_len, ints_len, bools_len, aggs_len, vpv_len]; done) | (simp only [List.length_cons, List.length_nil, List.length_append, List.length_replicate, List.length_map, List.length_set, List.length_take, List.length_drop, strs_len, ints_len, bools_len, aggs_len, vpv_len]; omega)) only [go_sem, l9_GlobPlain, e0, e1]
          refine GlobPlain_l1_ok p s [.str p] (by omega) e3 _ ?_ (fun hn => ?_) p.length 0 (by omega) (by omega)
          · simp (disch := first | assumption | omega | decide | (simp only [List.length_cons, List.length_nil, List.length_append, List.length_replicate, List.length_map, List.length_set, List.length_take, List.length_drop, strs_len, ints_len, bools_len, aggs_len, vpv_len]; done) | (simp only [List.length_cons, List.length_nil, List.length_append, List.length_replicate, List.length_map, List.length_set, List.length_take, List.length_drop, strs_len, ints_len, bools_len, aggs_len, vpv_len]; omega)) only [go_sem]
          · have hb : ∀ c ∈ p, byteOk c = true := fun c hc => by
              unfold plainB at hpl
              have := List.all_eq_true.1 hpl c hc
              rw [Bool.or_eq_true, beq_iff_eq] at this
              exact this.resolve_left (hn c hc)
            have em : matchB p s = decide (s = p) := by
              unfold matchB
              rw [toks_all hb]
              show mtD _ _ = _
              rw [Bool.eq_iff_iff, mtD_iff, Mt_singles, decide_eq_true_eq]
            have e4 := res_globMatch p s (by omega) (by omega)
            rw [em] at e4
            by_cases hsp : s = p
            · have ed : decide (s = p) = true := decide_eq_true hsp
              rw [ed] at e4
              simp (disch := first | assumption | omega | decide | (simp only [List.length_cons, List.length_nil, List.length_append, List.length_replicate, List.length_map, List.length_set, List.length_take, List.length_drop, strs_len, ints_len, bools_len, aggs_len, vpv_len]; done) | (simp only [List.length_cons, List.length_nil, List.length_append, List.length_replicate, List.length_map, List.length_set, List.length_take, List.length_drop, strs_len, ints_len, bools_len, aggs_len, vpv_len]; omega)) only [go_sem, e3, e4, hk, ed]
            · have ed : decide (s = p) = false := decide_eq_false hsp
              rw [ed] at e4
              simp (disch := first | assumption | omega | decide | (simp only [List.length_cons, List.length_nil, List.length_append, List.length_replicate, List.length_map, List.length_set, List.length_take, List.length_drop, strs_len, ints_len, bools_len, aggs_len, vpv_len]; done) | (simp only [List.length_cons, List.length_nil, List.length_append, List.length_replicate, List.length_map, List.length_set, List.length_take, List.length_drop, strs_len, ints_len, bools_len, aggs_len, vpv_len]; omega)) only [go_sem, e3, e4, hk, ed]
theorem lplain_l1_ok (s : List UInt8) (hs : s.length ≤ 1000) (Q : Out → Prop) (h1 : s.all byteOk = false → Q (.ret, [(2, .p (.bool false))], []))
    (h2 : (∀ c ∈ s, c ≠ 46) → Q (.nrm, [(0, .p (.str s))], [])) : ∀ (n i : Nat), i + n = s.length → (∀ j, j < i → byt s j ≠ 46) →
    Wp Γ l9_plain_l1 [(0, .p (.str s)), (3, .p (.int .i64 (i : Int)))] [] (InBlk [0] 0 Q) := by
  intro n
  induction n with
  | zero =>
    intro i hi hn
    obtain rfl : i = s.length := by omega
    rw [W_loop (L := l9_plain_l1) rfl]
    simp (disch := first | assumption | omega | decide | (simp only [List.length_cons, List.length_nil, List.length_append, List.length_replicate, List.length_map, List.length_set, List.length_take, List.length_drop, strs_len, ints_len, bools_len, aggs_len, vpv_len]; done) | (simp only [List.length_cons, List.length_nil, List.length_append, List.length_replicate, List.length_map, List.length_set, List.length_take, List.length_drop, strs_len, ints_len, bools_len, aggs_len, vpv_len]; omega)) only [go_sem]
    refine h2 fun c hc h => ?_
    obtain ⟨j, hj, rfl⟩ := List.getElem_of_mem hc
    refine hn j hj ((byt_eqG 46).2 ?_)
    rw [List.getD_eq_getElem?_getD, List.getElem?_eq_getElem hj]; exact h
  | succ n ih =>
    intro i hi hn
    have hlt : i < s.length := by omega
    by_cases hb : byt s i = 46
    · rw [W_loop (L := l9_plain_l1) rfl]
      simp (disch := first | assumption | omega | decide | (simp only [List.length_cons, List.length_nil, List.length_append, List.length_replicate, List.length_map, List.length_set, List.length_take, List.length_drop, strs_len, ints_len, bools_len, aggs_len, vpv_len]; done) | (simp only [List.length_cons, List.length_nil, List.length_append, List.length_replicate, List.length_map, List.length_set, List.length_take, List.length_drop, strs_len, ints_len, bools_len, aggs_len, vpv_len]; omega)) only [go_sem, hb]
      refine h1 ?_
      have := (byt_eqG 46).1 hb
      rw [List.getD_eq_getElem?_getD, List.getElem?_eq_getElem hlt] at this
      have this : s[i] = 46 := this
      cases ha : s.all byteOk
      · rfl
      · have := List.all_eq_true.1 ha _ (List.getElem_mem hlt)
        rw [‹s[i] = 46›] at this
        revert this; decide
    · rw [W_loop (L := l9_plain_l1) rfl]
      simp (disch := first | assumption | omega | decide | (simp only [List.length_cons, List.length_nil, List.length_append, List.length_replicate, List.length_map, List.length_set, List.length_take, List.length_drop, strs_len, ints_len, bools_len, aggs_len, vpv_len]; done) | (simp only [List.length_cons, List.length_nil, List.length_append, List.length_replicate, List.length_map, List.length_set, List.length_take, List.length_drop, strs_len, ints_len, bools_len, aggs_len, vpv_len]; omega)) only [go_sem]
      refine ih (i + 1) (by omega) fun j hj => ?_
      by_cases h : j = i
      · subst h; exact hb
      · exact hn j (by omega)
theorem res_lplain (s : List UInt8) (hs : s.length ≤ 1000) : res Γ 19 [.str s] = some [.bool (s.all byteOk)] := by
  have e := res_r9Plain s (by omega)
  refine res_code (fn := l9_plain) rfl rfl ?_
  simp (disch := first | assumption | omega | decide | (simp only [List.length_cons, List.length_nil, List.length_append, List.length_replicate, List.length_map, List.length_set, List.length_take, List.length_drop, strs_len, ints_len, bools_len, aggs_len, vpv_len]; done) | (simp only [List.length_cons, List.length_nil, List.length_append, List.length_replicate, List.length_map, List.length_set, List.length_take, List.length_drop, strs_len, ints_len, bools_len, aggs_len, vpv_len]; omega)) only [go_sem, l9_plain]
  refine lplain_l1_ok s hs _ (fun h => ?_) (fun h => ?_) s.length 0 (by omega) (by omega)
  · simp (disch := first | assumption | omega | decide | (simp only [List.length_cons, List.length_nil, List.length_append, List.length_replicate, List.length_map, List.length_set, List.length_take, List.length_drop, strs_len, ints_len, bools_len, aggs_len, vpv_len]; done) | (simp only [List.length_cons, List.length_nil, List.length_append, List.length_replicate, List.length_map, List.length_set, List.length_take, List.length_drop, strs_len, ints_len, bools_len, aggs_len, vpv_len]; omega)) only [go_sem, h]
  · have : plainB s = s.all byteOk := by
      unfold plainB
      rw [Bool.eq_iff_iff, List.all_eq_true, List.all_eq_true]
      constructor
      · intro h' c hc
        have := h' c hc
        rw [Bool.or_eq_true, beq_iff_eq] at this
        exact this.resolve_left (h c hc)
      · intro h' c hc
        rw [h' c hc, Bool.or_true]
    rw [this] at e
    simp (disch := first | assumption | omega | decide | (simp only [List.length_cons, List.length_nil, List.length_append, List.length_replicate, List.length_map, List.length_set, List.length_take, List.length_drop, strs_len, ints_len, bools_len, aggs_len, vpv_len]; done) | (simp only [List.length_cons, List.length_nil, List.length_append, List.length_replicate, List.length_map, List.length_set, List.length_take, List.length_drop, strs_len, ints_len, bools_len, aggs_len, vpv_len]; omega)) only [go_sem, e]
theorem res_GlobStarsA (a b s : List UInt8) (hla : a.length ≤ 140737488351232) (hlb : b.length ≤ 140737488351232) (hls : s.length ≤ 140737488351232) : res Γ 94 [.str a, .str b, .str s] = some [.bool true] := by
  have hk := res_known9
  by_cases hl : 200 < a.length + b.length + s.length
  · have : (200 : Int) < (a.length : Int) + (b.length : Int) + (s.length : Int) := by omega
    refine res_code (fn := l9_GlobStars) rfl rfl ?_
    simp (disch := first | assumption | omega | decide | (simp only [List.length_cons, List.length_nil, List.length_append, List.length_replicate, List.length_map, List.length_set, List.length_take, List.length_drop, strs_len, ints_len, bools_len, aggs_len, vpv_len]; done) | (simp only [List.length_cons, List.length_nil, List.length_append, List.length_replicate, List.length_map, List.length_set, List.length_take, List.length_drop, strs_len, ints_len, bools_len, aggs_len, vpv_len]; omega)) only [go_sem, l9_GlobStars]
  · have hl2 : (a.length : Int) + (b.length : Int) + (s.length : Int) ≤ 200 := by omega
    have ea := res_lplain a (by omega)
    have eb := res_lplain b (by omega)
    cases ha : a.all byteOk
    · rw [ha] at ea
      refine res_code (fn := l9_GlobStars) rfl rfl ?_
      simp (disch := first | assumption | omega | decide | (simp only [List.length_cons, List.length_nil, List.length_append, List.length_replicate, List.length_map, List.length_set, List.length_take, List.length_drop, strs_len, ints_len, bools_len, aggs_len, vpv_len]; done) | (simp only [List.length_cons, List.length_nil, List.length_append, List.length_replicate, List.length_map, List.length_set, List.length_take, List.length_drop, strs_len, ints_len, bools_len, aggs_len, vpv_len]; omega)) only [go_sem, l9_GlobStars, ea]
    · rw [ha] at ea
      cases hb : b.all byteOk
      · rw [hb] at eb
        refine res_code (fn := l9_GlobStars) rfl rfl ?_
        simp (disch := first | assumption | omega | decide | (simp only [List.length_cons, List.length_nil, List.length_append, List.length_replicate, List.length_map, List.length_set, List.length_take, List.length_drop, strs_len, ints_len, bools_len, aggs_len, vpv_len]; done) | (simp only [List.length_cons, List.length_nil, List.length_append, List.length_replicate, List.length_map, List.length_set, List.length_take, List.length_drop, strs_len, ints_len, bools_len, aggs_len, vpv_len]; omega)) only [go_sem, l9_GlobStars, ea, eb]
      · rw [hb] at eb
        rw [List.all_eq_true] at ha hb
        have m1 : ∀ w : Bool, (w = true ↔ wantS a b s) → matchB (a ++ 42 :: b) s = w := fun w hw => by
          unfold matchB
          rw [toks_plain ha (toks_star (toks_all hb))]
          show mtD _ _ = _
          rw [Bool.eq_iff_iff, mtD_iff, Mt_onestar, hw]
        have m2 : ∀ w : Bool, (w = true ↔ wantS a b s) → matchB (a ++ 42 :: 42 :: b) s = w := fun w hw => by
          unfold matchB
          rw [toks_plain ha (toks_star (toks_star (toks_all hb)))]
          show mtD _ _ = _
          rw [Bool.eq_iff_iff, mtD_iff, Mt_twostars, hw]
        have e1 := res_globMatch (a ++ 42 :: b) s (by rw [List.length_append, List.length_cons]; omega) (by omega)
        have e2 := res_globMatch (a ++ 42 :: 42 :: b) s (by rw [List.length_append, List.length_cons, List.length_cons]; omega) (by omega)
        unfold wantS at m1 m2
        by_cases w1 : a.length + b.length ≤ s.length
        · have w1' : (a.length : Int) + (b.length : Int) ≤ (s.length : Int) := by omega
          have esub : ((s.length : Int) - (b.length : Int)).toNat = s.length - b.length := by omega
          by_cases w2 : s.take a.length = a
          · by_cases w3 : s.drop (s.length - b.length) = b
            · rw [m1 true (by simp [w1, w2, w3])] at e1
              rw [m2 true (by simp [w1, w2, w3])] at e2
              refine res_code (fn := l9_GlobStars) rfl rfl ?_
              simp (disch := first | assumption | omega | decide | (simp only [List.length_cons, List.length_nil, List.length_append, List.length_replicate, List.length_map, List.length_set, List.length_take, List.length_drop, strs_len, ints_len, bools_len, aggs_len, vpv_len]; done) | (simp only [List.length_cons, List.length_nil, List.length_append, List.length_replicate, List.length_map, List.length_set, List.length_take, List.length_drop, strs_len, ints_len, bools_len, aggs_len, vpv_len]; omega)) only [go_sem, l9_GlobStars, ea, eb, e1, e2, w2, w3, esub, hk]
            · rw [m1 false (by simp [w3])] at e1
              rw [m2 false (by simp [w3])] at e2
              refine res_code (fn := l9_GlobStars) rfl rfl ?_
              simp (disch := first | assumption | omega | decide | (simp only [List.length_cons, List.length_nil, List.length_append, List.length_replicate, List.length_map, List.length_set, List.length_take, List.length_drop, strs_len, ints_len, bools_len, aggs_len, vpv_len]; done) | (simp only [List.length_cons, List.length_nil, List.length_append, List.length_replicate, List.length_map, List.length_set, List.length_take, List.length_drop, strs_len, ints_len, bools_len, aggs_len, vpv_len]; omega)) only [go_sem, l9_GlobStars, ea, eb, e1, e2, w2, w3, esub, hk]
          · rw [m1 false (by simp [w2])] at e1
            rw [m2 false (by simp [w2])] at e2
            refine res_code (fn := l9_GlobStars) rfl rfl ?_
            simp (disch := first | assumption | omega | decide | (simp only [List.length_cons, List.length_nil, List.length_append, List.length_replicate, List.length_map, List.length_set, List.length_take, List.length_drop, strs_len, ints_len, bools_len, aggs_len, vpv_len]; done) | (simp only [List.length_cons, List.length_nil, List.length_append, List.length_replicate, List.length_map, List.length_set, List.length_take, List.length_drop, strs_len, ints_len, bools_len, aggs_len, vpv_len]; omega)) only [go_sem, l9_GlobStars, ea, eb, e1, e2, w2, esub, hk]
        · have w1' : ¬ (a.length : Int) + (b.length : Int) ≤ (s.length : Int) := by omega
          rw [m1 false (by simp; omega)] at e1
          rw [m2 false (by simp; omega)] at e2
          refine res_code (fn := l9_GlobStars) rfl rfl ?_
          simp (disch := first | assumption | omega | decide | (simp only [List.length_cons, List.length_nil, List.length_append, List.length_replicate, List.length_map, List.length_set, List.length_take, List.length_drop, strs_len, ints_len, bools_len, aggs_len, vpv_len]; done) | (simp only [List.length_cons, List.length_nil, List.length_append, List.length_replicate, List.length_map, List.length_set, List.length_take, List.length_drop, strs_len, ints_len, bools_len, aggs_len, vpv_len]; omega)) only [go_sem, l9_GlobStars, ea, eb, e1, e2, hk]
end Ab
/- GlobChoices. -/
namespace Ab
open Go (IntKind BinOp UnOp)
/-- How many texts a choice has. -/
def kF (a : Int) : Nat := 1 + (BitVec.ofInt 64 a &&& BitVec.ofInt 64 7).toNat
theorem kF_le (a : Int) : 1 ≤ kF a ∧ kF a ≤ 8 := by
  unfold kF
  rw [BitVec.toNat_and]
  have h7 : (BitVec.ofInt 64 7).toNat = 7 := by decide
  rw [h7]
  have := @Nat.and_le_right (BitVec.ofInt 64 a).toNat 7
  omega
theorem map_and7 {a : Int} : binAV .and (.p (.int .i64 a)) (.p (.int .i64 7)) = some (.p (.int .i64 ((kF a : Int) - 1))) := by
  have h := kF_le a
  have e : (kF a : Int) - 1 = ((BitVec.ofInt 64 a &&& BitVec.ofInt 64 7).toNat : Int) := by unfold kF; omega
  simp only [binAV, binPV, binInt, true_or, if_true, Option.map_some]
  rw [e]
  have hb : IntKind.i64.bits = 64 := rfl
  congr 3
  show IntKind.i64.wrap (((BitVec.ofInt 64 a &&& BitVec.ofInt 64 7).toNat : Nat) : Int) = _
  rw [wrap_i64 (by omega) (by omega)]
theorem choiceT_snoc : ∀ {l : List Nat} {k : Nat}, choiceT (l ++ [k]) = choiceT l ++ 123 :: (joinC (altsK k) ++ [125])
  | [], k => rfl
  | x :: l, k => by
    rw [List.cons_append, choiceT, choiceT, choiceT_snoc]
    simp
theorem altsK_succ {k : Nat} : altsK (k + 1) = altsK k ++ [[letterB k]] := by simp [altsK, List.range_succ]
theorem joinC_snoc {x : List UInt8} : ∀ {l : List (List UInt8)}, joinC (l ++ [x]) = joinC l ++ (if l = [] then x else 44 :: x)
  | [] => rfl
  | a :: l => by
    by_cases h : l = []
    · subst h; rfl
    · rw [List.cons_append, joinC_cons (by simp), joinC_cons h, joinC_snoc (l := l), if_neg h, if_neg (by simp), List.append_assoc]
      rfl
theorem joinK_len : ∀ k, (joinC (altsK k)).length ≤ 2 * k
  | 0 => by simp [altsK, joinC]
  | k + 1 => by
    have := joinK_len k
    rw [altsK_succ, joinC_snoc, List.length_append]
    split <;> simp <;> omega
theorem altsK_nil {k : Nat} : altsK k = [] ↔ k = 0 := by simp [altsK]
theorem letter_str {j : Nat} (_h : j < 8) : bytesIn [PV.int .u8 (97 + (j : Int))] = some [letterB j] := by
  simp only [bytesIn, Option.map_some]
  congr 2
theorem Ch_l1_ok {kk : SK} (ns : List Int) (base : List UInt8) (hb : base.length ≤ 10000) (al : Int) (i : Int) (k : Nat) (hk : k ≤ 8) (Q : Out → Prop)
    (hQ : Q (.nrm, [(0, .p (.sl kk 1 (ints .i64 ns))), (3, .p (.str (base ++ joinC (altsK k)))), (4, .p (.int .i64 al)), (5, .p (.int .i64 i)), (6, .p (.int .i64 (k : Int)))], [])) : ∀ n j : Nat, j + n = k →
    Wp Γ l9_GlobChoices_l1 [(0, .p (.sl kk 1 (ints .i64 ns))), (3, .p (.str (base ++ joinC (altsK j)))), (4, .p (.int .i64 al)), (5, .p (.int .i64 i)), (6, .p (.int .i64 (k : Int))), (7, .p (.int .i64 (j : Int)))] [] (InBlk [0, 3, 4, 5, 6] 2 Q) := by
  intro n
  induction n with
  | zero =>
    intro j hj
    obtain rfl : j = k := by omega
    rw [W_loop (L := l9_GlobChoices_l1) rfl]
    simp (disch := first | assumption | omega | decide | (simp only [List.length_cons, List.length_nil, List.length_append, List.length_replicate, List.length_map, List.length_set, List.length_take, List.length_drop, strs_len, ints_len, bools_len, aggs_len, vpv_len]; done) | (simp only [List.length_cons, List.length_nil, List.length_append, List.length_replicate, List.length_map, List.length_set, List.length_take, List.length_drop, strs_len, ints_len, bools_len, aggs_len, vpv_len]; omega)) only [go_sem]
    exact hQ
  | succ n ih =>
    intro j hj
    have ih := ih (j + 1) (by omega)
    have hl := joinK_len j
    have es := letter_str (show j < 8 by omega)
    rw [altsK_succ, joinC_snoc] at ih
    by_cases h0 : j = 0
    · subst h0
      rw [if_pos (altsK_nil.2 rfl)] at ih
      rw [W_loop (L := l9_GlobChoices_l1) rfl]
      simp (disch := first | assumption | omega | decide | (simp only [List.length_cons, List.length_nil, List.length_append, List.length_replicate, List.length_map, List.length_set, List.length_take, List.length_drop, strs_len, ints_len, bools_len, aggs_len, vpv_len]; done) | (simp only [List.length_cons, List.length_nil, List.length_append, List.length_replicate, List.length_map, List.length_set, List.length_take, List.length_drop, strs_len, ints_len, bools_len, aggs_len, vpv_len]; omega)) only [go_sem, strOfA, es]
      exact ih
    · rw [if_neg (fun h => h0 (altsK_nil.1 h))] at ih
      rw [W_loop (L := l9_GlobChoices_l1) rfl]
      simp (disch := first | assumption | omega | decide | (simp only [List.length_cons, List.length_nil, List.length_append, List.length_replicate, List.length_map, List.length_set, List.length_take, List.length_drop, strs_len, ints_len, bools_len, aggs_len, vpv_len]; done) | (simp only [List.length_cons, List.length_nil, List.length_append, List.length_replicate, List.length_map, List.length_set, List.length_take, List.length_drop, strs_len, ints_len, bools_len, aggs_len, vpv_len]; omega)) only [go_sem, strOfA, es]
      exact ih
/-- The product, so far as is counted. -/
def capK (l : List Nat) : Nat := l.foldl (fun a k => min 513 (a * k)) 1
theorem capK_snoc {l : List Nat} {k : Nat} : capK (l ++ [k]) = min 513 (capK l * k) := by unfold capK; rw [List.foldl_append]; rfl
theorem capK_le : ∀ {l : List Nat}, capK l ≤ 513 := by
  intro l
  rcases List.eq_nil_or_concat l with rfl | ⟨l', x, rfl⟩
  · unfold capK; simp
  · rw [List.concat_eq_append, capK_snoc]; omega
theorem choiceT_len : ∀ {l : List Nat}, (∀ k ∈ l, k ≤ 8) → (choiceT l).length ≤ 18 * l.length
  | [], _ => by simp [choiceT]
  | k :: r, h => by
    have ih := choiceT_len (l := r) fun x hx => h x (by simp [hx])
    have hk := h k (by simp)
    have hl := joinK_len k
    rw [choiceT]
    simp only [List.length_cons, List.length_append]
    omega
theorem Ch_l2_ok {kk : SK} (ns : List Int) (hn : ns.length ≤ 10) (Q : Out → Prop)
    (hQ : Q (.nrm, [(3, .p (.str (choiceT (ns.map kF)))), (4, .p (.int .i64 (capK (ns.map kF) : Nat)))], [])) : ∀ n i : Nat, i + n = ns.length →
    Wp Γ l9_GlobChoices_l2 [(0, .p (.sl kk 1 (ints .i64 ns))), (3, .p (.str (choiceT ((ns.take i).map kF)))), (4, .p (.int .i64 (capK ((ns.take i).map kF) : Nat))), (5, .p (.int .i64 (i : Int)))] [] (InBlk [3, 4] 0 Q) := by
  intro n
  induction n with
  | zero =>
    intro i hi
    obtain rfl : i = ns.length := by omega
    rw [List.take_length]
    rw [W_loop (L := l9_GlobChoices_l2) rfl]
    simp (disch := first | assumption | omega | decide | (simp only [List.length_cons, List.length_nil, List.length_append, List.length_replicate, List.length_map, List.length_set, List.length_take, List.length_drop, strs_len, ints_len, bools_len, aggs_len, vpv_len]; done) | (simp only [List.length_cons, List.length_nil, List.length_append, List.length_replicate, List.length_map, List.length_set, List.length_take, List.length_drop, strs_len, ints_len, bools_len, aggs_len, vpv_len]; omega)) only [go_sem]
    exact hQ
  | succ n ih =>
    intro i hi
    have hlt : i < ns.length := by omega
    have ih := ih (i + 1) (by omega)
    rw [take_snoc' 0 hlt, List.map_append, List.map_cons, List.map_nil, choiceT_snoc, capK_snoc] at ih
    have hk := kF_le (ns.getD i 0)
    have hc := @capK_le ((ns.take i).map kF)
    have hT := choiceT_len (l := (ns.take i).map kF) (fun k hk => by
      obtain ⟨a, _, rfl⟩ := List.mem_map.1 hk
      exact (kF_le a).2)
    rw [List.length_map, List.length_take] at hT
    generalize choiceT ((ns.take i).map kF) = T at *
    generalize capK ((ns.take i).map kF) = c at *
    have hjl := joinK_len (kF (ns.getD i 0))
    have m1 : c * kF (ns.getD i 0) ≤ 513 * 8 := Nat.mul_le_mul hc hk.2
    have m2 : ((c * kF (ns.getD i 0) : Nat) : Int) = (c : Int) * (kF (ns.getD i 0) : Int) := Int.natCast_mul _ _
    have m3 : (0 : Int) ≤ (c : Int) * (kF (ns.getD i 0) : Int) := by omega
    have m4 : (c : Int) * (kF (ns.getD i 0) : Int) ≤ 4104 := by omega
    have e1 : (1 : Int) + ((kF (ns.getD i 0) : Int) - 1) = (kF (ns.getD i 0) : Int) := by omega
    have e2 : min 513 ((c : Int) * (kF (ns.getD i 0) : Int)) = ((min 513 (c * kF (ns.getD i 0)) : Nat) : Int) := by omega
    have hm : ∀ k : Int, minmax false [.p (.int .i64 513), .p (.int .i64 k)] = some (.p (.int .i64 (min 513 k))) := fun k => by
      have := min_max2 (mx := false) (k := .i64) (k' := .i64) (x := 513) (y := k)
      rw [this]; rfl
    have L := fun Q hQ => Ch_l1_ok (kk := kk) ns (T ++ [123]) (by rw [List.length_append]; simp; omega) (c : Int) (i : Int) (kF (ns.getD i 0)) hk.2 Q hQ (kF (ns.getD i 0)) 0 (by omega)
    have j0 : T ++ [123] ++ joinC (altsK 0) = T ++ [123] := List.append_nil _
    rw [j0] at L
    rw [W_loop (L := l9_GlobChoices_l2) rfl]
    simp (disch := first | assumption | omega | decide | (simp only [List.length_cons, List.length_nil, List.length_append, List.length_replicate, List.length_map, List.length_set, List.length_take, List.length_drop, strs_len, ints_len, bools_len, aggs_len, vpv_len]; done) | (simp only [List.length_cons, List.length_nil, List.length_append, List.length_replicate, List.length_map, List.length_set, List.length_take, List.length_drop, strs_len, ints_len, bools_len, aggs_len, vpv_len]; omega)) only [go_sem, map_and7, e1]
    refine L _ ?_
    simp (disch := first | assumption | omega | decide | (simp only [List.length_cons, List.length_nil, List.length_append, List.length_replicate, List.length_map, List.length_set, List.length_take, List.length_drop, strs_len, ints_len, bools_len, aggs_len, vpv_len]; done) | (simp only [List.length_cons, List.length_nil, List.length_append, List.length_replicate, List.length_map, List.length_set, List.length_take, List.length_drop, strs_len, ints_len, bools_len, aggs_len, vpv_len]; omega)) only [go_sem, hm, e2]
    have e3 : T ++ 123 :: (joinC (altsK (kF (ns.getD i 0))) ++ [125]) = T ++ [123] ++ joinC (altsK (kF (ns.getD i 0))) ++ [125] := by simp
    rw [e3] at ih
    simp only [List.append_assoc, List.cons_append, List.nil_append] at ih ⊢
    exact ih
theorem res_GlobChoicesA {kk : SK} (ns : List Int) (_ : ∀ n ∈ ns, -9223372036854775808 ≤ n ∧ n ≤ 9223372036854775807) : res Γ 95 [.sl kk 1 (ints .i64 ns)] = some [.bool true] := by
  have hk := res_known9
  by_cases h1 : ns.length < 1
  · refine res_code (fn := l9_GlobChoices) rfl rfl ?_
    simp (disch := first | assumption | omega | decide | (simp only [List.length_cons, List.length_nil, List.length_append, List.length_replicate, List.length_map, List.length_set, List.length_take, List.length_drop, strs_len, ints_len, bools_len, aggs_len, vpv_len]; done) | (simp only [List.length_cons, List.length_nil, List.length_append, List.length_replicate, List.length_map, List.length_set, List.length_take, List.length_drop, strs_len, ints_len, bools_len, aggs_len, vpv_len]; omega)) only [go_sem, l9_GlobChoices]
  · by_cases h2 : 10 < ns.length
    · refine res_code (fn := l9_GlobChoices) rfl rfl ?_
      simp (disch := first | assumption | omega | decide | (simp only [List.length_cons, List.length_nil, List.length_append, List.length_replicate, List.length_map, List.length_set, List.length_take, List.length_drop, strs_len, ints_len, bools_len, aggs_len, vpv_len]; done) | (simp only [List.length_cons, List.length_nil, List.length_append, List.length_replicate, List.length_map, List.length_set, List.length_take, List.length_drop, strs_len, ints_len, bools_len, aggs_len, vpv_len]; omega)) only [go_sem, l9_GlobChoices]
    · have hks : ∀ k ∈ ns.map kF, 1 ≤ k ∧ k ≤ 8 := fun k hk => by
        obtain ⟨a, _, rfl⟩ := List.mem_map.1 hk
        exact kF_le a
      obtain ⟨out, hx, hlen, hout⟩ := choice_exp hks
      have hT := choiceT_len fun k hk => (hks k hk).2
      rw [List.length_map] at hT
      have e1 := res_globExpand (choiceT (ns.map kF)) (by omega) hx
      have hcap : capK (ns.map kF) = min 513 out.length := by
        have := capped (ns.map kF) 513 (fun k hk => (hks k hk).1) 1 (by omega) (by omega)
        unfold capK
        rw [this, hlen, Nat.one_mul]
      have hL2 := fun Q => Ch_l2_ok (kk := kk) ns (by omega) Q
      rw [hcap] at hL2
      unfold expandR at e1
      by_cases ho : 512 < out.length
      · have em : min 513 out.length = 513 := by omega
        rw [if_pos ho] at e1
        rw [em] at hL2
        refine res_code (fn := l9_GlobChoices) rfl rfl ?_
        simp (disch := first | assumption | omega | decide | (simp only [List.length_cons, List.length_nil, List.length_append, List.length_replicate, List.length_map, List.length_set, List.length_take, List.length_drop, strs_len, ints_len, bools_len, aggs_len, vpv_len]; done) | (simp only [List.length_cons, List.length_nil, List.length_append, List.length_replicate, List.length_map, List.length_set, List.length_take, List.length_drop, strs_len, ints_len, bools_len, aggs_len, vpv_len]; omega)) only [go_sem, l9_GlobChoices]
        refine hL2 _ ?_ ns.length 0 (by omega)
        simp (disch := first | assumption | omega | decide | (simp only [List.length_cons, List.length_nil, List.length_append, List.length_replicate, List.length_map, List.length_set, List.length_take, List.length_drop, strs_len, ints_len, bools_len, aggs_len, vpv_len]; done) | (simp only [List.length_cons, List.length_nil, List.length_append, List.length_replicate, List.length_map, List.length_set, List.length_take, List.length_drop, strs_len, ints_len, bools_len, aggs_len, vpv_len]; omega)) only [go_sem, e1, hk]
      · have em : min 513 out.length = out.length := by omega
        rw [if_neg ho, if_pos (List.all_eq_true.2 fun x hx => by
          obtain ⟨g1, g2⟩ := hout x hx
          refine plain_okE (plain_of_bytes g2) fun h => ?_
          subst h
          rw [List.length_map] at g1
          simp at g1; omega)] at e1
        rw [em] at hL2
        refine res_code (fn := l9_GlobChoices) rfl rfl ?_
        simp (disch := first | assumption | omega | decide | (simp only [List.length_cons, List.length_nil, List.length_append, List.length_replicate, List.length_map, List.length_set, List.length_take, List.length_drop, strs_len, ints_len, bools_len, aggs_len, vpv_len]; done) | (simp only [List.length_cons, List.length_nil, List.length_append, List.length_replicate, List.length_map, List.length_set, List.length_take, List.length_drop, strs_len, ints_len, bools_len, aggs_len, vpv_len]; omega)) only [go_sem, l9_GlobChoices]
        refine hL2 _ ?_ ns.length 0 (by omega)
        simp (disch := first | assumption | omega | decide | (simp only [List.length_cons, List.length_nil, List.length_append, List.length_replicate, List.length_map, List.length_set, List.length_take, List.length_drop, strs_len, ints_len, bools_len, aggs_len, vpv_len]; done) | (simp only [List.length_cons, List.length_nil, List.length_append, List.length_replicate, List.length_map, List.length_set, List.length_take, List.length_drop, strs_len, ints_len, bools_len, aggs_len, vpv_len]; omega)) only [go_sem, e1, hk]
end Ab
