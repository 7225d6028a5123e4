import Derived.Test.YtgdkafbcchkplaaGreatDoorLAgg
/- Sums, the greatest, the least. -/
namespace Ab
open Go (IntKind BinOp UnOp)
def addT (l : List Val) (i : Nat) : Val := addV (l.take i)
theorem addT_succ {l : List Val} {i : Nat} (h : i < l.length) : addT l (i + 1) = sumV (addT l i) (l.getD i (false, 0)) := by
  unfold addT addV
  rw [take_snoc' (false, 0) h, List.foldl_append]; rfl
theorem fixed_Add_l1_ok {kk : SK} (l : List Val) (hl : l.length < 1000000000) (B : Blk) (hB : ∃ a b, B = .box [.p a, .p b]) (Q : Out → Prop) : ∀ (k i : Nat) (T : Heap), i + k = l.length →
    (∀ T, Q (.nrm, [(2, .bx 0 0), (3, .bx 1 0)], B :: .box [.p (.bool (addV l).1), .p (.int .i64 (addV l).2)] :: T)) →
    Wp Γ fixed_Add_l1 [(2, .bx 0 0), (3, .bx 1 0), (7, .p (.sl kk 2 (vpv l))), (8, .p (.int .i64 (l.length : Int))), (9, .p (.int .i64 (i : Int)))] (B :: .box [.p (.bool (addT l i).1), .p (.int .i64 (addT l i).2)] :: T) (InBlk [2, 3] 0 Q) := by
  obtain ⟨a, b, rfl⟩ := hB
  intro k
  induction k with
  | zero =>
    intro i T hi hQ
    obtain rfl : i = l.length := by omega
    rw [W_loop (L := fixed_Add_l1) rfl]
    simp (disch := first | assumption | omega | decide | (simp only [List.length_cons, List.length_nil, List.length_append, List.length_replicate, List.length_map, List.length_set, List.length_take, List.length_drop, strs_len, ints_len, bools_len, aggs_len, vpv_len]; done) | (simp only [List.length_cons, List.length_nil, List.length_append, List.length_replicate, List.length_map, List.length_set, List.length_take, List.length_drop, strs_len, ints_len, bools_len, aggs_len, vpv_len]; omega)) only [go_sem]
    have := hQ []
    rw [show addV l = addT l l.length by rw [addT, List.take_length]] at this
    exact this
  | succ k ih =>
    intro i T hi hQ
    have e := addT_succ (l := l) (i := i) (by omega)
    rw [W_loop (L := fixed_Add_l1) rfl]
    simp (disch := first | assumption | omega | decide | (simp only [List.length_cons, List.length_nil, List.length_append, List.length_replicate, List.length_map, List.length_set, List.length_take, List.length_drop, strs_len, ints_len, bools_len, aggs_len, vpv_len]; done) | (simp only [List.length_cons, List.length_nil, List.length_append, List.length_replicate, List.length_map, List.length_set, List.length_take, List.length_drop, strs_len, ints_len, bools_len, aggs_len, vpv_len]; omega)) only [go_sem, valP]
    rw [← e]
    exact ih (i + 1) _ (by omega) hQ
@[go_sem] theorem res_fixedAdd {kk : SK} (l : List Val) (hl : l.length < 1000000000) : res Γ 136 [.sl kk 2 (vpv l)] = some [.agg [.bool (addV l).1, .int .i64 (addV l).2]] := by
  refine res_code (fn := fixed_Add) rfl rfl ?_
  simp (disch := first | assumption | omega | decide | (simp only [List.length_cons, List.length_nil, List.length_append, List.length_replicate, List.length_map, List.length_set, List.length_take, List.length_drop, strs_len, ints_len, bools_len, aggs_len, vpv_len]; done) | (simp only [List.length_cons, List.length_nil, List.length_append, List.length_replicate, List.length_map, List.length_set, List.length_take, List.length_drop, strs_len, ints_len, bools_len, aggs_len, vpv_len]; omega)) only [go_sem, fixed_Add]
  refine fixed_Add_l1_ok l hl _ ⟨_, _, rfl⟩ _ l.length 0 [] (by omega) (fun T => ?_)
  simp (disch := first | assumption | omega | decide | (simp only [List.length_cons, List.length_nil, List.length_append, List.length_replicate, List.length_map, List.length_set, List.length_take, List.length_drop, strs_len, ints_len, bools_len, aggs_len, vpv_len]; done) | (simp only [List.length_cons, List.length_nil, List.length_append, List.length_replicate, List.length_map, List.length_set, List.length_take, List.length_drop, strs_len, ints_len, bools_len, aggs_len, vpv_len]; omega)) only [go_sem]
theorem r1_Add_l1_ok {kk : SK} (l : List Val) (hl : l.length < 1000000000) (B : Blk) (hB : ∃ a b, B = .box [.p a, .p b]) (Q : Out → Prop) : ∀ (k i : Nat), i + k = l.length →
    (Q (.nrm, [(2, .bx 0 0), (3, .bx 1 0)], [B, .box [.p (.bool (addV l).1), .p (.int .i64 (addV l).2)]])) →
    Wp Γ r1_Add_l1 [(0, .p (.sl kk 2 (vpv l))), (2, .bx 0 0), (3, .bx 1 0), (4, .p (.int .i64 (i : Int)))] [B, .box [.p (.bool (addT l i).1), .p (.int .i64 (addT l i).2)]] (InBlk [2, 3] 0 Q) := by
  obtain ⟨a, b, rfl⟩ := hB
  intro k
  induction k with
  | zero =>
    intro i hi hQ
    obtain rfl : i = l.length := by omega
    rw [W_loop (L := r1_Add_l1) rfl]
    simp (disch := first | assumption | omega | decide | (simp only [List.length_cons, List.length_nil, List.length_append, List.length_replicate, List.length_map, List.length_set, List.length_take, List.length_drop, strs_len, ints_len, bools_len, aggs_len, vpv_len]; done) | (simp only [List.length_cons, List.length_nil, List.length_append, List.length_replicate, List.length_map, List.length_set, List.length_take, List.length_drop, strs_len, ints_len, bools_len, aggs_len, vpv_len]; omega)) only [go_sem]
    rw [show addV l = addT l l.length by rw [addT, List.take_length]] at hQ
    exact hQ
  | succ k ih =>
    intro i hi hQ
    have e := addT_succ (l := l) (i := i) (by omega)
    rw [W_loop (L := r1_Add_l1) rfl]
    simp (disch := first | assumption | omega | decide | (simp only [List.length_cons, List.length_nil, List.length_append, List.length_replicate, List.length_map, List.length_set, List.length_take, List.length_drop, strs_len, ints_len, bools_len, aggs_len, vpv_len]; done) | (simp only [List.length_cons, List.length_nil, List.length_append, List.length_replicate, List.length_map, List.length_set, List.length_take, List.length_drop, strs_len, ints_len, bools_len, aggs_len, vpv_len]; omega)) only [go_sem, valP]
    rw [← e]
    exact ih (i + 1) (by omega) hQ
@[go_sem] theorem res_r1Add {kk : SK} (l : List Val) (hl : l.length < 1000000000) : res Γ 128 [.sl kk 2 (vpv l)] = some [.agg [.bool (addV l).1, .int .i64 (addV l).2]] := by
  refine res_code (fn := r1_Add) rfl rfl ?_
  simp (disch := first | assumption | omega | decide | (simp only [List.length_cons, List.length_nil, List.length_append, List.length_replicate, List.length_map, List.length_set, List.length_take, List.length_drop, strs_len, ints_len, bools_len, aggs_len, vpv_len]; done) | (simp only [List.length_cons, List.length_nil, List.length_append, List.length_replicate, List.length_map, List.length_set, List.length_take, List.length_drop, strs_len, ints_len, bools_len, aggs_len, vpv_len]; omega)) only [go_sem, r1_Add]
  refine r1_Add_l1_ok l hl _ ⟨_, _, rfl⟩ _ l.length 0 (by omega) ?_
  simp (disch := first | assumption | omega | decide | (simp only [List.length_cons, List.length_nil, List.length_append, List.length_replicate, List.length_map, List.length_set, List.length_take, List.length_drop, strs_len, ints_len, bools_len, aggs_len, vpv_len]; done) | (simp only [List.length_cons, List.length_nil, List.length_append, List.length_replicate, List.length_map, List.length_set, List.length_take, List.length_drop, strs_len, ints_len, bools_len, aggs_len, vpv_len]; omega)) only [go_sem]
theorem agg2_nil {kind : Int} {l : List Val} (h : knL l = []) : aggV kind l = (false, 0) := by unfold aggV; rw [h]; rfl
theorem res_aggOf2 {kk : SK} (l : List Val) (hl : l.length < 1000000000) : res Γ 132 [.int .i64 2, .sl kk 2 (vpv l)] = some [.agg [.bool (aggV 2 l).1, .int .i64 (aggV 2 l).2]] := by
  have hk := knL_len l
  refine res_code (fn := agg_Of) rfl rfl ?_
  simp (disch := first | assumption | omega | decide | (simp only [List.length_cons, List.length_nil, List.length_append, List.length_replicate, List.length_map, List.length_set, List.length_take, List.length_drop, strs_len, ints_len, bools_len, aggs_len, vpv_len]; done) | (simp only [List.length_cons, List.length_nil, List.length_append, List.length_replicate, List.length_map, List.length_set, List.length_take, List.length_drop, strs_len, ints_len, bools_len, aggs_len, vpv_len]; omega)) only [go_sem, agg_Of]
  cases h : knL l with
  | nil =>
    simp (disch := first | assumption | omega | decide | (simp only [List.length_cons, List.length_nil, List.length_append, List.length_replicate, List.length_map, List.length_set, List.length_take, List.length_drop, strs_len, ints_len, bools_len, aggs_len, vpv_len]; done) | (simp only [List.length_cons, List.length_nil, List.length_append, List.length_replicate, List.length_map, List.length_set, List.length_take, List.length_drop, strs_len, ints_len, bools_len, aggs_len, vpv_len]; omega)) only [go_sem, agg2_nil h]
  | cons b k =>
    have e : aggV 2 l = addV (b :: k) := by unfold aggV; rw [h]; rfl
    rw [h] at hk
    simp only [List.length_cons] at hk
    simp (disch := first | assumption | omega | decide | (simp only [List.length_cons, List.length_nil, List.length_append, List.length_replicate, List.length_map, List.length_set, List.length_take, List.length_drop, strs_len, ints_len, bools_len, aggs_len, vpv_len]; done) | (simp only [List.length_cons, List.length_nil, List.length_append, List.length_replicate, List.length_map, List.length_set, List.length_take, List.length_drop, strs_len, ints_len, bools_len, aggs_len, vpv_len]; omega)) only [go_sem, e, valP]
/-- What one of two is kept. -/
def bestV (kind : Int) (b : Val) (l : List Val) : Val := l.foldl (fun b v => if (kind = 4 ∧ b.2 < v.2) ∨ (kind = 5 ∧ v.2 < b.2) then v else b) b
theorem bestV_succ {kind : Int} {b : Val} {l : List Val} {i : Nat} (h : i < l.length) : bestV kind b (l.take (i + 1)) = if (kind = 4 ∧ (bestV kind b (l.take i)).2 < (l.getD i (false, 0)).2) ∨ (kind = 5 ∧ (l.getD i (false, 0)).2 < (bestV kind b (l.take i)).2) then l.getD i (false, 0) else bestV kind b (l.take i) := by
  unfold bestV
  rw [take_snoc' (false, 0) h, List.foldl_append]; rfl
theorem bestV_4 (b : Val) (l : List Val) : bestV 4 b l = maxV b l := by
  unfold bestV maxV; congr 1; funext b v; simp
theorem bestV_5 (b : Val) (l : List Val) : bestV 5 b l = minV b l := by
  unfold bestV minV; congr 1; funext b v; simp
theorem bestV_known {kind : Int} {b : Val} (hb : knV b = true) : ∀ {l : List Val}, (∀ v ∈ l, knV v = true) → knV (bestV kind b l) = true := by
  intro l
  induction l generalizing b with
  | nil => exact fun _ => hb
  | cons x l ih =>
    intro h
    unfold bestV at *
    rw [List.foldl_cons]
    split
    · exact ih (h x (by simp)) fun v hv => h v (by simp [hv])
    · exact ih hb fun v hv => h v (by simp [hv])
theorem r6_Of_l1_ok {kk : SK} (kind : Int) (b : Val) (l : List Val) (hl : l.length < 1000000000) (B : Blk) (Q : Out → Prop) : ∀ (k i : Nat), i + k = l.length →
    (Q (.nrm, [(0, .p (.int .i64 kind)), (4, .bx 0 0), (5, .p (.sl kk 2 (vpv (b :: l)))), (6, .bx 1 0)], [B, .box [.p (.bool (bestV kind b l).1), .p (.int .i64 (bestV kind b l).2)]])) →
    Wp Γ r6_Of_l1 [(0, .p (.int .i64 kind)), (4, .bx 0 0), (5, .p (.sl kk 2 (vpv (b :: l)))), (6, .bx 1 0), (7, .p (.int .i64 ((i + 1 : Nat) : Int)))] [B, .box [.p (.bool (bestV kind b (l.take i)).1), .p (.int .i64 (bestV kind b (l.take i)).2)]] (InBlk [0, 4, 5, 6] 0 Q) := by
  intro k
  induction k with
  | zero =>
    intro i hi hQ
    obtain rfl : i = l.length := by omega
    rw [W_loop (L := r6_Of_l1) rfl]
    simp (disch := first | assumption | omega | decide | (simp only [List.length_cons, List.length_nil, List.length_append, List.length_replicate, List.length_map, List.length_set, List.length_take, List.length_drop, strs_len, ints_len, bools_len, aggs_len, vpv_len]; done) | (simp only [List.length_cons, List.length_nil, List.length_append, List.length_replicate, List.length_map, List.length_set, List.length_take, List.length_drop, strs_len, ints_len, bools_len, aggs_len, vpv_len]; omega)) only [go_sem]
    rw [List.take_length]
    exact hQ
  | succ k ih =>
    intro i hi hQ
    have e := bestV_succ (kind := kind) (b := b) (l := l) (i := i) (by omega)
    have ih := ih (i + 1) (by omega) hQ
    rw [e] at ih
    rw [W_loop (L := r6_Of_l1) rfl]
    by_cases h4 : kind = 4
    · by_cases hlt : (bestV kind b (l.take i)).2 < (l.getD i (false, 0)).2
      · rw [if_pos (.inl ⟨h4, hlt⟩)] at ih
        simp (disch := first | assumption | omega | decide | (simp only [List.length_cons, List.length_nil, List.length_append, List.length_replicate, List.length_map, List.length_set, List.length_take, List.length_drop, strs_len, ints_len, bools_len, aggs_len, vpv_len]; done) | (simp only [List.length_cons, List.length_nil, List.length_append, List.length_replicate, List.length_map, List.length_set, List.length_take, List.length_drop, strs_len, ints_len, bools_len, aggs_len, vpv_len]; omega)) only [go_sem, valP]
        exact ih
      · rw [if_neg (by rintro (⟨_, h⟩ | ⟨h, _⟩) <;> omega)] at ih
        simp (disch := first | assumption | omega | decide | (simp only [List.length_cons, List.length_nil, List.length_append, List.length_replicate, List.length_map, List.length_set, List.length_take, List.length_drop, strs_len, ints_len, bools_len, aggs_len, vpv_len]; done) | (simp only [List.length_cons, List.length_nil, List.length_append, List.length_replicate, List.length_map, List.length_set, List.length_take, List.length_drop, strs_len, ints_len, bools_len, aggs_len, vpv_len]; omega)) only [go_sem, valP]
        exact ih
    · by_cases h5 : kind = 5
      · by_cases hlt : (l.getD i (false, 0)).2 < (bestV kind b (l.take i)).2
        · rw [if_pos (.inr ⟨h5, hlt⟩)] at ih
          simp (disch := first | assumption | omega | decide | (simp only [List.length_cons, List.length_nil, List.length_append, List.length_replicate, List.length_map, List.length_set, List.length_take, List.length_drop, strs_len, ints_len, bools_len, aggs_len, vpv_len]; done) | (simp only [List.length_cons, List.length_nil, List.length_append, List.length_replicate, List.length_map, List.length_set, List.length_take, List.length_drop, strs_len, ints_len, bools_len, aggs_len, vpv_len]; omega)) only [go_sem, valP]
          exact ih
        · rw [if_neg (by rintro (⟨h, _⟩ | ⟨_, h⟩) <;> omega)] at ih
          simp (disch := first | assumption | omega | decide | (simp only [List.length_cons, List.length_nil, List.length_append, List.length_replicate, List.length_map, List.length_set, List.length_take, List.length_drop, strs_len, ints_len, bools_len, aggs_len, vpv_len]; done) | (simp only [List.length_cons, List.length_nil, List.length_append, List.length_replicate, List.length_map, List.length_set, List.length_take, List.length_drop, strs_len, ints_len, bools_len, aggs_len, vpv_len]; omega)) only [go_sem, valP]
          exact ih
      · rw [if_neg (by rintro (⟨h, _⟩ | ⟨h, _⟩) <;> contradiction)] at ih
        simp (disch := first | assumption | omega | decide | (simp only [List.length_cons, List.length_nil, List.length_append, List.length_replicate, List.length_map, List.length_set, List.length_take, List.length_drop, strs_len, ints_len, bools_len, aggs_len, vpv_len]; done) | (simp only [List.length_cons, List.length_nil, List.length_append, List.length_replicate, List.length_map, List.length_set, List.length_take, List.length_drop, strs_len, ints_len, bools_len, aggs_len, vpv_len]; omega)) only [go_sem, valP]
        exact ih
theorem agg2_cons {l : List Val} {b : Val} {k : List Val} (h : knL l = b :: k) : aggV 2 l = addV (b :: k) ∧ aggV 4 l = bestV 4 b k ∧ aggV 5 l = bestV 5 b k := by
  refine ⟨?_, ?_, ?_⟩
  · unfold aggV; rw [h]; rfl
  · unfold aggV; rw [h, bestV_4]; rfl
  · unfold aggV; rw [h, bestV_5]; rfl
theorem res_r6Of {kk : SK} (kind : Int) (hkind : kind = 2 ∨ kind = 4 ∨ kind = 5) (l : List Val) (hl : l.length < 1000000000) : res Γ 122 [.int .i64 kind, .sl kk 2 (vpv l)] = some [.agg [.bool (aggV kind l).1, .int .i64 (aggV kind l).2]] := by
  have hk := knL_len l
  refine res_code (fn := r6_Of) rfl rfl ?_
  simp (disch := first | assumption | omega | decide | (simp only [List.length_cons, List.length_nil, List.length_append, List.length_replicate, List.length_map, List.length_set, List.length_take, List.length_drop, strs_len, ints_len, bools_len, aggs_len, vpv_len]; done) | (simp only [List.length_cons, List.length_nil, List.length_append, List.length_replicate, List.length_map, List.length_set, List.length_take, List.length_drop, strs_len, ints_len, bools_len, aggs_len, vpv_len]; omega)) only [go_sem, r6_Of]
  cases h : knL l with
  | nil =>
    simp (disch := first | assumption | omega | decide | (simp only [List.length_cons, List.length_nil, List.length_append, List.length_replicate, List.length_map, List.length_set, List.length_take, List.length_drop, strs_len, ints_len, bools_len, aggs_len, vpv_len]; done) | (simp only [List.length_cons, List.length_nil, List.length_append, List.length_replicate, List.length_map, List.length_set, List.length_take, List.length_drop, strs_len, ints_len, bools_len, aggs_len, vpv_len]; omega)) only [go_sem, agg2_nil h]
  | cons b k =>
    obtain ⟨e2, e4, e5⟩ := agg2_cons h
    rw [h] at hk
    simp only [List.length_cons] at hk
    repeat' (first | (simp (disch := first | assumption | omega | decide | (simp only [List.length_cons, List.length_nil, List.length_append, List.length_replicate, List.length_map, List.length_set, List.length_take, List.length_drop, strs_len, ints_len, bools_len, aggs_len, vpv_len]; done) | (simp only [List.length_cons, List.length_nil, List.length_append, List.length_replicate, List.length_map, List.length_set, List.length_take, List.length_drop, strs_len, ints_len, bools_len, aggs_len, vpv_len]; omega)) only [go_sem, valP]) | refine cond_split (fun hc => ?_) (fun hc => ?_) | refine gd_split_f (fun hc => ?_) (fun hc => ?_) | refine gd_split_t (fun hc => ?_) (fun hc => ?_))
    · refine r6_Of_l1_ok kind b k (by omega) _ _ k.length 0 (by omega) ?_
      rcases hkind with rfl | rfl | rfl
      · simp (disch := first | assumption | omega | decide | (simp only [List.length_cons, List.length_nil, List.length_append, List.length_replicate, List.length_map, List.length_set, List.length_take, List.length_drop, strs_len, ints_len, bools_len, aggs_len, vpv_len]; done) | (simp only [List.length_cons, List.length_nil, List.length_append, List.length_replicate, List.length_map, List.length_set, List.length_take, List.length_drop, strs_len, ints_len, bools_len, aggs_len, vpv_len]; omega)) only [go_sem, e2]
      · simp (disch := first | assumption | omega | decide | (simp only [List.length_cons, List.length_nil, List.length_append, List.length_replicate, List.length_map, List.length_set, List.length_take, List.length_drop, strs_len, ints_len, bools_len, aggs_len, vpv_len]; done) | (simp only [List.length_cons, List.length_nil, List.length_append, List.length_replicate, List.length_map, List.length_set, List.length_take, List.length_drop, strs_len, ints_len, bools_len, aggs_len, vpv_len]; omega)) only [go_sem, e4]
      · simp (disch := first | assumption | omega | decide | (simp only [List.length_cons, List.length_nil, List.length_append, List.length_replicate, List.length_map, List.length_set, List.length_take, List.length_drop, strs_len, ints_len, bools_len, aggs_len, vpv_len]; done) | (simp only [List.length_cons, List.length_nil, List.length_append, List.length_replicate, List.length_map, List.length_set, List.length_take, List.length_drop, strs_len, ints_len, bools_len, aggs_len, vpv_len]; omega)) only [go_sem, e5]
    all_goals trace_state

theorem agg_Of_l1_ok {kk : SK} (l : List Val) (b : Val) (hb : knV b = true) (hk : ∀ v ∈ l, knV v = true) (hl : l.length < 1000000000) (B : Blk) (hB : ∃ a b, B = .box [.p a, .p b]) (Q : Out → Prop) : ∀ (k i : Nat) (T : Heap), i + k = l.length →
    (∀ T, Q (.nrm, [(4, .bx 0 0), (6, .bx 1 0)], B :: .box [.p (.bool (bestV 4 b l).1), .p (.int .i64 (bestV 4 b l).2)] :: T)) →
    Wp Γ agg_Of_l1 [(4, .bx 0 0), (6, .bx 1 0), (43, .p (.sl kk 2 (vpv l))), (44, .p (.int .i64 (l.length : Int))), (45, .p (.int .i64 (i : Int)))] (B :: .box [.p (.bool (bestV 4 b (l.take i)).1), .p (.int .i64 (bestV 4 b (l.take i)).2)] :: T) (InBlk [4, 6] 1 Q) := by
  obtain ⟨a1, a2, rfl⟩ := hB
  intro k
  induction k with
  | zero =>
    intro i T hi hQ
    obtain rfl : i = l.length := by omega
    rw [W_loop (L := agg_Of_l1) rfl]
    simp (disch := first | assumption | omega | decide | (simp only [List.length_cons, List.length_nil, List.length_append, List.length_replicate, List.length_map, List.length_set, List.length_take, List.length_drop, strs_len, ints_len, bools_len, aggs_len, vpv_len]; done) | (simp only [List.length_cons, List.length_nil, List.length_append, List.length_replicate, List.length_map, List.length_set, List.length_take, List.length_drop, strs_len, ints_len, bools_len, aggs_len, vpv_len]; omega)) only [go_sem]
    rw [List.take_length]
    exact hQ []
  | succ k ih =>
    intro i T hi hQ
    have e := bestV_succ (kind := 4) (b := b) (l := l) (i := i) (by omega)
    have g1 := bestV_known (kind := 4) hb (l := l.take i) fun v hv => hk v (List.mem_of_mem_take hv)
    have g2 : knV (l.getD i (false, 0)) = true := hk _ (by rw [List.getD_eq_getElem?_getD, List.getElem?_eq_getElem (show i < l.length by omega)]; exact List.getElem_mem _)
    have e2 : lessV (bestV 4 b (l.take i)) (l.getD i (false, 0)) = decide ((bestV 4 b (l.take i)).2 < (l.getD i (false, 0)).2) := by simp only [lessV, g1, g2, Bool.true_and]
    have ih := fun T => ih (i + 1) T (by omega) hQ
    rw [e] at ih
    rw [W_loop (L := agg_Of_l1) rfl]
    simp (disch := first | assumption | omega | decide | (simp only [List.length_cons, List.length_nil, List.length_append, List.length_replicate, List.length_map, List.length_set, List.length_take, List.length_drop, strs_len, ints_len, bools_len, aggs_len, vpv_len]; done) | (simp only [List.length_cons, List.length_nil, List.length_append, List.length_replicate, List.length_map, List.length_set, List.length_take, List.length_drop, strs_len, ints_len, bools_len, aggs_len, vpv_len]; omega)) only [go_sem, valP, e2]
    refine cond_split (fun hc => ?_) (fun hc => ?_)
    · rw [if_pos (.inl ⟨rfl, hc⟩)] at ih
      simp (disch := first | assumption | omega | decide | (simp only [List.length_cons, List.length_nil, List.length_append, List.length_replicate, List.length_map, List.length_set, List.length_take, List.length_drop, strs_len, ints_len, bools_len, aggs_len, vpv_len]; done) | (simp only [List.length_cons, List.length_nil, List.length_append, List.length_replicate, List.length_map, List.length_set, List.length_take, List.length_drop, strs_len, ints_len, bools_len, aggs_len, vpv_len]; omega)) only [go_sem]
      exact ih _
    · rw [if_neg (by rintro (⟨_, h⟩ | ⟨h, _⟩) <;> omega)] at ih
      simp (disch := first | assumption | omega | decide | (simp only [List.length_cons, List.length_nil, List.length_append, List.length_replicate, List.length_map, List.length_set, List.length_take, List.length_drop, strs_len, ints_len, bools_len, aggs_len, vpv_len]; done) | (simp only [List.length_cons, List.length_nil, List.length_append, List.length_replicate, List.length_map, List.length_set, List.length_take, List.length_drop, strs_len, ints_len, bools_len, aggs_len, vpv_len]; omega)) only [go_sem]
      exact ih _
theorem agg_Of_l2_ok {kk : SK} (l : List Val) (b : Val) (hb : knV b = true) (hk : ∀ v ∈ l, knV v = true) (hl : l.length < 1000000000) (B : Blk) (hB : ∃ a b, B = .box [.p a, .p b]) (Q : Out → Prop) : ∀ (k i : Nat) (T : Heap), i + k = l.length →
    (∀ T, Q (.nrm, [(4, .bx 0 0), (6, .bx 1 0)], B :: .box [.p (.bool (bestV 5 b l).1), .p (.int .i64 (bestV 5 b l).2)] :: T)) →
    Wp Γ agg_Of_l2 [(4, .bx 0 0), (6, .bx 1 0), (57, .p (.sl kk 2 (vpv l))), (58, .p (.int .i64 (l.length : Int))), (59, .p (.int .i64 (i : Int)))] (B :: .box [.p (.bool (bestV 5 b (l.take i)).1), .p (.int .i64 (bestV 5 b (l.take i)).2)] :: T) (InBlk [4, 6] 3 Q) := by
  obtain ⟨a1, a2, rfl⟩ := hB
  intro k
  induction k with
  | zero =>
    intro i T hi hQ
    obtain rfl : i = l.length := by omega
    rw [W_loop (L := agg_Of_l2) rfl]
    simp (disch := first | assumption | omega | decide | (simp only [List.length_cons, List.length_nil, List.length_append, List.length_replicate, List.length_map, List.length_set, List.length_take, List.length_drop, strs_len, ints_len, bools_len, aggs_len, vpv_len]; done) | (simp only [List.length_cons, List.length_nil, List.length_append, List.length_replicate, List.length_map, List.length_set, List.length_take, List.length_drop, strs_len, ints_len, bools_len, aggs_len, vpv_len]; omega)) only [go_sem]
    rw [List.take_length]
    exact hQ []
  | succ k ih =>
    intro i T hi hQ
    have e := bestV_succ (kind := 5) (b := b) (l := l) (i := i) (by omega)
    have g1 := bestV_known (kind := 5) hb (l := l.take i) fun v hv => hk v (List.mem_of_mem_take hv)
    have g2 : knV (l.getD i (false, 0)) = true := hk _ (by rw [List.getD_eq_getElem?_getD, List.getElem?_eq_getElem (show i < l.length by omega)]; exact List.getElem_mem _)
    have e2 : lessV (l.getD i (false, 0)) (bestV 5 b (l.take i)) = decide ((l.getD i (false, 0)).2 < (bestV 5 b (l.take i)).2) := by simp only [lessV, g1, g2, Bool.true_and]
    have ih := fun T => ih (i + 1) T (by omega) hQ
    rw [e] at ih
    rw [W_loop (L := agg_Of_l2) rfl]
    simp (disch := first | assumption | omega | decide | (simp only [List.length_cons, List.length_nil, List.length_append, List.length_replicate, List.length_map, List.length_set, List.length_take, List.length_drop, strs_len, ints_len, bools_len, aggs_len, vpv_len]; done) | (simp only [List.length_cons, List.length_nil, List.length_append, List.length_replicate, List.length_map, List.length_set, List.length_take, List.length_drop, strs_len, ints_len, bools_len, aggs_len, vpv_len]; omega)) only [go_sem, valP, e2]
    refine cond_split (fun hc => ?_) (fun hc => ?_)
    · rw [if_pos (.inr ⟨rfl, hc⟩)] at ih
      simp (disch := first | assumption | omega | decide | (simp only [List.length_cons, List.length_nil, List.length_append, List.length_replicate, List.length_map, List.length_set, List.length_take, List.length_drop, strs_len, ints_len, bools_len, aggs_len, vpv_len]; done) | (simp only [List.length_cons, List.length_nil, List.length_append, List.length_replicate, List.length_map, List.length_set, List.length_take, List.length_drop, strs_len, ints_len, bools_len, aggs_len, vpv_len]; omega)) only [go_sem]
      exact ih _
    · rw [if_neg (by rintro (⟨h, _⟩ | ⟨_, h⟩) <;> omega)] at ih
      simp (disch := first | assumption | omega | decide | (simp only [List.length_cons, List.length_nil, List.length_append, List.length_replicate, List.length_map, List.length_set, List.length_take, List.length_drop, strs_len, ints_len, bools_len, aggs_len, vpv_len]; done) | (simp only [List.length_cons, List.length_nil, List.length_append, List.length_replicate, List.length_map, List.length_set, List.length_take, List.length_drop, strs_len, ints_len, bools_len, aggs_len, vpv_len]; omega)) only [go_sem]
      exact ih _
theorem bestV_self4 (b : Val) (l : List Val) : bestV 4 b (b :: l) = bestV 4 b l := by
  unfold bestV
  rw [List.foldl_cons, if_neg (by rintro (⟨_, h⟩ | ⟨h, _⟩) <;> omega)]
theorem bestV_self5 (b : Val) (l : List Val) : bestV 5 b (b :: l) = bestV 5 b l := by
  unfold bestV
  rw [List.foldl_cons, if_neg (by rintro (⟨h, _⟩ | ⟨_, h⟩) <;> omega)]
theorem res_aggOf4 {kk : SK} (l : List Val) (hl : l.length < 1000000000) : res Γ 132 [.int .i64 4, .sl kk 2 (vpv l)] = some [.agg [.bool (aggV 4 l).1, .int .i64 (aggV 4 l).2]] := by
  have hk := knL_len l
  have hm := fun v => @knL_mem l v
  refine res_code (fn := agg_Of) rfl rfl ?_
  simp (disch := first | assumption | omega | decide | (simp only [List.length_cons, List.length_nil, List.length_append, List.length_replicate, List.length_map, List.length_set, List.length_take, List.length_drop, strs_len, ints_len, bools_len, aggs_len, vpv_len]; done) | (simp only [List.length_cons, List.length_nil, List.length_append, List.length_replicate, List.length_map, List.length_set, List.length_take, List.length_drop, strs_len, ints_len, bools_len, aggs_len, vpv_len]; omega)) only [go_sem, agg_Of]
  cases h : knL l with
  | nil =>
    simp (disch := first | assumption | omega | decide | (simp only [List.length_cons, List.length_nil, List.length_append, List.length_replicate, List.length_map, List.length_set, List.length_take, List.length_drop, strs_len, ints_len, bools_len, aggs_len, vpv_len]; done) | (simp only [List.length_cons, List.length_nil, List.length_append, List.length_replicate, List.length_map, List.length_set, List.length_take, List.length_drop, strs_len, ints_len, bools_len, aggs_len, vpv_len]; omega)) only [go_sem, agg2_nil h]
  | cons b k =>
    obtain ⟨e2, e4, e5⟩ := agg2_cons h
    rw [h] at hk hm
    simp only [List.length_cons] at hk
    simp (disch := first | assumption | omega | decide | (simp only [List.length_cons, List.length_nil, List.length_append, List.length_replicate, List.length_map, List.length_set, List.length_take, List.length_drop, strs_len, ints_len, bools_len, aggs_len, vpv_len]; done) | (simp only [List.length_cons, List.length_nil, List.length_append, List.length_replicate, List.length_map, List.length_set, List.length_take, List.length_drop, strs_len, ints_len, bools_len, aggs_len, vpv_len]; omega)) only [go_sem, valP]
    refine agg_Of_l1_ok (b :: k) b (hm b (by simp)) hm (by simp; omega) _ ⟨_, _, rfl⟩ _ (b :: k).length 0 [] (by omega) (fun T => ?_)
    simp (disch := first | assumption | omega | decide | (simp only [List.length_cons, List.length_nil, List.length_append, List.length_replicate, List.length_map, List.length_set, List.length_take, List.length_drop, strs_len, ints_len, bools_len, aggs_len, vpv_len]; done) | (simp only [List.length_cons, List.length_nil, List.length_append, List.length_replicate, List.length_map, List.length_set, List.length_take, List.length_drop, strs_len, ints_len, bools_len, aggs_len, vpv_len]; omega)) only [go_sem, e4, bestV_self4]
theorem res_aggOf5 {kk : SK} (l : List Val) (hl : l.length < 1000000000) : res Γ 132 [.int .i64 5, .sl kk 2 (vpv l)] = some [.agg [.bool (aggV 5 l).1, .int .i64 (aggV 5 l).2]] := by
  have hk := knL_len l
  have hm := fun v => @knL_mem l v
  refine res_code (fn := agg_Of) rfl rfl ?_
  simp (disch := first | assumption | omega | decide | (simp only [List.length_cons, List.length_nil, List.length_append, List.length_replicate, List.length_map, List.length_set, List.length_take, List.length_drop, strs_len, ints_len, bools_len, aggs_len, vpv_len]; done) | (simp only [List.length_cons, List.length_nil, List.length_append, List.length_replicate, List.length_map, List.length_set, List.length_take, List.length_drop, strs_len, ints_len, bools_len, aggs_len, vpv_len]; omega)) only [go_sem, agg_Of]
  cases h : knL l with
  | nil =>
    simp (disch := first | assumption | omega | decide | (simp only [List.length_cons, List.length_nil, List.length_append, List.length_replicate, List.length_map, List.length_set, List.length_take, List.length_drop, strs_len, ints_len, bools_len, aggs_len, vpv_len]; done) | (simp only [List.length_cons, List.length_nil, List.length_append, List.length_replicate, List.length_map, List.length_set, List.length_take, List.length_drop, strs_len, ints_len, bools_len, aggs_len, vpv_len]; omega)) only [go_sem, agg2_nil h]
  | cons b k =>
    obtain ⟨e2, e4, e5⟩ := agg2_cons h
    rw [h] at hk hm
    simp only [List.length_cons] at hk
    simp (disch := first | assumption | omega | decide | (simp only [List.length_cons, List.length_nil, List.length_append, List.length_replicate, List.length_map, List.length_set, List.length_take, List.length_drop, strs_len, ints_len, bools_len, aggs_len, vpv_len]; done) | (simp only [List.length_cons, List.length_nil, List.length_append, List.length_replicate, List.length_map, List.length_set, List.length_take, List.length_drop, strs_len, ints_len, bools_len, aggs_len, vpv_len]; omega)) only [go_sem, valP]
    refine agg_Of_l2_ok (b :: k) b (hm b (by simp)) hm (by simp; omega) _ ⟨_, _, rfl⟩ _ (b :: k).length 0 [] (by omega) (fun T => ?_)
    simp (disch := first | assumption | omega | decide | (simp only [List.length_cons, List.length_nil, List.length_append, List.length_replicate, List.length_map, List.length_set, List.length_take, List.length_drop, strs_len, ints_len, bools_len, aggs_len, vpv_len]; done) | (simp only [List.length_cons, List.length_nil, List.length_append, List.length_replicate, List.length_map, List.length_set, List.length_take, List.length_drop, strs_len, ints_len, bools_len, aggs_len, vpv_len]; omega)) only [go_sem, e5, bestV_self5]
end Ab
