import Derived.Test.YtinkfiahfcpopaaGreatDoorLAgg
import Derived.Test.YtinkfiahfcpopaaGreatDoorAbRel
import Derived.Test.YtinkfiahfcpopaaGreatDoorCode
namespace Ab
open Go (IntKind BinOp UnOp)
def addT (l : List Val) (i : Nat) : Val := addV (l.take i)
theorem addT_succ {l : List Val} {i : Nat} (h : i < l.length) : addT l (i + 1) = sumV (addT l i) (l.getD i (false, 0)) := by
  unfold addT addV
  rw [take_snoc' (false, 0) h, List.foldl_append]; rfl
theorem fixed_Add_l1_ok {kk : SK} (l : List Val) (hl : l.length < 1000000000) (B : Blk) (hB : ∃ a b, B = .box [.p a, .p b]) (Q : Out → Prop) : ∀ (k i : Nat) (T : Heap), i + k = l.length →
    (∀ T, Q (.nrm, [(2, .bx 0 0), (3, .bx 1 0)], B :: .box [.p (.bool (addV l).1), .p (.int .i64 (addV l).2)] :: T)) →
    Wp Γ fixed_Add_l1 [(2, .bx 0 0), (3, .bx 1 0), (7, .p (.sl kk 2 (vpv l))), (8, .p (.int .i64 (l.length : Int))), (9, .p (.int .i64 (i : Int)))] (B :: .box [.p (.bool (addT l i).1), .p (.int .i64 (addT l i).2)] :: T) (InBlk [2, 3] 0 Q) := by
  obtain ⟨a, b, rfl⟩ := hB
  intro k
  induction k with
  | zero =>
    intro i T hi hQ
    obtain rfl : i = l.length := by omega
    rw [W_loop (L := fixed_Add_l1) rfl]
    simp (disch := first | assumption | omega | decide | (simp only [lens] <;> omega) | fail) only [go_sem]
    have := hQ []
    rw [show addV l = addT l l.length by rw [addT, List.take_length]] at this
    exact this
  | succ k ih =>
    intro i T hi hQ
    have e := addT_succ (l := l) (i := i) (by omega)
    rw [W_loop (L := fixed_Add_l1) rfl]
    simp (disch := first | assumption | omega | decide | (simp only [lens] <;> omega) | fail) only [go_sem, valP]
    rw [← e]
    exact ih (i + 1) _ (by omega) hQ
@[go_sem] theorem res_fixedAdd {kk : SK} (l : List Val) (hl : l.length < 1000000000) : res Γ 136 [.sl kk 2 (vpv l)] = some [.agg [.bool (addV l).1, .int .i64 (addV l).2]] := by
  refine res_code (fn := fixed_Add) rfl rfl ?_
  simp (disch := first | assumption | omega | decide | (simp only [lens] <;> omega) | fail) only [go_sem, fixed_Add]
  refine fixed_Add_l1_ok l hl _ ⟨_, _, rfl⟩ _ l.length 0 [] (by omega) (fun T => ?_)
  simp (disch := first | assumption | omega | decide | (simp only [lens] <;> omega) | fail) only [go_sem]
theorem r1_Add_l1_ok {kk : SK} (l : List Val) (hl : l.length < 1000000000) (B : Blk) (hB : ∃ a b, B = .box [.p a, .p b]) (Q : Out → Prop) : ∀ (k i : Nat), i + k = l.length →
    (Q (.nrm, [(2, .bx 0 0), (3, .bx 1 0)], [B, .box [.p (.bool (addV l).1), .p (.int .i64 (addV l).2)]])) →
    Wp Γ r1_Add_l1 [(0, .p (.sl kk 2 (vpv l))), (2, .bx 0 0), (3, .bx 1 0), (4, .p (.int .i64 (i : Int)))] [B, .box [.p (.bool (addT l i).1), .p (.int .i64 (addT l i).2)]] (InBlk [2, 3] 0 Q) := by
  obtain ⟨a, b, rfl⟩ := hB
  intro k
  induction k with
  | zero =>
    intro i hi hQ
    obtain rfl : i = l.length := by omega
    rw [W_loop (L := r1_Add_l1) rfl]
    simp (disch := first | assumption | omega | decide | (simp only [lens] <;> omega) | fail) only [go_sem]
    rw [show addV l = addT l l.length by rw [addT, List.take_length]] at hQ
    exact hQ
  | succ k ih =>
    intro i hi hQ
    have e := addT_succ (l := l) (i := i) (by omega)
    rw [W_loop (L := r1_Add_l1) rfl]
    simp (disch := first | assumption | omega | decide | (simp only [lens] <;> omega) | fail) only [go_sem, valP]
    rw [← e]
    exact ih (i + 1) (by omega) hQ
@[go_sem] theorem res_r1Add {kk : SK} (l : List Val) (hl : l.length < 1000000000) : res Γ 128 [.sl kk 2 (vpv l)] = some [.agg [.bool (addV l).1, .int .i64 (addV l).2]] := by
  refine res_code (fn := r1_Add) rfl rfl ?_
  simp (disch := first | assumption | omega | decide | (simp only [lens] <;> omega) | fail) only [go_sem, r1_Add]
  refine r1_Add_l1_ok l hl _ ⟨_, _, rfl⟩ _ l.length 0 (by omega) ?_
  simp (disch := first | assumption | omega | decide | (simp only [lens] <;> omega) | fail) only [go_sem]
theorem agg2_nil {kind : Int} {l : List Val} (h : knL l = []) : aggV kind l = (false, 0) := by unfold aggV; rw [h]; rfl
theorem res_aggOf2 {kk : SK} (l : List Val) (hl : l.length < 1000000000) : res Γ 132 [.int .i64 2, .sl kk 2 (vpv l)] = some [.agg [.bool (aggV 2 l).1, .int .i64 (aggV 2 l).2]] := by
  have hk := knL_len l
  refine res_code (fn := agg_Of) rfl rfl ?_
  simp (disch := first | assumption | omega | decide | (simp only [lens] <;> omega) | fail) only [go_sem, agg_Of]
  cases h : knL l with
  | nil =>
    simp (disch := first | assumption | omega | decide | (simp only [lens] <;> omega) | fail) only [go_sem, agg2_nil h]
  | cons b k =>
    have e : aggV 2 l = addV (b :: k) := by unfold aggV; rw [h]; rfl
    rw [h] at hk
    simp only [List.length_cons] at hk
    simp (disch := first | assumption | omega | decide | (simp only [lens] <;> omega) | fail) only [go_sem, e, valP]
def bestV (kind : Int) (b : Val) (l : List Val) : Val := l.foldl (fun b v => if (kind = 4 ∧ b.2 < v.2) ∨ (kind = 5 ∧ v.2 < b.2) then v else b) b
theorem bestV_succ {kind : Int} {b : Val} {l : List Val} {i : Nat} (h : i < l.length) : bestV kind b (l.take (i + 1)) = if (kind = 4 ∧ (bestV kind b (l.take i)).2 < (l.getD i (false, 0)).2) ∨ (kind = 5 ∧ (l.getD i (false, 0)).2 < (bestV kind b (l.take i)).2) then l.getD i (false, 0) else bestV kind b (l.take i) := by
  unfold bestV
  rw [take_snoc' (false, 0) h, List.foldl_append]; rfl
theorem bestV_4 (b : Val) (l : List Val) : bestV 4 b l = maxV b l := by
  unfold bestV maxV; congr 1; funext b v; simp
theorem bestV_5 (b : Val) (l : List Val) : bestV 5 b l = minV b l := by
  unfold bestV minV; congr 1; funext b v; simp
theorem bestV_known {kind : Int} {b : Val} (hb : knV b = true) : ∀ {l : List Val}, (∀ v ∈ l, knV v = true) → knV (bestV kind b l) = true := by
  intro l
  induction l generalizing b with
  | nil => exact fun _ => hb
  | cons x l ih =>
    intro h
    unfold bestV at *
    rw [List.foldl_cons]
    split
    · exact ih (h x (by simp)) fun v hv => h v (by simp [hv])
    · exact ih hb fun v hv => h v (by simp [hv])
theorem r6_Of_l1_ok {kk : SK} (kind : Int) (b : Val) (l : List Val) (hl : l.length < 1000000000) (B : Blk) (Q : Out → Prop) : ∀ (k i : Nat), i + k = l.length →
    (Q (.nrm, [(0, .p (.int .i64 kind)), (4, .bx 0 0), (5, .p (.sl kk 2 (vpv (b :: l)))), (6, .bx 1 0)], [B, .box [.p (.bool (bestV kind b l).1), .p (.int .i64 (bestV kind b l).2)]])) →
    Wp Γ r6_Of_l1 [(0, .p (.int .i64 kind)), (4, .bx 0 0), (5, .p (.sl kk 2 (vpv (b :: l)))), (6, .bx 1 0), (7, .p (.int .i64 ((i + 1 : Nat) : Int)))] [B, .box [.p (.bool (bestV kind b (l.take i)).1), .p (.int .i64 (bestV kind b (l.take i)).2)]] (InBlk [0, 4, 5, 6] 0 Q) := by
  intro k
  induction k with
  | zero =>
    intro i hi hQ
    obtain rfl : i = l.length := by omega
    rw [W_loop (L := r6_Of_l1) rfl]
    simp (disch := first | assumption | omega | decide | (simp only [lens] <;> omega) | fail) only [go_sem]
    rw [List.take_length]
    exact hQ
  | succ k ih =>
    intro i hi hQ
    have e := bestV_succ (kind := kind) (b := b) (l := l) (i := i) (by omega)
    have ih := ih (i + 1) (by omega) hQ
    rw [e] at ih
    rw [W_loop (L := r6_Of_l1) rfl]
    by_cases h4 : kind = 4
    · by_cases hlt : (bestV kind b (l.take i)).2 < (l.getD i (false, 0)).2
      · rw [if_pos (.inl ⟨h4, hlt⟩)] at ih
        simp (disch := first | assumption | omega | decide | (simp only [lens] <;> omega) | fail) only [go_sem, valP]
        exact ih
      · rw [if_neg (by rintro (⟨_, h⟩ | ⟨h, _⟩) <;> omega)] at ih
        simp (disch := first | assumption | omega | decide | (simp only [lens] <;> omega) | fail) only [go_sem, valP]
        exact ih
    · by_cases h5 : kind = 5
      · by_cases hlt : (l.getD i (false, 0)).2 < (bestV kind b (l.take i)).2
        · rw [if_pos (.inr ⟨h5, hlt⟩)] at ih
          simp (disch := first | assumption | omega | decide | (simp only [lens] <;> omega) | fail) only [go_sem, valP]
          exact ih
        · rw [if_neg (by rintro (⟨h, _⟩ | ⟨_, h⟩) <;> omega)] at ih
          simp (disch := first | assumption | omega | decide | (simp only [lens] <;> omega) | fail) only [go_sem, valP]
          exact ih
      · rw [if_neg (by rintro (⟨h, _⟩ | ⟨h, _⟩) <;> contradiction)] at ih
        simp (disch := first | assumption | omega | decide | (simp only [lens] <;> omega) | fail) only [go_sem]
        exact ih
theorem agg2_cons {l : List Val} {b : Val} {k : List Val} (h : knL l = b :: k) : aggV 2 l = addV (b :: k) ∧ aggV 4 l = bestV 4 b k ∧ aggV 5 l = bestV 5 b k := by
  refine ⟨?_, ?_, ?_⟩
  · unfold aggV; rw [h]; rfl
  · unfold aggV; rw [h, bestV_4]; rfl
  · unfold aggV; rw [h, bestV_5]; rfl
theorem res_r6Of {kk : SK} (kind : Int) (hkind : kind = 2 ∨ kind = 4 ∨ kind = 5) (l : List Val) (hl : l.length < 1000000000) : res Γ 122 [.int .i64 kind, .sl kk 2 (vpv l)] = some [.agg [.bool (aggV kind l).1, .int .i64 (aggV kind l).2]] := by
  have hk := knL_len l
  refine res_code (fn := r6_Of) rfl rfl ?_
  simp (disch := first | assumption | omega | decide | (simp only [lens] <;> omega) | fail) only [go_sem, r6_Of]
  cases h : knL l with
  | nil =>
    simp (disch := first | assumption | omega | decide | (simp only [lens] <;> omega) | fail) only [go_sem, agg2_nil h]
  | cons b k =>
    obtain ⟨e2, e4, e5⟩ := agg2_cons h
    rw [h] at hk
    simp only [List.length_cons] at hk
    repeat' (first | (simp (disch := first | assumption | omega | decide | (simp only [lens] <;> omega) | fail) only [go_sem, valP]) | refine cond_split (fun hc => ?_) (fun hc => ?_) | refine gd_split_f (fun hc => ?_) (fun hc => ?_) | refine gd_split_t (fun hc => ?_) (fun hc => ?_))
    · refine r6_Of_l1_ok kind b k (by omega) _ _ k.length 0 (by omega) ?_
      rcases hkind with rfl | rfl | rfl
      · simp (disch := first | assumption | omega | decide | (simp only [lens] <;> omega) | fail) only [go_sem, e2]
      · simp (disch := first | assumption | omega | decide | (simp only [lens] <;> omega) | fail) only [go_sem, e4]
      · simp (disch := first | assumption | omega | decide | (simp only [lens] <;> omega) | fail) only [go_sem, e5]
    all_goals trace_state

theorem agg_Of_l1_ok {kk : SK} (l : List Val) (b : Val) (hb : knV b = true) (hk : ∀ v ∈ l, knV v = true) (hl : l.length < 1000000000) (B : Blk) (hB : ∃ a b, B = .box [.p a, .p b]) (Q : Out → Prop) : ∀ (k i : Nat) (T : Heap), i + k = l.length →
    (∀ T, Q (.nrm, [(4, .bx 0 0), (6, .bx 1 0)], B :: .box [.p (.bool (bestV 4 b l).1), .p (.int .i64 (bestV 4 b l).2)] :: T)) →
    Wp Γ agg_Of_l1 [(4, .bx 0 0), (6, .bx 1 0), (43, .p (.sl kk 2 (vpv l))), (44, .p (.int .i64 (l.length : Int))), (45, .p (.int .i64 (i : Int)))] (B :: .box [.p (.bool (bestV 4 b (l.take i)).1), .p (.int .i64 (bestV 4 b (l.take i)).2)] :: T) (InBlk [4, 6] 1 Q) := by
  obtain ⟨a1, a2, rfl⟩ := hB
  intro k
  induction k with
  | zero =>
    intro i T hi hQ
    obtain rfl : i = l.length := by omega
    rw [W_loop (L := agg_Of_l1) rfl]
    simp (disch := first | assumption | omega | decide | (simp only [lens] <;> omega) | fail) only [go_sem]
    rw [List.take_length]
    exact hQ []
  | succ k ih =>
    intro i T hi hQ
    have e := bestV_succ (kind := 4) (b := b) (l := l) (i := i) (by omega)
    have g1 := bestV_known (kind := 4) hb (l := l.take i) fun v hv => hk v (List.mem_of_mem_take hv)
    have g2 : knV (l.getD i (false, 0)) = true := hk _ (by rw [List.getD_eq_getElem?_getD, List.getElem?_eq_getElem (show i < l.length by omega)]; exact List.getElem_mem _)
    have e2 : lessV (bestV 4 b (l.take i)) (l.getD i (false, 0)) = decide ((bestV 4 b (l.take i)).2 < (l.getD i (false, 0)).2) := by simp only [lessV, g1, g2, Bool.true_and]
    have ih := fun T => ih (i + 1) T (by omega) hQ
    rw [e] at ih
    rw [W_loop (L := agg_Of_l1) rfl]
    simp (disch := first | assumption | omega | decide | (simp only [lens] <;> omega) | fail) only [go_sem, valP, e2]
    refine cond_split (fun hc => ?_) (fun hc => ?_)
    · rw [if_pos (.inl ⟨rfl, hc⟩)] at ih
      simp (disch := first | assumption | omega | decide | (simp only [lens] <;> omega) | fail) only [go_sem]
      exact ih _
    · rw [if_neg (by rintro (⟨_, h⟩ | ⟨h, _⟩) <;> omega)] at ih
      simp (disch := first | assumption | omega | decide | (simp only [lens] <;> omega) | fail) only [go_sem]
      exact ih _
theorem agg_Of_l2_ok {kk : SK} (l : List Val) (b : Val) (hb : knV b = true) (hk : ∀ v ∈ l, knV v = true) (hl : l.length < 1000000000) (B : Blk) (hB : ∃ a b, B = .box [.p a, .p b]) (Q : Out → Prop) : ∀ (k i : Nat) (T : Heap), i + k = l.length →
    (∀ T, Q (.nrm, [(4, .bx 0 0), (6, .bx 1 0)], B :: .box [.p (.bool (bestV 5 b l).1), .p (.int .i64 (bestV 5 b l).2)] :: T)) →
    Wp Γ agg_Of_l2 [(4, .bx 0 0), (6, .bx 1 0), (57, .p (.sl kk 2 (vpv l))), (58, .p (.int .i64 (l.length : Int))), (59, .p (.int .i64 (i : Int)))] (B :: .box [.p (.bool (bestV 5 b (l.take i)).1), .p (.int .i64 (bestV 5 b (l.take i)).2)] :: T) (InBlk [4, 6] 3 Q) := by
  obtain ⟨a1, a2, rfl⟩ := hB
  intro k
  induction k with
  | zero =>
    intro i T hi hQ
    obtain rfl : i = l.length := by omega
    rw [W_loop (L := agg_Of_l2) rfl]
    simp (disch := first | assumption | omega | decide | (simp only [lens] <;> omega) | fail) only [go_sem]
    rw [List.take_length]
    exact hQ []
  | succ k ih =>
    intro i T hi hQ
    have e := bestV_succ (kind := 5) (b := b) (l := l) (i := i) (by omega)
    have g1 := bestV_known (kind := 5) hb (l := l.take i) fun v hv => hk v (List.mem_of_mem_take hv)
    have g2 : knV (l.getD i (false, 0)) = true := hk _ (by rw [List.getD_eq_getElem?_getD, List.getElem?_eq_getElem (show i < l.length by omega)]; exact List.getElem_mem _)
    have e2 : lessV (l.getD i (false, 0)) (bestV 5 b (l.take i)) = decide ((l.getD i (false, 0)).2 < (bestV 5 b (l.take i)).2) := by simp only [lessV, g1, g2, Bool.true_and]
    have ih := fun T => ih (i + 1) T (by omega) hQ
    rw [e] at ih
    rw [W_loop (L := agg_Of_l2) rfl]
    simp (disch := first | assumption | omega | decide | (simp only [lens] <;> omega) | fail) only [go_sem, valP, e2]
    refine cond_split (fun hc => ?_) (fun hc => ?_)
    · rw [if_pos (.inr ⟨rfl, hc⟩)] at ih
      simp (disch := first | assumption | omega | decide | (simp only [lens] <;> omega) | fail) only [go_sem]
      exact ih _
    · rw [if_neg (by rintro (⟨h, _⟩ | ⟨_, h⟩) <;> omega)] at ih
      simp (disch := first | assumption | omega | decide | (simp only [lens] <;> omega) | fail) only [go_sem]
      exact ih _
theorem bestV_self4 (b : Val) (l : List Val) : bestV 4 b (b :: l) = bestV 4 b l := by
  unfold bestV
  rw [List.foldl_cons, if_neg (by rintro (⟨_, h⟩ | ⟨h, _⟩) <;> omega)]
theorem bestV_self5 (b : Val) (l : List Val) : bestV 5 b (b :: l) = bestV 5 b l := by
  unfold bestV
  rw [List.foldl_cons, if_neg (by rintro (⟨h, _⟩ | ⟨_, h⟩) <;> omega)]
theorem res_aggOf4 {kk : SK} (l : List Val) (hl : l.length < 1000000000) : res Γ 132 [.int .i64 4, .sl kk 2 (vpv l)] = some [.agg [.bool (aggV 4 l).1, .int .i64 (aggV 4 l).2]] := by
  have hk := knL_len l
  have hm := fun v => @knL_mem l v
  refine res_code (fn := agg_Of) rfl rfl ?_
  simp (disch := first | assumption | omega | decide | (simp only [lens] <;> omega) | fail) only [go_sem, agg_Of]
  cases h : knL l with
  | nil =>
    simp (disch := first | assumption | omega | decide | (simp only [lens] <;> omega) | fail) only [go_sem, agg2_nil h]
  | cons b k =>
    obtain ⟨e2, e4, e5⟩ := agg2_cons h
    rw [h] at hk hm
    simp only [List.length_cons] at hk
    simp (disch := first | assumption | omega | decide | (simp only [lens] <;> omega) | fail) only [go_sem, valP]
    refine agg_Of_l1_ok (b :: k) b (hm b (by simp)) hm (by simp; omega) _ ⟨_, _, rfl⟩ _ (b :: k).length 0 [] (by omega) (fun T => ?_)
    simp (disch := first | assumption | omega | decide | (simp only [lens] <;> omega) | fail) only [go_sem, e4, bestV_self4]
theorem res_aggOf5 {kk : SK} (l : List Val) (hl : l.length < 1000000000) : res Γ 132 [.int .i64 5, .sl kk 2 (vpv l)] = some [.agg [.bool (aggV 5 l).1, .int .i64 (aggV 5 l).2]] := by
  have hk := knL_len l
  have hm := fun v => @knL_mem l v
  refine res_code (fn := agg_Of) rfl rfl ?_
  simp (disch := first | assumption | omega | decide | (simp only [lens] <;> omega) | fail) only [go_sem, agg_Of]
  cases h : knL l with
  | nil =>
    simp (disch := first | assumption | omega | decide | (simp only [lens] <;> omega) | fail) only [go_sem, agg2_nil h]
  | cons b k =>
    obtain ⟨e2, e4, e5⟩ := agg2_cons h
    rw [h] at hk hm
    simp only [List.length_cons] at hk
    simp (disch := first | assumption | omega | decide | (simp only [lens] <;> omega) | fail) only [go_sem, valP]
    refine agg_Of_l2_ok (b :: k) b (hm b (by simp)) hm (by simp; omega) _ ⟨_, _, rfl⟩ _ (b :: k).length 0 [] (by omega) (fun T => ?_)
    simp (disch := first | assumption | omega | decide | (simp only [lens] <;> omega) | fail) only [go_sem, e5, bestV_self5]
end Ab
namespace Ab
open Go (IntKind BinOp UnOp)
def nums (l : List Val) : List Int := (knL l).map (·.2)
@[go_sem] theorem ifB_dec {α : Type} {c : Prop} [Decidable c] {x : Option α} (h : c) : ifB (decide c) x = x := by rw [decide_eq_true h]; rfl
@[go_sem] theorem loadK_vals {f sz s ag} {l : List Val} {n i off : Nat} (h : l.length = n) (h' : i < n) : loadK (some (.row f sz (vpv l))) s ag n i off = takeP s ag ((valP (l.getD i (false, 0))).drop off) := by
  simp only [loadK, vpv_len, h, if_true, vpv_get (show i < l.length by omega), Option.bind_some, PV.cells]
end Ab
namespace Ab
open Go (IntKind BinOp UnOp)
theorem wrap_u64 {x : Int} (h0 : 0 ≤ x) (h1 : x ≤ 18446744073709551615) : IntKind.u64.wrap x = x := by
  simp only [IntKind.wrap, IntKind.bits, IntKind.signed, Bool.false_and]
  have e : (2 : Int) ^ 64 = 18446744073709551616 := by decide
  rw [e]
  simp
  omega
theorem map_rem {k : IntKind} {a b : Int} (h0 : 0 ≤ a) (h1 : 0 < b) : binAV .rem (.p (.int k a)) (.p (.int k b)) = some (.p (.int k (a % b))) := by
  simp only [binAV, binPV, binInt, true_or, if_true]
  rw [if_neg (by omega), Int.tmod_eq_emod_of_nonneg h0]; rfl
theorem map_quo {k : IntKind} {a b : Int} (h0 : 0 ≤ a) (h1 : 0 < b) (h2 : k.wrap (a / b) = a / b) : binAV .quo (.p (.int k a)) (.p (.int k b)) = some (.p (.int k (a / b))) := by
  simp only [binAV, binPV, binInt, true_or, if_true]
  rw [if_neg (by omega), Int.tdiv_eq_ediv_of_nonneg h0, h2]; rfl
theorem strOf_one {H : Heap} {kk : SK} {n : Int} : strOfA H (.p (.sl kk 1 [.int .u8 n])) = some (.p (.str [UInt8.ofNat n.toNat])) := by
  simp [strOfA, bytesIn]
attribute [go_sem] wrap_u64 map_rem strOf_one
theorem decB_small {u : Nat} (h : u < 10) : decB u = [UInt8.ofNat (48 + u)] := by rw [decB, dif_pos h]
theorem decB_more {u : Nat} (h : ¬ u < 10) : decB u = decB (u / 10) ++ [UInt8.ofNat (48 + u % 10)] := by rw [decB, dif_neg h]
theorem decB_len : ∀ (k u : Nat), u < 10 ^ (k + 1) → (decB u).length ≤ k + 1 := by
  intro k
  induction k with
  | zero => intro u h; rw [decB_small (by simpa using h)]; simp
  | succ k ih =>
    intro u h
    by_cases hs : u < 10
    · rw [decB_small hs]; simp
    · rw [decB_more hs]
      have := ih (u / 10) (by rw [Nat.pow_succ] at h; omega)
      simp; omega
end Ab
namespace Ab
theorem dig_exit {Y n1 n0 U u q r Q : Int} (hY : Y = n1 * 4294967296 + n0) (hU : U = q * n1 + r) (hle : q * n0 ≤ 4294967296 * r + u) (hQ : U * 4294967296 + u < (Q + 1) * Y) (hq : Q ≤ q) (h0 : 0 < Y) : q = Q := by
  have e : q * Y = q * n1 * 4294967296 + q * n0 := by rw [hY, Int.mul_add, ← Int.mul_assoc]
  have l : q * Y < (Q + 1) * Y := by omega
  have := Int.lt_of_mul_lt_mul_right l (Int.le_of_lt h0)
  omega
theorem dig_down {Y n1 n0 U u q r Q : Int} (hY : Y = n1 * 4294967296 + n0) (hU : U = q * n1 + r) (hgt : 4294967296 * r + u < q * n0) (hQ : Q * Y ≤ U * 4294967296 + u) (h0 : 0 < Y) : Q ≤ q - 1 := by
  have e : q * Y = q * n1 * 4294967296 + q * n0 := by rw [hY, Int.mul_add, ← Int.mul_assoc]
  have l : Q * Y < q * Y := by omega
  have := Int.lt_of_mul_lt_mul_right l (Int.le_of_lt h0)
  omega
theorem dig_lt {Y U u Q : Int} (hU : U < Y) (hu : u < 4294967296) (hQ : Q * Y ≤ U * 4294967296 + u) (h0 : 0 < Y) : Q < 4294967296 := by
  have l : Q * Y < 4294967296 * Y := by omega
  exact Int.lt_of_mul_lt_mul_right l (Int.le_of_lt h0)
theorem dig_first {Y n1 n0 U u Q : Int} (hY : Y = n1 * 4294967296 + n0) (h1 : 0 < n1) (hn : 0 ≤ n0) (hu : u < 4294967296) (hQ0 : 0 ≤ Q) (hQ : Q * Y ≤ U * 4294967296 + u) : Q ≤ U / n1 := by
  have e : Q * Y = Q * n1 * 4294967296 + Q * n0 := by rw [hY, Int.mul_add, ← Int.mul_assoc]
  have p : 0 ≤ Q * n0 := Int.mul_nonneg hQ0 hn
  have l : Q * n1 ≤ U := by omega
  exact (Int.le_ediv_iff_mul_le h1).2 l
theorem dig_break {Y n1 n0 U u q r Q : Int} (hY : Y = n1 * 4294967296 + n0) (h1 : 0 < n1) (hn : n0 < 4294967296) (hn0 : 0 ≤ n0) (hU : U = q * n1 + r) (hr : 4294967296 ≤ r) (hUY : U < Y) (hu : 0 ≤ u) (hQ : U * 4294967296 + u < (Q + 1) * Y) (hq : Q ≤ q) (hq0 : 0 ≤ q) : q = Q ∧ q < 4294967296 := by
  have l : q * n1 < 4294967296 * n1 := by omega
  have lq := Int.lt_of_mul_lt_mul_right l (Int.le_of_lt h1)
  have m : q * n0 ≤ 4294967296 * n0 := Int.mul_le_mul_of_nonneg_right (by omega) hn0
  have hp : 0 < n1 * 4294967296 := by omega
  exact ⟨dig_exit hY hU (by omega) hQ hq (by omega), lq⟩
theorem mul_halves {x y : Int} (hx : 0 ≤ x ∧ x < 18446744073709551616) (hy : 0 ≤ y ∧ y < 18446744073709551616) :
    let x0 := x % 4294967296; let x1 := x / 4294967296; let y0 := y % 4294967296; let y1 := y / 4294967296
    let w0 := x0 * y0; let t := x1 * y0 + w0 / 4294967296; let w1 := t % 4294967296 + x0 * y1
    (0 ≤ w0 ∧ w0 ≤ 18446744065119617025) ∧ (0 ≤ x1 * y0 ∧ x1 * y0 ≤ 18446744065119617025) ∧ (0 ≤ x0 * y1 ∧ x0 * y1 ≤ 18446744065119617025) ∧ (0 ≤ x1 * y1 ∧ x1 * y1 ≤ 18446744065119617025) ∧
      x1 * y1 + t / 4294967296 + w1 / 4294967296 = x * y / 18446744073709551616 ∧ (0 ≤ x * y / 18446744073709551616 ∧ x * y / 18446744073709551616 < 18446744073709551616) := by
  intro x0 x1 y0 y1 w0 t w1
  have b : ∀ a c : Int, 0 ≤ a → a ≤ 4294967295 → 0 ≤ c → c ≤ 4294967295 → 0 ≤ a * c ∧ a * c ≤ 18446744065119617025 := fun a c h1 h2 h3 h4 =>
    ⟨Int.mul_nonneg h1 h3, Int.le_trans (Int.mul_le_mul h2 h4 h3 (by decide)) (by decide)⟩
  have hx0 : 0 ≤ x0 ∧ x0 ≤ 4294967295 := by omega
  have hx1 : 0 ≤ x1 ∧ x1 ≤ 4294967295 := by omega
  have hy0 : 0 ≤ y0 ∧ y0 ≤ 4294967295 := by omega
  have hy1 : 0 ≤ y1 ∧ y1 ≤ 4294967295 := by omega
  have b1 := b x0 y0 hx0.1 hx0.2 hy0.1 hy0.2
  have b2 := b x1 y0 hx1.1 hx1.2 hy0.1 hy0.2
  have b3 := b x0 y1 hx0.1 hx0.2 hy1.1 hy1.2
  have b4 := b x1 y1 hx1.1 hx1.2 hy1.1 hy1.2
  have ex : x = 4294967296 * x1 + x0 := by omega
  have ey : y = 4294967296 * y1 + y0 := by omega
  have e : x * y = 18446744073709551616 * (x1 * y1) + 4294967296 * (x1 * y0) + 4294967296 * (x0 * y1) + x0 * y0 := by
    rw [ex, ey, Int.add_mul, Int.mul_add, Int.mul_add, Int.mul_assoc, Int.mul_left_comm x1, ← Int.mul_assoc 4294967296, Int.mul_assoc 4294967296 x1 y0, Int.mul_left_comm x0 4294967296]
    omega
  refine ⟨b1, b2, b3, b4, ?_, ?_⟩
  · rw [e]
    omega
  · rw [e]
    omega
end Ab
namespace Ab
open Go (IntKind BinOp UnOp)
theorem wrap_u64m (x : Int) : IntKind.u64.wrap x = x % 18446744073709551616 := by
  simp only [IntKind.wrap, IntKind.bits, IntKind.signed, Bool.false_and]
  have e : (2 : Int) ^ 64 = 18446744073709551616 := by decide
  rw [e]
  simp
theorem map_shr32 (x : Int) : binAV .shr (.p (.int .u64 x)) (.p (.int .u64 32)) = some (.p (.int .u64 (x / 4294967296))) := by
  have e : x.fdiv (2 ^ min 32 IntKind.u64.bits) = x / 4294967296 := by
    have e : (2 : Int) ^ (min 32 IntKind.u64.bits) = 4294967296 := by decide
    rw [e, Int.fdiv_eq_ediv_of_nonneg _ (by decide)]
  simp [binAV, binPV, binInt, e]
theorem map_and32 {x : Int} (_h0 : 0 ≤ x) (_h1 : x ≤ 18446744073709551615) : binAV .and (.p (.int .u64 x)) (.p (.int .u64 4294967295)) = some (.p (.int .u64 (x % 4294967296))) := by
  have e : (BitVec.ofInt IntKind.u64.bits 4294967295).toNat = 2 ^ 32 - 1 := by decide
  have e3 : ((2 ^ IntKind.u64.bits : Nat) : Int) = 18446744073709551616 := by decide
  have key : ((BitVec.ofInt IntKind.u64.bits x &&& BitVec.ofInt IntKind.u64.bits 4294967295).toNat : Int) = x % 4294967296 := by
    rw [BitVec.toNat_and, e, Nat.and_two_pow_sub_one_eq_mod, BitVec.toNat_ofInt, e3]
    omega
  simp only [binAV, binPV, binInt, true_or, if_true, Option.map_some, key]
  rw [wrap_u64 (by omega) (by omega)]
theorem map_shr {x s : Int} (h0 : 0 ≤ s) (h1 : s ≤ 64) : binAV .shr (.p (.int .u64 x)) (.p (.int .u64 s)) = some (.p (.int .u64 (x / 2 ^ s.toNat))) := by
  have e : min s.toNat IntKind.u64.bits = s.toNat := Nat.min_eq_left (by show _ ≤ 64; omega)
  have p : (0 : Int) ≤ 2 ^ s.toNat := Int.le_of_lt (Int.pow_pos (by decide))
  simp only [binAV, binPV, binInt, e, Int.not_lt.2 h0, if_false, Int.fdiv_eq_ediv_of_nonneg _ p]
  simp
theorem map_shl {x s : Int} (h0 : 0 ≤ s) (h1 : s ≤ 64) : binAV .shl (.p (.int .u64 x)) (.p (.int .u64 s)) = some (.p (.int .u64 (IntKind.u64.wrap (x * 2 ^ s.toNat)))) := by
  have e : min s.toNat IntKind.u64.bits = s.toNat := Nat.min_eq_left (by show _ ≤ 64; omega)
  simp only [binAV, binPV, binInt, e, Int.not_lt.2 h0, if_false]
  simp
theorem map_quo64 {a b : Int} (h0 : 0 ≤ a) (h1 : a ≤ 18446744073709551615) (hb : 0 < b) : binAV .quo (.p (.int .u64 a)) (.p (.int .u64 b)) = some (.p (.int .u64 (a / b))) :=
  map_quo h0 hb (wrap_u64 (Int.ediv_nonneg h0 (Int.le_of_lt hb)) (Int.le_trans (Int.ediv_le_self _ h0) h1))
theorem res_Mul64 {x y : Int} (hx : 0 ≤ x ∧ x < 18446744073709551616) (hy : 0 ≤ y ∧ y < 18446744073709551616) : res Γ 149 [.int .u64 x, .int .u64 y] = some [.int .u64 (x * y / 18446744073709551616), .int .u64 (x * y % 18446744073709551616)] := by
  obtain ⟨b1, b2, b3, b4, e, b5⟩ := mul_halves hx hy
  rw [← e] at b5 ⊢
  rw [← wrap_u64m (x * y)]
  refine res_code (fn := math_bits_Mul64) rfl rfl ?_
  simp (disch := first | assumption | omega | decide | (simp only [lens] <;> omega) | fail) only [go_sem, math_bits_Mul64, map_shr32, map_and32, wrap_u64]
end Ab
namespace Ab
open Go (IntKind BinOp UnOp)
set_option maxRecDepth 4000 in
def len8 : List UInt8 := [0, 1, 2, 2, 3, 3, 3, 3, 4, 4, 4, 4, 4, 4, 4, 4, 5, 5, 5, 5, 5, 5, 5, 5, 5, 5, 5, 5, 5, 5, 5, 5, 6, 6, 6, 6, 6, 6, 6, 6, 6, 6, 6, 6, 6, 6, 6, 6, 6, 6, 6, 6, 6, 6, 6, 6, 6, 6, 6, 6, 6, 6, 6, 6, 7, 7, 7, 7, 7, 7, 7, 7, 7, 7, 7, 7, 7, 7, 7, 7, 7, 7, 7, 7, 7, 7, 7, 7, 7, 7, 7, 7, 7, 7, 7, 7, 7, 7, 7, 7, 7, 7, 7, 7, 7, 7, 7, 7, 7, 7, 7, 7, 7, 7, 7, 7, 7, 7, 7, 7, 7, 7, 7, 7, 7, 7, 7, 7, 8, 8, 8, 8, 8, 8, 8, 8, 8, 8, 8, 8, 8, 8, 8, 8, 8, 8, 8, 8, 8, 8, 8, 8, 8, 8, 8, 8, 8, 8, 8, 8, 8, 8, 8, 8, 8, 8, 8, 8, 8, 8, 8, 8, 8, 8, 8, 8, 8, 8, 8, 8, 8, 8, 8, 8, 8, 8, 8, 8, 8, 8, 8, 8, 8, 8, 8, 8, 8, 8, 8, 8, 8, 8, 8, 8, 8, 8, 8, 8, 8, 8, 8, 8, 8, 8, 8, 8, 8, 8, 8, 8, 8, 8, 8, 8, 8, 8, 8, 8, 8, 8, 8, 8, 8, 8, 8, 8, 8, 8, 8, 8, 8, 8, 8, 8, 8, 8, 8, 8, 8, 8, 8, 8, 8, 8, 8, 8]
def len64c : AFn := ⟨1, [.slot 2],
  .seq (.ops [0, 2] [
    ⟨some 2, none, .inl (.mov (.c (.int .i64 0)))⟩]) (.seq (.seq (.ops [0, 2, 4] [
    ⟨some 3, none, .inl (.mov (.v 0))⟩,
    ⟨some 4, none, .inl (.bin .geq (.v 3) (.c (.int .u64 4294967296)))⟩]) (.cond (.v 4) (.seq (.ops [0] [
    ⟨some 5, none, .inl (.mov (.v 0))⟩,
    ⟨some 6, none, .inl (.bin .shr (.v 5) (.c (.int .u64 32)))⟩,
    ⟨some 0, none, .inl (.mov (.v 6))⟩]) (.ops [0, 2] [
    ⟨some 2, none, .inl (.mov (.c (.int .i64 32)))⟩])) (.skip))) (.seq (.seq (.ops [0, 2, 8] [
    ⟨some 7, none, .inl (.mov (.v 0))⟩,
    ⟨some 8, none, .inl (.bin .geq (.v 7) (.c (.int .u64 65536)))⟩]) (.cond (.v 8) (.seq (.ops [0, 2] [
    ⟨some 9, none, .inl (.mov (.v 0))⟩,
    ⟨some 10, none, .inl (.bin .shr (.v 9) (.c (.int .u64 16)))⟩,
    ⟨some 0, none, .inl (.mov (.v 10))⟩]) (.ops [0, 2] [
    ⟨some 11, none, .inl (.mov (.v 2))⟩,
    ⟨some 12, none, .inl (.bin .add (.v 11) (.c (.int .i64 16)))⟩,
    ⟨some 2, none, .inl (.mov (.v 12))⟩])) (.skip))) (.seq (.seq (.ops [0, 2, 14] [
    ⟨some 13, none, .inl (.mov (.v 0))⟩,
    ⟨some 14, none, .inl (.bin .geq (.v 13) (.c (.int .u64 256)))⟩]) (.cond (.v 14) (.seq (.ops [0, 2] [
    ⟨some 15, none, .inl (.mov (.v 0))⟩,
    ⟨some 16, none, .inl (.bin .shr (.v 15) (.c (.int .u64 8)))⟩,
    ⟨some 0, none, .inl (.mov (.v 16))⟩]) (.ops [0, 2] [
    ⟨some 17, none, .inl (.mov (.v 2))⟩,
    ⟨some 18, none, .inl (.bin .add (.v 17) (.c (.int .i64 8)))⟩,
    ⟨some 2, none, .inl (.mov (.v 18))⟩])) (.skip))) (.seq (.ops [2] [
    ⟨some 19, none, .inl (.mov (.v 2))⟩,
    ⟨some 20, none, .inl (.mov (.v 0))⟩,
    ⟨some 21, none, .inl (.conv .u8 (.v 20))⟩,
    ⟨some 22, none, .inl (.idx (.c (.str len8)) (.v 21))⟩,
    ⟨some 23, none, .inl (.conv .i64 (.v 22))⟩,
    ⟨some 24, none, .inl (.bin .add (.v 19) (.v 23))⟩,
    ⟨some 2, none, .inl (.mov (.v 24))⟩]) (.ret)))))⟩
theorem len8_len : len8.length = 256 := by decide +kernel
theorem len8_ok : ∀ v : Nat, v < 256 → 1 ≤ v → (1 ≤ byt len8 v ∧ byt len8 v ≤ 8 ∧ 2 ^ ((byt len8 v).toNat - 1) ≤ v ∧ v < 2 ^ (byt len8 v).toNat) := by decide +kernel
theorem idx8 {i : Int} (h0 : 0 ≤ i) (h1 : i ≤ 255) : idxA (.p (.str len8)) (.p (.int .u8 i)) = some (.p (.int .u8 (byt len8 i.toNat))) := idx_in h0 (by rw [len8_len]; omega)
theorem map_shr16 (x : Int) : binAV .shr (.p (.int .u64 x)) (.p (.int .u64 16)) = some (.p (.int .u64 (x / 65536))) := by
  rw [map_shr (by decide) (by decide)]; rfl
theorem map_shr8 (x : Int) : binAV .shr (.p (.int .u64 x)) (.p (.int .u64 8)) = some (.p (.int .u64 (x / 256))) := by
  rw [map_shr (by decide) (by decide)]; rfl
theorem len_scale {y a t : Nat} (h1 : 1 ≤ t) (l : 2 ^ (t - 1) ≤ y / 2 ^ a) (u : y / 2 ^ a < 2 ^ t) : 2 ^ (a + t - 1) ≤ y ∧ y < 2 ^ (a + t) := by
  have p : 0 < 2 ^ a := Nat.pow_pos (by decide)
  have e1 : 2 ^ (a + t - 1) = 2 ^ (t - 1) * 2 ^ a := by rw [← Nat.pow_add]; congr 1; omega
  have e2 : 2 ^ (a + t) = 2 ^ t * 2 ^ a := by rw [← Nat.pow_add]; congr 1; omega
  rw [e1, e2]
  exact ⟨(Nat.le_div_iff_mul_le p).1 l, (Nat.div_lt_iff_lt_mul p).1 u⟩
theorem len_end {y a : Nat} {r : Option (List PV)} (h1 : 1 ≤ y / 2 ^ a) (h2 : y / 2 ^ a < 256) (ha : a ≤ 56) (h : 1 ≤ byt len8 (y / 2 ^ a) ∧ byt len8 (y / 2 ^ a) ≤ 8 → r = some [.int .i64 (a + byt len8 (y / 2 ^ a))]) :
    ∃ n : Nat, r = some [.int .i64 (n : Int)] ∧ 1 ≤ n ∧ n ≤ 64 ∧ 2 ^ (n - 1) ≤ y ∧ y < 2 ^ n := by
  obtain ⟨b1, b2, b3, b4⟩ := len8_ok _ h2 h1
  obtain ⟨c1, c2⟩ := len_scale (t := (byt len8 (y / 2 ^ a)).toNat) (by omega) b3 b4
  refine ⟨a + (byt len8 (y / 2 ^ a)).toNat, ?_, by omega, by omega, c1, c2⟩
  rw [h ⟨b1, b2⟩, show ((a + (byt len8 (y / 2 ^ a)).toNat : Nat) : Int) = a + byt len8 (y / 2 ^ a) by omega]
theorem res_Len64 {y : Nat} (h : 1 ≤ y ∧ y ≤ 18446744073709551615) : ∃ n : Nat, res Γ 153 [.int .u64 y] = some [.int .i64 (n : Int)] ∧ 1 ≤ n ∧ n ≤ 64 ∧ 2 ^ (n - 1) ≤ y ∧ y < 2 ^ n := by
  have hr : 1 ≤ y ∧ y ≤ 255 ∨ 256 ≤ y ∧ y ≤ 65535 ∨ 65536 ≤ y ∧ y ≤ 16777215 ∨ 16777216 ≤ y ∧ y ≤ 4294967295 ∨ 4294967296 ≤ y ∧ y ≤ 1099511627775 ∨ 1099511627776 ≤ y ∧ y ≤ 281474976710655 ∨ 281474976710656 ≤ y ∧ y ≤ 72057594037927935 ∨ 72057594037927936 ≤ y ∧ y ≤ 18446744073709551615 := by omega
  rcases hr with hr | hr | hr | hr | hr | hr | hr | hr
  · refine len_end (a := 0) (by omega) (by omega) (by omega) fun hb => ?_
    have ev : ((y : Int)).toNat = y / 2 ^ 0 := by omega
    refine res_code (fn := len64c) rfl rfl ?_
    simp (disch := first | assumption | omega | decide | (simp only [lens] <;> omega) | fail) only [go_sem, len64c, idx8, ev]
    simp
  · refine len_end (a := 8) (by omega) (by omega) (by omega) fun hb => ?_
    have ev : ((y : Int) / 256).toNat = y / 2 ^ 8 := by omega
    refine res_code (fn := len64c) rfl rfl ?_
    simp (disch := first | assumption | omega | decide | (simp only [lens] <;> omega) | fail) only [go_sem, len64c, map_shr8, idx8, ev]
    simp
  · refine len_end (a := 16) (by omega) (by omega) (by omega) fun hb => ?_
    have ev : ((y : Int) / 65536).toNat = y / 2 ^ 16 := by omega
    refine res_code (fn := len64c) rfl rfl ?_
    simp (disch := first | assumption | omega | decide | (simp only [lens] <;> omega) | fail) only [go_sem, len64c, map_shr16, idx8, ev]
    simp
  · refine len_end (a := 24) (by omega) (by omega) (by omega) fun hb => ?_
    have ev : ((y : Int) / 65536 / 256).toNat = y / 2 ^ 24 := by omega
    refine res_code (fn := len64c) rfl rfl ?_
    simp (disch := first | assumption | omega | decide | (simp only [lens] <;> omega) | fail) only [go_sem, len64c, map_shr16, map_shr8, idx8, ev]
    simp
  · refine len_end (a := 32) (by omega) (by omega) (by omega) fun hb => ?_
    have ev : ((y : Int) / 4294967296).toNat = y / 2 ^ 32 := by omega
    refine res_code (fn := len64c) rfl rfl ?_
    simp (disch := first | assumption | omega | decide | (simp only [lens] <;> omega) | fail) only [go_sem, len64c, map_shr32, idx8, ev]
    simp
  · refine len_end (a := 40) (by omega) (by omega) (by omega) fun hb => ?_
    have ev : ((y : Int) / 4294967296 / 256).toNat = y / 2 ^ 40 := by omega
    refine res_code (fn := len64c) rfl rfl ?_
    simp (disch := first | assumption | omega | decide | (simp only [lens] <;> omega) | fail) only [go_sem, len64c, map_shr32, map_shr8, idx8, ev]
    simp
  · refine len_end (a := 48) (by omega) (by omega) (by omega) fun hb => ?_
    have ev : ((y : Int) / 4294967296 / 65536).toNat = y / 2 ^ 48 := by omega
    refine res_code (fn := len64c) rfl rfl ?_
    simp (disch := first | assumption | omega | decide | (simp only [lens] <;> omega) | fail) only [go_sem, len64c, map_shr32, map_shr16, idx8, ev]
    simp
  · refine len_end (a := 56) (by omega) (by omega) (by omega) fun hb => ?_
    have ev : ((y : Int) / 4294967296 / 65536 / 256).toNat = y / 2 ^ 56 := by omega
    refine res_code (fn := len64c) rfl rfl ?_
    simp (disch := first | assumption | omega | decide | (simp only [lens] <;> omega) | fail) only [go_sem, len64c, map_shr32, map_shr16, map_shr8, idx8, ev]
    simp
theorem res_LZ {y : Nat} (h : 1 ≤ y ∧ y ≤ 18446744073709551615) : ∃ s : Nat, res Γ 150 [.int .u64 y] = some [.int .i64 (s : Int)] ∧ s ≤ 63 ∧ 9223372036854775808 ≤ y * 2 ^ s ∧ y * 2 ^ s < 18446744073709551616 := by
  obtain ⟨n, e, h1, h2, h3, h4⟩ := res_Len64 h
  have e2 : ((64 : Int) - (n : Int)) = ((64 - n : Nat) : Int) := by omega
  refine ⟨64 - n, ?_, by omega, ?_, ?_⟩
  · refine res_code (fn := math_bits_LeadingZeros64) rfl rfl ?_
    simp (disch := first | assumption | omega | decide | (simp only [lens] <;> omega) | fail) only [go_sem, math_bits_LeadingZeros64, e, e2]
  · have p : 2 ^ (n - 1) * 2 ^ (64 - n) = 9223372036854775808 := by rw [← Nat.pow_add, show n - 1 + (64 - n) = 63 by omega]
    rw [← p]; exact Nat.mul_le_mul_right _ h3
  · have p : 2 ^ n * 2 ^ (64 - n) = 18446744073709551616 := by rw [← Nat.pow_add, show n + (64 - n) = 64 by omega]
    rw [← p]; exact Nat.mul_lt_mul_of_pos_right h4 (Nat.pow_pos (by decide))
end Ab
namespace Ab
open Go (IntKind BinOp UnOp)
theorem div_l2_ok {Y s n1 n0 U u u0 D : Int} (hY : Y = n1 * 4294967296 + n0) (h1 : 2147483648 ≤ n1 ∧ n1 < 4294967296) (hn : 0 ≤ n0 ∧ n0 < 4294967296) (hU : 0 ≤ U ∧ U < Y) (hu : 0 ≤ u ∧ u < 4294967296)
    (hD0 : 0 ≤ D) (hD : D * Y ≤ U * 4294967296 + u) (hD' : U * 4294967296 + u < (D + 1) * Y) : ∀ (n : Nat) (q r : Int) (Q : Out → Prop), U = q * n1 + r → 0 ≤ r → r < 4294967296 → D ≤ q → q ≤ 8589934592 → 4294967296 ≤ r + n * 2147483648 →
    Q (.nrm, [(2, .p (.int .u64 Y)), (8, .p (.int .u64 s)), (9, .p (.int .u64 n1)), (10, .p (.int .u64 n0)), (11, .p (.int .u64 U)), (13, .p (.int .u64 u)), (14, .p (.int .u64 u0)), (15, .p (.int .u64 D))], []) →
    Wp Γ math_bits_Div64_l2 [(2, .p (.int .u64 Y)), (8, .p (.int .u64 s)), (9, .p (.int .u64 n1)), (10, .p (.int .u64 n0)), (11, .p (.int .u64 U)), (13, .p (.int .u64 u)), (14, .p (.int .u64 u0)), (15, .p (.int .u64 q)), (16, .p (.int .u64 r))] [] (InBlk [2, 8, 9, 10, 11, 13, 14, 15] 0 Q) := by
  have hpos : 0 < Y := by omega
  intro n
  induction n with
  | zero => intro q r Q _ _ h _ _ h'; omega
  | succ n ih =>
    intro q r Q e r0 r1 hq hq2 hm hQ
    have eU : U = (q - 1) * n1 + (r + n1) := by rw [Int.sub_mul]; omega
    rw [W_loop (L := math_bits_Div64_l2) rfl]
    by_cases hc : 4294967296 ≤ q
    · have hd : D ≤ q - 1 := by have := dig_lt hU.2 hu.2 hD hpos; omega
      simp (disch := first | assumption | omega | decide | (simp only [lens] <;> omega) | fail) only [go_sem]
      refine cond_split (fun hc => ?_) (fun hc => ?_)
      · have := dig_break (q := q - 1) (r := r + n1) hY (by omega) hn.2 hn.1 eU (by omega) hU.2 hu.1 hD' hd (by omega)
        obtain ⟨rfl, _⟩ := this
        simp (disch := first | assumption | omega | decide | (simp only [lens] <;> omega) | fail) only [go_sem]
        exact hQ
      · simp (disch := first | assumption | omega | decide | (simp only [lens] <;> omega) | fail) only [go_sem]
        exact ih (q - 1) (r + n1) Q eU (by omega) (by omega) hd (by omega) (by omega) hQ
    · have b : 0 ≤ q * n0 ∧ q * n0 ≤ 18446744065119617025 := ⟨Int.mul_nonneg (by omega) hn.1, Int.le_trans (Int.mul_le_mul (show q ≤ 4294967295 by omega) (show n0 ≤ 4294967295 by omega) hn.1 (by decide)) (by decide)⟩
      simp (disch := first | assumption | omega | decide | (simp only [lens] <;> omega) | fail) only [go_sem]
      refine cond_split (fun hc => ?_) (fun hc => ?_)
      · have hd := dig_down hY e (by simpa using hc) hD hpos
        simp (disch := first | assumption | omega | decide | (simp only [lens] <;> omega) | fail) only [go_sem]
        refine cond_split (fun hc => ?_) (fun hc => ?_)
        · have := dig_break (q := q - 1) (r := r + n1) hY (by omega) hn.2 hn.1 eU (by omega) hU.2 hu.1 hD' hd (by omega)
          obtain ⟨rfl, _⟩ := this
          simp (disch := first | assumption | omega | decide | (simp only [lens] <;> omega) | fail) only [go_sem]
          exact hQ
        · simp (disch := first | assumption | omega | decide | (simp only [lens] <;> omega) | fail) only [go_sem]
          exact ih (q - 1) (r + n1) Q eU (by omega) (by omega) hd (by omega) (by omega) hQ
      · have := dig_exit hY e (by omega) hD' hq hpos
        subst this
        simp (disch := first | assumption | omega | decide | (simp only [lens] <;> omega) | fail) only [go_sem]
        exact hQ
theorem div_l1_ok {Y s n1 n0 U u q1 D : Int} (hY : Y = n1 * 4294967296 + n0) (h1 : 2147483648 ≤ n1 ∧ n1 < 4294967296) (hn : 0 ≤ n0 ∧ n0 < 4294967296) (hU : 0 ≤ U ∧ U < Y) (hu : 0 ≤ u ∧ u < 4294967296)
    (hD0 : 0 ≤ D) (hD : D * Y ≤ U * 4294967296 + u) (hD' : U * 4294967296 + u < (D + 1) * Y) : ∀ (n : Nat) (q r : Int) (Q : Out → Prop), U = q * n1 + r → 0 ≤ r → r < 4294967296 → D ≤ q → q ≤ 8589934592 → 4294967296 ≤ r + n * 2147483648 →
    Q (.nrm, [(2, .p (.int .u64 Y)), (8, .p (.int .u64 s)), (14, .p (.int .u64 u)), (15, .p (.int .u64 q1)), (17, .p (.int .u64 U)), (18, .p (.int .u64 D))], []) →
    Wp Γ math_bits_Div64_l1 [(2, .p (.int .u64 Y)), (8, .p (.int .u64 s)), (9, .p (.int .u64 n1)), (10, .p (.int .u64 n0)), (14, .p (.int .u64 u)), (15, .p (.int .u64 q1)), (16, .p (.int .u64 r)), (17, .p (.int .u64 U)), (18, .p (.int .u64 q))] [] (InBlk [2, 8, 14, 15, 17, 18] 2 Q) := by
  have hpos : 0 < Y := by omega
  intro n
  induction n with
  | zero => intro q r Q _ _ h _ _ h'; omega
  | succ n ih =>
    intro q r Q e r0 r1 hq hq2 hm hQ
    have eU : U = (q - 1) * n1 + (r + n1) := by rw [Int.sub_mul]; omega
    rw [W_loop (L := math_bits_Div64_l1) rfl]
    by_cases hc : 4294967296 ≤ q
    · have hd : D ≤ q - 1 := by have := dig_lt hU.2 hu.2 hD hpos; omega
      simp (disch := first | assumption | omega | decide | (simp only [lens] <;> omega) | fail) only [go_sem]
      refine cond_split (fun hc => ?_) (fun hc => ?_)
      · have := dig_break (q := q - 1) (r := r + n1) hY (by omega) hn.2 hn.1 eU (by omega) hU.2 hu.1 hD' hd (by omega)
        obtain ⟨rfl, _⟩ := this
        simp (disch := first | assumption | omega | decide | (simp only [lens] <;> omega) | fail) only [go_sem]
        exact hQ
      · simp (disch := first | assumption | omega | decide | (simp only [lens] <;> omega) | fail) only [go_sem]
        exact ih (q - 1) (r + n1) Q eU (by omega) (by omega) hd (by omega) (by omega) hQ
    · have b : 0 ≤ q * n0 ∧ q * n0 ≤ 18446744065119617025 := ⟨Int.mul_nonneg (by omega) hn.1, Int.le_trans (Int.mul_le_mul (show q ≤ 4294967295 by omega) (show n0 ≤ 4294967295 by omega) hn.1 (by decide)) (by decide)⟩
      simp (disch := first | assumption | omega | decide | (simp only [lens] <;> omega) | fail) only [go_sem]
      refine cond_split (fun hc => ?_) (fun hc => ?_)
      · have hd := dig_down hY e (by simpa using hc) hD hpos
        simp (disch := first | assumption | omega | decide | (simp only [lens] <;> omega) | fail) only [go_sem]
        refine cond_split (fun hc => ?_) (fun hc => ?_)
        · have := dig_break (q := q - 1) (r := r + n1) hY (by omega) hn.2 hn.1 eU (by omega) hU.2 hu.1 hD' hd (by omega)
          obtain ⟨rfl, _⟩ := this
          simp (disch := first | assumption | omega | decide | (simp only [lens] <;> omega) | fail) only [go_sem]
          exact hQ
        · simp (disch := first | assumption | omega | decide | (simp only [lens] <;> omega) | fail) only [go_sem]
          exact ih (q - 1) (r + n1) Q eU (by omega) (by omega) hd (by omega) (by omega) hQ
      · have := dig_exit hY e (by omega) hD' hq hpos
        subst this
        simp (disch := first | assumption | omega | decide | (simp only [lens] <;> omega) | fail) only [go_sem]
        exact hQ
end Ab
namespace Ab
theorem knuth {N hi lo y s Y U T : Nat} (hs : s ≤ 63) (hh : hi < y) (hl : lo < 18446744073709551616) (hN : N = hi * 18446744073709551616 + lo) (hY : Y = y * 2 ^ s) (hU : U = hi * 2 ^ s + lo / 2 ^ (64 - s)) (hT : T = lo * 2 ^ s % 18446744073709551616) :
    U < Y ∧ lo / 2 ^ (64 - s) < 2 ^ s ∧ hi * 2 ^ s < Y ∧
    ∀ D V E R : Nat, D = (U * 4294967296 + T / 4294967296) / Y → V = (U * 4294967296 + T / 4294967296) % Y → E = (V * 4294967296 + T % 4294967296) / Y → R = (V * 4294967296 + T % 4294967296) % Y → D * 4294967296 + E = N / y ∧ R / 2 ^ s = N % y := by
  have p : 0 < 2 ^ s := Nat.pow_pos (by decide)
  have eM : 2 ^ (64 - s) * 2 ^ s = 18446744073709551616 := by rw [← Nat.pow_add, show 64 - s + s = 64 by omega]
  have e1 : lo * 2 ^ s / 18446744073709551616 = lo / 2 ^ (64 - s) := by rw [← eM, Nat.mul_div_mul_right _ _ p]
  have e2 : lo * 2 ^ s = 18446744073709551616 * (lo / 2 ^ (64 - s)) + T := by rw [hT, ← e1]; exact (Nat.div_add_mod _ _).symm
  have hT2 : T < 18446744073709551616 := by rw [hT]; exact Nat.mod_lt _ (by decide)
  have e3 : U * 18446744073709551616 + T = N * 2 ^ s := by
    rw [hU, hN, Nat.add_mul, Nat.add_mul, e2, Nat.mul_right_comm]
    omega
  have l1 : lo / 2 ^ (64 - s) < 2 ^ s := Nat.div_lt_of_lt_mul (by rw [eM]; exact hl)
  have l2 : (hi + 1) * 2 ^ s ≤ Y := by rw [hY]; exact Nat.mul_le_mul_right _ hh
  rw [Nat.add_mul, Nat.one_mul] at l2
  have hY0 : 0 < Y := by omega
  refine ⟨by omega, l1, by omega, ?_⟩
  intro D V E R hD hV hE hR
  have a1 := Nat.div_add_mod (U * 4294967296 + T / 4294967296) Y
  have a2 := Nat.div_add_mod (V * 4294967296 + T % 4294967296) Y
  rw [← hD, ← hV] at a1
  rw [← hE, ← hR] at a2
  have b : R < Y := by rw [hR]; exact Nat.mod_lt _ hY0
  have e4 : N * 2 ^ s = Y * (D * 4294967296 + E) + R := by
    rw [Nat.mul_add, ← Nat.mul_assoc, ← e3]
    omega
  have c1 : N * 2 ^ s / Y = D * 4294967296 + E := by
    rw [e4, Nat.mul_add_div hY0, Nat.div_eq_of_lt b, Nat.add_zero]
  have c2 : N * 2 ^ s % Y = R := by rw [e4, Nat.mul_add_mod, Nat.mod_eq_of_lt b]
  rw [hY, Nat.mul_div_mul_right _ _ p] at c1
  rw [hY, Nat.mul_mod_mul_right] at c2
  exact ⟨c1.symm, by rw [← c2, Nat.mul_div_cancel _ p]⟩
end Ab
namespace Ab
open Go (IntKind BinOp UnOp)
theorem map_orN {H L : Nat} (h : H + L < 18446744073709551616) (e : H ||| L = H + L) : binAV .or (.p (.int .u64 (H : Int))) (.p (.int .u64 (L : Int))) = some (.p (.int .u64 ((H + L : Nat) : Int))) := by
  have e0 : ∀ n : Nat, n < 18446744073709551616 → (BitVec.ofInt IntKind.u64.bits (n : Int)).toNat = n := by
    intro n hn
    rw [BitVec.toNat_ofInt]
    have e3 : ((2 ^ IntKind.u64.bits : Nat) : Int) = 18446744073709551616 := by decide
    rw [e3]; omega
  have key : ((BitVec.ofInt IntKind.u64.bits (H : Int) ||| BitVec.ofInt IntKind.u64.bits (L : Int)).toNat : Int) = ((H + L : Nat) : Int) := by
    rw [BitVec.toNat_or, e0 H (by omega), e0 L (by omega), e]
  simp only [binAV, binPV, binInt, true_or, if_true, Option.map_some, key]
  rw [wrap_u64 (by omega) (by omega)]
theorem res_Div64_0 {lo y : Nat} (hy : 0 < y) (hy2 : y < 18446744073709551616) (hl : lo < 18446744073709551616) : res Γ 147 [.int .u64 ((0 : Nat) : Int), .int .u64 (lo : Int), .int .u64 (y : Int)] = some [.int .u64 ((lo / y : Nat) : Int), .int .u64 ((lo % y : Nat) : Int)] := by
  refine res_code (fn := math_bits_Div64) rfl rfl ?_
  simp (disch := first | assumption | omega | decide | (simp only [lens] <;> omega) | fail) only [go_sem, math_bits_Div64, map_quo64]
  simp
theorem res_Div64_pos {hi lo y : Nat} (h0 : 0 < hi) (h : hi < y) (hy : y < 18446744073709551616) (hl : lo < 18446744073709551616) :
    res Γ 147 [.int .u64 (hi : Int), .int .u64 (lo : Int), .int .u64 (y : Int)] = some [.int .u64 (((hi * 18446744073709551616 + lo) / y : Nat) : Int), .int .u64 (((hi * 18446744073709551616 + lo) % y : Nat) : Int)] := by
  obtain ⟨s, ez, hs, hs1, hs2⟩ := res_LZ (y := y) (by omega)
  obtain ⟨Y, hY⟩ : ∃ Y, Y = y * 2 ^ s := ⟨_, rfl⟩
  obtain ⟨T, hT⟩ : ∃ T, T = lo * 2 ^ s % 18446744073709551616 := ⟨_, rfl⟩
  obtain ⟨U, hU⟩ : ∃ U, U = hi * 2 ^ s + lo / 2 ^ (64 - s) := ⟨_, rfl⟩
  obtain ⟨k1, k2, k3, k4⟩ := knuth (N := hi * 18446744073709551616 + lo) hs h hl rfl hY hU hT
  obtain ⟨D, hD⟩ : ∃ D, D = (U * 4294967296 + T / 4294967296) / Y := ⟨_, rfl⟩
  obtain ⟨V, hV⟩ : ∃ V, V = (U * 4294967296 + T / 4294967296) % Y := ⟨_, rfl⟩
  obtain ⟨E, hE⟩ : ∃ E, E = (V * 4294967296 + T % 4294967296) / Y := ⟨_, rfl⟩
  obtain ⟨R, hR⟩ : ∃ R, R = (V * 4294967296 + T % 4294967296) % Y := ⟨_, rfl⟩
  obtain ⟨f1, f2⟩ := k4 D V E R hD hV hE hR
  have hT2 : T < 18446744073709551616 := by rw [hT]; exact Nat.mod_lt _ (by decide)
  rw [← hY] at hs1 hs2
  have hV2 : V < Y := by rw [hV]; exact Nat.mod_lt _ (by omega)
  have hR2 : R < Y := by rw [hR]; exact Nat.mod_lt _ (by omega)
  have d1 := Nat.div_add_mod (U * 4294967296 + T / 4294967296) Y
  have d2 := Nat.div_add_mod (V * 4294967296 + T % 4294967296) Y
  rw [← hD, ← hV] at d1
  rw [← hE, ← hR] at d2
  have m1 : D * Y ≤ U * 4294967296 + T / 4294967296 := by rw [Nat.mul_comm]; omega
  have m2 : E * Y ≤ V * 4294967296 + T % 4294967296 := by rw [Nat.mul_comm]; omega
  have m1' : U * 4294967296 + T / 4294967296 < (D + 1) * Y := by rw [Nat.add_mul D 1 Y, Nat.mul_comm D Y, Nat.one_mul Y, ← d1]; exact Nat.add_lt_add_left hV2 _
  have m2' : V * 4294967296 + T % 4294967296 < (E + 1) * Y := by rw [Nat.add_mul E 1 Y, Nat.mul_comm E Y, Nat.one_mul Y, ← d2]; exact Nat.add_lt_add_left hR2 _
  have lD : D < 4294967296 := Nat.lt_of_mul_lt_mul_right (a := Y) (by omega)
  have lE : E < 4294967296 := Nat.lt_of_mul_lt_mul_right (a := Y) (by omega)
  obtain ⟨H, hH⟩ : ∃ H, H = hi * 2 ^ s := ⟨_, rfl⟩
  obtain ⟨L, hL⟩ : ∃ L, L = lo / 2 ^ (64 - s) := ⟨_, rfl⟩
  have eor : H ||| L = H + L := by rw [hH, Nat.mul_comm]; rw [← hL] at k2; exact (Nat.two_pow_add_eq_or_of_lt k2 hi).symm
  rw [← hH, ← hL] at hU
  rw [← hH] at k3
  have eY : (y : Int) * 2 ^ s = (Y : Int) := by rw [hY]; simp
  have eH : (hi : Int) * 2 ^ s = (H : Int) := by rw [hH]; simp
  have eT : IntKind.u64.wrap ((lo : Int) * 2 ^ s) = (T : Int) := by rw [hT, wrap_u64m]; simp
  have eL : (lo : Int) / 2 ^ (64 - s) = (L : Int) := by rw [hL]; simp
  have e64 : ((64 : Int) - (s : Int)).toNat = 64 - s := by omega
  have eU := map_orN (H := H) (L := L) (by omega) eor
  rw [← hU] at eU
  have i1 : (D : Int) * (Y : Int) ≤ (U : Int) * 4294967296 + (T : Int) / 4294967296 := by omega
  have i1' : (U : Int) * 4294967296 + (T : Int) / 4294967296 < ((D : Int) + 1) * (Y : Int) := by rw [Nat.add_mul, Nat.one_mul] at m1'; rw [Int.add_mul, Int.one_mul]; omega
  have i2 : (E : Int) * (Y : Int) ≤ (V : Int) * 4294967296 + (T : Int) % 4294967296 := by omega
  have i2' : (V : Int) * 4294967296 + (T : Int) % 4294967296 < ((E : Int) + 1) * (Y : Int) := by rw [Nat.add_mul, Nat.one_mul] at m2'; rw [Int.add_mul, Int.one_mul]; omega
  have g1 : (Y : Int) * (D : Int) + (V : Int) = (U : Int) * 4294967296 + (T : Int) / 4294967296 := by omega
  have g2 : (Y : Int) * (E : Int) + (R : Int) = (V : Int) * 4294967296 + (T : Int) % 4294967296 := by omega
  have eV : IntKind.u64.wrap (IntKind.u64.wrap (IntKind.u64.wrap ((U : Int) * 4294967296) + (T : Int) / 4294967296) - IntKind.u64.wrap ((D : Int) * (Y : Int))) = (V : Int) := by
    rw [Int.mul_comm] at g1
    simp only [wrap_u64m]; omega
  have eR : IntKind.u64.wrap (IntKind.u64.wrap (IntKind.u64.wrap ((V : Int) * 4294967296) + (T : Int) % 4294967296) - IntKind.u64.wrap ((E : Int) * (Y : Int))) = (R : Int) := by
    rw [Int.mul_comm] at g2
    simp only [wrap_u64m]; omega
  have eQ : (R : Int) / 2 ^ s = ((R / 2 ^ s : Nat) : Int) := by simp
  have n1 : (0 : Int) < (Y : Int) / 4294967296 := by omega
  have q1a := dig_first (Y := (Y : Int)) (n1 := (Y : Int) / 4294967296) (n0 := (Y : Int) % 4294967296) (U := U) (u := (T : Int) / 4294967296) (Q := D) (by omega) (by omega) (by omega) (by omega) (by omega) i1
  have q2a := dig_first (Y := (Y : Int)) (n1 := (Y : Int) / 4294967296) (n0 := (Y : Int) % 4294967296) (U := V) (u := (T : Int) % 4294967296) (Q := E) (by omega) (by omega) (by omega) (by omega) (by omega) i2
  have up : ∀ x : Int, 0 ≤ x → x < 18446744073709551616 → x / ((Y : Int) / 4294967296) ≤ 8589934592 ∧ x = x / ((Y : Int) / 4294967296) * ((Y : Int) / 4294967296) + x % ((Y : Int) / 4294967296) ∧ 0 ≤ x % ((Y : Int) / 4294967296) ∧ x % ((Y : Int) / 4294967296) < (Y : Int) / 4294967296 := by
    intro x h0 h1
    have r0 := Int.emod_nonneg x (Int.ne_of_gt n1)
    have r1 := Int.emod_lt_of_pos x n1
    have e := Int.mul_ediv_add_emod x ((Y : Int) / 4294967296)
    rw [Int.mul_comm] at e
    refine ⟨?_, by omega, r0, r1⟩
    have hle : x / ((Y : Int) / 4294967296) * 2147483648 ≤ x / ((Y : Int) / 4294967296) * ((Y : Int) / 4294967296) := Int.mul_le_mul_of_nonneg_left (by omega) (Int.ediv_nonneg h0 (by omega))
    omega
  have a1 : 0 ≤ (U : Int) / ((Y : Int) / 4294967296) * ((Y : Int) / 4294967296) := Int.mul_nonneg (Int.ediv_nonneg (by omega) (by omega)) (by omega)
  have a2 : 0 ≤ (V : Int) / ((Y : Int) / 4294967296) * ((Y : Int) / 4294967296) := Int.mul_nonneg (Int.ediv_nonneg (by omega) (by omega)) (by omega)
  obtain ⟨x1, x2, x3, x4⟩ := up U (by omega) (by omega)
  obtain ⟨z1, z2, z3, z4⟩ := up V (by omega) (by omega)
  have w1 : (U : Int) - (U : Int) / ((Y : Int) / 4294967296) * ((Y : Int) / 4294967296) = (U : Int) % ((Y : Int) / 4294967296) := by omega
  have w2 : (V : Int) - (V : Int) / ((Y : Int) / 4294967296) * ((Y : Int) / 4294967296) = (V : Int) % ((Y : Int) / 4294967296) := by omega
  have r1 : ∀ x : Int, binAV .shr (.p (.int .u64 x)) (.p (.int .u64 (s : Int))) = some (.p (.int .u64 (x / 2 ^ s))) := fun x => by rw [map_shr (by omega) (by omega), toNat_cast]
  have r2 : ∀ x : Int, binAV .shr (.p (.int .u64 x)) (.p (.int .u64 (64 - (s : Int)))) = some (.p (.int .u64 (x / 2 ^ (64 - s)))) := fun x => by rw [map_shr (by omega) (by omega), e64]
  have r3 : ∀ x : Int, binAV .shl (.p (.int .u64 x)) (.p (.int .u64 (s : Int))) = some (.p (.int .u64 (IntKind.u64.wrap (x * 2 ^ s)))) := fun x => by rw [map_shl (by omega) (by omega), toNat_cast]
  rw [← f1, ← f2]
  refine res_code (fn := math_bits_Div64) rfl rfl ?_
  simp (disch := first | assumption | omega | decide | (simp only [lens] <;> omega) | fail) only [go_sem, math_bits_Div64, ez, r2, r3, map_shr32, map_and32, map_quo64, eY, eH, eT, eL, eU, w1]
  refine div_l2_ok (Y := Y) (n1 := (Y : Int) / 4294967296) (n0 := (Y : Int) % 4294967296) (D := D) (by omega) (by omega) (by omega) (by omega) (by omega) (by omega) i1 i1' 2 _ _ _ x2 x3 (by omega) q1a x1 (by omega) ?_
  simp (disch := first | assumption | omega | decide | (simp only [lens] <;> omega) | fail) only [go_sem, eV, map_quo64, w2]
  refine div_l1_ok (Y := Y) (n1 := (Y : Int) / 4294967296) (n0 := (Y : Int) % 4294967296) (D := E) (by omega) (by omega) (by omega) (by omega) (by omega) (by omega) i2 i2' 2 _ _ _ z2 z3 (by omega) q2a z1 (by omega) ?_
  simp (disch := first | assumption | omega | decide | (simp only [lens] <;> omega) | fail) only [go_sem, eR, r1, eQ]
  simp
end Ab
namespace Ab
open Go (IntKind BinOp UnOp)
def mdR : Option Int → List PV
  | some n => [.int .i64 n, .bool true]
  | none => [.int .i64 0, .bool false]
theorem mdV_zero {a b c : Int} (h : c = 0) : mdV a b c = none := by unfold mdV; rw [if_pos h]
def mdQ (P C : Nat) : Nat := if C - P % C ≤ P % C then P / C + 1 else P / C
theorem mdV_no {a b c : Int} (h : c ≠ 0) (hq : 4611686018427387904 < mdQ (a.natAbs * b.natAbs) c.natAbs) : mdV a b c = none := by
  unfold mdV maxN
  unfold mdQ at hq
  rw [if_neg h]
  dsimp only
  rw [if_neg (by omega)]
theorem mdV_yes {a b c : Int} (h : c ≠ 0) (hq : mdQ (a.natAbs * b.natAbs) c.natAbs ≤ 4611686018427387904) :
    mdV a b c = some (if ((decide (a < 0) != decide (b < 0)) != decide (c < 0)) = true then -((mdQ (a.natAbs * b.natAbs) c.natAbs : Nat) : Int) else ((mdQ (a.natAbs * b.natAbs) c.natAbs : Nat) : Int)) := by
  unfold mdV maxN
  unfold mdQ at hq ⊢
  rw [if_neg h]
  dsimp only
  rw [if_pos (by omega)]
theorem res_size {a : Int} (h : -9223372036854775808 ≤ a ∧ a ≤ 9223372036854775807) : res Γ 148 [.int .i64 a] = some [.int .u64 (a.natAbs : Int)] := by
  refine res_code (fn := fixed_size) rfl rfl ?_
  by_cases hn : a < 0
  · have e1 : IntKind.u64.wrap a = a + 18446744073709551616 := by rw [wrap_u64m]; omega
    have e2 : IntKind.u64.wrap (0 - (a + 18446744073709551616)) = (a.natAbs : Int) := by rw [wrap_u64m]; omega
    simp (disch := first | assumption | omega | decide | (simp only [lens] <;> omega) | fail) only [go_sem, fixed_size, e1, e2]
  · have e1 : IntKind.u64.wrap a = (a.natAbs : Int) := by rw [wrap_u64m]; omega
    simp (disch := first | assumption | omega | decide | (simp only [lens] <;> omega) | fail) only [go_sem, fixed_size, e1]
theorem res_Mul64N {A B : Nat} (hA : A < 18446744073709551616) (hB : B < 18446744073709551616) : res Γ 149 [.int .u64 (A : Int), .int .u64 (B : Int)] = some [.int .u64 ((A * B / 18446744073709551616 : Nat) : Int), .int .u64 ((A * B % 18446744073709551616 : Nat) : Int)] := by
  rw [res_Mul64 (by omega) (by omega)]
  simp
theorem res_Div64 {P C : Nat} (hC : C < 18446744073709551616) (h : P / 18446744073709551616 < C) :
    res Γ 147 [.int .u64 ((P / 18446744073709551616 : Nat) : Int), .int .u64 ((P % 18446744073709551616 : Nat) : Int), .int .u64 (C : Int)] = some [.int .u64 ((P / C : Nat) : Int), .int .u64 ((P % C : Nat) : Int)] := by
  have hl : P % 18446744073709551616 < 18446744073709551616 := Nat.mod_lt _ (by decide)
  have e : P / 18446744073709551616 * 18446744073709551616 + P % 18446744073709551616 = P := Nat.div_add_mod' P _
  by_cases h0 : P / 18446744073709551616 = 0
  · have e2 : P % 18446744073709551616 = P := by omega
    rw [h0, e2, res_Div64_0 (by omega) hC (by omega)]
  · have := res_Div64_pos (by omega) h hC hl
    rw [e] at this
    exact this
theorem res_fixedMulDiv {a b c : Int} (ha : -9223372036854775808 ≤ a ∧ a ≤ 9223372036854775807) (hb : -9223372036854775808 ≤ b ∧ b ≤ 9223372036854775807) (hc : -9223372036854775808 ≤ c ∧ c ≤ 9223372036854775807) :
    res Γ 144 [.int .i64 a, .int .i64 b, .int .i64 c] = some (mdR (mdV a b c)) := by
  refine res_code (fn := fixed_MulDiv) rfl rfl ?_
  by_cases hc0 : c = 0
  · rw [mdV_zero hc0]
    simp (disch := first | assumption | omega | decide | (simp only [lens] <;> omega) | fail) only [go_sem, fixed_MulDiv, mdR]
  have s1 := res_size ha
  have s2 := res_size hb
  have s3 := res_size hc
  have no := @mdV_no a b c hc0
  have yes := @mdV_yes a b c hc0
  obtain ⟨A, hA⟩ : ∃ A, A = a.natAbs := ⟨_, rfl⟩
  obtain ⟨B, hB⟩ : ∃ B, B = b.natAbs := ⟨_, rfl⟩
  obtain ⟨C, hC⟩ : ∃ C, C = c.natAbs := ⟨_, rfl⟩
  rw [← hA] at s1 no yes
  rw [← hB] at s2 no yes
  rw [← hC] at s3 no yes
  obtain ⟨P, hP⟩ : ∃ P, P = A * B := ⟨_, rfl⟩
  have m := res_Mul64N (A := A) (B := B) (by omega) (by omega)
  rw [← hP] at m no yes
  have hCpos : 0 < C := by omega
  have dm := Nat.div_add_mod P C
  have rl := Nat.mod_lt P hCpos
  by_cases hh : C ≤ P / 18446744073709551616
  · have : 18446744073709551616 ≤ P / C := (Nat.le_div_iff_mul_le hCpos).2 (by omega)
    rw [no (by unfold mdQ; split <;> omega)]
    simp (disch := first | assumption | omega | decide | (simp only [lens] <;> omega) | fail) only [go_sem, fixed_MulDiv, mdR, s1, s2, s3, m]
  have d := res_Div64 (P := P) (C := C) (by omega) (by omega)
  by_cases hq : 4611686018427387904 < P / C
  · rw [no (by unfold mdQ; split <;> omega)]
    simp (disch := first | assumption | omega | decide | (simp only [lens] <;> omega) | fail) only [go_sem, fixed_MulDiv, mdR, s1, s2, s3, m, d]
  by_cases hr : C - P % C ≤ P % C
  · by_cases hq2 : 4611686018427387904 < P / C + 1
    · rw [no (by unfold mdQ; rw [if_pos hr]; exact hq2)]
      simp (disch := first | assumption | omega | decide | (simp only [lens] <;> omega) | fail) only [go_sem, fixed_MulDiv, mdR, s1, s2, s3, m, d]
    · have e : mdQ P C = P / C + 1 := by unfold mdQ; rw [if_pos hr]
      rw [e] at yes
      rw [yes (by omega)]
      cases ea : decide (a < 0) <;> cases eb : decide (b < 0) <;> cases ec : decide (c < 0) <;> simp (disch := first | assumption | omega | decide | (simp only [lens] <;> omega) | fail) only [go_sem, fixed_MulDiv, mdR, s1, s2, s3, m, d, ea, eb, ec] <;> simp
  · have e : mdQ P C = P / C := by unfold mdQ; rw [if_neg hr]
    rw [e] at yes
    rw [yes (by omega)]
    cases ea : decide (a < 0) <;> cases eb : decide (b < 0) <;> cases ec : decide (c < 0) <;> simp (disch := first | assumption | omega | decide | (simp only [lens] <;> omega) | fail) only [go_sem, fixed_MulDiv, mdR, s1, s2, s3, m, d, ea, eb, ec] <;> simp
end Ab
