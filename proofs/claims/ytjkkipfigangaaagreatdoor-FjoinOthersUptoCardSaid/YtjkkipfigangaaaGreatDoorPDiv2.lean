import Derived.Test.YtjkkipfigangaaaGreatDoorLAgg
import Derived.Test.YtjkkipfigangaaaGreatDoorAbRel
import Derived.Test.YtjkkipfigangaaaGreatDoorCode
namespace Ab
open Go (IntKind BinOp UnOp)
def addT (l : List Val) (i : Nat) : Val := addV (l.take i)
theorem addT_succ {l : List Val} {i : Nat} (h : i < l.length) : addT l (i + 1) = sumV (addT l i) (l.getD i (false, 0)) := by
  unfold addT addV
  rw [take_snoc' (false, 0) h, List.foldl_append]; rfl
theorem fixed_Add_l1_ok {kk : SK} (l : List Val) (hl : l.length < 1000000000) (B : Blk) (hB : ∃ a b, B = .box [.p a, .p b]) (Q : Out → Prop) : ∀ (k i : Nat) (T : Heap), i + k = l.length →
    (∀ T, Q (.nrm, [(2, .bx 0 0), (3, .bx 1 0)], B :: .box [.p (.bool (addV l).1), .p (.int .i64 (addV l).2)] :: T)) →
    Wp Γ fixed_Add_l1 [(2, .bx 0 0), (3, .bx 1 0), (7, .p (.sl kk 2 (vpv l))), (8, .p (.int .i64 (l.length : Int))), (9, .p (.int .i64 (i : Int)))] (B :: .box [.p (.bool (addT l i).1), .p (.int .i64 (addT l i).2)] :: T) (InBlk [2, 3] 0 Q) := by
  obtain ⟨a, b, rfl⟩ := hB
  intro k
  induction k with
  | zero =>
    intro i T hi hQ
    obtain rfl : i = l.length := by omega
    rw [W_loop (L := fixed_Add_l1) rfl]
    simp (disch := first | assumption | omega | decide | (simp only [lens] <;> omega) | fail) only [go_sem]
    have := hQ []
    rw [show addV l = addT l l.length by rw [addT, List.take_length]] at this
    exact this
  | succ k ih =>
    intro i T hi hQ
    have e := addT_succ (l := l) (i := i) (by omega)
    rw [W_loop (L := fixed_Add_l1) rfl]
    simp (disch := first | assumption | omega | decide | (simp only [lens] <;> omega) | fail) only [go_sem, valP]
    rw [← e]
    exact ih (i + 1) _ (by omega) hQ
@[go_sem] theorem res_fixedAdd {kk : SK} (l : List Val) (hl : l.length < 1000000000) : res Γ 136 [.sl kk 2 (vpv l)] = some [.agg [.bool (addV l).1, .int .i64 (addV l).2]] := by
  refine res_code (fn := fixed_Add) rfl rfl ?_
  simp (disch := first | assumption | omega | decide | (simp only [lens] <;> omega) | fail) only [go_sem, fixed_Add]
  refine fixed_Add_l1_ok l hl _ ⟨_, _, rfl⟩ _ l.length 0 [] (by omega) (fun T => ?_)
  simp (disch := first | assumption | omega | decide | (simp only [lens] <;> omega) | fail) only [go_sem]
theorem r1_Add_l1_ok {kk : SK} (l : List Val) (hl : l.length < 1000000000) (B : Blk) (hB : ∃ a b, B = .box [.p a, .p b]) (Q : Out → Prop) : ∀ (k i : Nat), i + k = l.length →
    (Q (.nrm, [(2, .bx 0 0), (3, .bx 1 0)], [B, .box [.p (.bool (addV l).1), .p (.int .i64 (addV l).2)]])) →
    Wp Γ r1_Add_l1 [(0, .p (.sl kk 2 (vpv l))), (2, .bx 0 0), (3, .bx 1 0), (4, .p (.int .i64 (i : Int)))] [B, .box [.p (.bool (addT l i).1), .p (.int .i64 (addT l i).2)]] (InBlk [2, 3] 0 Q) := by
  obtain ⟨a, b, rfl⟩ := hB
  intro k
  induction k with
  | zero =>
    intro i hi hQ
    obtain rfl : i = l.length := by omega
    rw [W_loop (L := r1_Add_l1) rfl]
    simp (disch := first | assumption | omega | decide | (simp only [lens] <;> omega) | fail) only [go_sem]
    rw [show addV l = addT l l.length by rw [addT, List.take_length]] at hQ
    exact hQ
  | succ k ih =>
    intro i hi hQ
    have e := addT_succ (l := l) (i := i) (by omega)
    rw [W_loop (L := r1_Add_l1) rfl]
    simp (disch := first | assumption | omega | decide | (simp only [lens] <;> omega) | fail) only [go_sem, valP]
    rw [← e]
    exact ih (i + 1) (by omega) hQ
@[go_sem] theorem res_r1Add {kk : SK} (l : List Val) (hl : l.length < 1000000000) : res Γ 128 [.sl kk 2 (vpv l)] = some [.agg [.bool (addV l).1, .int .i64 (addV l).2]] := by
  refine res_code (fn := r1_Add) rfl rfl ?_
  simp (disch := first | assumption | omega | decide | (simp only [lens] <;> omega) | fail) only [go_sem, r1_Add]
  refine r1_Add_l1_ok l hl _ ⟨_, _, rfl⟩ _ l.length 0 (by omega) ?_
  simp (disch := first | assumption | omega | decide | (simp only [lens] <;> omega) | fail) only [go_sem]
theorem agg2_nil {kind : Int} {l : List Val} (h : knL l = []) : aggV kind l = (false, 0) := by unfold aggV; rw [h]; rfl
theorem res_aggOf2 {kk : SK} (l : List Val) (hl : l.length < 1000000000) : res Γ 132 [.int .i64 2, .sl kk 2 (vpv l)] = some [.agg [.bool (aggV 2 l).1, .int .i64 (aggV 2 l).2]] := by
  have hk := knL_len l
  refine res_code (fn := agg_Of) rfl rfl ?_
  simp (disch := first | assumption | omega | decide | (simp only [lens] <;> omega) | fail) only [go_sem, agg_Of]
  cases h : knL l with
  | nil =>
    simp (disch := first | assumption | omega | decide | (simp only [lens] <;> omega) | fail) only [go_sem, agg2_nil h]
  | cons b k =>
    have e : aggV 2 l = addV (b :: k) := by unfold aggV; rw [h]; rfl
    rw [h] at hk
    simp only [List.length_cons] at hk
    simp (disch := first | assumption | omega | decide | (simp only [lens] <;> omega) | fail) only [go_sem, e, valP]
def bestV (kind : Int) (b : Val) (l : List Val) : Val := l.foldl (fun b v => if (kind = 4 ∧ b.2 < v.2) ∨ (kind = 5 ∧ v.2 < b.2) then v else b) b
theorem bestV_succ {kind : Int} {b : Val} {l : List Val} {i : Nat} (h : i < l.length) : bestV kind b (l.take (i + 1)) = if (kind = 4 ∧ (bestV kind b (l.take i)).2 < (l.getD i (false, 0)).2) ∨ (kind = 5 ∧ (l.getD i (false, 0)).2 < (bestV kind b (l.take i)).2) then l.getD i (false, 0) else bestV kind b (l.take i) := by
  unfold bestV
  rw [take_snoc' (false, 0) h, List.foldl_append]; rfl
theorem bestV_4 (b : Val) (l : List Val) : bestV 4 b l = maxV b l := by
  unfold bestV maxV; congr 1; funext b v; simp
theorem bestV_5 (b : Val) (l : List Val) : bestV 5 b l = minV b l := by
  unfold bestV minV; congr 1; funext b v; simp
theorem bestV_known {kind : Int} {b : Val} (hb : knV b = true) : ∀ {l : List Val}, (∀ v ∈ l, knV v = true) → knV (bestV kind b l) = true := by
  intro l
  induction l generalizing b with
  | nil => exact fun _ => hb
  | cons x l ih =>
    intro h
    unfold bestV at *
    rw [List.foldl_cons]
    split
    · exact ih (h x (by simp)) fun v hv => h v (by simp [hv])
    · exact ih hb fun v hv => h v (by simp [hv])
theorem r6_Of_l1_ok {kk : SK} (kind : Int) (b : Val) (l : List Val) (hl : l.length < 1000000000) (B : Blk) (Q : Out → Prop) : ∀ (k i : Nat), i + k = l.length →
    (Q (.nrm, [(0, .p (.int .i64 kind)), (4, .bx 0 0), (5, .p (.sl kk 2 (vpv (b :: l)))), (6, .bx 1 0)], [B, .box [.p (.bool (bestV kind b l).1), .p (.int .i64 (bestV kind b l).2)]])) →
    Wp Γ r6_Of_l1 [(0, .p (.int .i64 kind)), (4, .bx 0 0), (5, .p (.sl kk 2 (vpv (b :: l)))), (6, .bx 1 0), (7, .p (.int .i64 ((i + 1 : Nat) : Int)))] [B, .box [.p (.bool (bestV kind b (l.take i)).1), .p (.int .i64 (bestV kind b (l.take i)).2)]] (InBlk [0, 4, 5, 6] 0 Q) := by
  intro k
  induction k with
  | zero =>
    intro i hi hQ
    obtain rfl : i = l.length := by omega
    rw [W_loop (L := r6_Of_l1) rfl]
    simp (disch := first | assumption | omega | decide | (simp only [lens] <;> omega) | fail) only [go_sem]
    rw [List.take_length]
    exact hQ
  | succ k ih =>
    intro i hi hQ
    have e := bestV_succ (kind := kind) (b := b) (l := l) (i := i) (by omega)
    have ih := ih (i + 1) (by omega) hQ
    rw [e] at ih
    rw [W_loop (L := r6_Of_l1) rfl]
    by_cases h4 : kind = 4
    · by_cases hlt : (bestV kind b (l.take i)).2 < (l.getD i (false, 0)).2
      · rw [if_pos (.inl ⟨h4, hlt⟩)] at ih
        simp (disch := first | assumption | omega | decide | (simp only [lens] <;> omega) | fail) only [go_sem, valP]
        exact ih
      · rw [if_neg (by rintro (⟨_, h⟩ | ⟨h, _⟩) <;> omega)] at ih
        simp (disch := first | assumption | omega | decide | (simp only [lens] <;> omega) | fail) only [go_sem, valP]
        exact ih
    · by_cases h5 : kind = 5
      · by_cases hlt : (l.getD i (false, 0)).2 < (bestV kind b (l.take i)).2
        · rw [if_pos (.inr ⟨h5, hlt⟩)] at ih
          simp (disch := first | assumption | omega | decide | (simp only [lens] <;> omega) | fail) only [go_sem, valP]
          exact ih
        · rw [if_neg (by rintro (⟨h, _⟩ | ⟨_, h⟩) <;> omega)] at ih
          simp (disch := first | assumption | omega | decide | (simp only [lens] <;> omega) | fail) only [go_sem, valP]
          exact ih
      · rw [if_neg (by rintro (⟨h, _⟩ | ⟨h, _⟩) <;> contradiction)] at ih
        simp (disch := first | assumption | omega | decide | (simp only [lens] <;> omega) | fail) only [go_sem]
        exact ih
theorem agg2_cons {l : List Val} {b : Val} {k : List Val} (h : knL l = b :: k) : aggV 2 l = addV (b :: k) ∧ aggV 4 l = bestV 4 b k ∧ aggV 5 l = bestV 5 b k := by
  refine ⟨?_, ?_, ?_⟩
  · unfold aggV; rw [h]; rfl
  · unfold aggV; rw [h, bestV_4]; rfl
  · unfold aggV; rw [h, bestV_5]; rfl
theorem res_r6Of {kk : SK} (kind : Int) (hkind : kind = 2 ∨ kind = 4 ∨ kind = 5) (l : List Val) (hl : l.length < 1000000000) : res Γ 122 [.int .i64 kind, .sl kk 2 (vpv l)] = some [.agg [.bool (aggV kind l).1, .int .i64 (aggV kind l).2]] := by
  have hk := knL_len l
  refine res_code (fn := r6_Of) rfl rfl ?_
  simp (disch := first | assumption | omega | decide | (simp only [lens] <;> omega) | fail) only [go_sem, r6_Of]
  cases h : knL l with
  | nil =>
    simp (disch := first | assumption | omega | decide | (simp only [lens] <;> omega) | fail) only [go_sem, agg2_nil h]
  | cons b k =>
    obtain ⟨e2, e4, e5⟩ := agg2_cons h
    rw [h] at hk
    simp only [List.length_cons] at hk
    repeat' (first | (simp (disch := first | assumption | omega | decide | (simp only [lens] <;> omega) | fail) only [go_sem, valP]) | refine cond_split (fun hc => ?_) (fun hc => ?_) | refine gd_split_f (fun hc => ?_) (fun hc => ?_) | refine gd_split_t (fun hc => ?_) (fun hc => ?_))
    · refine r6_Of_l1_ok kind b k (by omega) _ _ k.length 0 (by omega) ?_
      rcases hkind with rfl | rfl | rfl
      · simp (disch := first | assumption | omega | decide | (simp only [lens] <;> omega) | fail) only [go_sem, e2]
      · simp (disch := first | assumption | omega | decide | (simp only [lens] <;> omega) | fail) only [go_sem, e4]
      · simp (disch := first | assumption | omega | decide | (simp only [lens] <;> omega) | fail) only [go_sem, e5]
    all_goals trace_state

theorem agg_Of_l1_ok {kk : SK} (l : List Val) (b : Val) (hb : knV b = true) (hk : ∀ v ∈ l, knV v = true) (hl : l.length < 1000000000) (B : Blk) (hB : ∃ a b, B = .box [.p a, .p b]) (Q : Out → Prop) : ∀ (k i : Nat) (T : Heap), i + k = l.length →
    (∀ T, Q (.nrm, [(4, .bx 0 0), (6, .bx 1 0)], B :: .box [.p (.bool (bestV 4 b l).1), .p (.int .i64 (bestV 4 b l).2)] :: T)) →
    Wp Γ agg_Of_l1 [(4, .bx 0 0), (6, .bx 1 0), (43, .p (.sl kk 2 (vpv l))), (44, .p (.int .i64 (l.length : Int))), (45, .p (.int .i64 (i : Int)))] (B :: .box [.p (.bool (bestV 4 b (l.take i)).1), .p (.int .i64 (bestV 4 b (l.take i)).2)] :: T) (InBlk [4, 6] 1 Q) := by
  obtain ⟨a1, a2, rfl⟩ := hB
  intro k
  induction k with
  | zero =>
    intro i T hi hQ
    obtain rfl : i = l.length := by omega
    rw [W_loop (L := agg_Of_l1) rfl]
    simp (disch := first | assumption | omega | decide | (simp only [lens] <;> omega) | fail) only [go_sem]
    rw [List.take_length]
    exact hQ []
  | succ k ih =>
    intro i T hi hQ
    have e := bestV_succ (kind := 4) (b := b) (l := l) (i := i) (by omega)
    have g1 := bestV_known (kind := 4) hb (l := l.take i) fun v hv => hk v (List.mem_of_mem_take hv)
    have g2 : knV (l.getD i (false, 0)) = true := hk _ (by rw [List.getD_eq_getElem?_getD, List.getElem?_eq_getElem (show i < l.length by omega)]; exact List.getElem_mem _)
    have e2 : lessV (bestV 4 b (l.take i)) (l.getD i (false, 0)) = decide ((bestV 4 b (l.take i)).2 < (l.getD i (false, 0)).2) := by simp only [lessV, g1, g2, Bool.true_and]
    have ih := fun T => ih (i + 1) T (by omega) hQ
    rw [e] at ih
    rw [W_loop (L := agg_Of_l1) rfl]
    simp (disch := first | assumption | omega | decide | (simp only [lens] <;> omega) | fail) only [go_sem, valP, e2]
    refine cond_split (fun hc => ?_) (fun hc => ?_)
    · rw [if_pos (.inl ⟨rfl, hc⟩)] at ih
      simp (disch := first | assumption | omega | decide | (simp only [lens] <;> omega) | fail) only [go_sem]
      exact ih _
    · rw [if_neg (by rintro (⟨_, h⟩ | ⟨h, _⟩) <;> omega)] at ih
      simp (disch := first | assumption | omega | decide | (simp only [lens] <;> omega) | fail) only [go_sem]
      exact ih _
theorem agg_Of_l2_ok {kk : SK} (l : List Val) (b : Val) (hb : knV b = true) (hk : ∀ v ∈ l, knV v = true) (hl : l.length < 1000000000) (B : Blk) (hB : ∃ a b, B = .box [.p a, .p b]) (Q : Out → Prop) : ∀ (k i : Nat) (T : Heap), i + k = l.length →
    (∀ T, Q (.nrm, [(4, .bx 0 0), (6, .bx 1 0)], B :: .box [.p (.bool (bestV 5 b l).1), .p (.int .i64 (bestV 5 b l).2)] :: T)) →
    Wp Γ agg_Of_l2 [(4, .bx 0 0), (6, .bx 1 0), (57, .p (.sl kk 2 (vpv l))), (58, .p (.int .i64 (l.length : Int))), (59, .p (.int .i64 (i : Int)))] (B :: .box [.p (.bool (bestV 5 b (l.take i)).1), .p (.int .i64 (bestV 5 b (l.take i)).2)] :: T) (InBlk [4, 6] 3 Q) := by
  obtain ⟨a1, a2, rfl⟩ := hB
  intro k
  induction k with
  | zero =>
    intro i T hi hQ
    obtain rfl : i = l.length := by omega
    rw [W_loop (L := agg_Of_l2) rfl]
    simp (disch := first | assumption | omega | decide | (simp only [lens] <;> omega) | fail) only [go_sem]
    rw [List.take_length]
    exact hQ []
  | succ k ih =>
    intro i T hi hQ
    have e := bestV_succ (kind := 5) (b := b) (l := l) (i := i) (by omega)
    have g1 := bestV_known (kind := 5) hb (l := l.take i) fun v hv => hk v (List.mem_of_mem_take hv)
    have g2 : knV (l.getD i (false, 0)) = true := hk _ (by rw [List.getD_eq_getElem?_getD, List.getElem?_eq_getElem (show i < l.length by omega)]; exact List.getElem_mem _)
    have e2 : lessV (l.getD i (false, 0)) (bestV 5 b (l.take i)) = decide ((l.getD i (false, 0)).2 < (bestV 5 b (l.take i)).2) := by simp only [lessV, g1, g2, Bool.true_and]
    have ih := fun T => ih (i + 1) T (by omega) hQ
    rw [e] at ih
    rw [W_loop (L := agg_Of_l2) rfl]
    simp (disch := first | assumption | omega | decide | (simp only [lens] <;> omega) | fail) only [go_sem, valP, e2]
    refine cond_split (fun hc => ?_) (fun hc => ?_)
    · rw [if_pos (.inr ⟨rfl, hc⟩)] at ih
      simp (disch := first | assumption | omega | decide | (simp only [lens] <;> omega) | fail) only [go_sem]
      exact ih _
    · rw [if_neg (by rintro (⟨h, _⟩ | ⟨_, h⟩) <;> omega)] at ih
      simp (disch := first | assumption | omega | decide | (simp only [lens] <;> omega) | fail) only [go_sem]
      exact ih _
theorem bestV_self4 (b : Val) (l : List Val) : bestV 4 b (b :: l) = bestV 4 b l := by
  unfold bestV
  rw [List.foldl_cons, if_neg (by rintro (⟨_, h⟩ | ⟨h, _⟩) <;> omega)]
theorem bestV_self5 (b : Val) (l : List Val) : bestV 5 b (b :: l) = bestV 5 b l := by
  unfold bestV
  rw [List.foldl_cons, if_neg (by rintro (⟨h, _⟩ | ⟨_, h⟩) <;> omega)]
theorem res_aggOf4 {kk : SK} (l : List Val) (hl : l.length < 1000000000) : res Γ 132 [.int .i64 4, .sl kk 2 (vpv l)] = some [.agg [.bool (aggV 4 l).1, .int .i64 (aggV 4 l).2]] := by
  have hk := knL_len l
  have hm := fun v => @knL_mem l v
  refine res_code (fn := agg_Of) rfl rfl ?_
  simp (disch := first | assumption | omega | decide | (simp only [lens] <;> omega) | fail) only [go_sem, agg_Of]
  cases h : knL l with
  | nil =>
    simp (disch := first | assumption | omega | decide | (simp only [lens] <;> omega) | fail) only [go_sem, agg2_nil h]
  | cons b k =>
    obtain ⟨e2, e4, e5⟩ := agg2_cons h
    rw [h] at hk hm
    simp only [List.length_cons] at hk
    simp (disch := first | assumption | omega | decide | (simp only [lens] <;> omega) | fail) only [go_sem, valP]
    refine agg_Of_l1_ok (b :: k) b (hm b (by simp)) hm (by simp; omega) _ ⟨_, _, rfl⟩ _ (b :: k).length 0 [] (by omega) (fun T => ?_)
    simp (disch := first | assumption | omega | decide | (simp only [lens] <;> omega) | fail) only [go_sem, e4, bestV_self4]
theorem res_aggOf5 {kk : SK} (l : List Val) (hl : l.length < 1000000000) : res Γ 132 [.int .i64 5, .sl kk 2 (vpv l)] = some [.agg [.bool (aggV 5 l).1, .int .i64 (aggV 5 l).2]] := by
  have hk := knL_len l
  have hm := fun v => @knL_mem l v
  refine res_code (fn := agg_Of) rfl rfl ?_
  simp (disch := first | assumption | omega | decide | (simp only [lens] <;> omega) | fail) only [go_sem, agg_Of]
  cases h : knL l with
  | nil =>
    simp (disch := first | assumption | omega | decide | (simp only [lens] <;> omega) | fail) only [go_sem, agg2_nil h]
  | cons b k =>
    obtain ⟨e2, e4, e5⟩ := agg2_cons h
    rw [h] at hk hm
    simp only [List.length_cons] at hk
    simp (disch := first | assumption | omega | decide | (simp only [lens] <;> omega) | fail) only [go_sem, valP]
    refine agg_Of_l2_ok (b :: k) b (hm b (by simp)) hm (by simp; omega) _ ⟨_, _, rfl⟩ _ (b :: k).length 0 [] (by omega) (fun T => ?_)
    simp (disch := first | assumption | omega | decide | (simp only [lens] <;> omega) | fail) only [go_sem, e5, bestV_self5]
end Ab
namespace Ab
open Go (IntKind BinOp UnOp)
def toV (o : List Int) : List Val := o.map fun n => (true, n)
def nums (l : List Val) : List Int := (knL l).map (·.2)
def sortV (l : List Val) : List Val := toV (sortI (nums l))
theorem toV_len {o} : (toV o).length = o.length := by simp [toV]
theorem nums_len {l : List Val} : (nums l).length = (knL l).length := by simp [nums]
theorem insI_len (n : Int) : ∀ o : List Int, (insI n o).length = o.length + 1
  | [] => rfl
  | m :: r => by
    unfold insI
    split
    · rw [List.length_cons, insI_len n r, List.length_cons]
    · rfl
theorem sortI_snoc (l : List Int) (n : Int) : sortI (l ++ [n]) = insI n (sortI l) := by unfold sortI; rw [List.foldl_append]; rfl
theorem sortI_len' : ∀ l : List Int, (sortI l).length = l.length := by
  have : ∀ (l o : List Int), (l.foldl (fun o n => insI n o) o).length = o.length + l.length := by
    intro l
    induction l with
    | nil => intro o; rfl
    | cons n l ih => intro o; rw [List.foldl_cons, ih, insI_len, List.length_cons]; omega
  intro l
  have := this l []
  simpa [sortI] using this
theorem sortV_len {l : List Val} : (sortV l).length = (knL l).length := by rw [sortV, toV_len, sortI_len', nums_len]
def posI (n : Int) : List Int → Nat
  | [] => 0
  | m :: r => if m ≤ n then posI n r + 1 else 0
theorem posI_le (n : Int) : ∀ o : List Int, posI n o ≤ o.length
  | [] => Nat.le_refl _
  | m :: r => by
    unfold posI
    split
    · have := posI_le n r; rw [List.length_cons]; omega
    · exact Nat.zero_le _
theorem posI_low (n : Int) : ∀ (o : List Int) (j : Nat), j < posI n o → o.getD j 0 ≤ n
  | [], j, h => by simp [posI] at h
  | m :: r, j, h => by
    unfold posI at h
    split at h
    · rename_i hm
      cases j with
      | zero => exact hm
      | succ j => simpa using posI_low n r j (by omega)
    · omega
theorem posI_high (n : Int) : ∀ o : List Int, posI n o < o.length → n < o.getD (posI n o) 0
  | [], h => by simp [posI] at h
  | m :: r, h => by
    unfold posI at h ⊢
    split
    · rename_i hm
      rw [if_pos hm, List.length_cons] at h
      simpa using posI_high n r (by omega)
    · rename_i hm; simpa using hm
theorem insI_split (n : Int) : ∀ o : List Int, insI n o = o.take (posI n o) ++ n :: o.drop (posI n o)
  | [] => rfl
  | m :: r => by
    unfold insI posI
    split
    · rw [insI_split n r]; rfl
    · rfl
theorem intsIn_vpv : ∀ {k : List Val}, (∀ v ∈ k, knV v = true) → intsIn (vpv k) = some (k.map (·.2))
  | [], _ => rfl
  | (b, n) :: k, h => by
    obtain ⟨rfl, _⟩ := knV_pair (h (b, n) (by simp))
    have ih := intsIn_vpv (k := k) fun v hv => h v (by simp [hv])
    have e : vpv ((true, n) :: k) = .agg [.bool true, .int .i64 n] :: vpv k := rfl
    rw [e, intsIn, ih]; rfl
theorem toV_vpv (o : List Int) : (o.map fun n => PV.agg [.bool true, .int .i64 n]) = vpv (toV o) := by
  simp [vpv, aggs, toV, valP, List.map_map, Function.comp_def]
theorem resM_aggKnown {kk : SK} (l : List Val) (hl : l.length < 1000000000) : resM Γ 0 140 [.p (.sl kk 2 (vpv l))] [] = some ([.own 0 (knL l).length], [.row false 2 (vpv (knL l))]) := by
  have hw : (vpv (knL l)).length = (knL l).length := vpv_len
  refine resM_code (fn := agg_Known) rfl rfl ?_
  simp (disch := first | assumption | omega | decide | (simp only [lens] <;> omega) | fail) only [go_sem, agg_Known]
  refine agg_Known_l1_ok l hl _ l.length 0 [] (by omega) (fun T => ?_)
  simp (disch := first | assumption | omega | decide | (simp only [lens] <;> omega) | fail) only [go_sem]
theorem resM_sort (l : List Val) : resM Γ 1 182 [.own 0 (knL l).length, .p (.clo 183 [])] [.row false 2 (vpv (knL l))] = some ([], [.row false 2 (vpv (sortV l))]) := by
  have h := resM_upd (Γ := Γ) (f := 182) (g := sortG 183) (ps := [.clo 183 []]) (sz := 2) (xs := vpv (knL l)) (ys := vpv (sortV l)) rfl (by
    show (if 183 = 183 then (intsIn (vpv (knL l))).map _ else none) = _
    rw [if_pos rfl, intsIn_vpv fun v hv => knL_mem hv, Option.map_some, toV_vpv]; rfl) (by rw [vpv_len, vpv_len, sortV_len])
  rw [vpv_len] at h
  exact h
theorem st182 : stillF Γ 1 182 = true := rfl
theorem res_fwinSorted {kk : SK} (l : List Val) (hl : l.length < 1000000000) : res Γ 177 [.sl kk 2 (vpv l)] = some [.sl .any 2 (vpv (sortV l))] := by
  have e1 := resM_aggKnown (kk := kk) l hl
  have e2 := resM_sort l
  have hw : (vpv (sortV l)).length = (knL l).length := by rw [vpv_len, sortV_len]
  refine res_code (fn := fwin_sorted) rfl rfl ?_
  simp (disch := first | assumption | omega | decide | (simp only [lens] <;> omega) | fail) only [go_sem, fwin_sorted, e1, e2, st182]
theorem toV_getD {o : List Int} {j : Nat} (h : j < o.length) : (toV o).getD j (false, 0) = (true, o.getD j 0) := by
  simp only [toV, List.getD_eq_getElem?_getD, List.getElem?_map, List.getElem?_eq_getElem h, Option.map_some, Option.getD_some]
@[go_sem] theorem ifB_dec {α : Type} {c : Prop} [Decidable c] {x : Option α} (h : c) : ifB (decide c) x = x := by rw [decide_eq_true h]; rfl
@[go_sem] theorem loadK_vals {f sz s ag} {l : List Val} {n i off : Nat} (h : l.length = n) (h' : i < n) : loadK (some (.row f sz (vpv l))) s ag n i off = takeP s ag ((valP (l.getD i (false, 0))).drop off) := by
  simp only [loadK, vpv_len, h, if_true, vpv_get (show i < l.length by omega), Option.bind_some, PV.cells]
theorem sorted_l1_ok {kk : SK} (ks : List Val) (o : List Int) (m : Nat) (hm : o.length = m) (n : Int) (T : Heap) (i : Nat) (hi : i < ks.length) (hn : (ks.getD i (false, 0)).2 = n) (hl : ks.length < 1000000000) (ho : o.length < 1000000000) (Q : Out → Prop) : ∀ (d j : Nat), j + d = posI n o →
    Q (.nrm, [(3, .p (.sl kk 2 (vpv ks))), (4, .own 0 m), (5, .p (.int .i64 (i : Int))), (6, .p (.int .i64 (posI n o : Nat)))], .row false 2 (vpv (toV o)) :: T) →
    Wp Γ r21_sorted_l1 [(3, .p (.sl kk 2 (vpv ks))), (4, .own 0 m), (5, .p (.int .i64 (i : Int))), (6, .p (.int .i64 (j : Int)))] (.row false 2 (vpv (toV o)) :: T) (InBlk [3, 4, 5, 6] 2 Q) := by
  have hw : (vpv (toV o)).length = m := by rw [vpv_len, toV_len, hm]
  have hle := posI_le n o
  intro d
  induction d with
  | zero =>
    intro j hj hQ
    obtain rfl : j = posI n o := by omega
    have hh := posI_high n o
    generalize posI n o = j at *
    rw [W_loop (L := r21_sorted_l1) rfl]
    by_cases h : j < o.length
    · have hh := hh h
      have eg := toV_getD h
      have hlt : (toV o).length = m := by rw [toV_len, hm]
      simp (disch := first | assumption | omega | decide | (simp only [lens] <;> omega) | fail) only [go_sem, valP, eg, hn]
      exact hQ
    · simp (disch := first | assumption | omega | decide | (simp only [lens] <;> omega) | fail) only [go_sem]
      exact hQ
  | succ d ih =>
    intro j hj hQ
    have h : j < o.length := by omega
    have hlow := posI_low n o j (by omega)
    have eg := toV_getD h
    have hlt : (toV o).length = m := by rw [toV_len, hm]
    rw [W_loop (L := r21_sorted_l1) rfl]
    simp (disch := first | assumption | omega | decide | (simp only [lens] <;> omega) | fail) only [go_sem, valP, eg, hn]
    exact ih (j + 1) (by omega) hQ
theorem nums_take {l : List Val} {i : Nat} (h : i < (knL l).length) : ((knL l).take (i + 1)).map (·.2) = ((knL l).take i).map (·.2) ++ [((knL l).getD i (false, 0)).2] := by
  rw [take_snoc' (false, 0) h, List.map_append]; rfl
theorem knL_getD {l : List Val} {i : Nat} (h : i < (knL l).length) : ∃ n, (knL l).getD i (false, 0) = (true, n) := by
  rw [List.getD_eq_getElem?_getD, List.getElem?_eq_getElem h]
  have := knV_iff.1 (knL_mem (List.getElem_mem h))
  exact ⟨((knL l)[i]).2, by rw [Option.getD_some, ← this.1]⟩
theorem sorted_l2_ok {kk : SK} (l : List Val) (hl : (knL l).length < 1000000000) (Q : Out → Prop) : ∀ (d i : Nat) (env : Env) (X : Heap), i + 1 + d = (knL l).length →
    norm [3, 4, 5] (some 0) env X = some ([(3, .p (.sl kk 2 (vpv (knL l)))), (4, .own 0 (i + 1)), (5, .p (.int .i64 ((i + 1 : Nat) : Int)))], [.row false 2 (vpv (toV (sortI (((knL l).take (i + 1)).map (·.2)))))]) →
    (∀ T, Q (.nrm, [(4, .own 0 (knL l).length)], .row false 2 (vpv (sortV l)) :: T)) →
    Wp Γ r21_sorted_l2 env X (InBlk [4] 0 Q) := by
  intro d
  induction d with
  | zero =>
    intro i env X hi hX hQ
    have hi : i + 1 = (knL l).length := by omega
    rw [hi, List.take_length] at hX
    rw [W_loop (L := r21_sorted_l2) rfl]
    rw [hX]
    simp (disch := first | assumption | omega | decide | (simp only [lens] <;> omega) | fail) only [go_sem]
    exact hQ []
  | succ d ih =>
    intro i env X hi hX hQ
    obtain ⟨n, hn⟩ := knL_getD (l := l) (i := i + 1) (by omega)
    have en := nums_take (l := l) (i := i + 1) (by omega)
    rw [hn] at en
    have hol : (sortI (((knL l).take (i + 1)).map (·.2))).length = i + 1 := by rw [sortI_len', List.length_map, List.length_take]; omega
    have es : sortI (((knL l).take (i + 1 + 1)).map (·.2)) = insI n (sortI (((knL l).take (i + 1)).map (·.2))) := by rw [en, sortI_snoc]
    rw [insI_split] at es
    generalize sortI (((knL l).take (i + 1)).map (·.2)) = o at *
    have hle := posI_le n o
    rw [W_loop (L := r21_sorted_l2) rfl]
    rw [hX]
    simp (disch := first | assumption | omega | decide | (simp only [lens] <;> omega) | fail) only [go_sem]
    refine sorted_l1_ok (knL l) o (i + 1) hol n _ (i + 1) (by omega) (by rw [hn]) (by omega) (by omega) _ (posI n o) 0 (by omega) ?_
    have w1 : (vpv (toV o)).length = i + 1 := by rw [vpv_len, toV_len, hol]
    have w2 : (vpv ((toV o).take (posI n o))).length = posI n o := by rw [vpv_len, List.length_take, toV_len]; omega
    have w3 : (vpv ((toV o).drop (posI n o))).length = o.length - posI n o := by rw [vpv_len, List.length_drop, toV_len]
    have ht : (toV o).length = i + 1 := by rw [toV_len, hol]
    have w4 : (vpv (toV (o.take (posI n o) ++ n :: o.drop (posI n o)))).length = i + 1 + 1 := by rw [vpv_len, toV_len, List.length_append, List.length_cons, List.length_take, List.length_drop]; omega
    have e1 : vpv ((toV o).take (posI n o) ++ (true, n) :: (toV o).drop (posI n o)) = vpv (toV (o.take (posI n o) ++ n :: o.drop (posI n o))) := by simp [toV]
    simp (disch := first | assumption | omega | decide | (simp only [lens] <;> omega) | fail) only [go_sem, hn, valP]
    refine ih (i + 1) _ _ (by omega) ?_ hQ
    simp (disch := first | assumption | omega | decide | (simp only [lens] <;> omega) | fail) only [go_sem]
    have e2 : ((toV o).take (posI n o)).length + 1 + ((toV o).drop (posI n o)).length = i + 1 + 1 := by rw [List.length_take, List.length_drop]; omega
    rw [es, e1, e2]
    rfl
theorem sorted_l2_first {kk : SK} (l : List Val) (hl : (knL l).length < 1000000000) (hne : knL l ≠ []) (Q : Out → Prop) :
    (∀ T, Q (.nrm, [(4, .own 0 (knL l).length)], .row false 2 (vpv (sortV l)) :: T)) →
    Wp Γ r21_sorted_l2 [(3, .p (.sl kk 2 (vpv (knL l)))), (4, .p (.sl .nil 2 [])), (5, .p (.int .i64 0))] [] (InBlk [4] 0 Q) := by
  intro hQ
  have hpos : 0 < (knL l).length := List.length_pos_iff.2 hne
  obtain ⟨n, hn⟩ := knL_getD (l := l) (i := 0) (by omega)
  rw [W_loop (L := r21_sorted_l2) rfl]
  simp (disch := first | assumption | omega | decide | (simp only [lens] <;> omega) | fail) only [go_sem]
  rw [W_loop (L := r21_sorted_l1) rfl]
  simp (disch := first | assumption | omega | decide | (simp only [lens] <;> omega) | fail) only [go_sem, hn, valP]
  refine sorted_l2_ok (kk := kk) l hl Q ((knL l).length - 1) 0 _ _ (by omega) ?_ hQ
  have en := nums_take (l := l) (i := 0) (by omega)
  rw [hn] at en
  have es : vpv (toV (sortI (((knL l).take (0 + 1)).map (·.2)))) = [.agg [.bool true, .int .i64 n]] := by rw [en]; rfl
  rw [es]
  simp (disch := first | assumption | omega | decide | (simp only [lens] <;> omega) | fail) only [go_sem]
  rfl
def sortK (l : List Val) : SK := if knL l = [] then .nil else .any
theorem res_r21Sorted {kk : SK} (l : List Val) (hl : l.length < 1000000000) : res Γ 181 [.sl kk 2 (vpv l)] = some [.sl (sortK l) 2 (vpv (sortV l))] := by
  have hk := knL_len l
  refine res_code (fn := r21_sorted) rfl rfl ?_
  simp (disch := first | assumption | omega | decide | (simp only [lens] <;> omega) | fail) only [go_sem, r21_sorted]
  by_cases hne : knL l = []
  · rw [W_loop (L := r21_sorted_l2) rfl]
    have hz : (knL l).length = 0 := by rw [hne]; rfl
    have hs : sortV l = [] := by unfold sortV nums; rw [hne]; rfl
    simp (disch := first | assumption | omega | decide | (simp only [lens] <;> omega) | fail) only [go_sem, sortK]
    rw [if_pos hne, hs]
    rfl
  · refine sorted_l2_first l (by omega) hne _ (fun T => ?_)
    have hw : (vpv (sortV l)).length = (knL l).length := by rw [vpv_len, sortV_len]
    simp (disch := first | assumption | omega | decide | (simp only [lens] <;> omega) | fail) only [go_sem, sortK]
    rw [if_neg hne]
end Ab
namespace Ab
open Go (IntKind BinOp UnOp)
theorem wrap_u64 {x : Int} (h0 : 0 ≤ x) (h1 : x ≤ 18446744073709551615) : IntKind.u64.wrap x = x := by
  simp only [IntKind.wrap, IntKind.bits, IntKind.signed, Bool.false_and]
  have e : (2 : Int) ^ 64 = 18446744073709551616 := by decide
  rw [e]
  simp
  omega
theorem map_rem {k : IntKind} {a b : Int} (h0 : 0 ≤ a) (h1 : 0 < b) : binAV .rem (.p (.int k a)) (.p (.int k b)) = some (.p (.int k (a % b))) := by
  simp only [binAV, binPV, binInt, true_or, if_true]
  rw [if_neg (by omega), Int.tmod_eq_emod_of_nonneg h0]; rfl
theorem map_quo {k : IntKind} {a b : Int} (h0 : 0 ≤ a) (h1 : 0 < b) (h2 : k.wrap (a / b) = a / b) : binAV .quo (.p (.int k a)) (.p (.int k b)) = some (.p (.int k (a / b))) := by
  simp only [binAV, binPV, binInt, true_or, if_true]
  rw [if_neg (by omega), Int.tdiv_eq_ediv_of_nonneg h0, h2]; rfl
theorem strOf_one {H : Heap} {kk : SK} {n : Int} : strOfA H (.p (.sl kk 1 [.int .u8 n])) = some (.p (.str [UInt8.ofNat n.toNat])) := by
  simp [strOfA, bytesIn]
attribute [go_sem] wrap_u64 map_rem strOf_one
theorem decB_small {u : Nat} (h : u < 10) : decB u = [UInt8.ofNat (48 + u)] := by rw [decB, dif_pos h]
theorem decB_more {u : Nat} (h : ¬ u < 10) : decB u = decB (u / 10) ++ [UInt8.ofNat (48 + u % 10)] := by rw [decB, dif_neg h]
theorem r2_plain_l1_ok : ∀ (k u : Nat) (acc : List UInt8) (Q : Out → Prop), u < 10 ^ (k + 1) → u < 18446744073709551616 → acc.length + k ≤ 1000 → Q (.ret, [(2, .p (.str (decB u ++ acc)))], []) →
    Wp Γ r2_plain_l1 [(0, .p (.int .u64 (u : Int))), (3, .p (.str acc))] [] (InBlk [2] 0 Q) := by
  intro k
  induction k with
  | zero =>
    intro u acc Q h1 h2 h3 hQ
    have h1 : u < 10 := by simpa using h1
    rw [decB_small h1] at hQ
    have q : binAV .quo (.p (.int .u64 (u : Int))) (.p (.int .u64 10)) = some (.p (.int .u64 0)) := by
      rw [map_quo (by omega) (by omega) (wrap_u64 (by omega) (by omega)), show (u : Int) / 10 = 0 by omega]
    have e1 : (u : Int) % 10 = u := by omega
    have e2 : ((48 : Int) + (u : Int)).toNat = 48 + u := by omega
    rw [W_loop (L := r2_plain_l1) rfl]
    simp (disch := first | assumption | omega | decide | (simp only [lens] <;> omega) | fail) only [go_sem, e1, q, e2]
    exact hQ
  | succ k ih =>
    intro u acc Q h1 h2 h3 hQ
    have q : binAV .quo (.p (.int .u64 (u : Int))) (.p (.int .u64 10)) = some (.p (.int .u64 ((u / 10 : Nat) : Int))) := by
      rw [map_quo (by omega) (by omega) (wrap_u64 (by omega) (by omega))]; rfl
    have e1 : (u : Int) % 10 = ((u % 10 : Nat) : Int) := by omega
    have e2 : ((48 : Int) + ((u % 10 : Nat) : Int)).toNat = 48 + u % 10 := by omega
    rw [W_loop (L := r2_plain_l1) rfl]
    simp (disch := first | assumption | omega | decide | (simp only [lens] <;> omega) | fail) only [go_sem, e1, q, e2]
    by_cases hs : u < 10
    · rw [decB_small hs] at hQ
      have e3 : u % 10 = u := by omega
      rw [e3]
      simp (disch := first | assumption | omega | decide | (simp only [lens] <;> omega) | fail) only [go_sem]
      exact hQ
    · rw [decB_more hs, List.append_assoc] at hQ
      simp (disch := first | assumption | omega | decide | (simp only [lens] <;> omega) | fail) only [go_sem]
      exact ih (u / 10) _ Q (by rw [Nat.pow_succ] at h1; omega) (by omega) (by simp; omega) hQ
theorem res_r2plain (u : Nat) (h : u < 18446744073709551616) : res Γ 121 [.int .u64 (u : Int)] = some [.str (decB u)] := by
  refine res_code (fn := r2_plain) rfl rfl ?_
  simp (disch := first | assumption | omega | decide | (simp only [lens] <;> omega) | fail) only [go_sem, r2_plain]
  refine r2_plain_l1_ok 19 u [] _ (by omega) h (by simp) ?_
  simp (disch := first | assumption | omega | decide | (simp only [lens] <;> omega) | fail) only [go_sem]
theorem res_r2Digits (n : Nat) (h : n < 9223372036854775808) : res Γ 107 [.int .i64 (n : Int)] = some [.str (decB n)] := by
  have e := res_r2plain n (by omega)
  refine res_code (fn := r2_Digits) rfl rfl ?_
  simp (disch := first | assumption | omega | decide | (simp only [lens] <;> omega) | fail) only [go_sem, r2_Digits, e]
theorem res_decDigits (n : Nat) (h : n < 9223372036854775808) : res Γ 105 [.int .i64 (n : Int)] = some [.str (decB n)] := by
  have e : res Γ 114 [.int .i64 (n : Int)] = some [.str (decB n)] := by
    refine res_of (RunP_prim (g := itoaG) rfl ?_)
    simp only [itoaG]
    rw [if_pos (by omega), itoaB, if_neg (by omega), Int.toNat_natCast]
  refine res_code (fn := dec_Digits) rfl rfl ?_
  simp (disch := first | assumption | omega | decide | (simp only [lens] <;> omega) | fail) only [go_sem, dec_Digits, e]
theorem decB_len : ∀ (k u : Nat), u < 10 ^ (k + 1) → (decB u).length ≤ k + 1 := by
  intro k
  induction k with
  | zero => intro u h; rw [decB_small (by simpa using h)]; simp
  | succ k ih =>
    intro u h
    by_cases hs : u < 10
    · rw [decB_small hs]; simp
    · rw [decB_more hs]
      have := ih (u / 10) (by rw [Nat.pow_succ] at h; omega)
      simp; omega
end Ab
namespace Ab
theorem dig_exit {Y n1 n0 U u q r Q : Int} (hY : Y = n1 * 4294967296 + n0) (hU : U = q * n1 + r) (hle : q * n0 ≤ 4294967296 * r + u) (hQ : U * 4294967296 + u < (Q + 1) * Y) (hq : Q ≤ q) (h0 : 0 < Y) : q = Q := by
  have e : q * Y = q * n1 * 4294967296 + q * n0 := by rw [hY, Int.mul_add, ← Int.mul_assoc]
  have l : q * Y < (Q + 1) * Y := by omega
  have := Int.lt_of_mul_lt_mul_right l (Int.le_of_lt h0)
  omega
theorem dig_down {Y n1 n0 U u q r Q : Int} (hY : Y = n1 * 4294967296 + n0) (hU : U = q * n1 + r) (hgt : 4294967296 * r + u < q * n0) (hQ : Q * Y ≤ U * 4294967296 + u) (h0 : 0 < Y) : Q ≤ q - 1 := by
  have e : q * Y = q * n1 * 4294967296 + q * n0 := by rw [hY, Int.mul_add, ← Int.mul_assoc]
  have l : Q * Y < q * Y := by omega
  have := Int.lt_of_mul_lt_mul_right l (Int.le_of_lt h0)
  omega
theorem dig_lt {Y U u Q : Int} (hU : U < Y) (hu : u < 4294967296) (hQ : Q * Y ≤ U * 4294967296 + u) (h0 : 0 < Y) : Q < 4294967296 := by
  have l : Q * Y < 4294967296 * Y := by omega
  exact Int.lt_of_mul_lt_mul_right l (Int.le_of_lt h0)
theorem dig_first {Y n1 n0 U u Q : Int} (hY : Y = n1 * 4294967296 + n0) (h1 : 0 < n1) (hn : 0 ≤ n0) (hu : u < 4294967296) (hQ0 : 0 ≤ Q) (hQ : Q * Y ≤ U * 4294967296 + u) : Q ≤ U / n1 := by
  have e : Q * Y = Q * n1 * 4294967296 + Q * n0 := by rw [hY, Int.mul_add, ← Int.mul_assoc]
  have p : 0 ≤ Q * n0 := Int.mul_nonneg hQ0 hn
  have l : Q * n1 ≤ U := by omega
  exact (Int.le_ediv_iff_mul_le h1).2 l
theorem dig_break {Y n1 n0 U u q r Q : Int} (hY : Y = n1 * 4294967296 + n0) (h1 : 0 < n1) (hn : n0 < 4294967296) (hn0 : 0 ≤ n0) (hU : U = q * n1 + r) (hr : 4294967296 ≤ r) (hUY : U < Y) (hu : 0 ≤ u) (hQ : U * 4294967296 + u < (Q + 1) * Y) (hq : Q ≤ q) (hq0 : 0 ≤ q) : q = Q ∧ q < 4294967296 := by
  have l : q * n1 < 4294967296 * n1 := by omega
  have lq := Int.lt_of_mul_lt_mul_right l (Int.le_of_lt h1)
  have m : q * n0 ≤ 4294967296 * n0 := Int.mul_le_mul_of_nonneg_right (by omega) hn0
  have hp : 0 < n1 * 4294967296 := by omega
  exact ⟨dig_exit hY hU (by omega) hQ hq (by omega), lq⟩
theorem mul_halves {x y : Int} (hx : 0 ≤ x ∧ x < 18446744073709551616) (hy : 0 ≤ y ∧ y < 18446744073709551616) :
    let x0 := x % 4294967296; let x1 := x / 4294967296; let y0 := y % 4294967296; let y1 := y / 4294967296
    let w0 := x0 * y0; let t := x1 * y0 + w0 / 4294967296; let w1 := t % 4294967296 + x0 * y1
    (0 ≤ w0 ∧ w0 ≤ 18446744065119617025) ∧ (0 ≤ x1 * y0 ∧ x1 * y0 ≤ 18446744065119617025) ∧ (0 ≤ x0 * y1 ∧ x0 * y1 ≤ 18446744065119617025) ∧ (0 ≤ x1 * y1 ∧ x1 * y1 ≤ 18446744065119617025) ∧
      x1 * y1 + t / 4294967296 + w1 / 4294967296 = x * y / 18446744073709551616 ∧ (0 ≤ x * y / 18446744073709551616 ∧ x * y / 18446744073709551616 < 18446744073709551616) := by
  intro x0 x1 y0 y1 w0 t w1
  have b : ∀ a c : Int, 0 ≤ a → a ≤ 4294967295 → 0 ≤ c → c ≤ 4294967295 → 0 ≤ a * c ∧ a * c ≤ 18446744065119617025 := fun a c h1 h2 h3 h4 =>
    ⟨Int.mul_nonneg h1 h3, Int.le_trans (Int.mul_le_mul h2 h4 h3 (by decide)) (by decide)⟩
  have hx0 : 0 ≤ x0 ∧ x0 ≤ 4294967295 := by omega
  have hx1 : 0 ≤ x1 ∧ x1 ≤ 4294967295 := by omega
  have hy0 : 0 ≤ y0 ∧ y0 ≤ 4294967295 := by omega
  have hy1 : 0 ≤ y1 ∧ y1 ≤ 4294967295 := by omega
  have b1 := b x0 y0 hx0.1 hx0.2 hy0.1 hy0.2
  have b2 := b x1 y0 hx1.1 hx1.2 hy0.1 hy0.2
  have b3 := b x0 y1 hx0.1 hx0.2 hy1.1 hy1.2
  have b4 := b x1 y1 hx1.1 hx1.2 hy1.1 hy1.2
  have ex : x = 4294967296 * x1 + x0 := by omega
  have ey : y = 4294967296 * y1 + y0 := by omega
  have e : x * y = 18446744073709551616 * (x1 * y1) + 4294967296 * (x1 * y0) + 4294967296 * (x0 * y1) + x0 * y0 := by
    rw [ex, ey, Int.add_mul, Int.mul_add, Int.mul_add, Int.mul_assoc, Int.mul_left_comm x1, ← Int.mul_assoc 4294967296, Int.mul_assoc 4294967296 x1 y0, Int.mul_left_comm x0 4294967296]
    omega
  refine ⟨b1, b2, b3, b4, ?_, ?_⟩
  · rw [e]
    omega
  · rw [e]
    omega
end Ab
namespace Ab
open Go (IntKind BinOp UnOp)
theorem wrap_u64m (x : Int) : IntKind.u64.wrap x = x % 18446744073709551616 := by
  simp only [IntKind.wrap, IntKind.bits, IntKind.signed, Bool.false_and]
  have e : (2 : Int) ^ 64 = 18446744073709551616 := by decide
  rw [e]
  simp
theorem map_shr32 (x : Int) : binAV .shr (.p (.int .u64 x)) (.p (.int .u64 32)) = some (.p (.int .u64 (x / 4294967296))) := by
  have e : x.fdiv (2 ^ min 32 IntKind.u64.bits) = x / 4294967296 := by
    have e : (2 : Int) ^ (min 32 IntKind.u64.bits) = 4294967296 := by decide
    rw [e, Int.fdiv_eq_ediv_of_nonneg _ (by decide)]
  simp [binAV, binPV, binInt, e]
theorem map_and32 {x : Int} (_h0 : 0 ≤ x) (_h1 : x ≤ 18446744073709551615) : binAV .and (.p (.int .u64 x)) (.p (.int .u64 4294967295)) = some (.p (.int .u64 (x % 4294967296))) := by
  have e : (BitVec.ofInt IntKind.u64.bits 4294967295).toNat = 2 ^ 32 - 1 := by decide
  have e3 : ((2 ^ IntKind.u64.bits : Nat) : Int) = 18446744073709551616 := by decide
  have key : ((BitVec.ofInt IntKind.u64.bits x &&& BitVec.ofInt IntKind.u64.bits 4294967295).toNat : Int) = x % 4294967296 := by
    rw [BitVec.toNat_and, e, Nat.and_two_pow_sub_one_eq_mod, BitVec.toNat_ofInt, e3]
    omega
  simp only [binAV, binPV, binInt, true_or, if_true, Option.map_some, key]
  rw [wrap_u64 (by omega) (by omega)]
theorem map_shr {x s : Int} (h0 : 0 ≤ s) (h1 : s ≤ 64) : binAV .shr (.p (.int .u64 x)) (.p (.int .u64 s)) = some (.p (.int .u64 (x / 2 ^ s.toNat))) := by
  have e : min s.toNat IntKind.u64.bits = s.toNat := Nat.min_eq_left (by show _ ≤ 64; omega)
  have p : (0 : Int) ≤ 2 ^ s.toNat := Int.le_of_lt (Int.pow_pos (by decide))
  simp only [binAV, binPV, binInt, e, Int.not_lt.2 h0, if_false, Int.fdiv_eq_ediv_of_nonneg _ p]
  simp
theorem map_shl {x s : Int} (h0 : 0 ≤ s) (h1 : s ≤ 64) : binAV .shl (.p (.int .u64 x)) (.p (.int .u64 s)) = some (.p (.int .u64 (IntKind.u64.wrap (x * 2 ^ s.toNat)))) := by
  have e : min s.toNat IntKind.u64.bits = s.toNat := Nat.min_eq_left (by show _ ≤ 64; omega)
  simp only [binAV, binPV, binInt, e, Int.not_lt.2 h0, if_false]
  simp
theorem map_quo64 {a b : Int} (h0 : 0 ≤ a) (h1 : a ≤ 18446744073709551615) (hb : 0 < b) : binAV .quo (.p (.int .u64 a)) (.p (.int .u64 b)) = some (.p (.int .u64 (a / b))) :=
  map_quo h0 hb (wrap_u64 (Int.ediv_nonneg h0 (Int.le_of_lt hb)) (Int.le_trans (Int.ediv_le_self _ h0) h1))
theorem res_Mul64 {x y : Int} (hx : 0 ≤ x ∧ x < 18446744073709551616) (hy : 0 ≤ y ∧ y < 18446744073709551616) : res Γ 149 [.int .u64 x, .int .u64 y] = some [.int .u64 (x * y / 18446744073709551616), .int .u64 (x * y % 18446744073709551616)] := by
  obtain ⟨b1, b2, b3, b4, e, b5⟩ := mul_halves hx hy
  rw [← e] at b5 ⊢
  rw [← wrap_u64m (x * y)]
  refine res_code (fn := math_bits_Mul64) rfl rfl ?_
  simp (disch := first | assumption | omega | decide | (simp only [lens] <;> omega) | fail) only [go_sem, math_bits_Mul64, map_shr32, map_and32, wrap_u64]
end Ab
namespace Ab
open Go (IntKind BinOp UnOp)
set_option maxRecDepth 4000 in
def len8 : List UInt8 := [0, 1, 2, 2, 3, 3, 3, 3, 4, 4, 4, 4, 4, 4, 4, 4, 5, 5, 5, 5, 5, 5, 5, 5, 5, 5, 5, 5, 5, 5, 5, 5, 6, 6, 6, 6, 6, 6, 6, 6, 6, 6, 6, 6, 6, 6, 6, 6, 6, 6, 6, 6, 6, 6, 6, 6, 6, 6, 6, 6, 6, 6, 6, 6, 7, 7, 7, 7, 7, 7, 7, 7, 7, 7, 7, 7, 7, 7, 7, 7, 7, 7, 7, 7, 7, 7, 7, 7, 7, 7, 7, 7, 7, 7, 7, 7, 7, 7, 7, 7, 7, 7, 7, 7, 7, 7, 7, 7, 7, 7, 7, 7, 7, 7, 7, 7, 7, 7, 7, 7, 7, 7, 7, 7, 7, 7, 7, 7, 8, 8, 8, 8, 8, 8, 8, 8, 8, 8, 8, 8, 8, 8, 8, 8, 8, 8, 8, 8, 8, 8, 8, 8, 8, 8, 8, 8, 8, 8, 8, 8, 8, 8, 8, 8, 8, 8, 8, 8, 8, 8, 8, 8, 8, 8, 8, 8, 8, 8, 8, 8, 8, 8, 8, 8, 8, 8, 8, 8, 8, 8, 8, 8, 8, 8, 8, 8, 8, 8, 8, 8, 8, 8, 8, 8, 8, 8, 8, 8, 8, 8, 8, 8, 8, 8, 8, 8, 8, 8, 8, 8, 8, 8, 8, 8, 8, 8, 8, 8, 8, 8, 8, 8, 8, 8, 8, 8, 8, 8, 8, 8, 8, 8, 8, 8, 8, 8, 8, 8, 8, 8, 8, 8, 8, 8, 8, 8]
def len64c : AFn := ⟨1, [.slot 2],
  .seq (.ops [0, 2] [
    ⟨some 2, none, .inl (.mov (.c (.int .i64 0)))⟩]) (.seq (.seq (.ops [0, 2, 4] [
    ⟨some 3, none, .inl (.mov (.v 0))⟩,
    ⟨some 4, none, .inl (.bin .geq (.v 3) (.c (.int .u64 4294967296)))⟩]) (.cond (.v 4) (.seq (.ops [0] [
    ⟨some 5, none, .inl (.mov (.v 0))⟩,
    ⟨some 6, none, .inl (.bin .shr (.v 5) (.c (.int .u64 32)))⟩,
    ⟨some 0, none, .inl (.mov (.v 6))⟩]) (.ops [0, 2] [
    ⟨some 2, none, .inl (.mov (.c (.int .i64 32)))⟩])) (.skip))) (.seq (.seq (.ops [0, 2, 8] [
    ⟨some 7, none, .inl (.mov (.v 0))⟩,
    ⟨some 8, none, .inl (.bin .geq (.v 7) (.c (.int .u64 65536)))⟩]) (.cond (.v 8) (.seq (.ops [0, 2] [
    ⟨some 9, none, .inl (.mov (.v 0))⟩,
    ⟨some 10, none, .inl (.bin .shr (.v 9) (.c (.int .u64 16)))⟩,
    ⟨some 0, none, .inl (.mov (.v 10))⟩]) (.ops [0, 2] [
    ⟨some 11, none, .inl (.mov (.v 2))⟩,
    ⟨some 12, none, .inl (.bin .add (.v 11) (.c (.int .i64 16)))⟩,
    ⟨some 2, none, .inl (.mov (.v 12))⟩])) (.skip))) (.seq (.seq (.ops [0, 2, 14] [
    ⟨some 13, none, .inl (.mov (.v 0))⟩,
    ⟨some 14, none, .inl (.bin .geq (.v 13) (.c (.int .u64 256)))⟩]) (.cond (.v 14) (.seq (.ops [0, 2] [
    ⟨some 15, none, .inl (.mov (.v 0))⟩,
    ⟨some 16, none, .inl (.bin .shr (.v 15) (.c (.int .u64 8)))⟩,
    ⟨some 0, none, .inl (.mov (.v 16))⟩]) (.ops [0, 2] [
    ⟨some 17, none, .inl (.mov (.v 2))⟩,
    ⟨some 18, none, .inl (.bin .add (.v 17) (.c (.int .i64 8)))⟩,
    ⟨some 2, none, .inl (.mov (.v 18))⟩])) (.skip))) (.seq (.ops [2] [
    ⟨some 19, none, .inl (.mov (.v 2))⟩,
    ⟨some 20, none, .inl (.mov (.v 0))⟩,
    ⟨some 21, none, .inl (.conv .u8 (.v 20))⟩,
    ⟨some 22, none, .inl (.idx (.c (.str len8)) (.v 21))⟩,
    ⟨some 23, none, .inl (.conv .i64 (.v 22))⟩,
    ⟨some 24, none, .inl (.bin .add (.v 19) (.v 23))⟩,
    ⟨some 2, none, .inl (.mov (.v 24))⟩]) (.ret)))))⟩
theorem len8_len : len8.length = 256 := by decide +kernel
theorem len8_ok : ∀ v : Nat, v < 256 → 1 ≤ v → (1 ≤ byt len8 v ∧ byt len8 v ≤ 8 ∧ 2 ^ ((byt len8 v).toNat - 1) ≤ v ∧ v < 2 ^ (byt len8 v).toNat) := by decide +kernel
theorem idx8 {i : Int} (h0 : 0 ≤ i) (h1 : i ≤ 255) : idxA (.p (.str len8)) (.p (.int .u8 i)) = some (.p (.int .u8 (byt len8 i.toNat))) := idx_in h0 (by rw [len8_len]; omega)
theorem map_shr16 (x : Int) : binAV .shr (.p (.int .u64 x)) (.p (.int .u64 16)) = some (.p (.int .u64 (x / 65536))) := by
  rw [map_shr (by decide) (by decide)]; rfl
theorem map_shr8 (x : Int) : binAV .shr (.p (.int .u64 x)) (.p (.int .u64 8)) = some (.p (.int .u64 (x / 256))) := by
  rw [map_shr (by decide) (by decide)]; rfl
theorem len_scale {y a t : Nat} (h1 : 1 ≤ t) (l : 2 ^ (t - 1) ≤ y / 2 ^ a) (u : y / 2 ^ a < 2 ^ t) : 2 ^ (a + t - 1) ≤ y ∧ y < 2 ^ (a + t) := by
  have p : 0 < 2 ^ a := Nat.pow_pos (by decide)
  have e1 : 2 ^ (a + t - 1) = 2 ^ (t - 1) * 2 ^ a := by rw [← Nat.pow_add]; congr 1; omega
  have e2 : 2 ^ (a + t) = 2 ^ t * 2 ^ a := by rw [← Nat.pow_add]; congr 1; omega
  rw [e1, e2]
  exact ⟨(Nat.le_div_iff_mul_le p).1 l, (Nat.div_lt_iff_lt_mul p).1 u⟩
theorem len_end {y a : Nat} {r : Option (List PV)} (h1 : 1 ≤ y / 2 ^ a) (h2 : y / 2 ^ a < 256) (ha : a ≤ 56) (h : 1 ≤ byt len8 (y / 2 ^ a) ∧ byt len8 (y / 2 ^ a) ≤ 8 → r = some [.int .i64 (a + byt len8 (y / 2 ^ a))]) :
    ∃ n : Nat, r = some [.int .i64 (n : Int)] ∧ 1 ≤ n ∧ n ≤ 64 ∧ 2 ^ (n - 1) ≤ y ∧ y < 2 ^ n := by
  obtain ⟨b1, b2, b3, b4⟩ := len8_ok _ h2 h1
  obtain ⟨c1, c2⟩ := len_scale (t := (byt len8 (y / 2 ^ a)).toNat) (by omega) b3 b4
  refine ⟨a + (byt len8 (y / 2 ^ a)).toNat, ?_, by omega, by omega, c1, c2⟩
  rw [h ⟨b1, b2⟩, show ((a + (byt len8 (y / 2 ^ a)).toNat : Nat) : Int) = a + byt len8 (y / 2 ^ a) by omega]
theorem res_Len64 {y : Nat} (h : 1 ≤ y ∧ y ≤ 18446744073709551615) : ∃ n : Nat, res Γ 153 [.int .u64 y] = some [.int .i64 (n : Int)] ∧ 1 ≤ n ∧ n ≤ 64 ∧ 2 ^ (n - 1) ≤ y ∧ y < 2 ^ n := by
  have hr : 1 ≤ y ∧ y ≤ 255 ∨ 256 ≤ y ∧ y ≤ 65535 ∨ 65536 ≤ y ∧ y ≤ 16777215 ∨ 16777216 ≤ y ∧ y ≤ 4294967295 ∨ 4294967296 ≤ y ∧ y ≤ 1099511627775 ∨ 1099511627776 ≤ y ∧ y ≤ 281474976710655 ∨ 281474976710656 ≤ y ∧ y ≤ 72057594037927935 ∨ 72057594037927936 ≤ y ∧ y ≤ 18446744073709551615 := by omega
  rcases hr with hr | hr | hr | hr | hr | hr | hr | hr
  · refine len_end (a := 0) (by omega) (by omega) (by omega) fun hb => ?_
    have ev : ((y : Int)).toNat = y / 2 ^ 0 := by omega
    refine res_code (fn := len64c) rfl rfl ?_
    simp (disch := first | assumption | omega | decide | (simp only [lens] <;> omega) | fail) only [go_sem, len64c, idx8, ev]
    simp
  · refine len_end (a := 8) (by omega) (by omega) (by omega) fun hb => ?_
    have ev : ((y : Int) / 256).toNat = y / 2 ^ 8 := by omega
    refine res_code (fn := len64c) rfl rfl ?_
    simp (disch := first | assumption | omega | decide | (simp only [lens] <;> omega) | fail) only [go_sem, len64c, map_shr8, idx8, ev]
    simp
  · refine len_end (a := 16) (by omega) (by omega) (by omega) fun hb => ?_
    have ev : ((y : Int) / 65536).toNat = y / 2 ^ 16 := by omega
    refine res_code (fn := len64c) rfl rfl ?_
    simp (disch := first | assumption | omega | decide | (simp only [lens] <;> omega) | fail) only [go_sem, len64c, map_shr16, idx8, ev]
    simp
  · refine len_end (a := 24) (by omega) (by omega) (by omega) fun hb => ?_
    have ev : ((y : Int) / 65536 / 256).toNat = y / 2 ^ 24 := by omega
    refine res_code (fn := len64c) rfl rfl ?_
    simp (disch := first | assumption | omega | decide | (simp only [lens] <;> omega) | fail) only [go_sem, len64c, map_shr16, map_shr8, idx8, ev]
    simp
  · refine len_end (a := 32) (by omega) (by omega) (by omega) fun hb => ?_
    have ev : ((y : Int) / 4294967296).toNat = y / 2 ^ 32 := by omega
    refine res_code (fn := len64c) rfl rfl ?_
    simp (disch := first | assumption | omega | decide | (simp only [lens] <;> omega) | fail) only [go_sem, len64c, map_shr32, idx8, ev]
    simp
  · refine len_end (a := 40) (by omega) (by omega) (by omega) fun hb => ?_
    have ev : ((y : Int) / 4294967296 / 256).toNat = y / 2 ^ 40 := by omega
    refine res_code (fn := len64c) rfl rfl ?_
    simp (disch := first | assumption | omega | decide | (simp only [lens] <;> omega) | fail) only [go_sem, len64c, map_shr32, map_shr8, idx8, ev]
    simp
  · refine len_end (a := 48) (by omega) (by omega) (by omega) fun hb => ?_
    have ev : ((y : Int) / 4294967296 / 65536).toNat = y / 2 ^ 48 := by omega
    refine res_code (fn := len64c) rfl rfl ?_
    simp (disch := first | assumption | omega | decide | (simp only [lens] <;> omega) | fail) only [go_sem, len64c, map_shr32, map_shr16, idx8, ev]
    simp
  · refine len_end (a := 56) (by omega) (by omega) (by omega) fun hb => ?_
    have ev : ((y : Int) / 4294967296 / 65536 / 256).toNat = y / 2 ^ 56 := by omega
    refine res_code (fn := len64c) rfl rfl ?_
    simp (disch := first | assumption | omega | decide | (simp only [lens] <;> omega) | fail) only [go_sem, len64c, map_shr32, map_shr16, map_shr8, idx8, ev]
    simp
theorem res_LZ {y : Nat} (h : 1 ≤ y ∧ y ≤ 18446744073709551615) : ∃ s : Nat, res Γ 150 [.int .u64 y] = some [.int .i64 (s : Int)] ∧ s ≤ 63 ∧ 9223372036854775808 ≤ y * 2 ^ s ∧ y * 2 ^ s < 18446744073709551616 := by
  obtain ⟨n, e, h1, h2, h3, h4⟩ := res_Len64 h
  have e2 : ((64 : Int) - (n : Int)) = ((64 - n : Nat) : Int) := by omega
  refine ⟨64 - n, ?_, by omega, ?_, ?_⟩
  · refine res_code (fn := math_bits_LeadingZeros64) rfl rfl ?_
    simp (disch := first | assumption | omega | decide | (simp only [lens] <;> omega) | fail) only [go_sem, math_bits_LeadingZeros64, e, e2]
  · have p : 2 ^ (n - 1) * 2 ^ (64 - n) = 9223372036854775808 := by rw [← Nat.pow_add, show n - 1 + (64 - n) = 63 by omega]
    rw [← p]; exact Nat.mul_le_mul_right _ h3
  · have p : 2 ^ n * 2 ^ (64 - n) = 18446744073709551616 := by rw [← Nat.pow_add, show n + (64 - n) = 64 by omega]
    rw [← p]; exact Nat.mul_lt_mul_of_pos_right h4 (Nat.pow_pos (by decide))
end Ab
namespace Ab
open Go (IntKind BinOp UnOp)
theorem div_l2_ok {Y s n1 n0 U u u0 D : Int} (hY : Y = n1 * 4294967296 + n0) (h1 : 2147483648 ≤ n1 ∧ n1 < 4294967296) (hn : 0 ≤ n0 ∧ n0 < 4294967296) (hU : 0 ≤ U ∧ U < Y) (hu : 0 ≤ u ∧ u < 4294967296)
    (hD0 : 0 ≤ D) (hD : D * Y ≤ U * 4294967296 + u) (hD' : U * 4294967296 + u < (D + 1) * Y) : ∀ (n : Nat) (q r : Int) (Q : Out → Prop), U = q * n1 + r → 0 ≤ r → r < 4294967296 → D ≤ q → q ≤ 8589934592 → 4294967296 ≤ r + n * 2147483648 →
    Q (.nrm, [(2, .p (.int .u64 Y)), (8, .p (.int .u64 s)), (9, .p (.int .u64 n1)), (10, .p (.int .u64 n0)), (11, .p (.int .u64 U)), (13, .p (.int .u64 u)), (14, .p (.int .u64 u0)), (15, .p (.int .u64 D))], []) →
    Wp Γ math_bits_Div64_l2 [(2, .p (.int .u64 Y)), (8, .p (.int .u64 s)), (9, .p (.int .u64 n1)), (10, .p (.int .u64 n0)), (11, .p (.int .u64 U)), (13, .p (.int .u64 u)), (14, .p (.int .u64 u0)), (15, .p (.int .u64 q)), (16, .p (.int .u64 r))] [] (InBlk [2, 8, 9, 10, 11, 13, 14, 15] 0 Q) := by
  have hpos : 0 < Y := by omega
  intro n
  induction n with
  | zero => intro q r Q _ _ h _ _ h'; omega
  | succ n ih =>
    intro q r Q e r0 r1 hq hq2 hm hQ
    have eU : U = (q - 1) * n1 + (r + n1) := by rw [Int.sub_mul]; omega
    rw [W_loop (L := math_bits_Div64_l2) rfl]
    by_cases hc : 4294967296 ≤ q
    · have hd : D ≤ q - 1 := by have := dig_lt hU.2 hu.2 hD hpos; omega
      simp (disch := first | assumption | omega | decide | (simp only [lens] <;> omega) | fail) only [go_sem]
      refine cond_split (fun hc => ?_) (fun hc => ?_)
      · have := dig_break (q := q - 1) (r := r + n1) hY (by omega) hn.2 hn.1 eU (by omega) hU.2 hu.1 hD' hd (by omega)
        obtain ⟨rfl, _⟩ := this
        simp (disch := first | assumption | omega | decide | (simp only [lens] <;> omega) | fail) only [go_sem]
        exact hQ
      · simp (disch := first | assumption | omega | decide | (simp only [lens] <;> omega) | fail) only [go_sem]
        exact ih (q - 1) (r + n1) Q eU (by omega) (by omega) hd (by omega) (by omega) hQ
    · have b : 0 ≤ q * n0 ∧ q * n0 ≤ 18446744065119617025 := ⟨Int.mul_nonneg (by omega) hn.1, Int.le_trans (Int.mul_le_mul (show q ≤ 4294967295 by omega) (show n0 ≤ 4294967295 by omega) hn.1 (by decide)) (by decide)⟩
      simp (disch := first | assumption | omega | decide | (simp only [lens] <;> omega) | fail) only [go_sem]
      refine cond_split (fun hc => ?_) (fun hc => ?_)
      · have hd := dig_down hY e (by simpa using hc) hD hpos
        simp (disch := first | assumption | omega | decide | (simp only [lens] <;> omega) | fail) only [go_sem]
        refine cond_split (fun hc => ?_) (fun hc => ?_)
        · have := dig_break (q := q - 1) (r := r + n1) hY (by omega) hn.2 hn.1 eU (by omega) hU.2 hu.1 hD' hd (by omega)
          obtain ⟨rfl, _⟩ := this
          simp (disch := first | assumption | omega | decide | (simp only [lens] <;> omega) | fail) only [go_sem]
          exact hQ
        · simp (disch := first | assumption | omega | decide | (simp only [lens] <;> omega) | fail) only [go_sem]
          exact ih (q - 1) (r + n1) Q eU (by omega) (by omega) hd (by omega) (by omega) hQ
      · have := dig_exit hY e (by omega) hD' hq hpos
        subst this
        simp (disch := first | assumption | omega | decide | (simp only [lens] <;> omega) | fail) only [go_sem]
        exact hQ
theorem div_l1_ok {Y s n1 n0 U u q1 D : Int} (hY : Y = n1 * 4294967296 + n0) (h1 : 2147483648 ≤ n1 ∧ n1 < 4294967296) (hn : 0 ≤ n0 ∧ n0 < 4294967296) (hU : 0 ≤ U ∧ U < Y) (hu : 0 ≤ u ∧ u < 4294967296)
    (hD0 : 0 ≤ D) (hD : D * Y ≤ U * 4294967296 + u) (hD' : U * 4294967296 + u < (D + 1) * Y) : ∀ (n : Nat) (q r : Int) (Q : Out → Prop), U = q * n1 + r → 0 ≤ r → r < 4294967296 → D ≤ q → q ≤ 8589934592 → 4294967296 ≤ r + n * 2147483648 →
    Q (.nrm, [(2, .p (.int .u64 Y)), (8, .p (.int .u64 s)), (14, .p (.int .u64 u)), (15, .p (.int .u64 q1)), (17, .p (.int .u64 U)), (18, .p (.int .u64 D))], []) →
    Wp Γ math_bits_Div64_l1 [(2, .p (.int .u64 Y)), (8, .p (.int .u64 s)), (9, .p (.int .u64 n1)), (10, .p (.int .u64 n0)), (14, .p (.int .u64 u)), (15, .p (.int .u64 q1)), (16, .p (.int .u64 r)), (17, .p (.int .u64 U)), (18, .p (.int .u64 q))] [] (InBlk [2, 8, 14, 15, 17, 18] 2 Q) := by
  have hpos : 0 < Y := by omega
  intro n
  induction n with
  | zero => intro q r Q _ _ h _ _ h'; omega
  | succ n ih =>
    intro q r Q e r0 r1 hq hq2 hm hQ
    have eU : U = (q - 1) * n1 + (r + n1) := by rw [Int.sub_mul]; omega
    rw [W_loop (L := math_bits_Div64_l1) rfl]
    by_cases hc : 4294967296 ≤ q
    · have hd : D ≤ q - 1 := by have := dig_lt hU.2 hu.2 hD hpos; omega
      simp (disch := first | assumption | omega | decide | (simp only [lens] <;> omega) | fail) only [go_sem]
      refine cond_split (fun hc => ?_) (fun hc => ?_)
      · have := dig_break (q := q - 1) (r := r + n1) hY (by omega) hn.2 hn.1 eU (by omega) hU.2 hu.1 hD' hd (by omega)
        obtain ⟨rfl, _⟩ := this
        simp (disch := first | assumption | omega | decide | (simp only [lens] <;> omega) | fail) only [go_sem]
        exact hQ
      · simp (disch := first | assumption | omega | decide | (simp only [lens] <;> omega) | fail) only [go_sem]
        exact ih (q - 1) (r + n1) Q eU (by omega) (by omega) hd (by omega) (by omega) hQ
    · have b : 0 ≤ q * n0 ∧ q * n0 ≤ 18446744065119617025 := ⟨Int.mul_nonneg (by omega) hn.1, Int.le_trans (Int.mul_le_mul (show q ≤ 4294967295 by omega) (show n0 ≤ 4294967295 by omega) hn.1 (by decide)) (by decide)⟩
      simp (disch := first | assumption | omega | decide | (simp only [lens] <;> omega) | fail) only [go_sem]
      refine cond_split (fun hc => ?_) (fun hc => ?_)
      · have hd := dig_down hY e (by simpa using hc) hD hpos
        simp (disch := first | assumption | omega | decide | (simp only [lens] <;> omega) | fail) only [go_sem]
        refine cond_split (fun hc => ?_) (fun hc => ?_)
        · have := dig_break (q := q - 1) (r := r + n1) hY (by omega) hn.2 hn.1 eU (by omega) hU.2 hu.1 hD' hd (by omega)
          obtain ⟨rfl, _⟩ := this
          simp (disch := first | assumption | omega | decide | (simp only [lens] <;> omega) | fail) only [go_sem]
          exact hQ
        · simp (disch := first | assumption | omega | decide | (simp only [lens] <;> omega) | fail) only [go_sem]
          exact ih (q - 1) (r + n1) Q eU (by omega) (by omega) hd (by omega) (by omega) hQ
      · have := dig_exit hY e (by omega) hD' hq hpos
        subst this
        simp (disch := first | assumption | omega | decide | (simp only [lens] <;> omega) | fail) only [go_sem]
        exact hQ
end Ab
namespace Ab
theorem knuth {N hi lo y s Y U T : Nat} (hs : s ≤ 63) (hh : hi < y) (hl : lo < 18446744073709551616) (hN : N = hi * 18446744073709551616 + lo) (hY : Y = y * 2 ^ s) (hU : U = hi * 2 ^ s + lo / 2 ^ (64 - s)) (hT : T = lo * 2 ^ s % 18446744073709551616) :
    U < Y ∧ lo / 2 ^ (64 - s) < 2 ^ s ∧ hi * 2 ^ s < Y ∧
    ∀ D V E R : Nat, D = (U * 4294967296 + T / 4294967296) / Y → V = (U * 4294967296 + T / 4294967296) % Y → E = (V * 4294967296 + T % 4294967296) / Y → R = (V * 4294967296 + T % 4294967296) % Y → D * 4294967296 + E = N / y ∧ R / 2 ^ s = N % y := by
  have p : 0 < 2 ^ s := Nat.pow_pos (by decide)
  have eM : 2 ^ (64 - s) * 2 ^ s = 18446744073709551616 := by rw [← Nat.pow_add, show 64 - s + s = 64 by omega]
  have e1 : lo * 2 ^ s / 18446744073709551616 = lo / 2 ^ (64 - s) := by rw [← eM, Nat.mul_div_mul_right _ _ p]
  have e2 : lo * 2 ^ s = 18446744073709551616 * (lo / 2 ^ (64 - s)) + T := by rw [hT, ← e1]; exact (Nat.div_add_mod _ _).symm
  have hT2 : T < 18446744073709551616 := by rw [hT]; exact Nat.mod_lt _ (by decide)
  have e3 : U * 18446744073709551616 + T = N * 2 ^ s := by
    rw [hU, hN, Nat.add_mul, Nat.add_mul, e2, Nat.mul_right_comm]
    omega
  have l1 : lo / 2 ^ (64 - s) < 2 ^ s := Nat.div_lt_of_lt_mul (by rw [eM]; exact hl)
  have l2 : (hi + 1) * 2 ^ s ≤ Y := by rw [hY]; exact Nat.mul_le_mul_right _ hh
  rw [Nat.add_mul, Nat.one_mul] at l2
  have hY0 : 0 < Y := by omega
  refine ⟨by omega, l1, by omega, ?_⟩
  intro D V E R hD hV hE hR
  have a1 := Nat.div_add_mod (U * 4294967296 + T / 4294967296) Y
  have a2 := Nat.div_add_mod (V * 4294967296 + T % 4294967296) Y
  rw [← hD, ← hV] at a1
  rw [← hE, ← hR] at a2
  have b : R < Y := by rw [hR]; exact Nat.mod_lt _ hY0
  have e4 : N * 2 ^ s = Y * (D * 4294967296 + E) + R := by
    rw [Nat.mul_add, ← Nat.mul_assoc, ← e3]
    omega
  have c1 : N * 2 ^ s / Y = D * 4294967296 + E := by
    rw [e4, Nat.mul_add_div hY0, Nat.div_eq_of_lt b, Nat.add_zero]
  have c2 : N * 2 ^ s % Y = R := by rw [e4, Nat.mul_add_mod, Nat.mod_eq_of_lt b]
  rw [hY, Nat.mul_div_mul_right _ _ p] at c1
  rw [hY, Nat.mul_mod_mul_right] at c2
  exact ⟨c1.symm, by rw [← c2, Nat.mul_div_cancel _ p]⟩
end Ab
