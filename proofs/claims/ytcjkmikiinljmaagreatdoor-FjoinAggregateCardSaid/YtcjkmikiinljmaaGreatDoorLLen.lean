import Derived.Test.YtcjkmikiinljmaaGreatDoorLAgg2
import Derived.Test.YtcjkmikiinljmaaGreatDoorAbRel
import Derived.Test.YtcjkmikiinljmaaGreatDoorPSer
import Derived.Test.YtcjkmikiinljmaaGreatDoorCode
namespace Ab
open Go (IntKind BinOp UnOp)
def toV (o : List Int) : List Val := o.map fun n => (true, n)
def nums (l : List Val) : List Int := (knL l).map (·.2)
def sortV (l : List Val) : List Val := toV (sortI (nums l))
theorem toV_len {o} : (toV o).length = o.length := by simp [toV]
theorem nums_len {l : List Val} : (nums l).length = (knL l).length := by simp [nums]
theorem insI_len (n : Int) : ∀ o : List Int, (insI n o).length = o.length + 1
  | [] => rfl
  | m :: r => by
    unfold insI
    split
    · rw [List.length_cons, insI_len n r, List.length_cons]
    · rfl
theorem sortI_snoc (l : List Int) (n : Int) : sortI (l ++ [n]) = insI n (sortI l) := by unfold sortI; rw [List.foldl_append]; rfl
theorem sortI_len' : ∀ l : List Int, (sortI l).length = l.length := by
  have : ∀ (l o : List Int), (l.foldl (fun o n => insI n o) o).length = o.length + l.length := by
    intro l
    induction l with
    | nil => intro o; rfl
    | cons n l ih => intro o; rw [List.foldl_cons, ih, insI_len, List.length_cons]; omega
  intro l
  have := this l []
  simpa [sortI] using this
theorem sortV_len {l : List Val} : (sortV l).length = (knL l).length := by rw [sortV, toV_len, sortI_len', nums_len]
def posI (n : Int) : List Int → Nat
  | [] => 0
  | m :: r => if m ≤ n then posI n r + 1 else 0
theorem posI_le (n : Int) : ∀ o : List Int, posI n o ≤ o.length
  | [] => Nat.le_refl _
  | m :: r => by
    unfold posI
    split
    · have := posI_le n r; rw [List.length_cons]; omega
    · exact Nat.zero_le _
theorem posI_low (n : Int) : ∀ (o : List Int) (j : Nat), j < posI n o → o.getD j 0 ≤ n
  | [], j, h => by simp [posI] at h
  | m :: r, j, h => by
    unfold posI at h
    split at h
    · rename_i hm
      cases j with
      | zero => exact hm
      | succ j => simpa using posI_low n r j (by omega)
    · omega
theorem posI_high (n : Int) : ∀ o : List Int, posI n o < o.length → n < o.getD (posI n o) 0
  | [], h => by simp [posI] at h
  | m :: r, h => by
    unfold posI at h ⊢
    split
    · rename_i hm
      rw [if_pos hm, List.length_cons] at h
      simpa using posI_high n r (by omega)
    · rename_i hm; simpa using hm
theorem insI_split (n : Int) : ∀ o : List Int, insI n o = o.take (posI n o) ++ n :: o.drop (posI n o)
  | [] => rfl
  | m :: r => by
    unfold insI posI
    split
    · rw [insI_split n r]; rfl
    · rfl
theorem intsIn_vpv : ∀ {k : List Val}, (∀ v ∈ k, knV v = true) → intsIn (vpv k) = some (k.map (·.2))
  | [], _ => rfl
  | (b, n) :: k, h => by
    obtain ⟨rfl, _⟩ := knV_pair (h (b, n) (by simp))
    have ih := intsIn_vpv (k := k) fun v hv => h v (by simp [hv])
    have e : vpv ((true, n) :: k) = .agg [.bool true, .int .i64 n] :: vpv k := rfl
    rw [e, intsIn, ih]; rfl
theorem toV_vpv (o : List Int) : (o.map fun n => PV.agg [.bool true, .int .i64 n]) = vpv (toV o) := by
  simp [vpv, aggs, toV, valP, List.map_map, Function.comp_def]
theorem resM_aggKnown {kk : SK} (l : List Val) (hl : l.length < 1000000000) : resM Γ 0 140 [.p (.sl kk 2 (vpv l))] [] = some ([.own 0 (knL l).length], [.row false 2 (vpv (knL l))]) := by
  have hw : (vpv (knL l)).length = (knL l).length := vpv_len
  refine resM_code (fn := agg_Known) rfl rfl ?_
  simp (disch := first | assumption | omega | decide | (simp only [List.length_cons, List.length_nil, List.length_append, List.length_replicate, List.length_map, List.length_set, List.length_take, List.length_drop, strs_len, ints_len, bools_len, aggs_len, vpv_len]; done) | (simp only [List.length_cons, List.length_nil, List.length_append, List.length_replicate, List.length_map, List.length_set, List.length_take, List.length_drop, strs_len, ints_len, bools_len, aggs_len, vpv_len]; omega)) only [go_sem, agg_Known]
  refine agg_Known_l1_ok l hl _ l.length 0 [] (by omega) (fun T => ?_)
  simp (disch := first | assumption | omega | decide | (simp only [List.length_cons, List.length_nil, List.length_append, List.length_replicate, List.length_map, List.length_set, List.length_take, List.length_drop, strs_len, ints_len, bools_len, aggs_len, vpv_len]; done) | (simp only [List.length_cons, List.length_nil, List.length_append, List.length_replicate, List.length_map, List.length_set, List.length_take, List.length_drop, strs_len, ints_len, bools_len, aggs_len, vpv_len]; omega)) only [go_sem]
theorem resM_sort (l : List Val) : resM Γ 1 182 [.own 0 (knL l).length, .p (.clo 183 [])] [.row false 2 (vpv (knL l))] = some ([], [.row false 2 (vpv (sortV l))]) := by
  have h := resM_upd (Γ := Γ) (f := 182) (g := sortG 183) (ps := [.clo 183 []]) (sz := 2) (xs := vpv (knL l)) (ys := vpv (sortV l)) rfl (by
    show (if 183 = 183 then (intsIn (vpv (knL l))).map _ else none) = _
    rw [if_pos rfl, intsIn_vpv fun v hv => knL_mem hv, Option.map_some, toV_vpv]; rfl) (by rw [vpv_len, vpv_len, sortV_len])
  rw [vpv_len] at h
  exact h
theorem st182 : stillF Γ 1 182 = true := rfl
theorem res_fwinSorted {kk : SK} (l : List Val) (hl : l.length < 1000000000) : res Γ 177 [.sl kk 2 (vpv l)] = some [.sl .any 2 (vpv (sortV l))] := by
  have e1 := resM_aggKnown (kk := kk) l hl
  have e2 := resM_sort l
  have hw : (vpv (sortV l)).length = (knL l).length := by rw [vpv_len, sortV_len]
  refine res_code (fn := fwin_sorted) rfl rfl ?_
  simp (disch := first | assumption | omega | decide | (simp only [List.length_cons, List.length_nil, List.length_append, List.length_replicate, List.length_map, List.length_set, List.length_take, List.length_drop, strs_len, ints_len, bools_len, aggs_len, vpv_len]; done) | (simp only [List.length_cons, List.length_nil, List.length_append, List.length_replicate, List.length_map, List.length_set, List.length_take, List.length_drop, strs_len, ints_len, bools_len, aggs_len, vpv_len]; omega)) only [go_sem, fwin_sorted, e1, e2, st182]
theorem toV_getD {o : List Int} {j : Nat} (h : j < o.length) : (toV o).getD j (false, 0) = (true, o.getD j 0) := by
  simp only [toV, List.getD_eq_getElem?_getD, List.getElem?_map, List.getElem?_eq_getElem h, Option.map_some, Option.getD_some]
@[go_sem] theorem ifB_dec {α : Type} {c : Prop} [Decidable c] {x : Option α} (h : c) : ifB (decide c) x = x := by rw [decide_eq_true h]; rfl
@[go_sem] theorem loadK_vals {f sz s ag} {l : List Val} {n i off : Nat} (h : l.length = n) (h' : i < n) : loadK (some (.row f sz (vpv l))) s ag n i off = takeP s ag ((valP (l.getD i (false, 0))).drop off) := by
  simp only [loadK, vpv_len, h, if_true, vpv_get (show i < l.length by omega), Option.bind_some, PV.cells]
theorem sorted_l1_ok {kk : SK} (ks : List Val) (o : List Int) (m : Nat) (hm : o.length = m) (n : Int) (T : Heap) (i : Nat) (hi : i < ks.length) (hn : (ks.getD i (false, 0)).2 = n) (_hl : ks.length < 1000000000) (ho : o.length < 1000000000) (Q : Out → Prop) : ∀ (d j : Nat), j + d = posI n o →
    Q (.nrm, [(3, .p (.sl kk 2 (vpv ks))), (4, .own 0 m), (5, .p (.int .i64 (i : Int))), (6, .p (.int .i64 (posI n o : Nat)))], .row false 2 (vpv (toV o)) :: T) →
    Wp Γ r21_sorted_l1 [(3, .p (.sl kk 2 (vpv ks))), (4, .own 0 m), (5, .p (.int .i64 (i : Int))), (6, .p (.int .i64 (j : Int)))] (.row false 2 (vpv (toV o)) :: T) (InBlk [3, 4, 5, 6] 2 Q) := by
  have hw : (vpv (toV o)).length = m := by rw [vpv_len, toV_len, hm]
  have hle := posI_le n o
  intro d
  induction d with
  | zero =>
    intro j hj hQ
    obtain rfl : j = posI n o := by omega
    have hh := posI_high n o
    generalize posI n o = j at *
    rw [W_loop (L := r21_sorted_l1) rfl]
    by_cases h : j < o.length
    · have hh := hh h
      have eg := toV_getD h
      have hlt : (toV o).length = m := by rw [toV_len, hm]
      simp (disch := first | assumption | omega | decide | (simp only [List.length_cons, List.length_nil, List.length_append, List.length_replicate, List.length_map, List.length_set, List.length_take, List.length_drop, strs_len, ints_len, bools_len, aggs_len, vpv_len]; done) | (simp only [List.length_cons, List.length_nil, List.length_append, List.length_replicate, List.length_map, List.length_set, List.length_take, List.length_drop, strs_len, ints_len, bools_len, aggs_len, vpv_len]; omega)) only [go_sem, valP, eg, hn]
      exact hQ
    · simp (disch := first | assumption | omega | decide | (simp only [List.length_cons, List.length_nil, List.length_append, List.length_replicate, List.length_map, List.length_set, List.length_take, List.length_drop, strs_len, ints_len, bools_len, aggs_len, vpv_len]; done) | (simp only [List.length_cons, List.length_nil, List.length_append, List.length_replicate, List.length_map, List.length_set, List.length_take, List.length_drop, strs_len, ints_len, bools_len, aggs_len, vpv_len]; omega)) only [go_sem]
      exact hQ
  | succ d ih =>
    intro j hj hQ
    have h : j < o.length := by omega
    have hlow := posI_low n o j (by omega)
    have eg := toV_getD h
    have hlt : (toV o).length = m := by rw [toV_len, hm]
    rw [W_loop (L := r21_sorted_l1) rfl]
    simp (disch := first | assumption | omega | decide | (simp only [List.length_cons, List.length_nil, List.length_append, List.length_replicate, List.length_map, List.length_set, List.length_take, List.length_drop, strs_len, ints_len, bools_len, aggs_len, vpv_len]; done) | (simp only [List.length_cons, List.length_nil, List.length_append, List.length_replicate, List.length_map, List.length_set, List.length_take, List.length_drop, strs_len, ints_len, bools_len, aggs_len, vpv_len]; omega)) only [go_sem, valP, eg, hn]
    exact ih (j + 1) (by omega) hQ
theorem nums_take {l : List Val} {i : Nat} (h : i < (knL l).length) : ((knL l).take (i + 1)).map (·.2) = ((knL l).take i).map (·.2) ++ [((knL l).getD i (false, 0)).2] := by
  rw [take_snoc' (false, 0) h, List.map_append]; rfl
theorem knL_getD {l : List Val} {i : Nat} (h : i < (knL l).length) : ∃ n, (knL l).getD i (false, 0) = (true, n) := by
  rw [List.getD_eq_getElem?_getD, List.getElem?_eq_getElem h]
  have := knV_iff.1 (knL_mem (List.getElem_mem h))
  exact ⟨((knL l)[i]).2, by rw [Option.getD_some, ← this.1]⟩
theorem sorted_l2_ok {kk : SK} (l : List Val) (hl : (knL l).length < 1000000000) (Q : Out → Prop) : ∀ (d i : Nat) (env : Env) (X : Heap), i + 1 + d = (knL l).length →
    norm [3, 4, 5] (some 0) env X = some ([(3, .p (.sl kk 2 (vpv (knL l)))), (4, .own 0 (i + 1)), (5, .p (.int .i64 ((i + 1 : Nat) : Int)))], [.row false 2 (vpv (toV (sortI (((knL l).take (i + 1)).map (·.2)))))]) →
    (∀ T, Q (.nrm, [(4, .own 0 (knL l).length)], .row false 2 (vpv (sortV l)) :: T)) →
    Wp Γ r21_sorted_l2 env X (InBlk [4] 0 Q) := by
  intro d
  induction d with
  | zero =>
    intro i env X hi hX hQ
    have hi : i + 1 = (knL l).length := by omega
    rw [hi, List.take_length] at hX
    rw [W_loop (L := r21_sorted_l2) rfl]
    rw [hX]
    simp (disch := first | assumption | omega | decide | (simp only [List.length_cons, List.length_nil, List.length_append, List.length_replicate, List.length_map, List.length_set, List.length_take, List.length_drop, strs_len, ints_len, bools_len, aggs_len, vpv_len]; done) | (simp only [List.length_cons, List.length_nil, List.length_append, List.length_replicate, List.length_map, List.length_set, List.length_take, List.length_drop, strs_len, ints_len, bools_len, aggs_len, vpv_len]; omega)) only [go_sem]
    exact hQ []
  | succ d ih =>
    intro i env X hi hX hQ
    obtain ⟨n, hn⟩ := knL_getD (l := l) (i := i + 1) (by omega)
    have en := nums_take (l := l) (i := i + 1) (by omega)
    rw [hn] at en
    have hol : (sortI (((knL l).take (i + 1)).map (·.2))).length = i + 1 := by rw [sortI_len', List.length_map, List.length_take]; omega
    have es : sortI (((knL l).take (i + 1 + 1)).map (·.2)) = insI n (sortI (((knL l).take (i + 1)).map (·.2))) := by rw [en, sortI_snoc]
    rw [insI_split] at es
    generalize sortI (((knL l).take (i + 1)).map (·.2)) = o at *
    have hle := posI_le n o
    rw [W_loop (L := r21_sorted_l2) rfl]
    rw [hX]
    simp (disch := first | assumption | omega | decide | (simp only [List.length_cons, List.length_nil, List.length_append, List.length_replicate, List.length_map, List.length_set, List.length_take, List.length_drop, strs_len, ints_len, bools_len, aggs_len, vpv_len]; done) | (simp only [List.length_cons, List.length_nil, List.length_append, List.length_replicate, List.length_map, List.length_set, List.length_take, List.length_drop, strs_len, ints_len, bools_len, aggs_len, vpv_len]; omega)) only [go_sem]
    refine sorted_l1_ok (knL l) o (i + 1) hol n _ (i + 1) (by omega) (by rw [hn]) (by omega) (by omega) _ (posI n o) 0 (by omega) ?_
    have w1 : (vpv (toV o)).length = i + 1 := by rw [vpv_len, toV_len, hol]
    have w2 : (vpv ((toV o).take (posI n o))).length = posI n o := by rw [vpv_len, List.length_take, toV_len]; omega
    have w3 : (vpv ((toV o).drop (posI n o))).length = o.length - posI n o := by rw [vpv_len, List.length_drop, toV_len]
    have ht : (toV o).length = i + 1 := by rw [toV_len, hol]
    have w4 : (vpv (toV (o.take (posI n o) ++ n :: o.drop (posI n o)))).length = i + 1 + 1 := by rw [vpv_len, toV_len, List.length_append, List.length_cons, List.length_take, List.length_drop]; omega
    have e1 : vpv ((toV o).take (posI n o) ++ (true, n) :: (toV o).drop (posI n o)) = vpv (toV (o.take (posI n o) ++ n :: o.drop (posI n o))) := by simp [toV]
    simp (disch := first | assumption | omega | decide | (simp only [List.length_cons, List.length_nil, List.length_append, List.length_replicate, List.length_map, List.length_set, List.length_take, List.length_drop, strs_len, ints_len, bools_len, aggs_len, vpv_len]; done) | (simp only [List.length_cons, List.length_nil, List.length_append, List.length_replicate, List.length_map, List.length_set, List.length_take, List.length_drop, strs_len, ints_len, bools_len, aggs_len, vpv_len]; omega)) only [go_sem, hn, valP]
    refine ih (i + 1) _ _ (by omega) ?_ hQ
    simp (disch := first | assumption | omega | decide | (simp only [List.length_cons, List.length_nil, List.length_append, List.length_replicate, List.length_map, List.length_set, List.length_take, List.length_drop, strs_len, ints_len, bools_len, aggs_len, vpv_len]; done) | (simp only [List.length_cons, List.length_nil, List.length_append, List.length_replicate, List.length_map, List.length_set, List.length_take, List.length_drop, strs_len, ints_len, bools_len, aggs_len, vpv_len]; omega)) only [go_sem]
    have e2 : ((toV o).take (posI n o)).length + 1 + ((toV o).drop (posI n o)).length = i + 1 + 1 := by rw [List.length_take, List.length_drop]; omega
    rw [es, e1, e2]
    rfl
theorem sorted_l2_first {kk : SK} (l : List Val) (hl : (knL l).length < 1000000000) (hne : knL l ≠ []) (Q : Out → Prop) :
    (∀ T, Q (.nrm, [(4, .own 0 (knL l).length)], .row false 2 (vpv (sortV l)) :: T)) →
    Wp Γ r21_sorted_l2 [(3, .p (.sl kk 2 (vpv (knL l)))), (4, .p (.sl .nil 2 [])), (5, .p (.int .i64 0))] [] (InBlk [4] 0 Q) := by
  intro hQ
  have hpos : 0 < (knL l).length := List.length_pos_iff.2 hne
  obtain ⟨n, hn⟩ := knL_getD (l := l) (i := 0) (by omega)
  rw [W_loop (L := r21_sorted_l2) rfl]
  simp (disch := first | assumption | omega | decide | (simp only [List.length_cons, List.length_nil, List.length_append, List.length_replicate, List.length_map, List.length_set, List.length_take, List.length_drop, strs_len, ints_len, bools_len, aggs_len, vpv_len]; done) | (simp only [List.length_cons, List.length_nil, List.length_append, List.length_replicate, List.length_map, List.length_set, List.length_take, List.length_drop, strs_len, ints_len, bools_len, aggs_len, vpv_len]; omega)) only [go_sem]
  rw [W_loop (L := r21_sorted_l1) rfl]
  simp (disch := first | assumption | omega | decide | (simp only [List.length_cons, List.length_nil, List.length_append, List.length_replicate, List.length_map, List.length_set, List.length_take, List.length_drop, strs_len, ints_len, bools_len, aggs_len, vpv_len]; done) | (simp only [List.length_cons, List.length_nil, List.length_append, List.length_replicate, List.length_map, List.length_set, List.length_take, List.length_drop, strs_len, ints_len, bools_len, aggs_len, vpv_len]; omega)) only [go_sem, hn, valP]
  refine sorted_l2_ok (kk := kk) l hl Q ((knL l).length - 1) 0 _ _ (by omega) ?_ hQ
  have en := nums_take (l := l) (i := 0) (by omega)
  rw [hn] at en
  have es : vpv (toV (sortI (((knL l).take (0 + 1)).map (·.2)))) = [.agg [.bool true, .int .i64 n]] := by rw [en]; rfl
  rw [es]
  simp (disch := first | assumption | omega | decide | (simp only [List.length_cons, List.length_nil, List.length_append, List.length_replicate, List.length_map, List.length_set, List.length_take, List.length_drop, strs_len, ints_len, bools_len, aggs_len, vpv_len]; done) | (simp only [List.length_cons, List.length_nil, List.length_append, List.length_replicate, List.length_map, List.length_set, List.length_take, List.length_drop, strs_len, ints_len, bools_len, aggs_len, vpv_len]; omega)) only [go_sem]
  rfl
def sortK (l : List Val) : SK := if knL l = [] then .nil else .any
theorem res_r21Sorted {kk : SK} (l : List Val) (hl : l.length < 1000000000) : res Γ 181 [.sl kk 2 (vpv l)] = some [.sl (sortK l) 2 (vpv (sortV l))] := by
  have hk := knL_len l
  refine res_code (fn := r21_sorted) rfl rfl ?_
  simp (disch := first | assumption | omega | decide | (simp only [List.length_cons, List.length_nil, List.length_append, List.length_replicate, List.length_map, List.length_set, List.length_take, List.length_drop, strs_len, ints_len, bools_len, aggs_len, vpv_len]; done) | (simp only [List.length_cons, List.length_nil, List.length_append, List.length_replicate, List.length_map, List.length_set, List.length_take, List.length_drop, strs_len, ints_len, bools_len, aggs_len, vpv_len]; omega)) only [go_sem, r21_sorted]
  by_cases hne : knL l = []
  · rw [W_loop (L := r21_sorted_l2) rfl]
    have hz : (knL l).length = 0 := by rw [hne]; rfl
    have hs : sortV l = [] := by unfold sortV nums; rw [hne]; rfl
    simp (disch := first | assumption | omega | decide | (simp only [List.length_cons, List.length_nil, List.length_append, List.length_replicate, List.length_map, List.length_set, List.length_take, List.length_drop, strs_len, ints_len, bools_len, aggs_len, vpv_len]; done) | (simp only [List.length_cons, List.length_nil, List.length_append, List.length_replicate, List.length_map, List.length_set, List.length_take, List.length_drop, strs_len, ints_len, bools_len, aggs_len, vpv_len]; omega)) only [go_sem, sortK]
    rw [if_pos hne, hs]
    rfl
  · refine sorted_l2_first l (by omega) hne _ (fun T => ?_)
    have hw : (vpv (sortV l)).length = (knL l).length := by rw [vpv_len, sortV_len]
    simp (disch := first | assumption | omega | decide | (simp only [List.length_cons, List.length_nil, List.length_append, List.length_replicate, List.length_map, List.length_set, List.length_take, List.length_drop, strs_len, ints_len, bools_len, aggs_len, vpv_len]; done) | (simp only [List.length_cons, List.length_nil, List.length_append, List.length_replicate, List.length_map, List.length_set, List.length_take, List.length_drop, strs_len, ints_len, bools_len, aggs_len, vpv_len]; omega)) only [go_sem, sortK]
    rw [if_neg hne]
end Ab
namespace Ab
open Go (IntKind BinOp UnOp)
theorem wrap_u64 {x : Int} (h0 : 0 ≤ x) (h1 : x ≤ 18446744073709551615) : IntKind.u64.wrap x = x := by
  simp only [IntKind.wrap, IntKind.bits, IntKind.signed, Bool.false_and]
  have e : (2 : Int) ^ 64 = 18446744073709551616 := by decide
  rw [e]
  simp
  omega
theorem map_rem {k : IntKind} {a b : Int} (h0 : 0 ≤ a) (h1 : 0 < b) : binAV .rem (.p (.int k a)) (.p (.int k b)) = some (.p (.int k (a % b))) := by
  simp only [binAV, binPV, binInt, true_or, if_true]
  rw [if_neg (by omega), Int.tmod_eq_emod_of_nonneg h0]; rfl
theorem map_quo {k : IntKind} {a b : Int} (h0 : 0 ≤ a) (h1 : 0 < b) (h2 : k.wrap (a / b) = a / b) : binAV .quo (.p (.int k a)) (.p (.int k b)) = some (.p (.int k (a / b))) := by
  simp only [binAV, binPV, binInt, true_or, if_true]
  rw [if_neg (by omega), Int.tdiv_eq_ediv_of_nonneg h0, h2]; rfl
theorem strOf_one {H : Heap} {kk : SK} {n : Int} : strOfA H (.p (.sl kk 1 [.int .u8 n])) = some (.p (.str [UInt8.ofNat n.toNat])) := by
  simp [strOfA, bytesIn]
attribute [go_sem] wrap_u64 map_rem strOf_one
theorem decB_small {u : Nat} (h : u < 10) : decB u = [UInt8.ofNat (48 + u)] := by rw [decB, dif_pos h]
theorem decB_more {u : Nat} (h : ¬ u < 10) : decB u = decB (u / 10) ++ [UInt8.ofNat (48 + u % 10)] := by rw [decB, dif_neg h]
theorem r2_plain_l1_ok : ∀ (k u : Nat) (acc : List UInt8) (Q : Out → Prop), u < 10 ^ (k + 1) → u < 18446744073709551616 → acc.length + k ≤ 1000 → Q (.ret, [(2, .p (.str (decB u ++ acc)))], []) →
    Wp Γ r2_plain_l1 [(0, .p (.int .u64 (u : Int))), (3, .p (.str acc))] [] (InBlk [2] 0 Q) := by
  intro k
  induction k with
  | zero =>
    intro u acc Q h1 h2 h3 hQ
    have h1 : u < 10 := by simpa using h1
    rw [decB_small h1] at hQ
    have q : binAV .quo (.p (.int .u64 (u : Int))) (.p (.int .u64 10)) = some (.p (.int .u64 0)) := by
      rw [map_quo (by omega) (by omega) (wrap_u64 (by omega) (by omega)), show (u : Int) / 10 = 0 by omega]
    have e1 : (u : Int) % 10 = u := by omega
    have e2 : ((48 : Int) + (u : Int)).toNat = 48 + u := by omega
    rw [W_loop (L := r2_plain_l1) rfl]
    simp (disch := first | assumption | omega | decide | (simp only [List.length_cons, List.length_nil, List.length_append, List.length_replicate, List.length_map, List.length_set, List.length_take, List.length_drop, strs_len, ints_len, bools_len, aggs_len, vpv_len]; done) | (simp only [List.length_cons, List.length_nil, List.length_append, List.length_replicate, List.length_map, List.length_set, List.length_take, List.length_drop, strs_len, ints_len, bools_len, aggs_len, vpv_len]; omega)) only [go_sem, e1, q, e2]
    exact hQ
  | succ k ih =>
    intro u acc Q h1 h2 h3 hQ
    have q : binAV .quo (.p (.int .u64 (u : Int))) (.p (.int .u64 10)) = some (.p (.int .u64 ((u / 10 : Nat) : Int))) := by
      rw [map_quo (by omega) (by omega) (wrap_u64 (by omega) (by omega))]; rfl
    have e1 : (u : Int) % 10 = ((u % 10 : Nat) : Int) := by omega
    have e2 : ((48 : Int) + ((u % 10 : Nat) : Int)).toNat = 48 + u % 10 := by omega
    rw [W_loop (L := r2_plain_l1) rfl]
    simp (disch := first | assumption | omega | decide | (simp only [List.length_cons, List.length_nil, List.length_append, List.length_replicate, List.length_map, List.length_set, List.length_take, List.length_drop, strs_len, ints_len, bools_len, aggs_len, vpv_len]; done) | (simp only [List.length_cons, List.length_nil, List.length_append, List.length_replicate, List.length_map, List.length_set, List.length_take, List.length_drop, strs_len, ints_len, bools_len, aggs_len, vpv_len]; omega)) only [go_sem, e1, q, e2]
    by_cases hs : u < 10
    · rw [decB_small hs] at hQ
      have e3 : u % 10 = u := by omega
      rw [e3]
      simp (disch := first | assumption | omega | decide | (simp only [List.length_cons, List.length_nil, List.length_append, List.length_replicate, List.length_map, List.length_set, List.length_take, List.length_drop, strs_len, ints_len, bools_len, aggs_len, vpv_len]; done) | (simp only [List.length_cons, List.length_nil, List.length_append, List.length_replicate, List.length_map, List.length_set, List.length_take, List.length_drop, strs_len, ints_len, bools_len, aggs_len, vpv_len]; omega)) only [go_sem]
      exact hQ
    · rw [decB_more hs, List.append_assoc] at hQ
      simp (disch := first | assumption | omega | decide | (simp only [List.length_cons, List.length_nil, List.length_append, List.length_replicate, List.length_map, List.length_set, List.length_take, List.length_drop, strs_len, ints_len, bools_len, aggs_len, vpv_len]; done) | (simp only [List.length_cons, List.length_nil, List.length_append, List.length_replicate, List.length_map, List.length_set, List.length_take, List.length_drop, strs_len, ints_len, bools_len, aggs_len, vpv_len]; omega)) only [go_sem]
      exact ih (u / 10) _ Q (by rw [Nat.pow_succ] at h1; omega) (by omega) (by simp; omega) hQ
theorem res_r2plain (u : Nat) (h : u < 18446744073709551616) : res Γ 121 [.int .u64 (u : Int)] = some [.str (decB u)] := by
  refine res_code (fn := r2_plain) rfl rfl ?_
  simp (disch := first | assumption | omega | decide | (simp only [List.length_cons, List.length_nil, List.length_append, List.length_replicate, List.length_map, List.length_set, List.length_take, List.length_drop, strs_len, ints_len, bools_len, aggs_len, vpv_len]; done) | (simp only [List.length_cons, List.length_nil, List.length_append, List.length_replicate, List.length_map, List.length_set, List.length_take, List.length_drop, strs_len, ints_len, bools_len, aggs_len, vpv_len]; omega)) only [go_sem, r2_plain]
  refine r2_plain_l1_ok 19 u [] _ (by omega) h (by simp) ?_
  simp (disch := first | assumption | omega | decide | (simp only [List.length_cons, List.length_nil, List.length_append, List.length_replicate, List.length_map, List.length_set, List.length_take, List.length_drop, strs_len, ints_len, bools_len, aggs_len, vpv_len]; done) | (simp only [List.length_cons, List.length_nil, List.length_append, List.length_replicate, List.length_map, List.length_set, List.length_take, List.length_drop, strs_len, ints_len, bools_len, aggs_len, vpv_len]; omega)) only [go_sem]
theorem res_r2Digits (n : Nat) (h : n < 9223372036854775808) : res Γ 107 [.int .i64 (n : Int)] = some [.str (decB n)] := by
  have e := res_r2plain n (by omega)
  refine res_code (fn := r2_Digits) rfl rfl ?_
  simp (disch := first | assumption | omega | decide | (simp only [List.length_cons, List.length_nil, List.length_append, List.length_replicate, List.length_map, List.length_set, List.length_take, List.length_drop, strs_len, ints_len, bools_len, aggs_len, vpv_len]; done) | (simp only [List.length_cons, List.length_nil, List.length_append, List.length_replicate, List.length_map, List.length_set, List.length_take, List.length_drop, strs_len, ints_len, bools_len, aggs_len, vpv_len]; omega)) only [go_sem, r2_Digits, e]
theorem res_decDigits (n : Nat) (h : n < 9223372036854775808) : res Γ 105 [.int .i64 (n : Int)] = some [.str (decB n)] := by
  have e : res Γ 114 [.int .i64 (n : Int)] = some [.str (decB n)] := by
    refine res_of (RunP_prim (g := itoaG) rfl ?_)
    simp only [itoaG]
    rw [if_pos (by omega), itoaB, if_neg (by omega), Int.toNat_natCast]
  refine res_code (fn := dec_Digits) rfl rfl ?_
  simp (disch := first | assumption | omega | decide | (simp only [List.length_cons, List.length_nil, List.length_append, List.length_replicate, List.length_map, List.length_set, List.length_take, List.length_drop, strs_len, ints_len, bools_len, aggs_len, vpv_len]; done) | (simp only [List.length_cons, List.length_nil, List.length_append, List.length_replicate, List.length_map, List.length_set, List.length_take, List.length_drop, strs_len, ints_len, bools_len, aggs_len, vpv_len]; omega)) only [go_sem, dec_Digits, e]
theorem decB_len : ∀ (k u : Nat), u < 10 ^ (k + 1) → (decB u).length ≤ k + 1 := by
  intro k
  induction k with
  | zero => intro u h; rw [decB_small (by simpa using h)]; simp
  | succ k ih =>
    intro u h
    by_cases hs : u < 10
    · rw [decB_small hs]; simp
    · rw [decB_more hs]
      have := ih (u / 10) (by rw [Nat.pow_succ] at h; omega)
      simp; omega
end Ab
namespace Ab
theorem dig_exit {Y n1 n0 U u q r Q : Int} (hY : Y = n1 * 4294967296 + n0) (hU : U = q * n1 + r) (hle : q * n0 ≤ 4294967296 * r + u) (hQ : U * 4294967296 + u < (Q + 1) * Y) (hq : Q ≤ q) (h0 : 0 < Y) : q = Q := by
  have e : q * Y = q * n1 * 4294967296 + q * n0 := by rw [hY, Int.mul_add, ← Int.mul_assoc]
  have l : q * Y < (Q + 1) * Y := by omega
  have := Int.lt_of_mul_lt_mul_right l (Int.le_of_lt h0)
  omega
theorem dig_down {Y n1 n0 U u q r Q : Int} (hY : Y = n1 * 4294967296 + n0) (hU : U = q * n1 + r) (hgt : 4294967296 * r + u < q * n0) (hQ : Q * Y ≤ U * 4294967296 + u) (h0 : 0 < Y) : Q ≤ q - 1 := by
  have e : q * Y = q * n1 * 4294967296 + q * n0 := by rw [hY, Int.mul_add, ← Int.mul_assoc]
  have l : Q * Y < q * Y := by omega
  have := Int.lt_of_mul_lt_mul_right l (Int.le_of_lt h0)
  omega
theorem dig_lt {Y U u Q : Int} (hU : U < Y) (hu : u < 4294967296) (hQ : Q * Y ≤ U * 4294967296 + u) (h0 : 0 < Y) : Q < 4294967296 := by
  have l : Q * Y < 4294967296 * Y := by omega
  exact Int.lt_of_mul_lt_mul_right l (Int.le_of_lt h0)
theorem dig_first {Y n1 n0 U u Q : Int} (hY : Y = n1 * 4294967296 + n0) (h1 : 0 < n1) (hn : 0 ≤ n0) (hu : u < 4294967296) (hQ0 : 0 ≤ Q) (hQ : Q * Y ≤ U * 4294967296 + u) : Q ≤ U / n1 := by
  have e : Q * Y = Q * n1 * 4294967296 + Q * n0 := by rw [hY, Int.mul_add, ← Int.mul_assoc]
  have p : 0 ≤ Q * n0 := Int.mul_nonneg hQ0 hn
  have l : Q * n1 ≤ U := by omega
  exact (Int.le_ediv_iff_mul_le h1).2 l
theorem dig_break {Y n1 n0 U u q r Q : Int} (hY : Y = n1 * 4294967296 + n0) (h1 : 0 < n1) (hn : n0 < 4294967296) (hn0 : 0 ≤ n0) (hU : U = q * n1 + r) (hr : 4294967296 ≤ r) (hUY : U < Y) (hu : 0 ≤ u) (hQ : U * 4294967296 + u < (Q + 1) * Y) (hq : Q ≤ q) (hq0 : 0 ≤ q) : q = Q ∧ q < 4294967296 := by
  have l : q * n1 < 4294967296 * n1 := by omega
  have lq := Int.lt_of_mul_lt_mul_right l (Int.le_of_lt h1)
  have m : q * n0 ≤ 4294967296 * n0 := Int.mul_le_mul_of_nonneg_right (by omega) hn0
  have hp : 0 < n1 * 4294967296 := by omega
  exact ⟨dig_exit hY hU (by omega) hQ hq (by omega), lq⟩
theorem mul_halves {x y : Int} (hx : 0 ≤ x ∧ x < 18446744073709551616) (hy : 0 ≤ y ∧ y < 18446744073709551616) :
    let x0 := x % 4294967296; let x1 := x / 4294967296; let y0 := y % 4294967296; let y1 := y / 4294967296
    let w0 := x0 * y0; let t := x1 * y0 + w0 / 4294967296; let w1 := t % 4294967296 + x0 * y1
    (0 ≤ w0 ∧ w0 ≤ 18446744065119617025) ∧ (0 ≤ x1 * y0 ∧ x1 * y0 ≤ 18446744065119617025) ∧ (0 ≤ x0 * y1 ∧ x0 * y1 ≤ 18446744065119617025) ∧ (0 ≤ x1 * y1 ∧ x1 * y1 ≤ 18446744065119617025) ∧
      x1 * y1 + t / 4294967296 + w1 / 4294967296 = x * y / 18446744073709551616 ∧ (0 ≤ x * y / 18446744073709551616 ∧ x * y / 18446744073709551616 < 18446744073709551616) := by
  intro x0 x1 y0 y1 w0 t w1
  have b : ∀ a c : Int, 0 ≤ a → a ≤ 4294967295 → 0 ≤ c → c ≤ 4294967295 → 0 ≤ a * c ∧ a * c ≤ 18446744065119617025 := fun a c h1 h2 h3 h4 =>
    ⟨Int.mul_nonneg h1 h3, Int.le_trans (Int.mul_le_mul h2 h4 h3 (by decide)) (by decide)⟩
  have hx0 : 0 ≤ x0 ∧ x0 ≤ 4294967295 := by omega
  have hx1 : 0 ≤ x1 ∧ x1 ≤ 4294967295 := by omega
  have hy0 : 0 ≤ y0 ∧ y0 ≤ 4294967295 := by omega
  have hy1 : 0 ≤ y1 ∧ y1 ≤ 4294967295 := by omega
  have b1 := b x0 y0 hx0.1 hx0.2 hy0.1 hy0.2
  have b2 := b x1 y0 hx1.1 hx1.2 hy0.1 hy0.2
  have b3 := b x0 y1 hx0.1 hx0.2 hy1.1 hy1.2
  have b4 := b x1 y1 hx1.1 hx1.2 hy1.1 hy1.2
  have ex : x = 4294967296 * x1 + x0 := by omega
  have ey : y = 4294967296 * y1 + y0 := by omega
  have e : x * y = 18446744073709551616 * (x1 * y1) + 4294967296 * (x1 * y0) + 4294967296 * (x0 * y1) + x0 * y0 := by
    rw [ex, ey, Int.add_mul, Int.mul_add, Int.mul_add, Int.mul_assoc, Int.mul_left_comm x1, ← Int.mul_assoc 4294967296, Int.mul_assoc 4294967296 x1 y0, Int.mul_left_comm x0 4294967296]
    omega
  refine ⟨b1, b2, b3, b4, ?_, ?_⟩
  · rw [e]
    omega
  · rw [e]
    omega
end Ab
namespace Ab
open Go (IntKind BinOp UnOp)
theorem wrap_u64m (x : Int) : IntKind.u64.wrap x = x % 18446744073709551616 := by
  simp only [IntKind.wrap, IntKind.bits, IntKind.signed, Bool.false_and]
  have e : (2 : Int) ^ 64 = 18446744073709551616 := by decide
  rw [e]
  simp
theorem map_shr32 (x : Int) : binAV .shr (.p (.int .u64 x)) (.p (.int .u64 32)) = some (.p (.int .u64 (x / 4294967296))) := by
  have e : x.fdiv (2 ^ min 32 IntKind.u64.bits) = x / 4294967296 := by
    have e : (2 : Int) ^ (min 32 IntKind.u64.bits) = 4294967296 := by decide
    rw [e, Int.fdiv_eq_ediv_of_nonneg _ (by decide)]
  simp [binAV, binPV, binInt, e]
theorem map_and32 {x : Int} (_h0 : 0 ≤ x) (_h1 : x ≤ 18446744073709551615) : binAV .and (.p (.int .u64 x)) (.p (.int .u64 4294967295)) = some (.p (.int .u64 (x % 4294967296))) := by
  have e : (BitVec.ofInt IntKind.u64.bits 4294967295).toNat = 2 ^ 32 - 1 := by decide
  have e3 : ((2 ^ IntKind.u64.bits : Nat) : Int) = 18446744073709551616 := by decide
  have key : ((BitVec.ofInt IntKind.u64.bits x &&& BitVec.ofInt IntKind.u64.bits 4294967295).toNat : Int) = x % 4294967296 := by
    rw [BitVec.toNat_and, e, Nat.and_two_pow_sub_one_eq_mod, BitVec.toNat_ofInt, e3]
    omega
  simp only [binAV, binPV, binInt, true_or, if_true, Option.map_some, key]
  rw [wrap_u64 (by omega) (by omega)]
theorem map_shr {x s : Int} (h0 : 0 ≤ s) (h1 : s ≤ 64) : binAV .shr (.p (.int .u64 x)) (.p (.int .u64 s)) = some (.p (.int .u64 (x / 2 ^ s.toNat))) := by
  have e : min s.toNat IntKind.u64.bits = s.toNat := Nat.min_eq_left (by show _ ≤ 64; omega)
  have p : (0 : Int) ≤ 2 ^ s.toNat := Int.le_of_lt (Int.pow_pos (by decide))
  simp only [binAV, binPV, binInt, e, Int.not_lt.2 h0, if_false, Int.fdiv_eq_ediv_of_nonneg _ p]
  simp
theorem map_shl {x s : Int} (h0 : 0 ≤ s) (h1 : s ≤ 64) : binAV .shl (.p (.int .u64 x)) (.p (.int .u64 s)) = some (.p (.int .u64 (IntKind.u64.wrap (x * 2 ^ s.toNat)))) := by
  have e : min s.toNat IntKind.u64.bits = s.toNat := Nat.min_eq_left (by show _ ≤ 64; omega)
  simp only [binAV, binPV, binInt, e, Int.not_lt.2 h0, if_false]
  simp
theorem map_quo64 {a b : Int} (h0 : 0 ≤ a) (h1 : a ≤ 18446744073709551615) (hb : 0 < b) : binAV .quo (.p (.int .u64 a)) (.p (.int .u64 b)) = some (.p (.int .u64 (a / b))) :=
  map_quo h0 hb (wrap_u64 (Int.ediv_nonneg h0 (Int.le_of_lt hb)) (Int.le_trans (Int.ediv_le_self _ h0) h1))
theorem res_Mul64 {x y : Int} (hx : 0 ≤ x ∧ x < 18446744073709551616) (hy : 0 ≤ y ∧ y < 18446744073709551616) : res Γ 149 [.int .u64 x, .int .u64 y] = some [.int .u64 (x * y / 18446744073709551616), .int .u64 (x * y % 18446744073709551616)] := by
  obtain ⟨b1, b2, b3, b4, e, b5⟩ := mul_halves hx hy
  rw [← e] at b5 ⊢
  rw [← wrap_u64m (x * y)]
  refine res_code (fn := math_bits_Mul64) rfl rfl ?_
  simp (disch := first | assumption | omega | decide | (simp only [List.length_cons, List.length_nil, List.length_append, List.length_replicate, List.length_map, List.length_set, List.length_take, List.length_drop, strs_len, ints_len, bools_len, aggs_len, vpv_len]; done) | (simp only [List.length_cons, List.length_nil, List.length_append, List.length_replicate, List.length_map, List.length_set, List.length_take, List.length_drop, strs_len, ints_len, bools_len, aggs_len, vpv_len]; omega)) only [go_sem, math_bits_Mul64, map_shr32, map_and32, wrap_u64]
end Ab
namespace Ab
open Go (IntKind BinOp UnOp)
set_option maxRecDepth 4000 in
def len8 : List UInt8 := [0, 1, 2, 2, 3, 3, 3, 3, 4, 4, 4, 4, 4, 4, 4, 4, 5, 5, 5, 5, 5, 5, 5, 5, 5, 5, 5, 5, 5, 5, 5, 5, 6, 6, 6, 6, 6, 6, 6, 6, 6, 6, 6, 6, 6, 6, 6, 6, 6, 6, 6, 6, 6, 6, 6, 6, 6, 6, 6, 6, 6, 6, 6, 6, 7, 7, 7, 7, 7, 7, 7, 7, 7, 7, 7, 7, 7, 7, 7, 7, 7, 7, 7, 7, 7, 7, 7, 7, 7, 7, 7, 7, 7, 7, 7, 7, 7, 7, 7, 7, 7, 7, 7, 7, 7, 7, 7, 7, 7, 7, 7, 7, 7, 7, 7, 7, 7, 7, 7, 7, 7, 7, 7, 7, 7, 7, 7, 7, 8, 8, 8, 8, 8, 8, 8, 8, 8, 8, 8, 8, 8, 8, 8, 8, 8, 8, 8, 8, 8, 8, 8, 8, 8, 8, 8, 8, 8, 8, 8, 8, 8, 8, 8, 8, 8, 8, 8, 8, 8, 8, 8, 8, 8, 8, 8, 8, 8, 8, 8, 8, 8, 8, 8, 8, 8, 8, 8, 8, 8, 8, 8, 8, 8, 8, 8, 8, 8, 8, 8, 8, 8, 8, 8, 8, 8, 8, 8, 8, 8, 8, 8, 8, 8, 8, 8, 8, 8, 8, 8, 8, 8, 8, 8, 8, 8, 8, 8, 8, 8, 8, 8, 8, 8, 8, 8, 8, 8, 8, 8, 8, 8, 8, 8, 8, 8, 8, 8, 8, 8, 8, 8, 8, 8, 8, 8, 8]
def len64c : AFn := ⟨1, [.slot 2],
  .seq (.ops [0, 2] [
    ⟨some 2, none, .inl (.mov (.c (.int .i64 0)))⟩]) (.seq (.seq (.ops [0, 2, 4] [
    ⟨some 3, none, .inl (.mov (.v 0))⟩,
    ⟨some 4, none, .inl (.bin .geq (.v 3) (.c (.int .u64 4294967296)))⟩]) (.cond (.v 4) (.seq (.ops [0] [
    ⟨some 5, none, .inl (.mov (.v 0))⟩,
    ⟨some 6, none, .inl (.bin .shr (.v 5) (.c (.int .u64 32)))⟩,
    ⟨some 0, none, .inl (.mov (.v 6))⟩]) (.ops [0, 2] [
    ⟨some 2, none, .inl (.mov (.c (.int .i64 32)))⟩])) (.skip))) (.seq (.seq (.ops [0, 2, 8] [
    ⟨some 7, none, .inl (.mov (.v 0))⟩,
    ⟨some 8, none, .inl (.bin .geq (.v 7) (.c (.int .u64 65536)))⟩]) (.cond (.v 8) (.seq (.ops [0, 2] [
    ⟨some 9, none, .inl (.mov (.v 0))⟩,
    ⟨some 10, none, .inl (.bin .shr (.v 9) (.c (.int .u64 16)))⟩,
    ⟨some 0, none, .inl (.mov (.v 10))⟩]) (.ops [0, 2] [
    ⟨some 11, none, .inl (.mov (.v 2))⟩,
    ⟨some 12, none, .inl (.bin .add (.v 11) (.c (.int .i64 16)))⟩,
    ⟨some 2, none, .inl (.mov (.v 12))⟩])) (.skip))) (.seq (.seq (.ops [0, 2, 14] [
    ⟨some 13, none, .inl (.mov (.v 0))⟩,
    ⟨some 14, none, .inl (.bin .geq (.v 13) (.c (.int .u64 256)))⟩]) (.cond (.v 14) (.seq (.ops [0, 2] [
    ⟨some 15, none, .inl (.mov (.v 0))⟩,
    ⟨some 16, none, .inl (.bin .shr (.v 15) (.c (.int .u64 8)))⟩,
    ⟨some 0, none, .inl (.mov (.v 16))⟩]) (.ops [0, 2] [
    ⟨some 17, none, .inl (.mov (.v 2))⟩,
    ⟨some 18, none, .inl (.bin .add (.v 17) (.c (.int .i64 8)))⟩,
    ⟨some 2, none, .inl (.mov (.v 18))⟩])) (.skip))) (.seq (.ops [2] [
    ⟨some 19, none, .inl (.mov (.v 2))⟩,
    ⟨some 20, none, .inl (.mov (.v 0))⟩,
    ⟨some 21, none, .inl (.conv .u8 (.v 20))⟩,
    ⟨some 22, none, .inl (.idx (.c (.str len8)) (.v 21))⟩,
    ⟨some 23, none, .inl (.conv .i64 (.v 22))⟩,
    ⟨some 24, none, .inl (.bin .add (.v 19) (.v 23))⟩,
    ⟨some 2, none, .inl (.mov (.v 24))⟩]) (.ret)))))⟩
theorem len8_len : len8.length = 256 := by decide +kernel
theorem len8_ok : ∀ v : Nat, v < 256 → 1 ≤ v → (1 ≤ byt len8 v ∧ byt len8 v ≤ 8 ∧ 2 ^ ((byt len8 v).toNat - 1) ≤ v ∧ v < 2 ^ (byt len8 v).toNat) := by decide +kernel
theorem idx8 {i : Int} (h0 : 0 ≤ i) (h1 : i ≤ 255) : idxA (.p (.str len8)) (.p (.int .u8 i)) = some (.p (.int .u8 (byt len8 i.toNat))) := idx_in h0 (by rw [len8_len]; omega)
theorem map_shr16 (x : Int) : binAV .shr (.p (.int .u64 x)) (.p (.int .u64 16)) = some (.p (.int .u64 (x / 65536))) := by
  rw [map_shr (by decide) (by decide)]; rfl
theorem map_shr8 (x : Int) : binAV .shr (.p (.int .u64 x)) (.p (.int .u64 8)) = some (.p (.int .u64 (x / 256))) := by
  rw [map_shr (by decide) (by decide)]; rfl
theorem len_scale {y a t : Nat} (h1 : 1 ≤ t) (l : 2 ^ (t - 1) ≤ y / 2 ^ a) (u : y / 2 ^ a < 2 ^ t) : 2 ^ (a + t - 1) ≤ y ∧ y < 2 ^ (a + t) := by
  have p : 0 < 2 ^ a := Nat.pow_pos (by decide)
  have e1 : 2 ^ (a + t - 1) = 2 ^ (t - 1) * 2 ^ a := by rw [← Nat.pow_add]; congr 1; omega
  have e2 : 2 ^ (a + t) = 2 ^ t * 2 ^ a := by rw [← Nat.pow_add]; congr 1; omega
  rw [e1, e2]
  exact ⟨(Nat.le_div_iff_mul_le p).1 l, (Nat.div_lt_iff_lt_mul p).1 u⟩
theorem len_end {y a : Nat} {r : Option (List PV)} (h1 : 1 ≤ y / 2 ^ a) (h2 : y / 2 ^ a < 256) (ha : a ≤ 56) (h : 1 ≤ byt len8 (y / 2 ^ a) ∧ byt len8 (y / 2 ^ a) ≤ 8 → r = some [.int .i64 (a + byt len8 (y / 2 ^ a))]) :
    ∃ n : Nat, r = some [.int .i64 (n : Int)] ∧ 1 ≤ n ∧ n ≤ 64 ∧ 2 ^ (n - 1) ≤ y ∧ y < 2 ^ n := by
  obtain ⟨b1, b2, b3, b4⟩ := len8_ok _ h2 h1
  obtain ⟨c1, c2⟩ := len_scale (t := (byt len8 (y / 2 ^ a)).toNat) (by omega) b3 b4
  refine ⟨a + (byt len8 (y / 2 ^ a)).toNat, ?_, by omega, by omega, c1, c2⟩
  rw [h ⟨b1, b2⟩, show ((a + (byt len8 (y / 2 ^ a)).toNat : Nat) : Int) = a + byt len8 (y / 2 ^ a) by omega]
theorem res_Len64 {y : Nat} (h : 1 ≤ y ∧ y ≤ 18446744073709551615) : ∃ n : Nat, res Γ 153 [.int .u64 y] = some [.int .i64 (n : Int)] ∧ 1 ≤ n ∧ n ≤ 64 ∧ 2 ^ (n - 1) ≤ y ∧ y < 2 ^ n := by
  have hr : 1 ≤ y ∧ y ≤ 255 ∨ 256 ≤ y ∧ y ≤ 65535 ∨ 65536 ≤ y ∧ y ≤ 16777215 ∨ 16777216 ≤ y ∧ y ≤ 4294967295 ∨ 4294967296 ≤ y ∧ y ≤ 1099511627775 ∨ 1099511627776 ≤ y ∧ y ≤ 281474976710655 ∨ 281474976710656 ≤ y ∧ y ≤ 72057594037927935 ∨ 72057594037927936 ≤ y ∧ y ≤ 18446744073709551615 := by omega
  rcases hr with hr | hr | hr | hr | hr | hr | hr | hr
  · refine len_end (a := 0) (by omega) (by omega) (by omega) fun hb => ?_
    have ev : ((y : Int)).toNat = y / 2 ^ 0 := by omega
    refine res_code (fn := len64c) rfl rfl ?_
    simp (disch := first | assumption | omega | decide | (simp only [List.length_cons, List.length_nil, List.length_append, List.length_replicate, List.length_map, List.length_set, List.length_take, List.length_drop, strs_len, ints_len, bools_len, aggs_len, vpv_len]; done) | (simp only [List.length_cons, List.length_nil, List.length_append, List.length_replicate, List.length_map, List.length_set, List.length_take, List.length_drop, strs_len, ints_len, bools_len, aggs_len, vpv_len]; omega)) only [go_sem, len64c, idx8, ev]
    simp
  · refine len_end (a := 8) (by omega) (by omega) (by omega) fun hb => ?_
    have ev : ((y : Int) / 256).toNat = y / 2 ^ 8 := by omega
    refine res_code (fn := len64c) rfl rfl ?_
    simp (disch := first | assumption | omega | decide | (simp only [List.length_cons, List.length_nil, List.length_append, List.length_replicate, List.length_map, List.length_set, List.length_take, List.length_drop, strs_len, ints_len, bools_len, aggs_len, vpv_len]; done) | (simp only [List.length_cons, List.length_nil, List.length_append, List.length_replicate, List.length_map, List.length_set, List.length_take, List.length_drop, strs_len, ints_len, bools_len, aggs_len, vpv_len]; omega)) only [go_sem, len64c, map_shr8, idx8, ev]
    simp
  · refine len_end (a := 16) (by omega) (by omega) (by omega) fun hb => ?_
    have ev : ((y : Int) / 65536).toNat = y / 2 ^ 16 := by omega
    refine res_code (fn := len64c) rfl rfl ?_
    simp (disch := first | assumption | omega | decide | (simp only [List.length_cons, List.length_nil, List.length_append, List.length_replicate, List.length_map, List.length_set, List.length_take, List.length_drop, strs_len, ints_len, bools_len, aggs_len, vpv_len]; done) | (simp only [List.length_cons, List.length_nil, List.length_append, List.length_replicate, List.length_map, List.length_set, List.length_take, List.length_drop, strs_len, ints_len, bools_len, aggs_len, vpv_len]; omega)) only [go_sem, len64c, map_shr16, idx8, ev]
    simp
  · refine len_end (a := 24) (by omega) (by omega) (by omega) fun hb => ?_
    have ev : ((y : Int) / 65536 / 256).toNat = y / 2 ^ 24 := by omega
    refine res_code (fn := len64c) rfl rfl ?_
    simp (disch := first | assumption | omega | decide | (simp only [List.length_cons, List.length_nil, List.length_append, List.length_replicate, List.length_map, List.length_set, List.length_take, List.length_drop, strs_len, ints_len, bools_len, aggs_len, vpv_len]; done) | (simp only [List.length_cons, List.length_nil, List.length_append, List.length_replicate, List.length_map, List.length_set, List.length_take, List.length_drop, strs_len, ints_len, bools_len, aggs_len, vpv_len]; omega)) only [go_sem, len64c, map_shr16, map_shr8, idx8, ev]
    simp
  · refine len_end (a := 32) (by omega) (by omega) (by omega) fun hb => ?_
    have ev : ((y : Int) / 4294967296).toNat = y / 2 ^ 32 := by omega
    refine res_code (fn := len64c) rfl rfl ?_
    simp (disch := first | assumption | omega | decide | (simp only [List.length_cons, List.length_nil, List.length_append, List.length_replicate, List.length_map, List.length_set, List.length_take, List.length_drop, strs_len, ints_len, bools_len, aggs_len, vpv_len]; done) | (simp only [List.length_cons, List.length_nil, List.length_append, List.length_replicate, List.length_map, List.length_set, List.length_take, List.length_drop, strs_len, ints_len, bools_len, aggs_len, vpv_len]; omega)) only [go_sem, len64c, map_shr32, idx8, ev]
    simp
  · refine len_end (a := 40) (by omega) (by omega) (by omega) fun hb => ?_
    have ev : ((y : Int) / 4294967296 / 256).toNat = y / 2 ^ 40 := by omega
    refine res_code (fn := len64c) rfl rfl ?_
    simp (disch := first | assumption | omega | decide | (simp only [List.length_cons, List.length_nil, List.length_append, List.length_replicate, List.length_map, List.length_set, List.length_take, List.length_drop, strs_len, ints_len, bools_len, aggs_len, vpv_len]; done) | (simp only [List.length_cons, List.length_nil, List.length_append, List.length_replicate, List.length_map, List.length_set, List.length_take, List.length_drop, strs_len, ints_len, bools_len, aggs_len, vpv_len]; omega)) only [go_sem, len64c, map_shr32, map_shr8, idx8, ev]
    simp
  · refine len_end (a := 48) (by omega) (by omega) (by omega) fun hb => ?_
    have ev : ((y : Int) / 4294967296 / 65536).toNat = y / 2 ^ 48 := by omega
    refine res_code (fn := len64c) rfl rfl ?_
    simp (disch := first | assumption | omega | decide | (simp only [List.length_cons, List.length_nil, List.length_append, List.length_replicate, List.length_map, List.length_set, List.length_take, List.length_drop, strs_len, ints_len, bools_len, aggs_len, vpv_len]; done) | (simp only [List.length_cons, List.length_nil, List.length_append, List.length_replicate, List.length_map, List.length_set, List.length_take, List.length_drop, strs_len, ints_len, bools_len, aggs_len, vpv_len]; omega)) only [go_sem, len64c, map_shr32, map_shr16, idx8, ev]
    simp
  · refine len_end (a := 56) (by omega) (by omega) (by omega) fun hb => ?_
    have ev : ((y : Int) / 4294967296 / 65536 / 256).toNat = y / 2 ^ 56 := by omega
    refine res_code (fn := len64c) rfl rfl ?_
    simp (disch := first | assumption | omega | decide | (simp only [List.length_cons, List.length_nil, List.length_append, List.length_replicate, List.length_map, List.length_set, List.length_take, List.length_drop, strs_len, ints_len, bools_len, aggs_len, vpv_len]; done) | (simp only [List.length_cons, List.length_nil, List.length_append, List.length_replicate, List.length_map, List.length_set, List.length_take, List.length_drop, strs_len, ints_len, bools_len, aggs_len, vpv_len]; omega)) only [go_sem, len64c, map_shr32, map_shr16, map_shr8, idx8, ev]
    simp
theorem res_LZ {y : Nat} (h : 1 ≤ y ∧ y ≤ 18446744073709551615) : ∃ s : Nat, res Γ 150 [.int .u64 y] = some [.int .i64 (s : Int)] ∧ s ≤ 63 ∧ 9223372036854775808 ≤ y * 2 ^ s ∧ y * 2 ^ s < 18446744073709551616 := by
  obtain ⟨n, e, h1, h2, h3, h4⟩ := res_Len64 h
  have e2 : ((64 : Int) - (n : Int)) = ((64 - n : Nat) : Int) := by omega
  refine ⟨64 - n, ?_, by omega, ?_, ?_⟩
  · refine res_code (fn := math_bits_LeadingZeros64) rfl rfl ?_
    simp (disch := first | assumption | omega | decide | (simp only [List.length_cons, List.length_nil, List.length_append, List.length_replicate, List.length_map, List.length_set, List.length_take, List.length_drop, strs_len, ints_len, bools_len, aggs_len, vpv_len]; done) | (simp only [List.length_cons, List.length_nil, List.length_append, List.length_replicate, List.length_map, List.length_set, List.length_take, List.length_drop, strs_len, ints_len, bools_len, aggs_len, vpv_len]; omega)) only [go_sem, math_bits_LeadingZeros64, e, e2]
  · have p : 2 ^ (n - 1) * 2 ^ (64 - n) = 9223372036854775808 := by rw [← Nat.pow_add, show n - 1 + (64 - n) = 63 by omega]
    rw [← p]; exact Nat.mul_le_mul_right _ h3
  · have p : 2 ^ n * 2 ^ (64 - n) = 18446744073709551616 := by rw [← Nat.pow_add, show n + (64 - n) = 64 by omega]
    rw [← p]; exact Nat.mul_lt_mul_of_pos_right h4 (Nat.pow_pos (by decide))
end Ab
