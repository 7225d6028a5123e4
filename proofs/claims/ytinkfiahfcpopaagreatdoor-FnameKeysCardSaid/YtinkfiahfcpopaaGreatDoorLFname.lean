import Derived.Test.YtinkfiahfcpopaaGreatDoorLFit
import Derived.Test.YtinkfiahfcpopaaGreatDoorLPrint
import Derived.Test.YtinkfiahfcpopaaGreatDoorLAgg
import Derived.Test.YtinkfiahfcpopaaGreatDoorCode
import Derived.Test.YtinkfiahfcpopaaGreatDoorAbRow
namespace Ab
open Go (IntKind BinOp UnOp)
theorem ren_clo {r d f cs} : AV.ren r (d + 1) (.clo f cs) = (mapO (AV.ren r d) cs).map (.clo f) := rfl
attribute [go_sem] ren_clo
abbrev jC (a b : Int) (K : SK) (m : List (SK × Ser)) : List PV := [.str [], .int .i64 a, .int .i64 b, .sl .nil 2 [], .int .i64 0, .sl K 5 (sers m)]
theorem joinW_len {l : List (SK × Ser)} {b st n} : (joinW l b st n).length = l.length := by simp [joinW]
theorem joinW_get {l : List (SK × Ser)} {b : Int} {st n i : Nat} (h : i < l.length) : (joinW l b st n).getD i noSer = (fitK n, fitS (l.getD i noSer).2 b st n) := by
  unfold joinW
  rw [List.getD_eq_getElem?_getD, List.getElem?_map, List.getElem?_eq_getElem h, List.getD_eq_getElem?_getD, List.getElem?_eq_getElem h]
  rfl
abbrev bJ (l : List (SK × Ser)) : Int := begJ (sersOf l)
abbrev sJ (l : List (SK × Ser)) : Nat := stepJ (sersOf l)
abbrev nJ (l : List (SK × Ser)) : Nat := (manyJ (sersOf l)).toNat
theorem res_join_ok {kk : SK} (l : List (SK × Ser)) (hl : l.length ≤ 1000000) (hv : ∀ x ∈ l, x.2.vals.length ≤ 1000000) (h0 : l ≠ []) (he : errJ (sersOf l) = 0) : res Γ 229 [.sl kk 5 (sers l)] = some [.ptr (jC (bJ l) (sJ l) .any (joinW l (bJ l) (sJ l) (nJ l))), .int .i64 0] := by
  have e := res_seriesJoin (kk := kk) l hl hv
  unfold joinR at e
  rw [if_pos he, if_neg h0, joinJ_eq] at e
  have hpos : 0 < l.length := List.length_pos_iff.2 h0
  have hg := joinW_get (b := begJ (sersOf l)) (st := stepJ (sersOf l)) (n := (manyJ (sersOf l)).toNat) hpos
  have hlen := @joinW_len l (begJ (sersOf l)) (stepJ (sersOf l)) (manyJ (sersOf l)).toNat
  unfold bJ sJ nJ
  generalize joinW l (begJ (sersOf l)) (stepJ (sersOf l)) (manyJ (sersOf l)).toNat = m at *
  refine res_code (fn := fjoin_join) rfl rfl ?_
  simp (disch := first | assumption | omega | decide | (simp only [lens] <;> omega) | fail) only [go_sem, fjoin_join, e, ne_eq, not_true_eq_false, hg, serC, fitS]
theorem res_join_err {kk : SK} (l : List (SK × Ser)) (hl : l.length ≤ 1000000) (hv : ∀ x ∈ l, x.2.vals.length ≤ 1000000) (he : errJ (sersOf l) ≠ 0) : res Γ 229 [.sl kk 5 (sers l)] = some [.nilp, .int .i64 (errJ (sersOf l))] := by
  have e := res_seriesJoin (kk := kk) l hl hv
  unfold joinR at e
  rw [if_neg he] at e
  refine res_code (fn := fjoin_join) rfl rfl ?_
  simp (disch := first | assumption | omega | decide | (simp only [lens] <;> omega) | fail) only [go_sem, fjoin_join, e]
theorem res_many {a b : Int} {K : SK} (m : List (SK × Ser)) : res Γ 239 [.ptr (jC a b K m)] = some [.int .i64 (if m = [] then 0 else ((m.getD 0 noSer).2.vals.length : Int))] := by
  by_cases h : m = []
  · subst h
    rw [if_pos rfl]
    refine res_code (fn := fjoin_joined_many) rfl rfl ?_
    simp (disch := first | assumption | omega | decide | (simp only [lens] <;> omega) | fail) only [go_sem, fjoin_joined_many]
  · have hpos : 0 < m.length := List.length_pos_iff.2 h
    rw [if_neg h]
    refine res_code (fn := fjoin_joined_many) rfl rfl ?_
    simp (disch := first | assumption | omega | decide | (simp only [lens] <;> omega) | fail) only [go_sem, fjoin_joined_many, serC]
theorem atV_snoc {m : List (SK × Ser)} {j i : Nat} (h : j < m.length) : atV (m.take (j + 1)) i = atV (m.take j) i ++ [(m.getD j noSer).2.vals.getD i (false, 0)] := by
  unfold atV
  rw [take_snoc' noSer h, List.map_append]; rfl
theorem atV_len {m : List (SK × Ser)} {i : Nat} : (atV m i).length = m.length := by simp [atV]
set_option maxRecDepth 10000 in
theorem known_l1_ok {k2 : SK} (m : List (SK × Ser)) (hm : m.length ≤ 1000000) (i : Nat) (hi : ∀ x ∈ m, i < x.2.vals.length) (hb : i < 1000000000) (Q : Out → Prop) (hQ : Q (.nrm, [(5, .own 0 m.length)], [.row false 2 (vpv (atV m i))])) : ∀ (n j : Nat) (R : Heap), j + n = m.length →
    Wp Γ fjoin_joined_known_l1 [(1, .p (.int .i64 (i : Int))), (5, .own 0 j), (11, .p (.sl k2 5 (sers m))), (12, .p (.int .i64 (m.length : Int))), (13, .p (.int .i64 (j : Int)))] (.row false 2 (vpv (atV (m.take j) i)) :: R) (InBlk [5] 0 Q) := by
  intro n
  induction n with
  | zero =>
    intro j R hj
    obtain rfl : j = m.length := by omega
    rw [List.take_length]
    rw [W_loop (L := fjoin_joined_known_l1) rfl]
    simp (disch := first | assumption | omega | decide | (simp only [lens] <;> omega) | fail) only [go_sem]
    exact hQ
  | succ n ih =>
    intro j R hj
    have hlt : j < m.length := by omega
    have hmem := ser_mem hlt
    have ih := fun R => ih (j + 1) R (by omega)
    rw [atV_snoc hlt] at ih
    have hlen : (atV (m.take j) i).length = j := by rw [atV_len, List.length_take]; omega
    have hvl := hi _ hmem
    obtain ⟨x, hx⟩ : ∃ x, m.getD j noSer = x := ⟨_, rfl⟩
    rw [hx] at ih hvl
    rw [W_loop (L := fjoin_joined_known_l1) rfl]
    simp (disch := first | assumption | omega | decide | (simp only [lens] <;> omega) | fail) only [go_sem, hx, serC, valP]
    exact ih _
theorem res_known {a b : Int} {K : SK} (m : List (SK × Ser)) (hm : m.length ≤ 1000000) (i : Nat) (hi : ∀ x ∈ m, i < x.2.vals.length) (hb : i < 1000000000) : res Γ 241 [.ptr (jC a b K m), .int .i64 (i : Int)] = some [.sl .any 2 (vpv (knL (atV m i)))] := by
  have hlen := @atV_len m i
  have e := res_aggKnown (kk := .any) (atV m i) (by omega)
  have L := fun k2 Q => known_l1_ok (k2 := k2) m hm i hi hb Q
  refine res_code (fn := fjoin_joined_known) rfl rfl ?_
  simp (disch := first | assumption | omega | decide | (simp only [lens] <;> omega) | fail) only [go_sem, fjoin_joined_known]
  refine L K _ ?_ m.length 0 _ (by omega)
  simp (disch := first | assumption | omega | decide | (simp only [lens] <;> omega) | fail) only [go_sem, e]
def valsF (g : Nat → Val) (n : Nat) : List Val := (List.range n).map g
theorem valsF_len {g n} : (valsF g n).length = n := by simp [valsF]
theorem valsF_succ {g n} : valsF g (n + 1) = valsF g n ++ [g n] := by simp [valsF, List.range_succ]
abbrev serB (nm : List UInt8) (a b : Int) (v : AV) (c : Int) : Blk := .box [.p (.str nm), .p (.int .i64 a), .p (.int .i64 b), v, .p (.int .i64 c)]
theorem series_l1_ok (f : Nat) (caps : List PV) (nm : List UInt8) (a b : Int) (g : Nat → Val) (n : Nat) (hn : n ≤ 1000000) (B : Blk) (hg : ∀ i : Nat, i < n → res Γ f (.int .i64 (i : Int) :: caps) = some [.agg [.bool (g i).1, .int .i64 (g i).2]]) (Q : Out → Prop)
    (hQ : Q (.nrm, [(6, .bx 0 0), (7, .bx 1 0)], [B, serB nm a b (.own 2 n) 0, .row false 2 (vpv (valsF g n))])) : ∀ (k i : Nat), i + 1 + k = n →
    Wp Γ fjoin_joined_series_l1 [(2, .p (.clo f caps)), (6, .bx 0 0), (7, .bx 1 0), (22, .p (.int .i64 (n : Int))), (23, .p (.int .i64 ((i + 1 : Nat) : Int)))] [B, serB nm a b (.own 2 (i + 1)) 0, .row false 2 (vpv (valsF g (i + 1)))] (InBlk [6, 7] 0 Q) := by
  intro k
  induction k with
  | zero =>
    intro i hi
    have hi : i + 1 = n := by omega
    rw [hi]
    rw [W_loop (L := fjoin_joined_series_l1) rfl]
    simp (disch := first | assumption | omega | decide | (simp only [lens] <;> omega) | fail) only [go_sem]
    exact hQ
  | succ k ih =>
    intro i hi
    have ih := ih (i + 1) (by omega)
    rw [valsF_succ] at ih
    have e := hg (i + 1) (by omega)
    have hlen := @valsF_len g (i + 1)
    rw [W_loop (L := fjoin_joined_series_l1) rfl]
    simp (disch := first | assumption | omega | decide | (simp only [lens] <;> omega) | fail) only [go_sem, e]
    exact ih
theorem res_series {K : SK} (f : Nat) (caps : List PV) (nm : List UInt8) (a b : Int) (m : List (SK × Ser)) (g : Nat → Val) (n : Nat) (hn : n ≤ 1000000) (hm : (if m = [] then 0 else ((m.getD 0 noSer).2.vals.length : Int)) = (n : Int)) (hg : ∀ i : Nat, i < n → res Γ f (.int .i64 (i : Int) :: caps) = some [.agg [.bool (g i).1, .int .i64 (g i).2]]) :
    res Γ 227 [.ptr (jC a b K m), .str nm, .clo f caps] = some [(Ser.mk nm a b (valsF g n) 0).pv (fitK n)] := by
  have e1 := res_many (a := a) (b := b) (K := K) m
  rw [hm] at e1
  unfold fitK Ser.pv
  by_cases h0 : n = 0
  · subst h0
    rw [if_pos rfl]
    refine res_code (fn := fjoin_joined_series) rfl rfl ?_
    simp (disch := first | assumption | omega | decide | (simp only [lens] <;> omega) | fail) only [go_sem, fjoin_joined_series, e1]
    rw [W_loop (L := fjoin_joined_series_l1) rfl]
    simp (disch := first | assumption | omega | decide | (simp only [lens] <;> omega) | fail) only [go_sem]
    rfl
  · rw [if_neg h0]
    have e2 : res Γ f (.int .i64 0 :: caps) = some [.agg [.bool (g 0).1, .int .i64 (g 0).2]] := hg 0 (by omega)
    have e0 : vpv [] = [] := rfl
    have L := fun B Q => series_l1_ok f caps nm a b g n hn B hg Q
    have ev : valsF g 1 = [g 0] := rfl
    have hlen := @valsF_len g n
    refine res_code (fn := fjoin_joined_series) rfl rfl ?_
    simp (disch := first | assumption | omega | decide | (simp only [lens] <;> omega) | fail) only [go_sem, fjoin_joined_series, e1]
    rw [W_loop (L := fjoin_joined_series_l1) rfl]
    simp (disch := first | assumption | omega | decide | (simp only [lens] <;> omega) | fail) only [go_sem, e2]
    refine L _ _ ?_ (n - 1) 0 (by omega)
    simp (disch := first | assumption | omega | decide | (simp only [lens] <;> omega) | fail) only [go_sem]
end Ab
namespace Ab
open Go (IntKind BinOp UnOp)
def namesJ (l : List (SK × Ser)) : List (List UInt8) := l.map fun x => x.2.name
def extraJ (nm : List UInt8) (p : Val) (kind : Int) : List (List UInt8) := if nm = jPer then [printB p] else if nm = jAgg then [aggName kind] else []
theorem colsV_vals {nm : List UInt8} {p : Val} {kind : Int} {m : List (SK × Ser)} {n : Nat} : colsV nm p kind m n = valsF (fun i => placeV nm p kind (knL (atV m i))) n := rfl
theorem namesJ_snoc {l : List (SK × Ser)} {i : Nat} (h : i < l.length) : namesJ (l.take (i + 1)) = namesJ (l.take i) ++ [(l.getD i noSer).2.name] := by
  unfold namesJ
  rw [take_snoc' noSer h, List.map_append]; rfl
theorem namesJ_len {l : List (SK × Ser)} : (namesJ l).length = l.length := by simp [namesJ]
theorem res_Apply1 {F : Nat} {nm : List UInt8} {a b : Int} {K : SK} (hF : ∀ (kk : SK) (k : List Val) (p : Val) (kind : Int), k.length < 100000000 → res Γ F [placeP kk k p kind] = some [.agg [.bool (placeV nm p kind k).1, .int .i64 (placeV nm p kind k).2]])
    (m : List (SK × Ser)) (hm : m.length ≤ 1000000) (i : Nat) (hi : ∀ x ∈ m, i < x.2.vals.length) (hb : i < 1000000000) (p : Val) (kind : Int) :
    res Γ 226 [.int .i64 (i : Int), .ptr [.clo F []], .ptr [.ptr (jC a b K m)], .ptr [.bool p.1, .int .i64 p.2], .ptr [.int .i64 kind]] = some [.agg [.bool (placeV nm p kind (knL (atV m i))).1, .int .i64 (placeV nm p kind (knL (atV m i))).2]] := by
  have hkl := knL_len (atV m i)
  rw [atV_len] at hkl
  have e1 := res_known (a := a) (b := b) (K := K) m hm i hi hb
  have e2 := hF .any (knL (atV m i)) p kind (by omega)
  refine res_code (fn := fjoin_Apply_1) rfl rfl ?_
  simp (disch := first | assumption | omega | decide | (simp only [lens] <;> omega) | fail) only [go_sem, fjoin_Apply_1, e1, e2]
set_option maxRecDepth 10000 in
theorem Apply_l1_ok {k2 : SK} (l : List (SK × Ser)) (hl : l.length ≤ 1000000) (a : AV) (B0 B1 B2 B3 : Blk) (hB : (∃ cs : List PV, B0 = .box (cs.map .p)) ∧ (∃ cs : List PV, B1 = .box (cs.map .p)) ∧ (∃ cs : List PV, B2 = .box (cs.map .p)) ∧ (∃ cs : List PV, B3 = .box (cs.map .p))) (ha : ∃ v, a = .p v) (Q : Out → Prop)
    (hQ : Q (.nrm, [(0, a), (5, .bx 0 0), (6, .bx 1 0), (10, .bx 2 0), (11, .bx 3 0), (13, .own 4 l.length)], [B0, B1, B2, B3, .row false 1 (strs (namesJ l))])) : ∀ (n i : Nat) (R : Heap), i + n = l.length →
    Wp Γ fjoin_Apply_l1 [(0, a), (5, .bx 0 0), (6, .bx 1 0), (10, .bx 2 0), (11, .bx 3 0), (13, .own 4 i), (33, .p (.sl k2 5 (sers l))), (34, .p (.int .i64 (l.length : Int))), (35, .p (.int .i64 (i : Int)))] (B0 :: B1 :: B2 :: B3 :: .row false 1 (strs (namesJ (l.take i))) :: R) (InBlk [0, 5, 6, 10, 11, 13] 0 Q) := by
  obtain ⟨⟨c0, rfl⟩, ⟨c1, rfl⟩, ⟨c2, rfl⟩, ⟨c3, rfl⟩⟩ := hB
  obtain ⟨v, rfl⟩ := ha
  intro n
  induction n with
  | zero =>
    intro i R hi
    obtain rfl : i = l.length := by omega
    rw [List.take_length]
    rw [W_loop (L := fjoin_Apply_l1) rfl]
    simp (disch := first | assumption | omega | decide | (simp only [lens] <;> omega) | fail) only [go_sem]
    exact hQ
  | succ n ih =>
    intro i R hi
    have hlt : i < l.length := by omega
    have ih := fun R => ih (i + 1) R (by omega)
    rw [namesJ_snoc hlt] at ih
    have hlen : (namesJ (l.take i)).length = i := by rw [namesJ_len, List.length_take]; omega
    obtain ⟨x, hx⟩ : ∃ x, l.getD i noSer = x := ⟨_, rfl⟩
    rw [hx] at ih
    rw [W_loop (L := fjoin_Apply_l1) rfl]
    simp (disch := first | assumption | omega | decide | (simp only [lens] <;> omega) | fail) only [go_sem, hx, serC]
    exact ih _
theorem joinW_ok {l : List (SK × Ser)} {b : Int} {st n i : Nat} (hi : i < n) : ∀ x ∈ joinW l b st n, i < x.2.vals.length := by
  intro x hx
  obtain ⟨y, hy, rfl⟩ := List.mem_map.1 hx
  have : (fitS y.2 b st n).vals.length = n := fitV_len
  rw [this]; exact hi
theorem many_ok {l : List (SK × Ser)} {b : Int} {st n : Nat} (h0 : l ≠ []) : (if joinW l b st n = [] then 0 else (((joinW l b st n).getD 0 noSer).2.vals.length : Int)) = (n : Int) := by
  have hpos : 0 < l.length := List.length_pos_iff.2 h0
  rw [if_neg (fun h => by have := congrArg List.length h; rw [joinW_len, List.length_nil] at this; omega), joinW_get hpos]
  have : (fitS (l.getD 0 noSer).2 b st n).vals.length = n := fitV_len
  rw [this]
theorem nJ_le {l : List (SK × Ser)} (he : errJ (sersOf l) = 0) (h0 : l ≠ []) : nJ l ≤ 131072 := by
  unfold errJ at he
  have hne : sersOf l ≠ [] := by simpa [sersOf] using h0
  by_cases a1 : (sersOf l).all isS = false
  · rw [if_pos a1] at he; omega
  · rw [if_neg a1, if_neg hne] at he
    by_cases a2 : stepJ (sersOf l) = 0
    · rw [if_pos a2] at he; omega
    · rw [if_neg a2] at he
      by_cases a3 : 131072 < manyJ (sersOf l)
      · rw [if_pos a3] at he; omega
      · unfold nJ; omega
theorem aggName_len (k : Int) : (aggName k).length ≤ 100 := by
  unfold aggName
  repeat' split
  all_goals decide
theorem printB_len (v : Val) : (printB v).length ≤ 100 := by
  unfold printB
  split
  · rename_i hk
    have hb := knV_bound hk
    have h1 : (decB (v.2.natAbs / 1000000)).length ≤ 20 := decB_len20 (by omega)
    have h2 : (fracB (v.2.natAbs % 1000000)).length ≤ 25 := by
      unfold fracB
      split
      · simp
      · have h3 : (decB (1000000 + v.2.natAbs % 1000000)).length ≤ 20 := decB_len20 (by omega)
        have := trimN_len ((decB (1000000 + v.2.natAbs % 1000000)).drop 1) _ (Nat.le_refl _)
        unfold trimB
        rw [List.length_drop] at this
        rw [List.length_cons, List.length_drop]; omega
    rw [List.length_append, List.length_append]
    split <;> simp <;> omega
  · decide
theorem joinB_le {sep : List UInt8} {B : Nat} : ∀ {l : List (List UInt8)}, (∀ x ∈ l, x.length ≤ B) → (joinB sep l).length ≤ l.length * (B + sep.length)
  | [], _ => by simp [joinB]
  | [s], h => by have := h s (by simp); simp [joinB]; omega
  | s :: t :: r, h => by
    have ih := joinB_le (sep := sep) (B := B) (l := t :: r) fun x hx => h x (by simp only [List.mem_cons] at hx ⊢; exact .inr hx)
    have h1 := h s (by simp)
    have e : joinB sep (s :: t :: r) = s ++ sep ++ joinB sep (t :: r) := rfl
    have e2 : (s :: t :: r).length * (B + sep.length) = (B + sep.length) + (t :: r).length * (B + sep.length) := by
      rw [List.length_cons, Nat.add_mul, Nat.one_mul, Nat.add_comm]
    rw [e, e2, List.length_append, List.length_append]
    omega
theorem texts_ok {nm : List UInt8} {p : Val} {kind : Int} {l : List (SK × Ser)} (hl : l.length ≤ 100) (hn : ∀ x ∈ l, x.2.name.length ≤ 4096) : (joinB [44] (namesJ l ++ extraJ nm p kind)).length ≤ 1000000000 ∧ (namesJ l ++ extraJ nm p kind).length < 1000000000 := by
  have hx : (extraJ nm p kind).length ≤ 1 := by
    unfold extraJ
    split
    · simp
    · split <;> simp
  have hb : ∀ x ∈ namesJ l ++ extraJ nm p kind, x.length ≤ 4096 := fun x hx => by
    rcases List.mem_append.1 hx with hx | hx
    · obtain ⟨y, hy, rfl⟩ := List.mem_map.1 hx
      exact hn y hy
    · unfold extraJ at hx
      split at hx
      · rw [List.mem_singleton] at hx; subst hx; have := printB_len p; omega
      · split at hx
        · rw [List.mem_singleton] at hx; subst hx; have := aggName_len kind; omega
        · cases hx
  have hlen : (namesJ l ++ extraJ nm p kind).length ≤ 101 := by rw [List.length_append, namesJ_len]; omega
  have := joinB_le (sep := [44]) hb
  have h2 : (namesJ l ++ extraJ nm p kind).length * (4096 + ([44] : List UInt8).length) ≤ 101 * 4097 := Nat.mul_le_mul hlen (by simp)
  omega
end Ab
namespace Ab
open Go (IntKind BinOp UnOp)
end Ab
namespace Ab
open Go (IntKind BinOp UnOp)
def mapK (b : Option Blk) : Option (List (PV × AV)) := match b with
  | some (.box (.nov :: .nov :: cs)) => mapIn cs
  | _ => none
theorem flatIn : ∀ (es : List (PV × AV)), mapIn (mapFlat es) = some es
  | [] => rfl
  | (k, v) :: es => by simp [mapFlat, mapIn, flatIn es]
theorem mapK_some {es : List (PV × AV)} : mapK (some (.box (mapCells es))) = some es := flatIn es
def mgK (zero : List PV) (comma : Bool) (m : Option (Option AV)) : Option AV := m.map (mres comma (mkZ zero))
theorem mget_str {H : Heap} {id : Nat} {zero comma} {k : List UInt8} : mgetA H .str zero comma (.mp id) (.p (.str k)) = (mapK H[id]?).bind fun es => mgK zero comma (mfind (.str k) es) := rfl
theorem mget_int {H : Heap} {id : Nat} {zero comma} {ki : IntKind} {k : Int} : mgetA H (.int ki) zero comma (.mp id) (.p (.int ki k)) = (mapK H[id]?).bind fun es => mgK zero comma (mfind (.int ki k) es) := by
  simp only [mgetA, keyIs, decide_true, ifB]; rfl
theorem mgK_some {zero comma} {r : Option AV} : mgK zero comma (some r) = some (mres comma (mkZ zero) r) := rfl
theorem mres_none {z : AV} : mres false z none = z := rfl
theorem mres_some {z v : AV} : mres false z (some v) = v := rfl
theorem mres_noneC {z : AV} : mres true z none = .tup [z, .p (.bool false)] := rfl
theorem mres_someC {z v : AV} : mres true z (some v) = .tup [v, .p (.bool true)] := rfl
theorem mkZ_one {v : PV} : mkZ [v] = .p v := rfl
def msK (H : Heap) (id : Nat) (es' : Option (List (PV × AV))) : Option Heap := es'.map fun es' => H.set id (.box (mapCells es'))
theorem mset_str {H : Heap} {id : Nat} {k : List UInt8} {v : AV} (h : v.ok = true) : msetA H .str (.mp id) (.p (.str k)) v = (mapK H[id]?).bind fun es => msK H id (mput (.str k) v es) := by
  simp only [msetA, keyIs, h, Bool.and_self, ifB]; rfl
theorem mset_int {H : Heap} {id : Nat} {ki : IntKind} {k : Int} {v : AV} (h : v.ok = true) : msetA H (.int ki) (.mp id) (.p (.int ki k)) v = (mapK H[id]?).bind fun es => msK H id (mput (.int ki k) v es) := by
  simp only [msetA, keyIs, decide_true, h, Bool.and_self, ifB]; rfl
theorem msK_some {H : Heap} {id : Nat} {es' : List (PV × AV)} : msK H id (some es') = some (H.set id (.box (mapCells es'))) := rfl
theorem ok_own {id n} : (AV.own id n).ok = true := rfl
theorem ok_p {v} : (AV.p v).ok = true := rfl
def isnilK (neg : Bool) (n : Nat) (b : Option (Nat × List PV)) : Option AV := b.bind fun _ => if 0 < n then some (.p (.bool neg)) else none
theorem isnil_own {H : Heap} {neg id n s l} : isnilA H neg (.own id n) (.p (.sl .nil s l)) = isnilK neg n (rowAt H[id]? n) := by
  simp only [isnilA, rowOf_eq]; rfl
theorem isnilK_pos {neg n} {r : Nat × List PV} (h : 0 < n) : isnilK neg n (some r) = some (.p (.bool neg)) := by
  simp [isnilK, h]
theorem isnil_p {H : Heap} {neg} {v w : PV} : isnilA H neg (.p v) (.p w) = eqkA 4 neg (.p v) (.p w) := by
  unfold isnilA; rfl
def browK (H : Heap) (sz : Nat) (ag : Bool) (n : Nat) (ps : Option (List PV)) : Option (AV × Heap) := ps.bind fun ps => if ps.length = n * sz ∧ n ≤ lim then some (.own H.length n, H ++ [.row false sz (chunks sz ag n ps)]) else none
theorem brow_K {H : Heap} {sz ag n} {cs : List AV} : browA H sz ag n (some cs) = browK H sz ag n (pures cs) := rfl
theorem browK_pos {H : Heap} {sz ag n} {ps : List PV} (h : ps.length = n * sz) (h' : n ≤ 1073741824) : browK H sz ag n (some ps) = some (.own H.length n, H ++ [.row false sz (chunks sz ag n ps)]) := by
  simp only [browK, Option.bind_some]
  rw [if_pos ⟨h, h'⟩]
section
variable {Γ : Ctx} {env : Env} {H : Heap} {live : List Nat} {Q : Out → Prop} {r : List St} {dst : Option Nat}
theorem L_treeq {q : QOp} (h : q.plain = true) : WpL Γ (⟨dst, none, .inr (.treeq q)⟩ :: r) env H live Q ↔ opX Γ ((evQ Γ noCall (look env) H q).bind fun v => treeA H v) dst r env live Q := by
  rw [L_of]
  unfold opX WpO
  have e : ∀ n, evX Γ (callOf Γ (ev Γ n)) (look env) H (.treeq q) = (evQ Γ noCall (look env) H q).bind fun v => treeA H v := fun n => by
    have : evQ Γ (callOf Γ (ev Γ n)) (look env) H q = evQ Γ noCall (look env) H q := by cases q <;> first | rfl | cases h
    simp only [evX, this]
  simp only [e]
  exact ⟨fun ⟨_, h⟩ => h, fun h => ⟨0, h⟩⟩
theorem L_tree_load {sz ag x} : WpL Γ (⟨dst, none, .inr (.treeq (.load sz ag x))⟩ :: r) env H live Q ↔ opX Γ ((loadA H sz ag (Arg.ev Γ (look env) x)).bind fun v => treeA H v) dst r env live Q := L_treeq rfl
theorem L_tree_mov {x} : WpL Γ (⟨dst, none, .inr (.treeq (.mov x))⟩ :: r) env H live Q ↔ opX Γ (treeA H (Arg.ev Γ (look env) x)) dst r env live Q := L_treeq rfl
theorem L_tree_mget {kd zero comma x k} : WpL Γ (⟨dst, none, .inr (.treeq (.mget kd zero comma x k))⟩ :: r) env H live Q ↔ opX Γ ((mgetA H kd zero comma (Arg.ev Γ (look env) x) (Arg.ev Γ (look env) k)).bind fun v => treeA H v) dst r env live Q := L_treeq rfl
end
def treeK (q : Option (List PV × Heap)) : Option (AV × Heap) := q.bind fun r => r.1.head?.map fun p => (.p p, r.2)
theorem tree_K {H : Heap} {v : AV} : treeA H v = treeK (treesOf H [v]) := rfl
theorem treeK_some {p : PV} {ps : List PV} {h : Heap} : treeK (some (p :: ps, h)) = some (.p p, h) := rfl
theorem at_last {l : List Blk} {b : Blk} {i : Nat} (h : i = l.length) : (l ++ [b])[i]? = some b := by subst h; exact List.getElem?_concat_length
theorem at_left {l m : List Blk} {i : Nat} (h : i < l.length) : (l ++ m)[i]? = l[i]? := List.getElem?_append_left h
theorem set_last {l : List Blk} {b c : Blk} {i : Nat} (h : i = l.length) : (l ++ [b]).set i c = l ++ [c] := by
  subst h
  rw [List.set_append_right _ _ (Nat.le_refl _), Nat.sub_self]; rfl
theorem set_left {l m : List Blk} {c : Blk} {i : Nat} (h : i < l.length) : (l ++ m).set i c = l.set i c ++ m := List.set_append_left _ _ h
attribute [go_sem] mapK_some mget_str mget_int mgK_some mres_none mres_some mres_noneC mres_someC mkZ_one mset_str mset_int msK_some ok_own ok_p isnil_own isnilK_pos isnil_p brow_K browK_pos L_tree_mget L_tree_load L_tree_mov tree_K treeK_some
end Ab
namespace Ab
open Go (IntKind BinOp UnOp)
abbrev noVal : Val := (false, 0)
def aggS (kind : Int) (l : List (SK × Ser)) : SK × Ser := (fitK (nJ l), ⟨labelL jAgg (namesJ l ++ [aggName kind]), bJ l, sJ l, colsV jAgg noVal kind (joinW l (bJ l) (sJ l) (nJ l)) (nJ l), 0⟩)
def aggM (kind : Int) (l : List (SK × Ser)) : List AV × Heap :=
  if errJ (sersOf l) ≠ 0 then ([.p (.sl .nil 5 []), .p (.int .i64 (errJ (sersOf l)))], []) else ([.own 0 1, .p (.int .i64 0)], [.row false 5 (sers [aggS kind l])])
theorem resM_Apply {kk : SK} (kind : Int) (l : List (SK × Ser)) (h0 : l ≠ []) (hl : l.length ≤ 100) (hv : ∀ x ∈ l, x.2.vals.length ≤ 1000000) (hn : ∀ x ∈ l, x.2.name.length ≤ 4096) :
    resM Γ 0 217 [.p (.str jAgg), .p (.agg [.bool false, .int .i64 0]), .p (.int .i64 kind), .p (.sl kk 5 (sers l))] [] = some (aggM kind l) := by
  unfold aggM
  have d1 := res_doesJ_agg
  by_cases he : errJ (sersOf l) = 0
  · rw [if_neg (fun h => h he)]
    have hpos : 0 < l.length := List.length_pos_iff.2 h0
    have e1 := res_join_ok (kk := kk) l (by omega) hv h0 he
    have hn1 := nJ_le he h0
    have L := fun k2 a B0 B1 B2 B3 hB ha Q => Apply_l1_ok (k2 := k2) l (by omega) a B0 B1 B2 B3 hB ha Q
    have ex : extraJ jAgg noVal kind = [aggName kind] := by
      unfold extraJ
      rw [if_neg (by decide), if_pos rfl]
    obtain ⟨t1, t2⟩ := texts_ok (nm := jAgg) (p := noVal) (kind := kind) hl hn
    rw [ex] at t1 t2
    have eL := fun kk => res_seriesLabelL (kk := kk) jAgg (namesJ l ++ [aggName kind]) (by decide) t2 t1
    have eS := res_series (K := .any) 226 [.ptr [.clo 253 []], .ptr [.ptr (jC (bJ l) (sJ l) .any (joinW l (bJ l) (sJ l) (nJ l)))], .ptr [.bool false, .int .i64 0], .ptr [.int .i64 kind]] (labelL jAgg (namesJ l ++ [aggName kind])) (bJ l) (sJ l)
      (joinW l (bJ l) (sJ l) (nJ l)) (fun i => placeV jAgg noVal kind (knL (atV (joinW l (bJ l) (sJ l) (nJ l)) i))) (nJ l) (by omega) (many_ok h0) (fun i hi =>
        res_Apply1 (a := bJ l) (b := sJ l) (K := .any) (F := 253) (nm := jAgg) (fun kk k p kind hk => res_cl_agg k p kind hk) (joinW l (bJ l) (sJ l) (nJ l)) (by rw [joinW_len]; omega) i (joinW_ok hi) (by omega) noVal kind)
    have hag := res_aggName kind
    have hIs := res_fixedIs false 0
    have hI : isV noVal = true := by decide
    have hIs : res Γ 126 [.agg [.bool false, .int .i64 0]] = some [.bool true] := by rw [← hI]; exact hIs
    have hnl := @namesJ_len l
    unfold aggS
    rw [colsV_vals]
    generalize valsF (fun i => placeV jAgg noVal kind (knL (atV (joinW l (bJ l) (sJ l) (nJ l)) i))) (nJ l) = V at *
    generalize joinW l (bJ l) (sJ l) (nJ l) = m at *
    unfold Ser.pv at eS
    unfold jAgg at *
    refine resM_code (fn := fjoin_Apply) rfl rfl ?_
    simp (disch := first | assumption | omega | decide | (simp only [lens] <;> omega) | fail) only [go_sem, fjoin_Apply, d1, e1, ne_eq, not_true_eq_false]
    refine L kk _ _ _ _ _ ⟨⟨[_, _], rfl⟩, ⟨[_], rfl⟩, ⟨[_], rfl⟩, ⟨[_], rfl⟩⟩ ⟨_, rfl⟩ _ ?_ l.length 0 _ (by omega)
    simp (disch := first | assumption | omega | decide | (simp only [lens] <;> omega) | fail) only [go_sem, hag, hIs, eL, eS]
    rfl
  · rw [if_pos he]
    have e1 := res_join_err (kk := kk) l (by omega) hv he
    unfold jAgg at *
    refine resM_code (fn := fjoin_Apply) rfl rfl ?_
    simp (disch := first | assumption | omega | decide | (simp only [lens] <;> omega) | fail) only [go_sem, fjoin_Apply, d1, e1]
end Ab
namespace Ab
open Go (IntKind BinOp UnOp)
def lastB (s : List UInt8) (c : Int) : Nat → Int
  | 0 => -1
  | i + 1 => if byt s i = c then (i : Int) else lastB s c i
def splitB (c : UInt8) : List UInt8 → List (List UInt8)
  | [] => [[]]
  | b :: l => if b = c then [] :: splitB c l else match splitB c l with | [] => [[b]] | h :: t => (b :: h) :: t

theorem LastIndexByteString_l1 (s : List UInt8) (c : Int) (hs : s.length < 4611686018427387904) (Q : Out → Prop) : ∀ i, i ≤ s.length →
    (lastB s c i < 0 → Q (.nrm, [], [])) → (0 ≤ lastB s c i → Q (.ret, [(4, .p (.int .i64 (lastB s c i)))], [])) →
    Wp Γ internal_bytealg_LastIndexByteString_l1 [(0, .p (.str s)), (1, .p (.int .u8 c)), (5, .p (.int .i64 ((i : Int) - 1)))] [] (InBlk [] 0 Q) := by
  intro i
  induction i with
  | zero =>
    intro hi h1 h2
    rw [W_loop (L := internal_bytealg_LastIndexByteString_l1) rfl]
    simp (disch := first | assumption | omega | decide | (simp only [lens] <;> omega) | fail) only [go_sem]
    exact h1 (by simp [lastB])
  | succ i ih =>
    intro hi h1 h2
    have e : ((i + 1 : Nat) : Int) - 1 = (i : Int) := by omega
    rw [W_loop (L := internal_bytealg_LastIndexByteString_l1) rfl]
    rw [e]
    simp (disch := first | assumption | omega | decide | (simp only [lens] <;> omega) | fail) only [go_sem]
    refine cond_split (fun hc => ?_) (fun hc => ?_)
    · simp (disch := first | assumption | omega | decide | (simp only [lens] <;> omega) | fail) only [go_sem]
      simp only [lastB, hc, if_true] at h2
      exact h2 (by omega)
    · simp (disch := first | assumption | omega | decide | (simp only [lens] <;> omega) | fail) only [go_sem]
      simp only [lastB, hc, if_false] at h1 h2
      exact ih (by omega) h1 h2
theorem lastB_ge (s c) : ∀ i, -1 ≤ lastB s c i ∧ lastB s c i < i := by
  intro i
  induction i with
  | zero => simp [lastB]
  | succ i ih => simp only [lastB]; split <;> omega
theorem lastB_neg {s c i} (h : lastB s c i < 0) : lastB s c i = -1 := by have := lastB_ge s c i; omega
@[go_sem] theorem res_LastIndexByteString (s : List UInt8) (c : Int) (hs : s.length < 4611686018427387904) : res Γ 46 [.str s, .int .u8 c] = some [.int .i64 (lastB s c s.length)] := by
  refine res_code (fn := internal_bytealg_LastIndexByteString) rfl rfl ?_
  simp (disch := first | assumption | omega | decide | (simp only [lens] <;> omega) | fail) only [go_sem, internal_bytealg_LastIndexByteString]
  refine LastIndexByteString_l1 s c hs _ s.length (Nat.le_refl _) (fun h => ?_) (fun h => ?_)
  · simp (disch := first | assumption | omega | decide | (simp only [lens] <;> omega) | fail) only [go_sem, lastB_neg h]
  · simp (disch := first | assumption | omega | decide | (simp only [lens] <;> omega) | fail) only [go_sem]
@[go_sem] theorem res_LastIndexByte (s : List UInt8) (c : Int) (hs : s.length < 4611686018427387904) : res Γ 25 [.str s, .int .u8 c] = some [.int .i64 (lastB s c s.length)] := by
  refine res_code (fn := strings_LastIndexByte) rfl rfl ?_
  simp (disch := first | assumption | omega | decide | (simp only [lens] <;> omega) | fail) only [go_sem, strings_LastIndexByte]

@[go_sem] theorem res_IndexByteString (s : List UInt8) (c : Int) : res Γ 70 [.str s, .int .u8 c] = some [.int .i64 (ixB s c.toNat.toUInt8)] := res_of (RunP_prim (g := indexByteG) rfl rfl)
@[go_sem] theorem res_CountString (s : List UInt8) (c : Int) : res Γ 73 [.str s, .int .u8 c] = some [.int .i64 (s.count c.toNat.toUInt8 : Nat)] := res_of (RunP_prim (g := countG) rfl rfl)
@[go_sem] theorem res_liteIndexByte (s : List UInt8) (c : Int) : res Γ 64 [.str s, .int .u8 c] = some [.int .i64 (ixB s c.toNat.toUInt8)] := by
  refine res_code (fn := internal_stringslite_IndexByte) rfl rfl ?_
  simp (disch := first | assumption | omega | decide | (simp only [lens] <;> omega) | fail) only [go_sem, internal_stringslite_IndexByte]
@[go_sem] theorem res_IndexByte (s : List UInt8) (c : Int) : res Γ 55 [.str s, .int .u8 c] = some [.int .i64 (ixB s c.toNat.toUInt8)] := by
  refine res_code (fn := strings_IndexByte) rfl rfl ?_
  simp (disch := first | assumption | omega | decide | (simp only [lens] <;> omega) | fail) only [go_sem, strings_IndexByte]
theorem byt_one {c : UInt8} : byt [c] 0 = (c.toNat : Int) := rfl
theorem toU8_nat {c : UInt8} : c.toNat.toUInt8 = c := by simp
theorem toU8_toNat {c : UInt8} : (c.toNat : Int).toNat.toUInt8 = c := by simp
@[go_sem] theorem res_liteIndex1 (s : List UInt8) (c : UInt8) : res Γ 74 [.str s, .str [c]] = some [.int .i64 (ixB s c)] := by
  refine res_code (fn := internal_stringslite_Index) rfl rfl ?_
  simp (disch := first | assumption | omega | decide | (simp only [lens] <;> omega) | fail) only [go_sem, internal_stringslite_Index]
  refine cond_split (fun hc => ?_) (fun hc => ?_)
  · simp (disch := first | assumption | omega | decide | (simp only [lens] <;> omega) | fail) only [go_sem]
    subst hc
    simp [ixB]
  · simp (disch := first | assumption | omega | decide | (simp only [lens] <;> omega) | fail) only [go_sem, byt_one, toU8_toNat, toU8_nat]
@[go_sem] theorem res_Index1 (s : List UInt8) (c : UInt8) : res Γ 67 [.str s, .str [c]] = some [.int .i64 (ixB s c)] := by
  refine res_code (fn := strings_Index) rfl rfl ?_
  simp (disch := first | assumption | omega | decide | (simp only [lens] <;> omega) | fail) only [go_sem, strings_Index]
@[go_sem] theorem res_Count1 (s : List UInt8) (c : UInt8) : res Γ 68 [.str s, .str [c]] = some [.int .i64 (s.count c : Nat)] := by
  refine res_code (fn := strings_Count) rfl rfl ?_
  simp (disch := first | assumption | omega | decide | (simp only [lens] <;> omega) | fail) only [go_sem, strings_Count, byt_one, toU8_toNat, toU8_nat]
theorem ixB_nn {s : List UInt8} {c : UInt8} : -1 ≤ ixB s c ∧ ixB s c < s.length := by
  induction s with
  | nil => simp [ixB]
  | cons b l ih => simp only [ixB, List.length_cons, beq_iff_eq]; split <;> (try split) <;> omega
theorem splitB_ix (c : UInt8) : ∀ s : List UInt8, (ixB s c < 0 → splitB c s = [s]) ∧ (0 ≤ ixB s c → splitB c s = s.take (ixB s c).toNat :: splitB c (s.drop ((ixB s c).toNat + 1)))
  | [] => by simp [ixB, splitB]
  | b :: l => by
    have ih := splitB_ix c l
    have hn := @ixB_nn l c
    by_cases hb : b = c
    · subst hb; simp [ixB, splitB]
    · have hb' : (b == c) = false := by simpa using hb
      simp only [ixB, splitB, hb, hb', if_false, Bool.false_eq_true, beq_iff_eq]
      by_cases h : ixB l c = -1
      · rw [if_pos h, ih.1 (by omega)]
        exact ⟨fun _ => rfl, fun h => by omega⟩
      · rw [if_neg h, ih.2 (by omega)]
        refine ⟨fun h => by omega, fun _ => ?_⟩
        have e : (ixB l c + 1).toNat = (ixB l c).toNat + 1 := by omega
        simp only [e, List.take_succ_cons, List.drop_succ_cons]
theorem splitB_len (c : UInt8) : ∀ s : List UInt8, (splitB c s).length = s.count c + 1
  | [] => by simp [splitB]
  | b :: l => by
    have ih := splitB_len c l
    by_cases hb : b = c
    · subst hb; simp [splitB, ih]
    · simp only [splitB, hb, if_false]
      rw [List.count_cons_of_ne hb]
      cases h : splitB c l with
      | nil => rw [h] at ih; simp at ih
      | cons x y => rw [h] at ih; simpa using ih
theorem count_le {s : List UInt8} {c : UInt8} : s.count c ≤ s.length := List.count_le_length
theorem genSplit_l1 (c : UInt8) (n : Nat) (hn : n < 1000000000) (Q : Out → Prop) : ∀ (k i : Nat) (s : List UInt8) (done : List (List UInt8)), s.length < 1000000000 → done.length = i → s.count c = k → i + k = n →
    (∀ s' done', strs (done ++ splitB c s) = strs (done' ++ [s']) → done'.length = n → Q (.nrm, [(0, .p (.str s')), (9, .own 0 (n + 1)), (10, .p (.int .i64 (n : Int)))], [.row false 1 (strs (done' ++ [[]]))])) →
    Wp Γ strings_genSplit_l1 [(0, .p (.str s)), (1, .p (.str [c])), (2, .p (.int .i64 0)), (3, .p (.int .i64 (n : Int))), (9, .own 0 (n + 1)), (10, .p (.int .i64 (i : Int)))] [.row false 1 (strs (done ++ List.replicate (k + 1) []))] (InBlk [0, 9, 10] 0 Q) := by
  intro k
  induction k with
  | zero =>
    intro i s done hs hd hk hi hQ
    rw [W_loop (L := strings_genSplit_l1) rfl]
    simp (disch := first | assumption | omega | decide | (simp only [lens] <;> omega) | fail) only [go_sem]
    obtain rfl : i = n := by omega
    have h : ¬ 0 ≤ ixB s c := fun h => by
      have := splitB_len c s
      rw [(splitB_ix c s).2 h] at this
      simp at this; have := splitB_len c (s.drop ((ixB s c).toNat + 1)); omega
    refine hQ s done ?_ hd
    rw [(splitB_ix c s).1 (by omega)]
  | succ k ih =>
    intro i s done hs hd hk hi hQ
    rw [W_loop (L := strings_genSplit_l1) rfl]
    have h : 0 ≤ ixB s c := by
      have := splitB_len c s
      by_cases h : ixB s c < 0
      · rw [(splitB_ix c s).1 h] at this; simp at this; omega
      · omega
    have hlt := @ixB_nn s c
    simp (disch := first | assumption | omega | decide | (simp only [lens] <;> omega) | fail) only [go_sem, set_rep]
    have e : done ++ List.take (ixB s c).toNat s :: List.replicate (k + 1 + 1 - 1) [] = (done ++ [List.take (ixB s c).toNat s]) ++ List.replicate (k + 1) [] := by simp
    have e2 : (ixB s c + ((1 : Nat) : Int)).toNat = (ixB s c).toNat + 1 := by omega
    have e3 := splitB_len c s
    have e4 := (splitB_ix c s).2 h
    have e5 := splitB_len c (s.drop ((ixB s c).toNat + 1))
    rw [e, e2]
    refine ih (i + 1) _ _ (by simp; omega) (by simp [hd]) ?_ (by omega) (fun s' d' h1 h2 => hQ s' d' ?_ h2)
    · rw [e4] at e3; simp only [List.length_cons] at e3; omega
    · rw [e4, ← h1, List.append_assoc]; rfl
@[go_sem] theorem res_genSplit (s : List UInt8) (c : UInt8) (hs : s.length < 900000000) : res Γ 63 [.str s, .str [c], .int .i64 0, .int .i64 (-1)] = some [.sl .any 1 (strs (splitB c s))] := by
  have hc := @count_le s c
  refine res_code (fn := strings_genSplit) rfl rfl ?_
  simp (disch := first | assumption | omega | decide | (simp only [lens] <;> omega) | fail) only [go_sem, strings_genSplit]
  rw [show ((s.count c : Nat) : Int) + 1 - 1 = ((s.count c : Nat) : Int) by omega, show (((s.count c : Nat) : Int) + 1).toNat = s.count c + 1 by omega]
  refine genSplit_l1 c (s.count c) (by omega) _ (s.count c) 0 s [] (by omega) rfl rfl (by omega) (fun s' d' h1 h2 => ?_)
  simp (disch := first | assumption | omega | decide | (simp only [lens] <;> omega) | fail) only [go_sem]
  rw [show (((s.count c : Nat) : Int) + 1).toNat = (d' ++ [s']).length by simp; omega, List.take_length, ← h1, List.nil_append]
@[go_sem] theorem res_Split (s : List UInt8) (c : UInt8) (hs : s.length < 900000000) : res Γ 52 [.str s, .str [c]] = some [.sl .any 1 (strs (splitB c s))] := by
  refine res_code (fn := strings_Split) rfl rfl ?_
  simp (disch := first | assumption | omega | decide | (simp only [lens] <;> omega) | fail) only [go_sem, strings_Split]
end Ab
namespace Ab
open Go (IntKind BinOp UnOp)
def splitA (c : UInt8) : List UInt8 → List UInt8 → List (List UInt8)
  | cur, [] => [cur]
  | cur, b :: l => if b = c then cur :: splitA c [] l else splitA c (cur ++ [b]) l
theorem splitA_eq (c : UInt8) : ∀ (l cur : List UInt8), splitA c cur l = match splitB c l with | [] => [cur] | h :: t => (cur ++ h) :: t
  | [], cur => by simp [splitA, splitB]
  | b :: l, cur => by
    by_cases hb : b = c
    · simp only [splitA, splitB, hb, if_true, List.append_nil]
      rw [splitA_eq c l []]
      have := splitB_len c l
      cases h : splitB c l with
      | nil => rw [h] at this; simp at this
      | cons x y => simp
    · simp only [splitA, splitB, hb, if_false]
      rw [splitA_eq c l]
      cases h : splitB c l <;> simp
theorem splitA_nil (c : UInt8) (l : List UInt8) : splitA c [] l = splitB c l := by
  rw [splitA_eq]
  have := splitB_len c l
  cases h : splitB c l with
  | nil => rw [h] at this; simp at this
  | cons x y => simp
theorem drop_cons {s : List UInt8} {i : Nat} {b : UInt8} {r : List UInt8} (h : s.drop i = b :: r) : i < s.length ∧ byt s i = (b.toNat : Int) ∧ s.drop (i + 1) = r ∧ s.take (i + 1) = s.take i ++ [b] := by
  have h1 : i < s.length := by
    by_cases h1 : i < s.length
    · exact h1
    · rw [List.drop_of_length_le (by omega)] at h; cases h
  rw [List.drop_eq_getElem_cons h1] at h
  cases h
  refine ⟨h1, ?_, rfl, ?_⟩
  · simp [byt, List.getElem?_eq_getElem h1]
  · rw [List.take_add_one, List.getElem?_eq_getElem h1]; rfl
theorem drop_nil {s : List UInt8} {i : Nat} (h : s.drop i = []) : s.length ≤ i := by simpa using h
theorem toNat_eq {b : UInt8} {n : Nat} (hn : n < 256) : ((b.toNat : Int) = (n : Int)) ↔ b = UInt8.ofNat n := by
  constructor
  · intro h
    have : b.toNat = n := by omega
    rw [← this]; simp
  · rintro rfl; simp; omega
@[go_sem] theorem res_nameParts (s : List UInt8) (hs : s.length < 900000000) : res Γ 36 [.str s] = some [.sl .any 1 (strs (splitB 46 s))] := by
  refine res_code (fn := name_Parts) rfl rfl ?_
  simp (disch := first | assumption | omega | decide | (simp only [lens] <;> omega) | fail) only [go_sem, name_Parts]
theorem r8_Parts_l1_ok (s : List UInt8) (hs : s.length < 900000000) (Q : Out → Prop) : ∀ (rest cur : List UInt8) (i fr : Nat) (done : List (List UInt8)), s.drop i = rest → (s.take i).drop fr = cur → fr ≤ i → i ≤ s.length → done.length ≤ i →
    (Q (.nrm, [(3, .own 0 (done ++ splitA 46 cur rest).length)], [.row false 1 (strs (done ++ splitA 46 cur rest))])) →
    Wp Γ r8_Parts_l1 [(0, .p (.str s)), (3, .own 0 done.length), (4, .p (.int .i64 fr)), (5, .p (.int .i64 (i : Int)))] [.row false 1 (strs done)] (InBlk [3] 0 Q) := by
  intro rest
  induction rest with
  | nil =>
    intro cur i fr done h1 h2 h3 h4 h5 hQ
    have := drop_nil h1
    obtain rfl : i = s.length := by omega
    rw [W_loop (L := r8_Parts_l1) rfl]
    simp (disch := first | assumption | omega | decide | (simp only [lens] <;> omega) | fail) only [go_sem]
    rw [W_loop (L := r8_Parts_l1) rfl]
    simp (disch := first | assumption | omega | decide | (simp only [lens] <;> omega) | fail) only [go_sem]
    simp only [splitA, ← h2, List.length_append, List.length_cons, List.length_nil] at hQ
    exact hQ
  | cons b rest ih =>
    intro cur i fr done h1 h2 h3 h4 h5 hQ
    obtain ⟨h6, h7, h8, h9⟩ := drop_cons h1
    rw [W_loop (L := r8_Parts_l1) rfl]
    simp (disch := first | assumption | omega | decide | (simp only [lens] <;> omega) | fail) only [go_sem, h7]
    refine cond_split (fun hc => ?_) (fun hc => ?_)
    · have hb : b = 46 := (toNat_eq (n := 46) (by decide)).1 hc
      subst hb
      simp (disch := first | assumption | omega | decide | (simp only [lens] <;> omega) | fail) only [go_sem]
      have e : done.length + 1 = (done ++ [List.drop fr (List.take i s)]).length := by simp
      rw [e]
      exact ih [] (i + 1) (i + 1) _ h8 (by simp) (Nat.le_refl _) (by omega) (by simp; omega) (by simpa [splitA, h2] using hQ)
    · have hb : b ≠ 46 := fun h => hc (by rw [h]; rfl)
      simp (disch := first | assumption | omega | decide | (simp only [lens] <;> omega) | fail) only [go_sem]
      refine ih (cur ++ [b]) (i + 1) fr done h8 ?_ (by omega) (by omega) (by omega) (by simpa [splitA, hb] using hQ)
      rw [h9, List.drop_append_of_le_length (by simp; omega), h2]
@[go_sem] theorem res_r8Parts (s : List UInt8) (hs : s.length < 900000000) : res Γ 40 [.str s] = some [.sl .any 1 (strs (splitB 46 s))] := by
  refine res_code (fn := r8_Parts) rfl rfl ?_
  simp (disch := first | assumption | omega | decide | (simp only [lens] <;> omega) | fail) only [go_sem, r8_Parts]
  refine r8_Parts_l1_ok s hs _ s [] 0 0 [] rfl (by simp) (by omega) (by omega) (by simp) ?_
  simp (disch := first | assumption | omega | decide | (simp only [lens] <;> omega) | fail) only [go_sem, splitA_nil]
def nodeB (l : List (List UInt8)) (i : Int) : List UInt8 :=
  let j := if i < 0 then i + l.length else i
  if j < 0 ∨ (l.length : Int) ≤ j then [] else l.getD j.toNat []
@[go_sem] theorem res_nameNode (s : List UInt8) (i : Int) (hs : s.length < 900000000) (h0 : -9223372036854775808 ≤ i) (h1 : i ≤ 9223372036854775807) : res Γ 3 [.str s, .int .i64 i] = some [.str (nodeB (splitB 46 s) i)] := by
  have hl := splitB_len 46 s
  have hc := @count_le s 46
  refine res_code (fn := name_Node) rfl rfl ?_
  repeat' (first | (simp (disch := first | assumption | omega | decide | (simp only [lens] <;> omega) | fail) only [go_sem, name_Node]) | refine cond_split (fun hc => ?_) (fun hc => ?_) | refine gd_split_f (fun hc => ?_) (fun hc => ?_) | refine gd_split_t (fun hc => ?_) (fun hc => ?_))
  all_goals (simp only [nodeB, Option.some.injEq, List.cons.injEq, and_true, PV.str.injEq]; split <;> split <;> first | rfl | omega)
@[go_sem] theorem res_r8Node (s : List UInt8) (i : Int) (hs : s.length < 900000000) (h0 : -9223372036854775808 ≤ i) (h1 : i ≤ 9223372036854775807) : res Γ 27 [.str s, .int .i64 i] = some [.str (nodeB (splitB 46 s) i)] := by
  have hl := splitB_len 46 s
  have hc := @count_le s 46
  refine res_code (fn := r8_Node) rfl rfl ?_
  repeat' (first | (simp (disch := first | assumption | omega | decide | (simp only [lens] <;> omega) | fail) only [go_sem, r8_Node]) | refine cond_split (fun hc => ?_) (fun hc => ?_) | refine gd_split_f (fun hc => ?_) (fun hc => ?_) | refine gd_split_t (fun hc => ?_) (fun hc => ?_))
  all_goals (simp only [nodeB, Option.some.injEq, List.cons.injEq, and_true, PV.str.injEq]; split <;> split <;> first | rfl | omega)
end Ab
namespace Ab
open Go (IntKind BinOp UnOp)
theorem joinB_snoc (sep x : List UInt8) : ∀ l : List (List UInt8), l ≠ [] → joinB sep (l ++ [x]) = joinB sep l ++ (sep ++ x)
  | [], h => absurd rfl h
  | [a], _ => by simp [joinB]
  | a :: b :: r, _ => by
    have := joinB_snoc sep x (b :: r) (by simp)
    simp only [List.cons_append, joinB, List.append_assoc] at this ⊢
    rw [this]
theorem joinB_len (sep : List UInt8) (m : Nat) : ∀ l : List (List UInt8), (∀ x ∈ l, x.length ≤ m) → (joinB sep l).length ≤ l.length * (m + sep.length)
  | [], _ => by simp [joinB]
  | [a], h => by have := h a (by simp); simp [joinB]; omega
  | a :: b :: r, h => by
    have h1 := h a (by simp)
    have := joinB_len sep m (b :: r) (fun x hx => h x (by simp at hx ⊢; exact .inr hx))
    simp only [joinB, List.length_append, List.length_cons] at this ⊢
    rw [Nat.add_mul (r.length + 1) 1]
    omega
theorem joinB_take (sep : List UInt8) (l : List (List UInt8)) : ∀ i, (joinB sep (l.take i)).length ≤ (joinB sep l).length := by
  have key : ∀ (b a : List (List UInt8)), (joinB sep a).length ≤ (joinB sep (a ++ b)).length := by
    intro b
    induction b with
    | nil => intro a; simp
    | cons x b ih =>
      intro a
      have h1 := ih (a ++ [x])
      rw [List.append_assoc] at h1
      refine Nat.le_trans ?_ h1
      by_cases ha : a = []
      · subst ha; simp [joinB]
      · rw [joinB_snoc sep x a ha]; simp
  intro i
  have := key (l.drop i) (l.take i)
  rwa [List.take_append_drop] at this
theorem take_snoc {α : Type} {l : List α} {i : Nat} (d : α) (h : i < l.length) : l.take (i + 1) = l.take i ++ [l.getD i d] := by
  rw [List.take_add_one, List.getElem?_eq_getElem h]
  simp [List.getElem?_eq_getElem h]
theorem r8_Join_l1_ok {kk : SK} (l : List (List UInt8)) (hl : l.length < 1000000000) (hj : (joinB [46] l).length ≤ 1000000000) (Q : Out → Prop) : ∀ (k i : Nat), i + k = l.length →
    (Q (.nrm, [(3, .p (.str (joinB [46] l)))], [])) →
    Wp Γ r8_Join_l1 [(0, .p (.sl kk 1 (strs l))), (3, .p (.str (joinB [46] (l.take i)))), (4, .p (.int .i64 (i : Int)))] [] (InBlk [3] 0 Q) := by
  intro k
  induction k with
  | zero =>
    intro i hi hQ
    obtain rfl : i = l.length := by omega
    rw [W_loop (L := r8_Join_l1) rfl]
    simp (disch := first | assumption | omega | decide | (simp only [lens] <;> omega) | fail) only [go_sem]
    rw [List.take_length]
    exact hQ
  | succ k ih =>
    intro i hi hQ
    have h1 := joinB_take [46] l i
    have h2 := joinB_take [46] l (i + 1)
    rw [take_snoc [] (by omega)] at h2
    have hne : 0 < i → l.take i ≠ [] := fun h0 h => by have := congrArg List.length h; rw [List.length_take, List.length_nil] at this; omega
    have e : (joinB [46] (l.take (i + 1))) = if i = 0 then l.getD i [] else joinB [46] (l.take i) ++ 46 :: l.getD i [] := by
      rw [take_snoc [] (by omega)]
      split
      · rename_i h; subst h; simp [joinB]
      · rw [joinB_snoc _ _ _ (hne (by omega))]; rfl
    rw [W_loop (L := r8_Join_l1) rfl]
    simp (disch := first | assumption | omega | decide | (simp only [lens] <;> omega) | fail) only [go_sem]
    refine cond_split (fun hc => ?_) (fun hc => ?_)
    · rw [if_neg (by omega)] at e
      rw [joinB_snoc _ _ _ (hne (by omega))] at h2
      simp only [List.length_append, List.length_cons, List.length_nil] at h2
      simp (disch := first | assumption | omega | decide | (simp only [lens] <;> omega) | fail) only [go_sem]
      rw [← e]
      exact ih (i + 1) (by omega) hQ
    · obtain rfl : i = 0 := by omega
      simp only [List.take_zero, joinB, List.nil_append] at h2 ⊢
      simp (disch := first | assumption | omega | decide | (simp only [lens] <;> omega) | fail) only [go_sem]
      rw [if_pos rfl] at e
      rw [← e]
      exact ih 1 (by omega) hQ
@[go_sem] theorem res_r8Join {kk : SK} (l : List (List UInt8)) (hl : l.length < 1000000000) (hj : (joinB [46] l).length ≤ 1000000000) : res Γ 26 [.sl kk 1 (strs l)] = some [.str (joinB [46] l)] := by
  refine res_code (fn := r8_Join) rfl rfl ?_
  simp (disch := first | assumption | omega | decide | (simp only [lens] <;> omega) | fail) only [go_sem, r8_Join]
  refine r8_Join_l1_ok l hl hj _ l.length 0 (by omega) ?_
  simp (disch := first | assumption | omega | decide | (simp only [lens] <;> omega) | fail) only [go_sem]
@[go_sem] theorem res_nameJoin {kk : SK} (l : List (List UInt8)) (hl : l.length < 1000000000) (hj : (joinB [46] l).length ≤ 1000000000) : res Γ 1 [.sl kk 1 (strs l)] = some [.str (joinB [46] l)] := by
  refine res_code (fn := name_Join) rfl rfl ?_
  simp (disch := first | assumption | omega | decide | (simp only [lens] <;> omega) | fail) only [go_sem, name_Join]
end Ab
