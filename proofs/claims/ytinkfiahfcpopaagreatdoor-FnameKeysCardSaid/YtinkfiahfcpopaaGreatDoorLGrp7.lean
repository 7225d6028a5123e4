import Derived.Test.YtinkfiahfcpopaaGreatDoorLGrp2
import Derived.Test.YtinkfiahfcpopaaGreatDoorLAgg
namespace Ab
open Go (IntKind BinOp UnOp)
def nameS (k : Key) (x : SK × Ser) : SK × Ser := (x.1, ⟨k, x.2.start, x.2.step, x.2.vals, x.2.cons⟩)
def grpR (kind : Int) (g : Key → List (SK × Ser)) : List Key → List (SK × Ser) → List (SK × Ser) × Int
  | [], acc => (acc, 0)
  | k :: ks, acc => if errJ (sersOf (g k)) ≠ 0 then ([], errJ (sersOf (g k))) else grpR kind g ks (acc ++ [nameS k (aggS kind (g k))])
abbrev GEnv1 (kind : Int) (o m n : Nat) (i : Int) : Env := [(0, .p (.int .i64 kind)), (9, .mp 1), (13, .own (o + 2) m), (57, .own 0 n), (58, .p (.int .i64 (n : Int))), (59, .p (.int .i64 i))]
theorem storeK_name {H : Heap} {id sz} {a b c d e : PV} {s : List UInt8} : storeK H (some (.row false sz [.agg [a, b, c, d, e]])) 1 id 1 0 0 (.p (.str s)) = some (H.set id (.row false sz [.agg [.str s, b, c, d, e]])) := rfl
theorem loadK_one5 {f sz} {a b c d e : PV} : loadK (some (.row f sz [.agg [a, b, c, d, e]])) 5 true 1 0 0 = some (.p (.agg [a, b, c, d, e])) := rfl
set_option maxRecDepth 10000 in
theorem fGroup_l1_step (kind : Int) (Q : Out → Prop) (ks : List Key) (i : Nat) (hi : i < ks.length) (hks : ks.length ≤ 100) (k : Key) (hk : ks.getD i [] = k) (es : List (PV × AV)) (T : List Blk) (q o : Nat) (g acc : List (SK × Ser)) (hqo : q ≠ o)
    (hT : T[q]? = some (.row false 5 (sers g))) (ho : T[o]? = some (.row false 5 (sers acc))) (ha : acc.length ≤ 100) (g0 : g ≠ []) (gl : g.length ≤ 100) (gv : ∀ x ∈ g, x.2.vals.length ≤ 1000000) (gn : ∀ x ∈ g, x.2.name.length ≤ 4096)
    (e1 : mfind (.str k) es = some (some (.own (q + 2) g.length)))
    (L1 : errJ (sersOf g) ≠ 0 → ∀ H, Q (.ret, [(6, .p (.sl .nil 5 [])), (7, .p (.int .i64 (errJ (sersOf g))))], H))
    (L2 : errJ (sersOf g) = 0 → ∀ U, Wp Γ fname_Group_l1 (GEnv1 kind o (acc.length + 1) ks.length ((i : Int) + 1)) (.row false 1 (strs ks) :: .box (mapCells es) :: ((T.set q (.row true 5 (sers g))).set o (.row false 5 (sers (acc ++ [nameS k (aggS kind g)]))) ++ U)) (InBlk [13] 2 Q)) :
    Wp Γ fname_Group_l1 (GEnv1 kind o acc.length ks.length i) (.row false 1 (strs ks) :: .box (mapCells es) :: T) (InBlk [13] 2 Q) := by
  have hq : q < T.length := by
    rcases List.getElem?_eq_some_iff.1 hT with ⟨h, _⟩; exact h
  have ho' : o < T.length := by
    rcases List.getElem?_eq_some_iff.1 ho with ⟨h, _⟩; exact h
  have eA := fun kk => resM_Apply (kk := kk) kind g g0 gl gv gn
  unfold aggM jAgg at eA
  have eR : rowAt (some (Blk.row false 5 (sers g))) g.length = some (5, sers g) := rowAt_pos sers_len
  by_cases he : errJ (sersOf g) = 0
  · have L2 := L2 he
    rw [if_neg (fun h => h he)] at eA
    have ho2 : (T.set q (.row true 5 (sers g)))[o]? = some (.row false 5 (sers acc)) := by rw [List.getElem?_set_ne hqo, ho]
    have eT : (T.set q (.row true 5 (sers g))).length = T.length := List.length_set
    rw [W_loop (L := fname_Group_l1) rfl]
    simp (disch := first | assumption | omega | decide | (simp only [lens] <;> omega) | fail) only [go_sem, hk, e1, at_last, at_left, set_last, set_left, hT, eR, eA]
    generalize aggS kind g = x at *
    generalize T.set q (.row true 5 (sers g)) = T' at *
    have ho3 : o < T'.length := by omega
    have e5 : sers [x] = [.agg [.str x.2.name, .int .i64 x.2.start, .int .i64 x.2.step, .sl x.1 2 (vpv x.2.vals), .int .i64 x.2.cons]] := rfl
    rw [e5]
    simp (disch := first | assumption | omega | decide | (simp only [lens] <;> omega) | fail) only [go_sem, hk, e1, at_last, at_left, set_last, set_left, ho2, storeK_name, loadK_one5]
    rw [appK_pos sers_len (by rw [sers_len]; simp only [List.length_cons, List.length_nil]; omega)]
    simp (disch := first | assumption | omega | decide | (simp only [lens] <;> omega) | fail) only [go_sem, at_last, at_left, set_last, set_left]
    exact L2 _
  · rw [if_pos he] at eA
    have L1 := L1 he
    rw [W_loop (L := fname_Group_l1) rfl]
    simp (disch := first | assumption | omega | decide | (simp only [lens] <;> omega) | fail) only [go_sem, hk, e1, at_last, at_left, set_last, set_left, hT, eR, eA]
    exact L1 _
theorem drop_getD {ks : List Key} {i : Nat} (h : i < ks.length) : ks.drop i = ks.getD i [] :: ks.drop (i + 1) := by
  rw [List.drop_eq_getElem_cons h, List.getD_eq_getElem?_getD, List.getElem?_eq_getElem h]; rfl
theorem fGroup_l1_ok (kind : Int) (ks : List Key) (hks : ks.length ≤ 100) (hd : ks.Nodup) (q : Key → Nat) (hq : ∀ k ∈ ks, ∀ k' ∈ ks, q k = q k' → k = k') (g : Key → List (SK × Ser)) (o : Nat)
    (hg : ∀ k ∈ ks, g k ≠ [] ∧ (g k).length ≤ 100 ∧ (∀ x ∈ g k, x.2.vals.length ≤ 1000000) ∧ ∀ x ∈ g k, x.2.name.length ≤ 4096)
    (Q : Out → Prop) (H1 : ∀ e H, e ≠ 0 → grpR kind g ks [] = ([], e) → Q (.ret, [(6, .p (.sl .nil 5 [])), (7, .p (.int .i64 e))], H))
    (H2 : ∀ acc B0 B1 T, grpR kind g ks [] = (acc, 0) → T[o]? = some (.row false 5 (sers acc)) → acc.length = ks.length → Q (.nrm, [(13, .own (o + 2) acc.length)], B0 :: B1 :: T)) :
    ∀ (n i : Nat) (acc : List (SK × Ser)) (T : List Blk), i + n = ks.length → acc.length = i → T[o]? = some (.row false 5 (sers acc)) → (∀ k ∈ ks.drop i, T[q k]? = some (.row false 5 (sers (g k))) ∧ q k ≠ o) → grpR kind g (ks.drop i) acc = grpR kind g ks [] →
    Wp Γ fname_Group_l1 (GEnv1 kind o acc.length ks.length i) (.row false 1 (strs ks) :: .box (mapCells (entsG q (fun k => (g k).length) ks)) :: T) (InBlk [13] 2 Q) := by
  intro n
  induction n with
  | zero =>
    intro i acc T hi ha ho hT hR
    obtain rfl : i = ks.length := by omega
    rw [List.drop_length] at hR
    have H2 := H2 acc (.row false 1 (strs ks)) (.box (mapCells (entsG q (fun k => (g k).length) ks))) T hR.symm ho ha
    generalize entsG q (fun k => (g k).length) ks = es at *
    rw [W_loop (L := fname_Group_l1) rfl]
    simp (disch := first | assumption | omega | decide | (simp only [lens] <;> omega) | fail) only [go_sem]
    exact H2
  | succ n ih =>
    intro i acc T hi ha ho hT hR
    have hlt : i < ks.length := by omega
    have ed := drop_getD hlt
    obtain ⟨k, hk⟩ : ∃ k, ks.getD i [] = k := ⟨_, rfl⟩
    rw [hk] at ed
    have hm : k ∈ ks := List.mem_of_mem_drop (i := i) (by rw [ed]; simp)
    have hk1 := hT k (by rw [ed]; simp)
    obtain ⟨g1, g2, g3, g4⟩ := hg k hm
    rw [ed] at hR
    have hnd : (k :: ks.drop (i + 1)).Nodup := by rw [← ed]; exact hd.sublist (List.drop_sublist _ _)
    refine fGroup_l1_step kind Q ks i hlt hks k hk _ T (q k) o (g k) acc hk1.2 hk1.1 ho (by omega) g1 g2 g3 g4 (by rw [mfind_ents, if_pos hm]) (fun he H => ?_) (fun he U => ?_)
    · refine H1 _ H he ?_
      rw [← hR]
      unfold grpR
      rw [if_pos he]
    · have ih := ih (i + 1) (acc ++ [nameS k (aggS kind (g k))]) (((T.set (q k) (.row true 5 (sers (g k)))).set o (.row false 5 (sers (acc ++ [nameS k (aggS kind (g k))])))) ++ U) (by omega) (by rw [List.length_append]; simp only [List.length_cons, List.length_nil]; omega)
      have ho' : o < T.length := by
        rcases List.getElem?_eq_some_iff.1 ho with ⟨h, _⟩; exact h
      rw [List.length_append] at ih
      refine ih ?_ (fun k' hk' => ?_) ?_
      · rw [at_left (by rw [List.length_set, List.length_set]; exact ho'), List.getElem?_set_self (by rw [List.length_set]; exact ho')]
      · have hk2 := hT k' (by rw [ed]; exact List.mem_cons_of_mem _ hk')
        have hl : q k' < T.length := by
          rcases List.getElem?_eq_some_iff.1 hk2.1 with ⟨h, _⟩; exact h
        have hne : q k ≠ q k' := fun e => (List.nodup_cons.1 hnd).1 (by rw [hq k hm k' (List.mem_of_mem_drop hk') e]; exact hk')
        refine ⟨?_, hk2.2⟩
        rw [at_left (by rw [List.length_set, List.length_set]; exact hl), List.getElem?_set_ne (fun e => hk2.2 e.symm), List.getElem?_set_ne hne, hk2.1]
      · rw [← hR]
        conv => rhs; unfold grpR
        rw [if_neg (fun h => h he)]
end Ab
namespace Ab
open Go (IntKind BinOp UnOp)
theorem res_Group1 {kk : SK} (s : Ser) (hv : s.vals.length ≤ 9223372036854775807) : res Γ 389 [s.pv kk] = some [.bool (!isS s)] := by
  have e := res_seriesIs (kk := kk) s hv
  unfold Ser.pv at e ⊢
  refine res_code (fn := fname_Group_1) rfl rfl ?_
  simp (disch := first | assumption | omega | decide | (simp only [lens] <;> omega) | fail) only [go_sem, fname_Group_1, e]
theorem GIndexFunc_l1_ok {kk : SK} (l : List (SK × Ser)) (hl : l.length ≤ 1000000) (hv : ∀ x ∈ l, x.2.vals.length ≤ 1000000) (Q : Out → Prop) (h1 : badJ l = false → Q (.nrm, [], [])) (h2 : badJ l = true → ∀ j : Nat, Q (.ret, [(4, .p (.int .i64 (j : Int)))], [])) :
    ∀ (n i : Nat), i + n = l.length → badJ (l.take i) = false →
    Wp Γ slices_IndexFunc_api_Series_api_Series_l1 [(0, .p (.sl kk 5 (sers l))), (1, .p (.clo 389 [])), (7, .p (.int .i64 (l.length : Int))), (8, .p (.int .i64 (i : Int)))] [] (InBlk [] 0 Q) := by
  intro n
  induction n with
  | zero =>
    intro i hi hb
    obtain rfl : i = l.length := by omega
    rw [List.take_length] at hb
    rw [W_loop (L := slices_IndexFunc_api_Series_api_Series_l1) rfl]
    simp (disch := first | assumption | omega | decide | (simp only [lens] <;> omega) | fail) only [go_sem]
    exact h1 hb
  | succ n ih =>
    intro i hi hb
    have hlt : i < l.length := by omega
    obtain ⟨x, hx⟩ : ∃ x, l.getD i noSer = x := ⟨_, rfl⟩
    have hm : x ∈ l := by
      rw [← hx, List.getD_eq_getElem?_getD, List.getElem?_eq_getElem hlt]; simp
    have e := res_Group1 (kk := x.1) x.2 (by have := hv x hm; omega)
    unfold Ser.pv at e
    cases hs : isS x.2
    · rw [hs] at e
      have : badJ l = true := by
        unfold badJ
        rw [List.any_eq_true]
        exact ⟨x, hm, by rw [hs]; rfl⟩
      rw [W_loop (L := slices_IndexFunc_api_Series_api_Series_l1) rfl]
      simp (disch := first | assumption | omega | decide | (simp only [lens] <;> omega) | fail) only [go_sem, hx, serC, e]
      exact h2 this i
    · rw [hs] at e
      rw [W_loop (L := slices_IndexFunc_api_Series_api_Series_l1) rfl]
      simp (disch := first | assumption | omega | decide | (simp only [lens] <;> omega) | fail) only [go_sem, hx, serC, e]
      refine ih (i + 1) (by omega) ?_
      rw [take_snoc' noSer hlt, hx]
      unfold badJ at hb ⊢
      rw [List.any_append, hb]
      simp [hs]
theorem res_GIndexFunc {kk : SK} (l : List (SK × Ser)) (hl : l.length ≤ 1000000) (hv : ∀ x ∈ l, x.2.vals.length ≤ 1000000) : ∃ j : Int, (badJ l = true → 0 ≤ j) ∧ (badJ l = false → j = -1) ∧ res Γ 276 [.sl kk 5 (sers l), .clo 389 []] = some [.int .i64 j] := by
  by_cases hb : badJ l = true
  · by_cases h : ∃ j : Int, 0 ≤ j ∧ res Γ 276 [.sl kk 5 (sers l), .clo 389 []] = some [.int .i64 j]
    · obtain ⟨j, h1, h2⟩ := h
      exact ⟨j, fun _ => h1, (fun h => by rw [hb] at h; cases h), h2⟩
    · exfalso
      have key := callK (Γ := Γ) (f := 276) (fn := slices_IndexFunc_api_Series_api_Series) (args := [.p (.sl kk 5 (sers l)), .p (.clo 389 [])]) (HL := []) (K := fun vs h => ∃ j : Int, 0 ≤ j ∧ mapO (reify h 4) vs = some [.int .i64 j]) rfl rfl (by
        simp (disch := first | assumption | omega | decide | (simp only [lens] <;> omega) | fail) only [go_sem, slices_IndexFunc_api_Series_api_Series]
        refine GIndexFunc_l1_ok l hl hv _ (fun h' => by rw [hb] at h'; cases h') (fun _ j => ?_) l.length 0 (by omega) rfl
        simp (disch := first | assumption | omega | decide | (simp only [lens] <;> omega) | fail) only [go_sem]
        exact ⟨j, by omega, rfl⟩)
      obtain ⟨n, vs, hh, h3, j, h4, h5⟩ := key
      exact h ⟨j, h4, res_of ⟨n, (vs, hh), h3, h5⟩⟩
  · refine ⟨-1, fun h => absurd h hb, fun _ => rfl, ?_⟩
    refine res_code (fn := slices_IndexFunc_api_Series_api_Series) rfl rfl ?_
    simp (disch := first | assumption | omega | decide | (simp only [lens] <;> omega) | fail) only [go_sem, slices_IndexFunc_api_Series_api_Series]
    refine GIndexFunc_l1_ok l hl hv _ (fun _ => ?_) (fun h => absurd h hb) l.length 0 (by omega) rfl
    simp (disch := first | assumption | omega | decide | (simp only [lens] <;> omega) | fail) only [go_sem]
theorem res_GContainsFunc {kk : SK} (l : List (SK × Ser)) (hl : l.length ≤ 1000000) (hv : ∀ x ∈ l, x.2.vals.length ≤ 1000000) : res Γ 270 [.sl kk 5 (sers l), .clo 389 []] = some [.bool (badJ l)] := by
  obtain ⟨j, h1, h2, e⟩ := res_GIndexFunc (kk := kk) l hl hv
  refine res_code (fn := slices_ContainsFunc_api_Series_api_Series) rfl rfl ?_
  simp (disch := first | assumption | omega | decide | (simp only [lens] <;> omega) | fail) only [go_sem, slices_ContainsFunc_api_Series_api_Series, e]
  cases hb : badJ l
  · have := h2 hb
    rw [decide_eq_false (by omega)]
  · rw [decide_eq_true (h1 hb)]
def grpS (kind : Int) (ns : List Int) (l : List (SK × Ser)) : List (SK × Ser) × Int :=
  if aggName kind = [] ∨ ns = [] ∨ badJ l = true then ([], 1) else grpR kind (groupT ns l) (keysT ns l) []
def grpK (R : List (SK × Ser) × Int) : SK := if R.2 = 0 then .any else .nil
theorem res_fnameGroup {kk kn : SK} (kind : Int) (ns : List Int) (hn : ns.length ≤ 20) (hr : ∀ n ∈ ns, -9223372036854775808 ≤ n ∧ n ≤ 9223372036854775807) (l : List (SK × Ser)) (hl : l.length ≤ 100) (hN : ∀ x ∈ l, x.2.name.length ≤ 4096) (hv : ∀ x ∈ l, x.2.vals.length ≤ 1000000) :
    res Γ 388 [.int .i64 kind, .sl kn 1 (ints .i64 ns), .sl kk 5 (sers l)] = some [.sl (grpK (grpS kind ns l)) 5 (sers (grpS kind ns l).1), .int .i64 (grpS kind ns l).2] := by
  have eC := res_GContainsFunc (kk := kk) l (by omega) hv
  have eN := res_aggName kind
  unfold grpS
  by_cases h1 : aggName kind = []
  · rw [h1] at eN
    rw [if_pos (.inl h1)]
    refine res_code (fn := fname_Group) rfl rfl ?_
    simp (disch := first | assumption | omega | decide | (simp only [lens] <;> omega) | fail) only [go_sem, fname_Group, eN]
    rfl
  · by_cases h2 : ns = []
    · subst h2
      rw [if_pos (.inr (.inl rfl))]
      refine res_code (fn := fname_Group) rfl rfl ?_
      simp (disch := first | assumption | omega | decide | (simp only [lens] <;> omega) | fail) only [go_sem, fname_Group, eN, h1]
      rfl
    · have h2' : ¬ ns.length = 0 := fun h => h2 (List.length_eq_zero_iff.1 h)
      by_cases h3 : badJ l = true
      · rw [if_pos (.inr (.inr h3))]
        rw [h3] at eC
        refine res_code (fn := fname_Group) rfl rfl ?_
        simp (disch := first | assumption | omega | decide | (simp only [lens] <;> omega) | fail) only [go_sem, fname_Group, eN, h1, h2', eC]
        rfl
      · rw [if_neg (by simp [h1, h2, h3])]
        rw [Bool.not_eq_true] at h3
        rw [h3] at eC
        refine res_code (fn := fname_Group) rfl rfl ?_
        simp (disch := first | assumption | omega | decide | (simp only [lens] <;> omega) | fail) only [go_sem, fname_Group, eN, h1, h2', eC]
        refine fGroup_l2_ok kind ns hn hr l hl hN _ (fun q T I => ?_) l.length 0 (fun _ => 0) [] (by omega) ⟨fun k hk => (by cases hk), fun k hk => (by cases hk)⟩
        have hks : (keysT ns l).length ≤ 100 := by
          have := @keysG_len _ (keyF ns) l
          show (keysG _ _).length ≤ 100
          omega
        have L := fun Q H1 H2 => fGroup_l1_ok kind (keysT ns l) hks keysG_nodup q I.inj (groupT ns l) T.length (fun k hk => ⟨List.length_pos_iff.1 (groupG_pos hk), Nat.le_trans groupG_len hl, fun x hx => hv x (mem_groupG.1 hx).1, fun x hx => hN x (mem_groupG.1 hx).1⟩) Q H1 H2 (keysT ns l).length 0 [] (T ++ [.row false 5 []]) (by omega) rfl (at_last rfl)
          (fun k hk => ⟨by rw [at_left (I.lt hk)]; exact I.row k hk, by have := I.lt hk; omega⟩) rfl
        unfold HeapT entsT
        generalize keysT ns l = ks at *
        generalize entsG q (fun k => (groupT ns l k).length) ks = es at *
        generalize grpR kind (groupT ns l) ks [] = R at *
        simp (disch := first | assumption | omega | decide | (simp only [lens] <;> omega) | fail) only [go_sem]
        refine L _ (fun e H he h => ?_) (fun acc B0 B1 T' h hT' hacc => ?_)
        · rw [h]
          simp (disch := first | assumption | omega | decide | (simp only [lens] <;> omega) | fail) only [go_sem]
          unfold grpK
          rw [if_neg he]
        · rw [h]
          simp (disch := first | assumption | omega | decide | (simp only [lens] <;> omega) | fail) only [go_sem]
          rw [hT', rowAt_pos sers_len]
          rfl
end Ab
namespace Ab
open Go (IntKind BinOp UnOp)
end Ab
namespace Ab
open Go (IntKind BinOp UnOp)
theorem ints_lit {k : IntKind} {a : Int} : [PV.int k a] = ints k [a] := rfl
@[go_sem] theorem res_known24 : res Γ 8 [] = some [.bool true] := by
  have e1 : baseB [115, 99, 97, 108, 101, 40, 97, 46, 98, 44, 50, 41] = [97, 46, 98] := by decide +kernel
  have e2 : joinB [46] (keyB [115, 99, 97, 108, 101, 40, 97, 46, 98, 44, 50, 41] [1]) = [98] := by decide +kernel
  have e3 := res_fnameKey (kk := .tight) [115, 99, 97, 108, 101, 40, 97, 46, 98, 44, 50, 41] (.int .i64 0) (.int .i64 0) (.sl .nil 2 []) (.int .i64 0) [1] (by decide) (by decide) (by decide)
  rw [e2, ← ints_lit] at e3
  refine res_code (fn := l24_known) rfl rfl ?_
  simp (disch := first | assumption | omega | decide | (simp only [lens] <;> omega) | fail) only [go_sem, l24_known, e1, e3]
end Ab
namespace Ab
open Go (IntKind BinOp UnOp)
end Ab
namespace Ab
open Go (IntKind BinOp UnOp)
end Ab
namespace Ab
open Go (IntKind BinOp UnOp)
def bigS (s : Ser) : Bool := decide (120 < s.vals.length) || decide (300 < s.name.length)
def sumLen (l : List (SK × Ser)) : Nat := (l.map fun x => x.2.vals.length).sum
def heavyJ (l : List (SK × Ser)) : Bool := decide (20 < l.length) || (l.any fun x => bigS x.2) || decide (400 < sumLen l)
theorem sumLen_snoc {l : List (SK × Ser)} {i : Nat} (h : i < l.length) : sumLen (l.take (i + 1)) = sumLen (l.take i) + (l.getD i noSer).2.vals.length := by
  unfold sumLen
  rw [take_snoc' noSer h, List.map_append, List.sum_append]
  simp
theorem heavyJ_no {l : List (SK × Ser)} (h : heavyJ l = false) : l.length ≤ 20 ∧ ∀ x ∈ l, x.2.vals.length ≤ 120 ∧ x.2.name.length ≤ 300 := by
  unfold heavyJ at h
  rw [Bool.or_eq_false_iff, Bool.or_eq_false_iff, decide_eq_false_iff_not] at h
  obtain ⟨⟨h1, h2⟩, _⟩ := h
  refine ⟨by omega, fun x hx => ?_⟩
  have := List.any_eq_false.1 h2 x hx
  unfold bigS at this
  simp only [Bool.or_eq_true, decide_eq_true_eq, not_or] at this
  omega
theorem heavy24_l1_ok {k1 : SK} (l : List (SK × Ser)) (hl : l.length ≤ 20) (hv : ∀ x ∈ l, x.2.vals.length ≤ 9223372036854775807) (Q : Out → Prop) (h1 : (l.any fun x => bigS x.2) = true → Q (.ret, [(2, .p (.bool true))], []))
    (h2 : (l.any fun x => bigS x.2) = false → Q (.nrm, [(3, .p (.int .i64 (sumLen l : Nat)))], [])) : ∀ (n i : Nat), i + n = l.length → ((l.take i).any fun x => bigS x.2) = false → sumLen (l.take i) ≤ 120 * i →
    Wp Γ l24_heavy_l1 [(0, .p (.sl k1 5 (sers l))), (3, .p (.int .i64 (sumLen (l.take i) : Nat))), (4, .p (.int .i64 (i : Int)))] [] (InBlk [3] 0 Q) := by
  intro n
  induction n with
  | zero =>
    intro i hi ha _
    obtain rfl : i = l.length := by omega
    rw [List.take_length] at ha ⊢
    rw [W_loop (L := l24_heavy_l1) rfl]
    simp (disch := first | assumption | omega | decide | (simp only [lens] <;> omega) | fail) only [go_sem]
    exact h2 ha
  | succ n ih =>
    intro i hi ha hsum
    have hlt : i < l.length := by omega
    have hmem := ser_mem hlt
    have ih := ih (i + 1) (by omega)
    rw [sumLen_snoc hlt, take_snoc' noSer hlt, List.any_append, ha] at ih
    obtain ⟨x, hx⟩ : ∃ x, l.getD i noSer = x := ⟨_, rfl⟩
    rw [hx] at ih hmem
    have hvx := hv x hmem
    have big : bigS x.2 = true → (l.any fun x => bigS x.2) = true := fun h => List.any_eq_true.2 ⟨x, hmem, h⟩
    unfold bigS at big
    by_cases c1 : 120 < x.2.vals.length
    · rw [W_loop (L := l24_heavy_l1) rfl]
      simp (disch := first | assumption | omega | decide | (simp only [lens] <;> omega) | fail) only [go_sem, hx, serC]
      exact h1 (big (by simp [c1]))
    · by_cases c2 : 300 < x.2.name.length
      · rw [W_loop (L := l24_heavy_l1) rfl]
        simp (disch := first | assumption | omega | decide | (simp only [lens] <;> omega) | fail) only [go_sem, hx, serC]
        exact h1 (big (by simp [c2]))
      · rw [W_loop (L := l24_heavy_l1) rfl]
        simp (disch := first | assumption | omega | decide | (simp only [lens] <;> omega) | fail) only [go_sem, hx, serC]
        refine ih ?_ (by omega)
        simp only [List.any_cons, List.any_nil, Bool.or_false, Bool.false_or, bigS]
        simp [c1, c2]
theorem res_heavy24 {k1 : SK} (l : List (SK × Ser)) (hl : l.length ≤ 9223372036854775807) (hv : ∀ x ∈ l, x.2.vals.length ≤ 9223372036854775807) : res Γ 12 [.sl k1 5 (sers l)] = some [.bool (heavyJ l)] := by
  unfold heavyJ
  by_cases h : 20 < l.length
  · rw [decide_eq_true h]
    refine res_code (fn := l24_heavy) rfl rfl ?_
    simp (disch := first | assumption | omega | decide | (simp only [lens] <;> omega) | fail) only [go_sem, l24_heavy]
  · rw [decide_eq_false h]
    refine res_code (fn := l24_heavy) rfl rfl ?_
    simp (disch := first | assumption | omega | decide | (simp only [lens] <;> omega) | fail) only [go_sem, l24_heavy]
    refine heavy24_l1_ok l (by omega) hv _ (fun ha => ?_) (fun ha => ?_) l.length 0 (by omega) rfl (by simp [sumLen])
    · rw [ha]
      simp (disch := first | assumption | omega | decide | (simp only [lens] <;> omega) | fail) only [go_sem]
    · rw [ha]
      simp (disch := first | assumption | omega | decide | (simp only [lens] <;> omega) | fail) only [go_sem]
      have : decide ((400 : Int) < ((sumLen l : Nat) : Int)) = decide (400 < sumLen l) := by rw [decide_eq_decide]; omega
      rw [this]
theorem grpR_ok (kind : Int) (g : Key → List (SK × Ser)) (hg : ∀ k, (g k).length ≤ 100) : ∀ (ks : List Key) (acc : List (SK × Ser)), (∀ k ∈ ks, g k ≠ []) → (∀ x ∈ acc, x.2.vals.length ≤ 1000000) →
    (∀ x ∈ (grpR kind g ks acc).1, x.2.vals.length ≤ 1000000) ∧ (grpR kind g ks acc).1.length ≤ acc.length + ks.length
  | [], acc, _, h => ⟨h, by simp [grpR]⟩
  | k :: ks, acc, h0, h => by
    unfold grpR
    by_cases he : errJ (sersOf (g k)) = 0
    · rw [if_neg (fun h => h he)]
      have hn := nJ_le he (h0 k (by simp))
      have ih := grpR_ok kind g hg ks (acc ++ [nameS k (aggS kind (g k))]) (fun k hk => h0 k (by simp [hk])) (fun x hx => by
        rcases List.mem_append.1 hx with hx | hx
        · exact h x hx
        · rw [List.mem_singleton.1 hx]
          show (colsV _ _ _ _ _).length ≤ _
          rw [colsV_len]; omega)
      refine ⟨ih.1, ?_⟩
      have := ih.2
      rw [List.length_append] at this
      simp only [List.length_cons, List.length_nil] at this ⊢
      omega
    · rw [if_pos he]
      exact ⟨fun x hx => by (cases hx), by simp⟩
theorem grpS_ok (kind : Int) (ns : List Int) (l : List (SK × Ser)) (hl : l.length ≤ 100) : (∀ x ∈ (grpS kind ns l).1, x.2.vals.length ≤ 1000000) ∧ (grpS kind ns l).1.length ≤ 100 := by
  unfold grpS
  split
  · exact ⟨fun x hx => by (cases hx), by simp⟩
  · have := grpR_ok kind (groupT ns l) (fun k => Nat.le_trans groupG_len hl) (keysT ns l) [] (fun k hk => List.length_pos_iff.1 (groupG_pos hk)) (fun x hx => by (cases hx))
    refine ⟨this.1, ?_⟩
    have h2 := this.2
    have h3 := @keysG_len _ (keyF ns) l
    simp only [List.length_nil] at h2
    unfold keysT at h2 ⊢
    omega
end Ab
namespace Ab
open Go (IntKind BinOp UnOp)
theorem isS_step {s : Ser} (h : isS s = true) : 1 ≤ s.step := by
  have h := isS_size h
  unfold sizeS at h
  omega
theorem stepJ_sub (p : Ser → Bool) (l : List Ser) : (∀ s ∈ l, isS s = true) → stepJ l ≠ 0 → stepJ (l.filter p) ≠ 0 ∧ stepJ (l.filter p) ∣ stepJ l := by
  induction l using snoc_ind with
  | h0 => exact fun _ h => ⟨h, Nat.dvd_refl _⟩
  | h1 l s ih =>
    intro hs h
    rw [stepJ_snoc] at h ⊢
    have h0 : stepJ l ≠ 0 := by
      intro e
      rw [e] at h
      exact h rfl
    obtain ⟨i1, i2⟩ := ih (fun s hm => hs s (by simp [hm])) h0
    have hp := isS_step (hs s (by simp))
    unfold stepT commonV at h ⊢
    rw [if_neg h0] at h ⊢
    have hle : Nat.lcm (stepJ l) s.step.toNat ≤ 16777216 := by
      apply Classical.byContradiction
      intro hc
      rw [if_neg hc] at h
      exact h rfl
    rw [if_pos hle]
    rw [List.filter_append]
    by_cases c : p s = true
    · have e : [s].filter p = [s] := by simp [c]
      rw [e, stepJ_snoc]
      unfold stepT commonV
      have hd : Nat.lcm (stepJ (l.filter p)) s.step.toNat ∣ Nat.lcm (stepJ l) s.step.toNat := Nat.lcm_dvd (Nat.dvd_trans i2 (Nat.dvd_lcm_left _ _)) (Nat.dvd_lcm_right _ _)
      have hpos : 0 < Nat.lcm (stepJ l) s.step.toNat := Nat.lcm_pos (by omega) (by omega)
      have hle2 := Nat.le_of_dvd hpos hd
      have hpos2 : 0 < Nat.lcm (stepJ (l.filter p)) s.step.toNat := Nat.lcm_pos (by omega) (by omega)
      rw [if_neg i1, if_pos (by omega)]
      exact ⟨by omega, hd⟩
    · have e : [s].filter p = [] := by simp [c]
      rw [e, List.append_nil]
      exact ⟨i1, Nat.dvd_trans i2 (Nat.dvd_lcm_left _ _)⟩
theorem filter_of {p : SK × Ser → Bool} {q : Ser → Bool} (h : ∀ x, p x = q x.2) : ∀ l : List (SK × Ser), sersOf (l.filter p) = (sersOf l).filter q
  | [] => rfl
  | x :: l => by
    have ih := filter_of h l
    unfold sersOf at ih ⊢
    simp only [List.filter_cons, List.map_cons, h x]
    cases q x.2 <;> simp [ih]
theorem many_small {l : List Ser} (hs : ∀ s ∈ l, isS s = true) (hb : ∀ s ∈ l, s.step ≤ 100 ∧ s.start ≤ 1000 ∧ s.vals.length ≤ 120) (h0 : stepJ l ≠ 0) : manyJ l ≤ 131072 := by
  have he : endJ l ≤ 13000 := endJ_le (by omega) fun s hm => by
    obtain ⟨h1, h2, h3⟩ := hb s hm
    have hp := isS_step (hs s hm)
    have hm : (s.vals.length : Int) * s.step ≤ 120 * 100 := Int.mul_le_mul (by omega) h1 (by omega) (by omega)
    unfold endS
    omega
  have hst : 0 ≤ startJ 4294967295 l := startJ_ge (by omega) fun s hm => by
    have h := isS_size (hs s hm)
    unfold sizeS at h
    omega
  have hB : 0 ≤ begJ l := by
    unfold begJ
    generalize startJ 4294967295 l = a at *
    generalize stepJ l = b at *
    have h1 := Int.mul_ediv_add_emod a (b : Int)
    have h2 : 0 ≤ a / (b : Int) := Int.ediv_nonneg hst (by omega)
    have h3 : 0 ≤ (b : Int) * (a / (b : Int)) := Int.mul_nonneg (by omega) h2
    omega
  unfold manyJ
  generalize endJ l = e at *
  generalize begJ l = b at *
  have hp : (0 : Int) < (stepJ l : Int) := by omega
  generalize (stepJ l : Int) = st at *
  have : (e - b + st - 1) / st ≤ 13000 := Int.ediv_le_of_le_mul hp (by omega)
  omega
theorem groupT_err {ns : List Int} {l : List (SK × Ser)} {k : Key} (hE : errJ (sersOf l) = 0) (hb : ∀ x ∈ l, x.2.step ≤ 100 ∧ x.2.start ≤ 1000 ∧ x.2.vals.length ≤ 120) (hg : groupT ns l k ≠ []) : errJ (sersOf (groupT ns l k)) = 0 := by
  have hl : sersOf l ≠ [] := by
    intro e
    have : l = [] := by unfold sersOf at e; simpa using e
    subst this
    exact hg rfl
  have hg' : sersOf (groupT ns l k) ≠ [] := by
    intro e
    exact hg (by unfold sersOf at e; simpa using e)
  unfold errJ at hE
  by_cases hA : (sersOf l).all isS = false
  · rw [if_pos hA] at hE; cases hE
  · rw [if_neg hA, if_neg hl] at hE
    have hall : ∀ s ∈ sersOf l, isS s = true := by
      rw [Bool.not_eq_false, List.all_eq_true] at hA; exact hA
    by_cases h0 : stepJ (sersOf l) = 0
    · rw [if_pos h0] at hE; cases hE
    · have ef : sersOf (groupT ns l k) = (sersOf l).filter (fun s => decide (joinB [46] (keyB s.name ns) = k)) := filter_of (p := fun x => decide (keyF ns x = k)) (q := fun s => decide (joinB [46] (keyB s.name ns) = k)) (fun x => rfl) l
      obtain ⟨s1, s2⟩ := stepJ_sub (fun s => decide (joinB [46] (keyB s.name ns) = k)) (sersOf l) hall h0
      rw [← ef] at s1
      have hall2 : ∀ s ∈ sersOf (groupT ns l k), isS s = true := fun s hm => by
        rw [ef] at hm
        exact hall s (List.mem_filter.1 hm).1
      have hb2 : ∀ s ∈ sersOf (groupT ns l k), s.step ≤ 100 ∧ s.start ≤ 1000 ∧ s.vals.length ≤ 120 := fun s hm => by
        rw [ef] at hm
        obtain ⟨x, hx, rfl⟩ := List.mem_map.1 (List.mem_filter.1 hm).1
        exact hb x hx
      have hm := many_small hall2 hb2 s1
      have hA2 : ¬ (sersOf (groupT ns l k)).all isS = false := by
        rw [Bool.not_eq_false, List.all_eq_true]; exact hall2
      unfold errJ
      rw [if_neg hA2, if_neg hg', if_neg s1, if_neg (by omega)]
theorem grpR_all (kind : Int) (g : Key → List (SK × Ser)) : ∀ (ks : List Key) (acc : List (SK × Ser)), (∀ k ∈ ks, errJ (sersOf (g k)) = 0) → (grpR kind g ks acc).2 = 0 ∧ (grpR kind g ks acc).1.map (fun x => x.2.name) = acc.map (fun x => x.2.name) ++ ks
  | [], acc, _ => ⟨rfl, by simp [grpR]⟩
  | k :: ks, acc, h => by
    unfold grpR
    rw [if_neg (fun h' => h' (h k (by simp)))]
    obtain ⟨i1, i2⟩ := grpR_all kind g ks (acc ++ [nameS k (aggS kind (g k))]) (fun k hk => h k (by simp [hk]))
    refine ⟨i1, ?_⟩
    rw [i2, List.map_append, List.append_assoc]
    rfl
def okK (x : SK × Ser) : Prop := isS x.2 = true ∧ x.2.step ≤ 100 ∧ x.2.start ≤ 1000
theorem Keys24_l5_ok {k : SK} (v : Int) (l : List (SK × Ser)) (hl : l.length ≤ 100) (hv : ∀ x ∈ l, x.2.vals.length ≤ 1000000) (Q : Out → Prop) (h1 : Q (.ret, [(4, .p (.bool true))], []))
    (h2 : (∀ x ∈ l, okK x) → Q (.nrm, [(0, .p (.int .i64 v)), (1, .p (.sl k 5 (sers l)))], [])) : ∀ (n i : Nat), i + n = l.length → (∀ x ∈ l.take i, okK x) →
    Wp Γ l24_FnameKeys_l5 [(0, .p (.int .i64 v)), (1, .p (.sl k 5 (sers l))), (5, .p (.int .i64 (i : Int)))] [] (InBlk [0, 1] 0 Q) := by
  intro n
  induction n with
  | zero =>
    intro i hi hg
    obtain rfl : i = l.length := by omega
    rw [List.take_length] at hg
    rw [W_loop (L := l24_FnameKeys_l5) rfl]
    simp (disch := first | assumption | omega | decide | (simp only [lens] <;> omega) | fail) only [go_sem]
    exact h2 hg
  | succ n ih =>
    intro i hi hg
    have hlt : i < l.length := by omega
    have hm := ser_mem hlt
    have ih := ih (i + 1) (by omega)
    obtain ⟨x, hx⟩ : ∃ x, l.getD i noSer = x := ⟨_, rfl⟩
    rw [hx] at hm
    rw [take_snoc' noSer hlt, hx] at ih
    have e := res_r18Is (kk := x.1) x.2 (by have := hv x hm; omega)
    unfold Ser.pv at e
    cases hs : isS x.2
    · rw [hs] at e
      rw [W_loop (L := l24_FnameKeys_l5) rfl]
      simp (disch := first | assumption | omega | decide | (simp only [lens] <;> omega) | fail) only [go_sem, hx, serC, e]
      exact h1
    · rw [hs] at e
      by_cases c1 : 100 < x.2.step
      · rw [W_loop (L := l24_FnameKeys_l5) rfl]
        simp (disch := first | assumption | omega | decide | (simp only [lens] <;> omega) | fail) only [go_sem, hx, serC, e]
        exact h1
      · by_cases c2 : 1000 < x.2.start
        · rw [W_loop (L := l24_FnameKeys_l5) rfl]
          simp (disch := first | assumption | omega | decide | (simp only [lens] <;> omega) | fail) only [go_sem, hx, serC, e]
          exact h1
        · rw [W_loop (L := l24_FnameKeys_l5) rfl]
          simp (disch := first | assumption | omega | decide | (simp only [lens] <;> omega) | fail) only [go_sem, hx, serC, e]
          exact ih fun y hy => (List.mem_append.1 hy).elim (hg y) fun hy => by
            rw [List.mem_singleton.1 hy]
            exact ⟨hs, by omega, by omega⟩
theorem Keys24_l3_ok {k1 k2 : SK} (v : Int) (l m : List (SK × Ser)) (hm : m.length ≤ 100) (i : Nat) (hi : i < m.length) (hd : ∀ a, a < i → (m.getD a noSer).2.name ≠ (m.getD i noSer).2.name) (Q : Out → Prop)
    (hQ : Q (.nrm, [(0, .p (.int .i64 v)), (1, .p (.sl k1 5 (sers l))), (8, .p (.sl k2 5 (sers m))), (10, .p (.int .i64 (i : Int)))], [])) : ∀ (n j : Nat), j + n = i →
    Wp Γ l24_FnameKeys_l3 [(0, .p (.int .i64 v)), (1, .p (.sl k1 5 (sers l))), (8, .p (.sl k2 5 (sers m))), (10, .p (.int .i64 (i : Int))), (11, .p (.int .i64 (j : Int)))] [] (InBlk [0, 1, 8, 10] 4 Q) := by
  intro n
  induction n with
  | zero =>
    intro j hj
    obtain rfl : j = i := by omega
    rw [W_loop (L := l24_FnameKeys_l3) rfl]
    simp (disch := first | assumption | omega | decide | (simp only [lens] <;> omega) | fail) only [go_sem]
    exact hQ
  | succ n ih =>
    intro j hj
    have ih := ih (j + 1) (by omega)
    have hd := hd j (by omega)
    obtain ⟨x, hx⟩ : ∃ x, m.getD i noSer = x := ⟨_, rfl⟩
    obtain ⟨y, hy⟩ : ∃ y, m.getD j noSer = y := ⟨_, rfl⟩
    rw [hx, hy] at hd
    rw [W_loop (L := l24_FnameKeys_l3) rfl]
    simp (disch := first | assumption | omega | decide | (simp only [lens] <;> omega) | fail) only [go_sem, hx, hy, serC, hd]
    exact ih
theorem Keys24_l4_ok {k1 k2 : SK} (v : Int) (l m : List (SK × Ser)) (hm : m.length ≤ 100) (hd : ∀ b, b < m.length → ∀ a, a < b → (m.getD a noSer).2.name ≠ (m.getD b noSer).2.name) (Q : Out → Prop)
    (hQ : Q (.nrm, [(0, .p (.int .i64 v)), (1, .p (.sl k1 5 (sers l))), (8, .p (.sl k2 5 (sers m)))], [])) : ∀ (n i : Nat), i + n = m.length →
    Wp Γ l24_FnameKeys_l4 [(0, .p (.int .i64 v)), (1, .p (.sl k1 5 (sers l))), (8, .p (.sl k2 5 (sers m))), (10, .p (.int .i64 (i : Int)))] [] (InBlk [0, 1, 8] 2 Q) := by
  intro n
  induction n with
  | zero =>
    intro i hi
    obtain rfl : i = m.length := by omega
    rw [W_loop (L := l24_FnameKeys_l4) rfl]
    simp (disch := first | assumption | omega | decide | (simp only [lens] <;> omega) | fail) only [go_sem]
    exact hQ
  | succ n ih =>
    intro i hi
    have ih := ih (i + 1) (by omega)
    rw [W_loop (L := l24_FnameKeys_l4) rfl]
    simp (disch := first | assumption | omega | decide | (simp only [lens] <;> omega) | fail) only [go_sem]
    refine Keys24_l3_ok v l m hm i (by omega) (hd i (by omega)) _ ?_ i 0 (by omega)
    simp (disch := first | assumption | omega | decide | (simp only [lens] <;> omega) | fail) only [go_sem]
    exact ih
def cntK (k : Key) (m : List (SK × Ser)) : Nat := ((m.map fun x => x.2.name).filter fun y => decide (y = k)).length
theorem cntK_snoc {k : Key} {m : List (SK × Ser)} {x : SK × Ser} : cntK k (m ++ [x]) = if x.2.name = k then cntK k m + 1 else cntK k m := by
  unfold cntK
  rw [List.map_append, List.filter_append, List.length_append]
  by_cases h : x.2.name = k <;> simp [h]
theorem cntK_le {k : Key} {m : List (SK × Ser)} : cntK k m ≤ m.length := by
  unfold cntK
  have := List.length_filter_le (fun y => decide (y = k)) (m.map fun x => x.2.name)
  rwa [List.length_map] at this
theorem Keys24_l1_ok {k1 k2 : SK} (v : Int) (hv : -9223372036854775808 ≤ v ∧ v ≤ 9223372036854775807) (l m : List (SK × Ser)) (hl : l.length ≤ 100) (hm : m.length ≤ 100) (hN : ∀ x ∈ l, x.2.name.length ≤ 4096) (i : Nat) (hi : i < l.length) (Q : Out → Prop)
    (hQ : Q (.nrm, [(0, .p (.int .i64 v)), (1, .p (.sl k1 5 (sers l))), (8, .p (.sl k2 5 (sers m))), (12, .p (.int .i64 (i : Int))), (13, .p (.int .i64 (cntK (keyF [v] (l.getD i noSer)) m : Nat)))], [])) : ∀ (n j : Nat), j + n = m.length →
    Wp Γ l24_FnameKeys_l1 [(0, .p (.int .i64 v)), (1, .p (.sl k1 5 (sers l))), (8, .p (.sl k2 5 (sers m))), (12, .p (.int .i64 (i : Int))), (13, .p (.int .i64 (cntK (keyF [v] (l.getD i noSer)) (m.take j) : Nat))), (14, .p (.int .i64 (j : Int)))] [] (InBlk [0, 1, 8, 12, 13] 8 Q) := by
  have hmem := ser_mem hi
  obtain ⟨x, hx⟩ : ∃ x, l.getD i noSer = x := ⟨_, rfl⟩
  rw [hx] at hmem hQ ⊢
  have eK := keyF_res7 (kn := .tight) [v] (by simp) (fun n hn => by rw [List.mem_singleton.1 hn]; exact hv) x (hN x hmem)
  rw [← ints_lit] at eK
  intro n
  induction n with
  | zero =>
    intro j hj
    obtain rfl : j = m.length := by omega
    rw [List.take_length]
    rw [W_loop (L := l24_FnameKeys_l1) rfl]
    simp (disch := first | assumption | omega | decide | (simp only [lens] <;> omega) | fail) only [go_sem]
    exact hQ
  | succ n ih =>
    intro j hj
    have hlt : j < m.length := by omega
    have ih := ih (j + 1) (by omega)
    obtain ⟨y, hy⟩ : ∃ y, m.getD j noSer = y := ⟨_, rfl⟩
    rw [take_snoc' noSer hlt, hy, cntK_snoc] at ih
    have hc := @cntK_le (keyF [v] x) (m.take j)
    rw [List.length_take] at hc
    generalize cntK (keyF [v] x) (m.take j) = c at *
    generalize keyF [v] x = k at *
    by_cases h : y.2.name = k
    · rw [if_pos h] at ih
      rw [W_loop (L := l24_FnameKeys_l1) rfl]
      simp (disch := first | assumption | omega | decide | (simp only [lens] <;> omega) | fail) only [go_sem, hx, hy, serC, eK, h]
      exact ih
    · rw [if_neg h] at ih
      rw [W_loop (L := l24_FnameKeys_l1) rfl]
      simp (disch := first | assumption | omega | decide | (simp only [lens] <;> omega) | fail) only [go_sem, hx, hy, serC, eK, h]
      exact ih
theorem Keys24_l2_ok {k1 k2 : SK} (v : Int) (hv : -9223372036854775808 ≤ v ∧ v ≤ 9223372036854775807) (l m : List (SK × Ser)) (hl : l.length ≤ 100) (hm : m.length ≤ 100) (hN : ∀ x ∈ l, x.2.name.length ≤ 4096) (h1 : ∀ x ∈ l, cntK (keyF [v] x) m = 1) (Q : Out → Prop)
    (hQ : Q (.nrm, [], [])) : ∀ (n i : Nat), i + n = l.length →
    Wp Γ l24_FnameKeys_l2 [(0, .p (.int .i64 v)), (1, .p (.sl k1 5 (sers l))), (8, .p (.sl k2 5 (sers m))), (12, .p (.int .i64 (i : Int)))] [] (InBlk [] 6 Q) := by
  intro n
  induction n with
  | zero =>
    intro i hi
    obtain rfl : i = l.length := by omega
    rw [W_loop (L := l24_FnameKeys_l2) rfl]
    simp (disch := first | assumption | omega | decide | (simp only [lens] <;> omega) | fail) only [go_sem]
    exact hQ
  | succ n ih =>
    intro i hi
    have hlt : i < l.length := by omega
    have ih := ih (i + 1) (by omega)
    have hc := h1 _ (ser_mem hlt)
    rw [W_loop (L := l24_FnameKeys_l2) rfl]
    simp (disch := first | assumption | omega | decide | (simp only [lens] <;> omega) | fail) only [go_sem]
    refine Keys24_l1_ok v hv l m hl hm hN i hlt _ ?_ m.length 0 (by omega)
    rw [hc]
    simp (disch := first | assumption | omega | decide | (simp only [lens] <;> omega) | fail) only [go_sem]
    exact ih
theorem one_of_nodup {k : Key} : ∀ {N : List Key}, N.Nodup → k ∈ N → (N.filter fun y => decide (y = k)).length = 1
  | [], _, h => by cases h
  | a :: N, hd, h => by
    have hn := List.nodup_cons.1 hd
    by_cases e : a = k
    · subst e
      have : (N.filter fun y => decide (y = a)) = [] := by
        rw [List.filter_eq_nil_iff]
        intro y hy hc
        rw [of_decide_eq_true hc] at hy
        exact hn.1 hy
      simp [this]
    · have hm : k ∈ N := (List.mem_cons.1 h).resolve_left (fun h => e h.symm)
      have ih := one_of_nodup hn.2 hm
      simp [e, ih]
theorem names_get {m : List (SK × Ser)} {N : List Key} (h : m.map (fun x => x.2.name) = N) {i : Nat} (hi : i < m.length) : ∃ hi' : i < N.length, (m.getD i noSer).2.name = N[i] := by
  subst h
  refine ⟨by rw [List.length_map]; exact hi, ?_⟩
  rw [List.getElem_map, List.getD_eq_getElem?_getD, List.getElem?_eq_getElem hi]
  rfl
theorem names_unlike {m : List (SK × Ser)} {N : List Key} (h : m.map (fun x => x.2.name) = N) (hd : N.Nodup) : ∀ b, b < m.length → ∀ a, a < b → (m.getD a noSer).2.name ≠ (m.getD b noSer).2.name := by
  intro b hb a ha
  obtain ⟨h1, e1⟩ := names_get h (show a < m.length by omega)
  obtain ⟨h2, e2⟩ := names_get h hb
  rw [e1, e2]
  exact List.pairwise_iff_getElem.1 hd a b h1 h2 ha
theorem res_FnameKeysA {k : SK} (v : Int) (l : List (SK × Ser)) (hv : -9223372036854775808 ≤ v ∧ v ≤ 9223372036854775807) (hl : l.length ≤ Go.maxLen) (hs : ∀ x ∈ l, Ser.Ok x.1 x.2) :
    res Γ 391 [.int .i64 v, .sl k 5 (sers l)] = some [.bool true] := by
  have hk := res_known24
  have h1 := res_heavy24 (k1 := k) l hl (fun x hx => (hs x hx).len)
  cases hh : heavyJ l
  · rw [hh] at h1
    obtain ⟨g1, g2⟩ := heavyJ_no hh
    have gv : ∀ x ∈ l, x.2.vals.length ≤ 1000000 := fun x hx => by have := (g2 x hx).1; omega
    have gn : ∀ x ∈ l, x.2.name.length ≤ 4096 := fun x hx => by have := (g2 x hx).2; omega
    refine res_code (fn := l24_FnameKeys) rfl rfl ?_
    simp (disch := first | assumption | omega | decide | (simp only [lens] <;> omega) | fail) only [go_sem, l24_FnameKeys, h1]
    refine Keys24_l5_ok v l (by omega) gv _ ?_ (fun hok => ?_) l.length 0 (by omega) (fun x hx => by cases hx)
    · simp (disch := first | assumption | omega | decide | (simp only [lens] <;> omega) | fail) only [go_sem]
    · have eJ := res_r18Join (kk := k) l (by omega) gv
      unfold joinR at eJ
      by_cases he : errJ (sersOf l) = 0
      · rw [if_pos he] at eJ
        have h3 := res_fnameGroup (kk := k) (kn := .tight) 2 [v] (by simp) (fun n hn => by rw [List.mem_singleton.1 hn]; exact hv) l (by omega) gn gv
        rw [← ints_lit] at h3
        obtain ⟨o1, o2⟩ := grpS_ok 2 [v] l (by omega)
        have eS : grpS 2 [v] l = grpR 2 (groupT [v] l) (keysT [v] l) [] := by
          unfold grpS
          rw [if_neg]
          rintro (h | h | h)
          · exact absurd h (by decide)
          · cases h
          · have := badJ_all.2 fun x hx => (hok x hx).1
            rw [h] at this
            cases this
        obtain ⟨r1, r2⟩ := grpR_all 2 (groupT [v] l) (keysT [v] l) [] (fun k hk => groupT_err he (fun x hx => ⟨(hok x hx).2.1, (hok x hx).2.2, (g2 x hx).1⟩) (List.length_pos_iff.1 (groupG_pos hk)))
        rw [← eS] at r1 r2
        have hnd : (keysT [v] l).Nodup := keysG_nodup
        have hlen : (keysT [v] l).length ≤ l.length := keysG_len
        have hz : (keysT [v] l = []) ↔ l = [] := keysG_nil
        have hin : ∀ x ∈ l, keyF [v] x ∈ keysT [v] l := fun x hx => mem_keysG.2 ⟨x, hx, rfl⟩
        generalize keysT [v] l = N at *
        rw [List.map_nil, List.nil_append] at r2
        have hml : (grpS 2 [v] l).1.length = N.length := by rw [← r2, List.length_map]
        have L4 := fun Q hQ => Keys24_l4_ok (k1 := k) (k2 := grpK (grpS 2 [v] l)) v l (grpS 2 [v] l).1 o2 (names_unlike r2 hnd) Q hQ (grpS 2 [v] l).1.length 0 (by omega)
        have L2 := fun Q hQ => Keys24_l2_ok (k1 := k) (k2 := grpK (grpS 2 [v] l)) v hv l (grpS 2 [v] l).1 (by omega) o2 gn (fun x hx => by
          unfold cntK
          rw [r2]
          exact one_of_nodup hnd (hin x hx)) Q hQ l.length 0 (by omega)
        generalize grpS 2 [v] l = R at *
        obtain ⟨m, e⟩ := R
        simp only at r1 r2 hml o1 o2
        subst r1
        have hml2 : m.length ≤ l.length := by omega
        have hz2 : m.length = 0 ↔ l.length = 0 := by
          rw [hml, List.length_eq_zero_iff, List.length_eq_zero_iff, hz]
        have hb : (!decide ((m.length : Int) = 0) == decide ((l.length : Int) = 0)) = false := by
          have : decide ((m.length : Int) = 0) = decide ((l.length : Int) = 0) := by rw [decide_eq_decide]; omega
          rw [this]; simp
        by_cases h0 : l = []
        · have ej : joinJ l = [] := by rw [h0]; rfl
          have h00 : l.length = 0 := by rw [h0]; rfl
          have hm0 := hz2.2 h00
          rw [if_pos h0, ej, sers_nil] at eJ
          simp (disch := first | assumption | omega | decide | (simp only [lens] <;> omega) | fail) only [go_sem, eJ, h3, ne_eq, not_true_eq_false]
          rw [hb]
          simp (disch := first | assumption | omega | decide | (simp only [lens] <;> omega) | fail) only [go_sem]
          refine L4 _ ?_
          simp (disch := first | assumption | omega | decide | (simp only [lens] <;> omega) | fail) only [go_sem]
          refine L2 _ ?_
          simp (disch := first | assumption | omega | decide | (simp only [lens] <;> omega) | fail) only [go_sem, hk]
        · rw [if_neg h0, joinJ_eq] at eJ
          have hpos : 0 < l.length := List.length_pos_iff.2 h0
          have hmpos : 0 < m.length := by omega
          have hjl := @joinW_len l (begJ (sersOf l)) (stepJ (sersOf l)) (manyJ (sersOf l)).toNat
          have hjg := joinW_get (b := begJ (sersOf l)) (st := stepJ (sersOf l)) (n := (manyJ (sersOf l)).toNat) hpos
          have hml : ((joinW l (begJ (sersOf l)) (stepJ (sersOf l)) (manyJ (sersOf l)).toNat).getD 0 noSer).2.vals.length = nJ l := by rw [hjg]; exact fitV_len
          obtain ⟨x, hx⟩ : ∃ x, (joinW l (begJ (sersOf l)) (stepJ (sersOf l)) (manyJ (sersOf l)).toNat).getD 0 noSer = x := ⟨_, rfl⟩
          rw [hx] at hml
          generalize joinW l (begJ (sersOf l)) (stepJ (sersOf l)) (manyJ (sersOf l)).toNat = w at *
          by_cases h5 : 500 < nJ l
          · simp (disch := first | assumption | omega | decide | (simp only [lens] <;> omega) | fail) only [go_sem, eJ, hx, serC, hml]
          · simp (disch := first | assumption | omega | decide | (simp only [lens] <;> omega) | fail) only [go_sem, eJ, hx, serC, hml, h3, ne_eq, not_true_eq_false]
            rw [hb]
            simp (disch := first | assumption | omega | decide | (simp only [lens] <;> omega) | fail) only [go_sem]
            refine L4 _ ?_
            simp (disch := first | assumption | omega | decide | (simp only [lens] <;> omega) | fail) only [go_sem]
            refine L2 _ ?_
            simp (disch := first | assumption | omega | decide | (simp only [lens] <;> omega) | fail) only [go_sem, hk]
      · rw [if_neg he] at eJ
        simp (disch := first | assumption | omega | decide | (simp only [lens] <;> omega) | fail) only [go_sem, eJ]
  · rw [hh] at h1
    refine res_code (fn := l24_FnameKeys) rfl rfl ?_
    simp (disch := first | assumption | omega | decide | (simp only [lens] <;> omega) | fail) only [go_sem, l24_FnameKeys, h1]
end Ab
