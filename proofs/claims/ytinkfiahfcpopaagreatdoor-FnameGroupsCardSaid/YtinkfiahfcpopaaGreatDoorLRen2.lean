import Derived.Test.YtinkfiahfcpopaaGreatDoorLGrp1
import Derived.Test.YtinkfiahfcpopaaGreatDoorLKey
import Derived.Test.YtinkfiahfcpopaaGreatDoorLAgg
namespace Ab
abbrev Key := List UInt8
section
variable {α : Type} (f : α → Key)
def keysG (l : List α) : List Key := l.foldl (fun ks x => if f x ∈ ks then ks else ks ++ [f x]) []
def groupG (k : Key) (l : List α) : List α := l.filter (fun x => decide (f x = k))
variable {f}
theorem keysG_snoc {l : List α} {x : α} : keysG f (l ++ [x]) = if f x ∈ keysG f l then keysG f l else keysG f l ++ [f x] := by
  simp only [keysG, List.foldl_append, List.foldl_cons, List.foldl_nil]; rfl
theorem groupG_snoc {l : List α} {x : α} {k : Key} : groupG f k (l ++ [x]) = if f x = k then groupG f k l ++ [x] else groupG f k l := by
  simp only [groupG, List.filter_append, List.filter_cons, List.filter_nil]
  by_cases h : f x = k <;> simp [h]
theorem snoc_ind {P : List α → Prop} (h0 : P []) (h1 : ∀ l x, P l → P (l ++ [x])) (l : List α) : P l := by
  have : ∀ (n : Nat) (l : List α), l.length = n → P l := by
    intro n
    induction n with
    | zero => intro l h; rw [List.length_eq_zero_iff.1 h]; exact h0
    | succ n ih =>
      intro l h
      rcases List.eq_nil_or_concat l with e | ⟨m, x, e⟩
      · rw [e] at h; cases h
      · rw [e, List.concat_eq_append]
        rw [e, List.concat_eq_append, List.length_append] at h
        simp only [List.length_cons, List.length_nil] at h
        exact h1 m x (ih m (by omega))
  exact this _ l rfl
theorem mem_keysG {l : List α} {k : Key} : k ∈ keysG f l ↔ ∃ x ∈ l, f x = k := by
  induction l using snoc_ind with
  | h0 => simp [keysG]
  | h1 l x ih =>
    rw [keysG_snoc]
    by_cases h : f x ∈ keysG f l
    · rw [if_pos h, ih]
      constructor
      · rintro ⟨y, hy, e⟩; exact ⟨y, by simp [hy], e⟩
      · rintro ⟨y, hy, e⟩
        simp only [List.mem_append, List.mem_cons, List.not_mem_nil, or_false] at hy
        rcases hy with hy | rfl
        · exact ⟨y, hy, e⟩
        · rw [e] at h; exact ih.1 h
    · rw [if_neg h, List.mem_append, ih]
      simp only [List.mem_cons, List.not_mem_nil, or_false]
      constructor
      · rintro (⟨y, hy, e⟩ | rfl)
        · exact ⟨y, by simp [hy], e⟩
        · exact ⟨x, by simp, rfl⟩
      · rintro ⟨y, hy, e⟩
        simp only [List.mem_append, List.mem_cons, List.not_mem_nil, or_false] at hy
        rcases hy with hy | rfl
        · exact .inl ⟨y, hy, e⟩
        · exact .inr e.symm
theorem keysG_nodup {l : List α} : (keysG f l).Nodup := by
  induction l using snoc_ind with
  | h0 => simp [keysG]
  | h1 l x ih =>
    rw [keysG_snoc]
    by_cases h : f x ∈ keysG f l
    · rw [if_pos h]; exact ih
    · rw [if_neg h, List.nodup_append]
      exact ⟨ih, by simp, by intro a ha b hb e; simp only [List.mem_cons, List.not_mem_nil, or_false] at hb; rw [e, hb] at ha; exact h ha⟩
theorem keysG_len {l : List α} : (keysG f l).length ≤ l.length := by
  induction l using snoc_ind with
  | h0 => simp [keysG]
  | h1 l x ih =>
    rw [keysG_snoc]
    by_cases h : f x ∈ keysG f l
    · rw [if_pos h, List.length_append]; simp only [List.length_cons, List.length_nil]; omega
    · rw [if_neg h]; simp only [List.length_append, List.length_cons, List.length_nil]; omega
theorem mem_groupG {l : List α} {k : Key} {x : α} : x ∈ groupG f k l ↔ x ∈ l ∧ f x = k := by simp [groupG]
theorem groupG_len {l : List α} {k : Key} : (groupG f k l).length ≤ l.length := List.length_filter_le _ _
theorem groupG_pos {l : List α} {k : Key} (h : k ∈ keysG f l) : 0 < (groupG f k l).length := by
  obtain ⟨x, hx, e⟩ := mem_keysG.1 h
  exact List.length_pos_of_mem (mem_groupG.2 ⟨hx, e⟩)
theorem groupG_none {l : List α} {k : Key} (h : k ∉ keysG f l) : groupG f k l = [] := by
  cases hg : groupG f k l with
  | nil => rfl
  | cons x r =>
    have := mem_groupG.1 (show x ∈ groupG f k l by rw [hg]; simp)
    exact absurd (mem_keysG.2 ⟨x, this.1, this.2⟩) h
end
def entsG (q : Key → Nat) (n : Key → Nat) (ks : List Key) : List (PV × AV) := ks.map fun k => (.str k, .own (q k + 2) (n k))
theorem keyEq_str {a b : Key} : keyEq (.str a) (.str b) = some (decide (a = b)) := by
  have : (a == b) = decide (a = b) := by rw [Bool.eq_iff_iff]; simp
  simp only [keyEq, this]
theorem mfind_ents {q n : Key → Nat} {k : Key} : ∀ {ks : List Key}, mfind (.str k) (entsG q n ks) = some (if k ∈ ks then some (.own (q k + 2) (n k)) else none)
  | [] => rfl
  | a :: ks => by
    have ih := @mfind_ents q n k ks
    unfold entsG at ih ⊢
    simp only [List.map_cons, mfind, keyEq_str]
    by_cases h : k = a
    · subst h; simp
    · simp only [h, decide_false, ih, List.mem_cons, false_or]
theorem mput_ents {q n q' n' : Key → Nat} {k : Key} : ∀ {ks : List Key}, ks.Nodup → (∀ a ∈ ks, a ≠ k → q' a = q a ∧ n' a = n a) →
    mput (.str k) (.own (q' k + 2) (n' k)) (entsG q n ks) = some (entsG q' n' (if k ∈ ks then ks else ks ++ [k]))
  | [], _, _ => by simp [entsG, mput]
  | a :: ks, hd, hs => by
    have ih := @mput_ents q n q' n' k ks (List.nodup_cons.1 hd).2 (fun b hb => hs b (by simp [hb]))
    unfold entsG at ih ⊢
    simp only [List.map_cons, mput, keyEq_str]
    by_cases h : k = a
    · subst h
      have hn := (List.nodup_cons.1 hd).1
      simp only [decide_true, List.mem_cons, true_or, if_true, List.map_cons, Option.some.injEq, List.cons.injEq, true_and]
      exact (List.map_congr_left fun b hb => by
        have := hs b (by simp [hb]) (fun e => hn (e ▸ hb))
        rw [this.1, this.2]).symm
    · have ha := hs a (by simp) (fun e => h e.symm)
      simp only [h, decide_false, ih, List.mem_cons, false_or, Option.map_some]
      by_cases hk : k ∈ ks
      · rw [if_pos hk, if_pos hk]; simp [ha.1, ha.2]
      · rw [if_neg hk, if_neg hk]; simp [ha.1, ha.2]
theorem mput_new {q n : Key → Nat} {k : Key} {v : AV} : ∀ {ks : List Key}, k ∉ ks → mput (.str k) v (entsG q n ks) = some (entsG q n ks ++ [(.str k, v)])
  | [], _ => rfl
  | a :: ks, h => by
    have ih := @mput_new q n k v ks (fun hm => h (by simp [hm]))
    unfold entsG at ih ⊢
    have hne : ¬ k = a := fun e => h (by simp [e])
    simp only [List.map_cons, mput, keyEq_str, hne, decide_false, ih, Option.map_some, List.cons_append]
end Ab
namespace Ab
open Go (IntKind BinOp UnOp)
def keyF (ns : List Int) (x : SK × Ser) : Key := joinB [46] (keyB x.2.name ns)
abbrev GEnv (kind : Int) (kk kn : SK) (ns : List Int) (l : List (SK × Ser)) (n : Nat) (i : Int) : Env := [(0, .p (.int .i64 kind)), (1, .p (.sl kn 1 (ints .i64 ns))), (8, .own 0 n), (9, .mp 1), (31, .p (.sl kk 5 (sers l))), (32, .p (.int .i64 (l.length : Int))), (33, .p (.int .i64 i))]
theorem keyF_res {kn : SK} (ns : List Int) (hn : ns.length ≤ 20) (hr : ∀ n ∈ ns, -9223372036854775808 ≤ n ∧ n ≤ 9223372036854775807) (x : SK × Ser) (h : x.2.name.length ≤ 4096) :
    res Γ 6 [.agg [.str x.2.name, .int .i64 x.2.start, .int .i64 x.2.step, .sl x.1 2 (vpv x.2.vals), .int .i64 x.2.cons], .sl kn 1 (ints .i64 ns)] = some [.str (keyF ns x)] :=
  res_fnameKey (kk := kn) x.2.name (.int .i64 x.2.start) (.int .i64 x.2.step) (.sl x.1 2 (vpv x.2.vals)) (.int .i64 x.2.cons) ns (by omega) (by omega) hr
theorem keyF_res7 {kn : SK} (ns : List Int) (hn : ns.length ≤ 20) (hr : ∀ n ∈ ns, -9223372036854775808 ≤ n ∧ n ≤ 9223372036854775807) (x : SK × Ser) (h : x.2.name.length ≤ 4096) :
    res Γ 7 [.agg [.str x.2.name, .int .i64 x.2.start, .int .i64 x.2.step, .sl x.1 2 (vpv x.2.vals), .int .i64 x.2.cons], .sl kn 1 (ints .i64 ns)] = some [.str (keyF ns x)] :=
  res_r24Key (kk := kn) x.2.name (.int .i64 x.2.start) (.int .i64 x.2.step) (.sl x.1 2 (vpv x.2.vals)) (.int .i64 x.2.cons) ns (by omega) (by omega) hr
set_option maxRecDepth 10000 in
theorem fGroup_l2_new {kk kn : SK} (kind : Int) (ns : List Int) (hn : ns.length ≤ 20) (hr : ∀ n ∈ ns, -9223372036854775808 ≤ n ∧ n ≤ 9223372036854775807) (l : List (SK × Ser)) (hl : l.length ≤ 100) (hN : ∀ x ∈ l, x.2.name.length ≤ 4096)
    (Q : Out → Prop) (i : Nat) (hi : i < l.length) (k : Key) (hk : keyF ns (l.getD i noSer) = k) (ks : List Key) (hks : ks.length ≤ 100) (es : List (PV × AV)) (T : List Blk)
    (e1 : mfind (.str k) es = some none) (e2 : ∀ v, mput (.str k) v es = some (es ++ [(.str k, v)]))
    (L : ∀ B, Wp Γ fname_Group_l2 (GEnv kind kk kn ns l (ks.length + 1) ((i : Int) + 1)) (.row false 1 (strs (ks ++ [k])) :: .box (mapCells (es ++ [(.str k, .own (T.length + 3) 1)])) :: (T ++ [B, .row false 5 (sers [l.getD i noSer])])) (InBlk [0, 8, 9] 0 Q)) :
    Wp Γ fname_Group_l2 (GEnv kind kk kn ns l ks.length i) (.row false 1 (strs ks) :: .box (mapCells es) :: T) (InBlk [0, 8, 9] 0 Q) := by
  have hm := ser_mem hi
  obtain ⟨x, hx⟩ : ∃ x, l.getD i noSer = x := ⟨_, rfl⟩
  rw [hx] at hm hk L
  have eK := keyF_res (kn := kn) ns hn hr x (hN x hm)
  rw [hk] at eK
  rw [W_loop (L := fname_Group_l2) rfl]
  simp (disch := first | assumption | omega | decide | (simp only [lens] <;> omega) | fail) only [go_sem, hx, serC, eK, e1, e2, at_last, at_left, set_last, set_left]
  rw [mset_str (by rfl)]
  simp (disch := first | assumption | omega | decide | (simp only [lens] <;> omega) | fail) only [go_sem, e2]
  rw [List.length_append]
  exact L _
set_option maxRecDepth 10000 in
theorem fGroup_l2_old {kk kn : SK} (kind : Int) (ns : List Int) (hn : ns.length ≤ 20) (hr : ∀ n ∈ ns, -9223372036854775808 ≤ n ∧ n ≤ 9223372036854775807) (l : List (SK × Ser)) (hl : l.length ≤ 100) (hN : ∀ x ∈ l, x.2.name.length ≤ 4096)
    (Q : Out → Prop) (i : Nat) (hi : i < l.length) (k : Key) (hk : keyF ns (l.getD i noSer) = k) (ks : List Key) (hks : ks.length ≤ 100) (es es' : List (PV × AV)) (T : List Blk) (q : Nat) (g : List (SK × Ser)) (hT : T[q]? = some (.row false 5 (sers g))) (hg : 0 < g.length) (hg2 : g.length ≤ 100)
    (e1 : mfind (.str k) es = some (some (.own (q + 2) g.length))) (e2 : mput (.str k) (.own (q + 2) (g.length + 1)) es = some es')
    (L : ∀ B, Wp Γ fname_Group_l2 (GEnv kind kk kn ns l ks.length ((i : Int) + 1)) (.row false 1 (strs ks) :: .box (mapCells es') :: (T.set q (.row false 5 (sers (g ++ [l.getD i noSer]))) ++ B)) (InBlk [0, 8, 9] 0 Q)) :
    Wp Γ fname_Group_l2 (GEnv kind kk kn ns l ks.length i) (.row false 1 (strs ks) :: .box (mapCells es) :: T) (InBlk [0, 8, 9] 0 Q) := by
  have hm := ser_mem hi
  obtain ⟨x, hx⟩ : ∃ x, l.getD i noSer = x := ⟨_, rfl⟩
  rw [hx] at hm hk L
  have hq : q < T.length := by
    rcases List.getElem?_eq_some_iff.1 hT with ⟨h, _⟩; exact h
  have eK := keyF_res (kn := kn) ns hn hr x (hN x hm)
  rw [hk] at eK
  rw [W_loop (L := fname_Group_l2) rfl]
  have eR : isnilK false g.length (rowAt (some (Blk.row false 5 (sers g))) g.length) = some (.p (.bool false)) := by
    rw [rowAt_pos sers_len]; exact isnilK_pos hg
  simp (disch := first | assumption | omega | decide | (simp only [lens] <;> omega) | fail) only [go_sem, hx, serC, eK, e1, e2, at_last, at_left, set_last, set_left, hT, eR]
  rw [appK_pos sers_len (by rw [sers_len]; simp only [List.length_cons, List.length_nil]; omega)]
  simp (disch := first | assumption | omega | decide | (simp only [lens] <;> omega) | fail) only [go_sem, at_last, at_left, set_last, set_left]
  rw [mset_str (by rfl)]
  simp (disch := first | assumption | omega | decide | (simp only [lens] <;> omega) | fail) only [go_sem, e2]
  exact L _
abbrev keysT (ns : List Int) (l : List (SK × Ser)) : List Key := keysG (keyF ns) l
abbrev groupT (ns : List Int) (l : List (SK × Ser)) (k : Key) : List (SK × Ser) := groupG (keyF ns) k l
abbrev entsT (ns : List Int) (l : List (SK × Ser)) (q : Key → Nat) : List (PV × AV) := entsG q (fun k => (groupT ns l k).length) (keysT ns l)
abbrev HeapT (ns : List Int) (l : List (SK × Ser)) (q : Key → Nat) (T : List Blk) : Heap := .row false 1 (strs (keysT ns l)) :: .box (mapCells (entsT ns l q)) :: T
structure InvT (ns : List Int) (l : List (SK × Ser)) (q : Key → Nat) (T : List Blk) : Prop where
  row : ∀ k ∈ keysT ns l, T[q k]? = some (.row false 5 (sers (groupT ns l k)))
  inj : ∀ k ∈ keysT ns l, ∀ k' ∈ keysT ns l, q k = q k' → k = k'
theorem InvT.lt {ns l q T} (h : InvT ns l q T) {k} (hk : k ∈ keysT ns l) : q k < T.length := by
  rcases List.getElem?_eq_some_iff.1 (h.row k hk) with ⟨h, _⟩; exact h
theorem InvT.new {ns l q T} (h : InvT ns l q T) {x : SK × Ser} {B : Blk} (hk : keyF ns x ∉ keysT ns l) :
    InvT ns (l ++ [x]) (fun k => if k = keyF ns x then T.length + 1 else q k) (T ++ [B, .row false 5 (sers [x])]) := by
  have e : keysT ns (l ++ [x]) = keysT ns l ++ [keyF ns x] := by unfold keysT; rw [keysG_snoc, if_neg hk]
  constructor
  · intro k hm
    rw [e] at hm
    simp only [List.mem_append, List.mem_cons, List.not_mem_nil, or_false] at hm
    rcases hm with hm | rfl
    · have hne : k ≠ keyF ns x := fun e => hk (e ▸ hm)
      rw [if_neg hne, at_left (h.lt hm), h.row k hm]
      unfold groupT
      rw [groupG_snoc, if_neg (fun e => hne e.symm)]
    · rw [if_pos rfl, List.getElem?_append_right (by omega), show T.length + 1 - T.length = 1 by omega]
      unfold groupT
      rw [groupG_snoc, if_pos rfl, groupG_none hk]
      rfl
  · intro k hm k' hm' hq
    rw [e] at hm hm'
    simp only [List.mem_append, List.mem_cons, List.not_mem_nil, or_false] at hm hm'
    rcases hm with hm | rfl <;> rcases hm' with hm' | rfl
    · have hne : k ≠ keyF ns x := fun e => hk (e ▸ hm)
      have hne' : k' ≠ keyF ns x := fun e => hk (e ▸ hm')
      rw [if_neg hne, if_neg hne'] at hq
      exact h.inj k hm k' hm' hq
    · have hne : k ≠ keyF ns x := fun e => hk (e ▸ hm)
      rw [if_neg hne, if_pos rfl] at hq
      have := h.lt hm; omega
    · have hne' : k' ≠ keyF ns x := fun e => hk (e ▸ hm')
      rw [if_neg hne', if_pos rfl] at hq
      have := h.lt hm'; omega
    · rfl
theorem entsT_new {ns l q T} {x : SK × Ser} (hk : keyF ns x ∉ keysT ns l) :
    entsT ns (l ++ [x]) (fun k => if k = keyF ns x then T else q k) = entsT ns l q ++ [(.str (keyF ns x), .own (T + 2) 1)] := by
  unfold entsT keysT groupT entsG
  rw [keysG_snoc, if_neg hk, List.map_append]
  congr 1
  · apply List.map_congr_left
    intro k hm
    have hne : k ≠ keyF ns x := fun e => hk (e ▸ hm)
    show (PV.str k, AV.own ((if k = keyF ns x then T else q k) + 2) (groupG (keyF ns) k (l ++ [x])).length) = _
    rw [if_neg hne, groupG_snoc, if_neg (fun e => hne e.symm)]
  · simp only [List.map_cons, List.map_nil, if_true]
    rw [groupG_snoc, if_pos rfl, groupG_none hk]
    rfl
theorem InvT.old {ns l q T} (h : InvT ns l q T) {x : SK × Ser} {B : List Blk} (hk : keyF ns x ∈ keysT ns l) :
    InvT ns (l ++ [x]) q (T.set (q (keyF ns x)) (.row false 5 (sers (groupT ns l (keyF ns x) ++ [x]))) ++ B) := by
  have e : keysT ns (l ++ [x]) = keysT ns l := by unfold keysT; rw [keysG_snoc, if_pos hk]
  constructor
  · intro k hm
    rw [e] at hm
    rw [at_left (by rw [List.length_set]; exact h.lt hm)]
    by_cases hq : k = keyF ns x
    · subst hq
      rw [List.getElem?_set_self (h.lt hm)]
      unfold groupT
      rw [groupG_snoc, if_pos rfl]
    · have : q (keyF ns x) ≠ q k := fun e => hq (h.inj _ hk _ hm e).symm
      rw [List.getElem?_set_ne this, h.row k hm]
      unfold groupT
      rw [groupG_snoc, if_neg (fun e => hq e.symm)]
  · rw [e]; exact h.inj
theorem entsT_old {ns l q} {x : SK × Ser} (hk : keyF ns x ∈ keysT ns l) :
    mput (.str (keyF ns x)) (.own (q (keyF ns x) + 2) ((groupT ns l (keyF ns x)).length + 1)) (entsT ns l q) = some (entsT ns (l ++ [x]) q) := by
  have h := @mput_ents q (fun k => (groupT ns l k).length) q (fun k => (groupT ns (l ++ [x]) k).length) (keyF ns x) (keysT ns l) keysG_nodup (fun a ha hne => ⟨rfl, by
    show (groupG _ _ _).length = (groupG _ _ _).length
    rw [groupG_snoc, if_neg (fun e => hne e.symm)]⟩)
  have e1 : (groupT ns (l ++ [x]) (keyF ns x)).length = (groupT ns l (keyF ns x)).length + 1 := by
    unfold groupT
    rw [groupG_snoc, if_pos rfl, List.length_append]; rfl
  have e : keysT ns (l ++ [x]) = keysT ns l := by unfold keysT; rw [keysG_snoc, if_pos hk]
  unfold entsT
  rw [e]
  simp only [e1, if_pos hk] at h
  exact h
theorem fGroup_l2_ok {kk kn : SK} (kind : Int) (ns : List Int) (hn : ns.length ≤ 20) (hr : ∀ n ∈ ns, -9223372036854775808 ≤ n ∧ n ≤ 9223372036854775807) (l : List (SK × Ser)) (hl : l.length ≤ 100) (hN : ∀ x ∈ l, x.2.name.length ≤ 4096)
    (Q : Out → Prop) (hQ : ∀ q T, InvT ns l q T → Q (.nrm, [(0, .p (.int .i64 kind)), (8, .own 0 (keysT ns l).length), (9, .mp 1)], HeapT ns l q T)) :
    ∀ (n i : Nat) (q : Key → Nat) (T : List Blk), i + n = l.length → InvT ns (l.take i) q T →
    Wp Γ fname_Group_l2 (GEnv kind kk kn ns l (keysT ns (l.take i)).length i) (HeapT ns (l.take i) q T) (InBlk [0, 8, 9] 0 Q) := by
  intro n
  induction n with
  | zero =>
    intro i q T hi I
    obtain rfl : i = l.length := by omega
    rw [List.take_length] at I ⊢
    have hQ := hQ q T I
    generalize entsT ns l q = es at *
    generalize keysT ns l = ks at *
    rw [W_loop (L := fname_Group_l2) rfl]
    simp (disch := first | assumption | omega | decide | (simp only [lens] <;> omega) | fail) only [go_sem]
    exact hQ
  | succ n ih =>
    intro i q T hi I
    have hlt : i < l.length := by omega
    have ih := fun q T => ih (i + 1) q T (by omega)
    obtain ⟨x, hx⟩ : ∃ x, l.getD i noSer = x := ⟨_, rfl⟩
    have et : l.take (i + 1) = l.take i ++ [x] := by rw [take_snoc' noSer hlt, hx]
    rw [et] at ih
    have hkl : (keysT ns (l.take i)).length ≤ 100 := by
      have := @keysG_len _ (keyF ns) (l.take i)
      rw [List.length_take] at this
      show (keysG _ _).length ≤ 100
      omega
    by_cases hk : keyF ns x ∈ keysT ns (l.take i)
    · have e0 : keysT ns (l.take i ++ [x]) = keysT ns (l.take i) := by unfold keysT; rw [keysG_snoc, if_pos hk]
      refine fGroup_l2_old kind ns hn hr l hl hN Q i hlt (keyF ns x) (by rw [hx]) _ hkl _ _ T (q (keyF ns x)) (groupT ns (l.take i) (keyF ns x)) (I.row _ hk) (groupG_pos hk)
        (by have := @groupG_len _ (keyF ns) (l.take i) (keyF ns x); rw [List.length_take] at this; show (groupG _ _ _).length ≤ 100; omega) ?_ (entsT_old hk) (fun B => ?_)
      · unfold entsT
        rw [mfind_ents, if_pos hk]
      · have := ih q _ (I.old (x := x) (B := B) hk)
        unfold HeapT at this
        rw [e0] at this
        rw [hx]
        exact this
    · have e0 : keysT ns (l.take i ++ [x]) = keysT ns (l.take i) ++ [keyF ns x] := by unfold keysT; rw [keysG_snoc, if_neg hk]
      refine fGroup_l2_new kind ns hn hr l hl hN Q i hlt (keyF ns x) (by rw [hx]) _ hkl _ T ?_ ?_ (fun B => ?_)
      · unfold entsT
        rw [mfind_ents, if_neg hk]
      · intro v
        exact mput_new hk
      · have := ih _ _ (I.new (x := x) (B := B) hk)
        unfold HeapT at this
        rw [e0, entsT_new hk, List.length_append] at this
        rw [hx]
        exact this
end Ab
namespace Ab
open Go (IntKind BinOp UnOp)
def nameS (k : Key) (x : SK × Ser) : SK × Ser := (x.1, ⟨k, x.2.start, x.2.step, x.2.vals, x.2.cons⟩)
def grpR (kind : Int) (g : Key → List (SK × Ser)) : List Key → List (SK × Ser) → List (SK × Ser) × Int
  | [], acc => (acc, 0)
  | k :: ks, acc => if errJ (sersOf (g k)) ≠ 0 then ([], errJ (sersOf (g k))) else grpR kind g ks (acc ++ [nameS k (aggS kind (g k))])
abbrev GEnv1 (kind : Int) (o m n : Nat) (i : Int) : Env := [(0, .p (.int .i64 kind)), (9, .mp 1), (13, .own (o + 2) m), (57, .own 0 n), (58, .p (.int .i64 (n : Int))), (59, .p (.int .i64 i))]
theorem storeK_name {H : Heap} {id sz} {a b c d e : PV} {s : List UInt8} : storeK H (some (.row false sz [.agg [a, b, c, d, e]])) 1 id 1 0 0 (.p (.str s)) = some (H.set id (.row false sz [.agg [.str s, b, c, d, e]])) := rfl
theorem loadK_one5 {f sz} {a b c d e : PV} : loadK (some (.row f sz [.agg [a, b, c, d, e]])) 5 true 1 0 0 = some (.p (.agg [a, b, c, d, e])) := rfl
set_option maxRecDepth 10000 in
theorem fGroup_l1_step (kind : Int) (Q : Out → Prop) (ks : List Key) (i : Nat) (hi : i < ks.length) (hks : ks.length ≤ 100) (k : Key) (hk : ks.getD i [] = k) (es : List (PV × AV)) (T : List Blk) (q o : Nat) (g acc : List (SK × Ser)) (hqo : q ≠ o)
    (hT : T[q]? = some (.row false 5 (sers g))) (ho : T[o]? = some (.row false 5 (sers acc))) (ha : acc.length ≤ 100) (g0 : g ≠ []) (gl : g.length ≤ 100) (gv : ∀ x ∈ g, x.2.vals.length ≤ 1000000) (gn : ∀ x ∈ g, x.2.name.length ≤ 4096)
    (e1 : mfind (.str k) es = some (some (.own (q + 2) g.length)))
    (L1 : errJ (sersOf g) ≠ 0 → ∀ H, Q (.ret, [(6, .p (.sl .nil 5 [])), (7, .p (.int .i64 (errJ (sersOf g))))], H))
    (L2 : errJ (sersOf g) = 0 → ∀ U, Wp Γ fname_Group_l1 (GEnv1 kind o (acc.length + 1) ks.length ((i : Int) + 1)) (.row false 1 (strs ks) :: .box (mapCells es) :: ((T.set q (.row true 5 (sers g))).set o (.row false 5 (sers (acc ++ [nameS k (aggS kind g)]))) ++ U)) (InBlk [13] 2 Q)) :
    Wp Γ fname_Group_l1 (GEnv1 kind o acc.length ks.length i) (.row false 1 (strs ks) :: .box (mapCells es) :: T) (InBlk [13] 2 Q) := by
  have hq : q < T.length := by
    rcases List.getElem?_eq_some_iff.1 hT with ⟨h, _⟩; exact h
  have ho' : o < T.length := by
    rcases List.getElem?_eq_some_iff.1 ho with ⟨h, _⟩; exact h
  have eA := fun kk => resM_Apply (kk := kk) kind g g0 gl gv gn
  unfold aggM jAgg at eA
  have eR : rowAt (some (Blk.row false 5 (sers g))) g.length = some (5, sers g) := rowAt_pos sers_len
  by_cases he : errJ (sersOf g) = 0
  · have L2 := L2 he
    rw [if_neg (fun h => h he)] at eA
    have ho2 : (T.set q (.row true 5 (sers g)))[o]? = some (.row false 5 (sers acc)) := by rw [List.getElem?_set_ne hqo, ho]
    have eT : (T.set q (.row true 5 (sers g))).length = T.length := List.length_set
    rw [W_loop (L := fname_Group_l1) rfl]
    simp (disch := first | assumption | omega | decide | (simp only [lens] <;> omega) | fail) only [go_sem, hk, e1, at_last, at_left, set_last, set_left, hT, eR, eA]
    generalize aggS kind g = x at *
    generalize T.set q (.row true 5 (sers g)) = T' at *
    have ho3 : o < T'.length := by omega
    have e5 : sers [x] = [.agg [.str x.2.name, .int .i64 x.2.start, .int .i64 x.2.step, .sl x.1 2 (vpv x.2.vals), .int .i64 x.2.cons]] := rfl
    rw [e5]
    simp (disch := first | assumption | omega | decide | (simp only [lens] <;> omega) | fail) only [go_sem, hk, e1, at_last, at_left, set_last, set_left, ho2, storeK_name, loadK_one5]
    rw [appK_pos sers_len (by rw [sers_len]; simp only [List.length_cons, List.length_nil]; omega)]
    simp (disch := first | assumption | omega | decide | (simp only [lens] <;> omega) | fail) only [go_sem, at_last, at_left, set_last, set_left]
    exact L2 _
  · rw [if_pos he] at eA
    have L1 := L1 he
    rw [W_loop (L := fname_Group_l1) rfl]
    simp (disch := first | assumption | omega | decide | (simp only [lens] <;> omega) | fail) only [go_sem, hk, e1, at_last, at_left, set_last, set_left, hT, eR, eA]
    exact L1 _
theorem drop_getD {ks : List Key} {i : Nat} (h : i < ks.length) : ks.drop i = ks.getD i [] :: ks.drop (i + 1) := by
  rw [List.drop_eq_getElem_cons h, List.getD_eq_getElem?_getD, List.getElem?_eq_getElem h]; rfl
theorem fGroup_l1_ok (kind : Int) (ks : List Key) (hks : ks.length ≤ 100) (hd : ks.Nodup) (q : Key → Nat) (hq : ∀ k ∈ ks, ∀ k' ∈ ks, q k = q k' → k = k') (g : Key → List (SK × Ser)) (o : Nat)
    (hg : ∀ k ∈ ks, g k ≠ [] ∧ (g k).length ≤ 100 ∧ (∀ x ∈ g k, x.2.vals.length ≤ 1000000) ∧ ∀ x ∈ g k, x.2.name.length ≤ 4096)
    (Q : Out → Prop) (H1 : ∀ e H, e ≠ 0 → grpR kind g ks [] = ([], e) → Q (.ret, [(6, .p (.sl .nil 5 [])), (7, .p (.int .i64 e))], H))
    (H2 : ∀ acc B0 B1 T, grpR kind g ks [] = (acc, 0) → T[o]? = some (.row false 5 (sers acc)) → acc.length = ks.length → Q (.nrm, [(13, .own (o + 2) acc.length)], B0 :: B1 :: T)) :
    ∀ (n i : Nat) (acc : List (SK × Ser)) (T : List Blk), i + n = ks.length → acc.length = i → T[o]? = some (.row false 5 (sers acc)) → (∀ k ∈ ks.drop i, T[q k]? = some (.row false 5 (sers (g k))) ∧ q k ≠ o) → grpR kind g (ks.drop i) acc = grpR kind g ks [] →
    Wp Γ fname_Group_l1 (GEnv1 kind o acc.length ks.length i) (.row false 1 (strs ks) :: .box (mapCells (entsG q (fun k => (g k).length) ks)) :: T) (InBlk [13] 2 Q) := by
  intro n
  induction n with
  | zero =>
    intro i acc T hi ha ho hT hR
    obtain rfl : i = ks.length := by omega
    rw [List.drop_length] at hR
    have H2 := H2 acc (.row false 1 (strs ks)) (.box (mapCells (entsG q (fun k => (g k).length) ks))) T hR.symm ho ha
    generalize entsG q (fun k => (g k).length) ks = es at *
    rw [W_loop (L := fname_Group_l1) rfl]
    simp (disch := first | assumption | omega | decide | (simp only [lens] <;> omega) | fail) only [go_sem]
    exact H2
  | succ n ih =>
    intro i acc T hi ha ho hT hR
    have hlt : i < ks.length := by omega
    have ed := drop_getD hlt
    obtain ⟨k, hk⟩ : ∃ k, ks.getD i [] = k := ⟨_, rfl⟩
    rw [hk] at ed
    have hm : k ∈ ks := List.mem_of_mem_drop (i := i) (by rw [ed]; simp)
    have hk1 := hT k (by rw [ed]; simp)
    obtain ⟨g1, g2, g3, g4⟩ := hg k hm
    rw [ed] at hR
    have hnd : (k :: ks.drop (i + 1)).Nodup := by rw [← ed]; exact hd.sublist (List.drop_sublist _ _)
    refine fGroup_l1_step kind Q ks i hlt hks k hk _ T (q k) o (g k) acc hk1.2 hk1.1 ho (by omega) g1 g2 g3 g4 (by rw [mfind_ents, if_pos hm]) (fun he H => ?_) (fun he U => ?_)
    · refine H1 _ H he ?_
      rw [← hR]
      unfold grpR
      rw [if_pos he]
    · have ih := ih (i + 1) (acc ++ [nameS k (aggS kind (g k))]) (((T.set (q k) (.row true 5 (sers (g k)))).set o (.row false 5 (sers (acc ++ [nameS k (aggS kind (g k))])))) ++ U) (by omega) (by rw [List.length_append]; simp only [List.length_cons, List.length_nil]; omega)
      have ho' : o < T.length := by
        rcases List.getElem?_eq_some_iff.1 ho with ⟨h, _⟩; exact h
      rw [List.length_append] at ih
      refine ih ?_ (fun k' hk' => ?_) ?_
      · rw [at_left (by rw [List.length_set, List.length_set]; exact ho'), List.getElem?_set_self (by rw [List.length_set]; exact ho')]
      · have hk2 := hT k' (by rw [ed]; exact List.mem_cons_of_mem _ hk')
        have hl : q k' < T.length := by
          rcases List.getElem?_eq_some_iff.1 hk2.1 with ⟨h, _⟩; exact h
        have hne : q k ≠ q k' := fun e => (List.nodup_cons.1 hnd).1 (by rw [hq k hm k' (List.mem_of_mem_drop hk') e]; exact hk')
        refine ⟨?_, hk2.2⟩
        rw [at_left (by rw [List.length_set, List.length_set]; exact hl), List.getElem?_set_ne (fun e => hk2.2 e.symm), List.getElem?_set_ne hne, hk2.1]
      · rw [← hR]
        conv => rhs; unfold grpR
        rw [if_neg (fun h => h he)]
end Ab
namespace Ab
open Go (IntKind BinOp UnOp)
theorem res_Group1 {kk : SK} (s : Ser) (hv : s.vals.length ≤ 9223372036854775807) : res Γ 389 [s.pv kk] = some [.bool (!isS s)] := by
  have e := res_seriesIs (kk := kk) s hv
  unfold Ser.pv at e ⊢
  refine res_code (fn := fname_Group_1) rfl rfl ?_
  simp (disch := first | assumption | omega | decide | (simp only [lens] <;> omega) | fail) only [go_sem, fname_Group_1, e]
theorem GIndexFunc_l1_ok {kk : SK} (l : List (SK × Ser)) (hl : l.length ≤ 1000000) (hv : ∀ x ∈ l, x.2.vals.length ≤ 1000000) (Q : Out → Prop) (h1 : badJ l = false → Q (.nrm, [], [])) (h2 : badJ l = true → ∀ j : Nat, Q (.ret, [(4, .p (.int .i64 (j : Int)))], [])) :
    ∀ (n i : Nat), i + n = l.length → badJ (l.take i) = false →
    Wp Γ slices_IndexFunc_api_Series_api_Series_l1 [(0, .p (.sl kk 5 (sers l))), (1, .p (.clo 389 [])), (7, .p (.int .i64 (l.length : Int))), (8, .p (.int .i64 (i : Int)))] [] (InBlk [] 0 Q) := by
  intro n
  induction n with
  | zero =>
    intro i hi hb
    obtain rfl : i = l.length := by omega
    rw [List.take_length] at hb
    rw [W_loop (L := slices_IndexFunc_api_Series_api_Series_l1) rfl]
    simp (disch := first | assumption | omega | decide | (simp only [lens] <;> omega) | fail) only [go_sem]
    exact h1 hb
  | succ n ih =>
    intro i hi hb
    have hlt : i < l.length := by omega
    obtain ⟨x, hx⟩ : ∃ x, l.getD i noSer = x := ⟨_, rfl⟩
    have hm : x ∈ l := by
      rw [← hx, List.getD_eq_getElem?_getD, List.getElem?_eq_getElem hlt]; simp
    have e := res_Group1 (kk := x.1) x.2 (by have := hv x hm; omega)
    unfold Ser.pv at e
    cases hs : isS x.2
    · rw [hs] at e
      have : badJ l = true := by
        unfold badJ
        rw [List.any_eq_true]
        exact ⟨x, hm, by rw [hs]; rfl⟩
      rw [W_loop (L := slices_IndexFunc_api_Series_api_Series_l1) rfl]
      simp (disch := first | assumption | omega | decide | (simp only [lens] <;> omega) | fail) only [go_sem, hx, serC, e]
      exact h2 this i
    · rw [hs] at e
      rw [W_loop (L := slices_IndexFunc_api_Series_api_Series_l1) rfl]
      simp (disch := first | assumption | omega | decide | (simp only [lens] <;> omega) | fail) only [go_sem, hx, serC, e]
      refine ih (i + 1) (by omega) ?_
      rw [take_snoc' noSer hlt, hx]
      unfold badJ at hb ⊢
      rw [List.any_append, hb]
      simp [hs]
theorem res_GIndexFunc {kk : SK} (l : List (SK × Ser)) (hl : l.length ≤ 1000000) (hv : ∀ x ∈ l, x.2.vals.length ≤ 1000000) : ∃ j : Int, (badJ l = true → 0 ≤ j) ∧ (badJ l = false → j = -1) ∧ res Γ 276 [.sl kk 5 (sers l), .clo 389 []] = some [.int .i64 j] := by
  by_cases hb : badJ l = true
  · by_cases h : ∃ j : Int, 0 ≤ j ∧ res Γ 276 [.sl kk 5 (sers l), .clo 389 []] = some [.int .i64 j]
    · obtain ⟨j, h1, h2⟩ := h
      exact ⟨j, fun _ => h1, (fun h => by rw [hb] at h; cases h), h2⟩
    · exfalso
      have key := callK (Γ := Γ) (f := 276) (fn := slices_IndexFunc_api_Series_api_Series) (args := [.p (.sl kk 5 (sers l)), .p (.clo 389 [])]) (HL := []) (K := fun vs h => ∃ j : Int, 0 ≤ j ∧ mapO (reify h 4) vs = some [.int .i64 j]) rfl rfl (by
        simp (disch := first | assumption | omega | decide | (simp only [lens] <;> omega) | fail) only [go_sem, slices_IndexFunc_api_Series_api_Series]
        refine GIndexFunc_l1_ok l hl hv _ (fun h' => by rw [hb] at h'; cases h') (fun _ j => ?_) l.length 0 (by omega) rfl
        simp (disch := first | assumption | omega | decide | (simp only [lens] <;> omega) | fail) only [go_sem]
        exact ⟨j, by omega, rfl⟩)
      obtain ⟨n, vs, hh, h3, j, h4, h5⟩ := key
      exact h ⟨j, h4, res_of ⟨n, (vs, hh), h3, h5⟩⟩
  · refine ⟨-1, fun h => absurd h hb, fun _ => rfl, ?_⟩
    refine res_code (fn := slices_IndexFunc_api_Series_api_Series) rfl rfl ?_
    simp (disch := first | assumption | omega | decide | (simp only [lens] <;> omega) | fail) only [go_sem, slices_IndexFunc_api_Series_api_Series]
    refine GIndexFunc_l1_ok l hl hv _ (fun _ => ?_) (fun h => absurd h hb) l.length 0 (by omega) rfl
    simp (disch := first | assumption | omega | decide | (simp only [lens] <;> omega) | fail) only [go_sem]
theorem res_GContainsFunc {kk : SK} (l : List (SK × Ser)) (hl : l.length ≤ 1000000) (hv : ∀ x ∈ l, x.2.vals.length ≤ 1000000) : res Γ 270 [.sl kk 5 (sers l), .clo 389 []] = some [.bool (badJ l)] := by
  obtain ⟨j, h1, h2, e⟩ := res_GIndexFunc (kk := kk) l hl hv
  refine res_code (fn := slices_ContainsFunc_api_Series_api_Series) rfl rfl ?_
  simp (disch := first | assumption | omega | decide | (simp only [lens] <;> omega) | fail) only [go_sem, slices_ContainsFunc_api_Series_api_Series, e]
  cases hb : badJ l
  · have := h2 hb
    rw [decide_eq_false (by omega)]
  · rw [decide_eq_true (h1 hb)]
def grpS (kind : Int) (ns : List Int) (l : List (SK × Ser)) : List (SK × Ser) × Int :=
  if aggName kind = [] ∨ ns = [] ∨ badJ l = true then ([], 1) else grpR kind (groupT ns l) (keysT ns l) []
def grpK (R : List (SK × Ser) × Int) : SK := if R.2 = 0 then .any else .nil
theorem res_fnameGroup {kk kn : SK} (kind : Int) (ns : List Int) (hn : ns.length ≤ 20) (hr : ∀ n ∈ ns, -9223372036854775808 ≤ n ∧ n ≤ 9223372036854775807) (l : List (SK × Ser)) (hl : l.length ≤ 100) (hN : ∀ x ∈ l, x.2.name.length ≤ 4096) (hv : ∀ x ∈ l, x.2.vals.length ≤ 1000000) :
    res Γ 388 [.int .i64 kind, .sl kn 1 (ints .i64 ns), .sl kk 5 (sers l)] = some [.sl (grpK (grpS kind ns l)) 5 (sers (grpS kind ns l).1), .int .i64 (grpS kind ns l).2] := by
  have eC := res_GContainsFunc (kk := kk) l (by omega) hv
  have eN := res_aggName kind
  unfold grpS
  by_cases h1 : aggName kind = []
  · rw [h1] at eN
    rw [if_pos (.inl h1)]
    refine res_code (fn := fname_Group) rfl rfl ?_
    simp (disch := first | assumption | omega | decide | (simp only [lens] <;> omega) | fail) only [go_sem, fname_Group, eN]
    rfl
  · by_cases h2 : ns = []
    · subst h2
      rw [if_pos (.inr (.inl rfl))]
      refine res_code (fn := fname_Group) rfl rfl ?_
      simp (disch := first | assumption | omega | decide | (simp only [lens] <;> omega) | fail) only [go_sem, fname_Group, eN, h1]
      rfl
    · have h2' : ¬ ns.length = 0 := fun h => h2 (List.length_eq_zero_iff.1 h)
      by_cases h3 : badJ l = true
      · rw [if_pos (.inr (.inr h3))]
        rw [h3] at eC
        refine res_code (fn := fname_Group) rfl rfl ?_
        simp (disch := first | assumption | omega | decide | (simp only [lens] <;> omega) | fail) only [go_sem, fname_Group, eN, h1, h2', eC]
        rfl
      · rw [if_neg (by simp [h1, h2, h3])]
        rw [Bool.not_eq_true] at h3
        rw [h3] at eC
        refine res_code (fn := fname_Group) rfl rfl ?_
        simp (disch := first | assumption | omega | decide | (simp only [lens] <;> omega) | fail) only [go_sem, fname_Group, eN, h1, h2', eC]
        refine fGroup_l2_ok kind ns hn hr l hl hN _ (fun q T I => ?_) l.length 0 (fun _ => 0) [] (by omega) ⟨fun k hk => (by cases hk), fun k hk => (by cases hk)⟩
        have hks : (keysT ns l).length ≤ 100 := by
          have := @keysG_len _ (keyF ns) l
          show (keysG _ _).length ≤ 100
          omega
        have L := fun Q H1 H2 => fGroup_l1_ok kind (keysT ns l) hks keysG_nodup q I.inj (groupT ns l) T.length (fun k hk => ⟨List.length_pos_iff.1 (groupG_pos hk), Nat.le_trans groupG_len hl, fun x hx => hv x (mem_groupG.1 hx).1, fun x hx => hN x (mem_groupG.1 hx).1⟩) Q H1 H2 (keysT ns l).length 0 [] (T ++ [.row false 5 []]) (by omega) rfl (at_last rfl)
          (fun k hk => ⟨by rw [at_left (I.lt hk)]; exact I.row k hk, by have := I.lt hk; omega⟩) rfl
        unfold HeapT entsT
        generalize keysT ns l = ks at *
        generalize entsG q (fun k => (groupT ns l k).length) ks = es at *
        generalize grpR kind (groupT ns l) ks [] = R at *
        simp (disch := first | assumption | omega | decide | (simp only [lens] <;> omega) | fail) only [go_sem]
        refine L _ (fun e H he h => ?_) (fun acc B0 B1 T' h hT' hacc => ?_)
        · rw [h]
          simp (disch := first | assumption | omega | decide | (simp only [lens] <;> omega) | fail) only [go_sem]
          unfold grpK
          rw [if_neg he]
        · rw [h]
          simp (disch := first | assumption | omega | decide | (simp only [lens] <;> omega) | fail) only [go_sem]
          rw [hT', rowAt_pos sers_len]
          rfl
end Ab
namespace Ab
open Go (IntKind BinOp UnOp)
abbrev REnv (kind : Int) (kk kn : SK) (ns : List Int) (l : List (SK × Ser)) (r : Env) : Env := (0, .p (.int .i64 kind)) :: (1, .p (.sl kn 1 (ints .i64 ns))) :: (2, .p (.sl kk 5 (sers l))) :: r
theorem rGroup_l5_ok {kk kn : SK} (kind : Int) (ns : List Int) (l : List (SK × Ser)) (hl : l.length ≤ 100) (hv : ∀ x ∈ l, x.2.vals.length ≤ 1000000) (Q : Out → Prop)
    (h1 : badJ l = false → Q (.nrm, REnv kind kk kn ns l [(8, .own 0 0)], [.row false 1 []])) (h2 : badJ l = true → Q (.ret, [(6, .p (.sl .nil 5 [])), (7, .p (.int .i64 1))], [.row false 1 []])) :
    ∀ (n i : Nat), i + n = l.length → badJ (l.take i) = false →
    Wp Γ r24_Group_l5 (REnv kind kk kn ns l [(8, .own 0 0), (9, .p (.int .i64 (i : Int)))]) [.row false 1 []] (InBlk [0, 1, 2, 8] 0 Q) := by
  intro n
  induction n with
  | zero =>
    intro i hi hb
    obtain rfl : i = l.length := by omega
    rw [List.take_length] at hb
    rw [W_loop (L := r24_Group_l5) rfl]
    simp (disch := first | assumption | omega | decide | (simp only [lens] <;> omega) | fail) only [go_sem]
    exact h1 hb
  | succ n ih =>
    intro i hi hb
    have hlt : i < l.length := by omega
    have hm := ser_mem hlt
    obtain ⟨x, hx⟩ : ∃ x, l.getD i noSer = x := ⟨_, rfl⟩
    rw [hx] at hm
    have e := res_r18Is (kk := x.1) x.2 (by have := hv x hm; omega)
    unfold Ser.pv at e
    cases hs : isS x.2
    · rw [hs] at e
      have : badJ l = true := by
        unfold badJ
        rw [List.any_eq_true]
        exact ⟨x, hm, by rw [hs]; rfl⟩
      rw [W_loop (L := r24_Group_l5) rfl]
      simp (disch := first | assumption | omega | decide | (simp only [lens] <;> omega) | fail) only [go_sem, hx, serC, e]
      exact h2 this
    · rw [hs] at e
      rw [W_loop (L := r24_Group_l5) rfl]
      simp (disch := first | assumption | omega | decide | (simp only [lens] <;> omega) | fail) only [go_sem, hx, serC, e]
      refine ih (i + 1) (by omega) ?_
      rw [take_snoc' noSer hlt, hx]
      unfold badJ at hb ⊢
      rw [List.any_append, hb]
      simp [hs]
theorem rGroup_l3_ok {kk kn : SK} (kind : Int) (ns : List Int) (l : List (SK × Ser)) (ks : List Key) (hks : ks.length ≤ 100) (k : Key) (a : Nat) (Q : Out → Prop)
    (hQ : Q (.nrm, REnv kind kk kn ns l [(8, .own 0 ks.length), (10, .p (.int .i64 (a : Int))), (11, .p (.str k)), (12, .p (.bool (decide (k ∈ ks))))], [.row false 1 (strs ks)])) :
    ∀ (n j : Nat), j + n = ks.length →
    Wp Γ r24_Group_l3 (REnv kind kk kn ns l [(8, .own 0 ks.length), (10, .p (.int .i64 (a : Int))), (11, .p (.str k)), (12, .p (.bool (decide (k ∈ ks.take j)))), (13, .p (.int .i64 (j : Int)))]) [.row false 1 (strs ks)] (InBlk [0, 1, 2, 8, 10, 11, 12] 4 Q) := by
  intro n
  induction n with
  | zero =>
    intro j hj
    obtain rfl : j = ks.length := by omega
    rw [List.take_length]
    rw [W_loop (L := r24_Group_l3) rfl]
    simp (disch := first | assumption | omega | decide | (simp only [lens] <;> omega) | fail) only [go_sem]
    exact hQ
  | succ n ih =>
    intro j hj
    have hlt : j < ks.length := by omega
    have ih := ih (j + 1) (by omega)
    obtain ⟨y, hy⟩ : ∃ y, ks.getD j [] = y := ⟨_, rfl⟩
    rw [take_snoc' [] hlt, hy] at ih
    by_cases hk : k ∈ ks.take j
    · rw [decide_eq_true (show k ∈ ks.take j ++ [y] from List.mem_append.2 (.inl hk))] at ih
      rw [decide_eq_true hk]
      rw [W_loop (L := r24_Group_l3) rfl]
      simp (disch := first | assumption | omega | decide | (simp only [lens] <;> omega) | fail) only [go_sem, hy]
      exact ih
    · rw [decide_eq_false hk]
      by_cases h : y = k
      · rw [decide_eq_true (show k ∈ ks.take j ++ [y] from List.mem_append.2 (.inr (List.mem_singleton.2 h.symm)))] at ih
        rw [W_loop (L := r24_Group_l3) rfl]
        simp (disch := first | assumption | omega | decide | (simp only [lens] <;> omega) | fail) only [go_sem, hy, h]
        exact ih
      · rw [decide_eq_false (show ¬ k ∈ ks.take j ++ [y] from fun hm => (List.mem_append.1 hm).elim hk fun e => h (List.mem_singleton.1 e).symm)] at ih
        rw [W_loop (L := r24_Group_l3) rfl]
        simp (disch := first | assumption | omega | decide | (simp only [lens] <;> omega) | fail) only [go_sem, hy, h]
        exact ih
theorem rGroup_l4_ok {kk kn : SK} (kind : Int) (ns : List Int) (hn : ns.length ≤ 20) (hr : ∀ n ∈ ns, -9223372036854775808 ≤ n ∧ n ≤ 9223372036854775807) (l : List (SK × Ser)) (hl : l.length ≤ 100) (hN : ∀ x ∈ l, x.2.name.length ≤ 4096) (Q : Out → Prop)
    (hQ : Q (.nrm, REnv kind kk kn ns l [(8, .own 0 (keysT ns l).length)], [.row false 1 (strs (keysT ns l))])) :
    ∀ (n i : Nat), i + n = l.length →
    Wp Γ r24_Group_l4 (REnv kind kk kn ns l [(8, .own 0 (keysT ns (l.take i)).length), (10, .p (.int .i64 (i : Int)))]) [.row false 1 (strs (keysT ns (l.take i)))] (InBlk [0, 1, 2, 8] 2 Q) := by
  intro n
  induction n with
  | zero =>
    intro i hi
    obtain rfl : i = l.length := by omega
    rw [List.take_length]
    generalize keysT ns l = ks at *
    rw [W_loop (L := r24_Group_l4) rfl]
    simp (disch := first | assumption | omega | decide | (simp only [lens] <;> omega) | fail) only [go_sem]
    exact hQ
  | succ n ih =>
    intro i hi
    have hlt : i < l.length := by omega
    have hm := ser_mem hlt
    have ih := ih (i + 1) (by omega)
    obtain ⟨x, hx⟩ : ∃ x, l.getD i noSer = x := ⟨_, rfl⟩
    rw [hx] at hm
    rw [take_snoc' noSer hlt, hx] at ih
    have hkl : (keysT ns (l.take i)).length ≤ 100 := by
      have := @keysG_len _ (keyF ns) (l.take i)
      rw [List.length_take] at this
      show (keysG _ _).length ≤ 100
      omega
    have eK := keyF_res7 (kn := kn) ns hn hr x (hN x hm)
    have ek : keysT ns (l.take i ++ [x]) = if keyF ns x ∈ keysT ns (l.take i) then keysT ns (l.take i) else keysT ns (l.take i) ++ [keyF ns x] := keysG_snoc
    rw [ek] at ih
    generalize keysT ns (l.take i) = ks at *
    generalize keyF ns x = k at *
    rw [W_loop (L := r24_Group_l4) rfl]
    simp (disch := first | assumption | omega | decide | (simp only [lens] <;> omega) | fail) only [go_sem, hx, serC, eK]
    refine rGroup_l3_ok kind ns l ks hkl k i _ ?_ ks.length 0 (by omega)
    by_cases hk : k ∈ ks
    · rw [if_pos hk] at ih
      rw [decide_eq_true hk]
      simp (disch := first | assumption | omega | decide | (simp only [lens] <;> omega) | fail) only [go_sem]
      exact ih
    · rw [if_neg hk] at ih
      rw [decide_eq_false hk]
      simp (disch := first | assumption | omega | decide | (simp only [lens] <;> omega) | fail) only [go_sem]
      rw [List.length_append] at ih
      exact ih
theorem rGroup_l1_ok {kk kn : SK} (kind : Int) (ns : List Int) (hn : ns.length ≤ 20) (hr : ∀ n ∈ ns, -9223372036854775808 ≤ n ∧ n ≤ 9223372036854775807) (l : List (SK × Ser)) (hl : l.length ≤ 100) (hN : ∀ x ∈ l, x.2.name.length ≤ 4096) (ks : List Key) (hks : ks.length ≤ 100) (acc : List (SK × Ser)) (U : List Blk)
    (a : Nat) (ha : a < ks.length) (k : Key) (hk : ks.getD a [] = k) (Q : Out → Prop)
    (hQ : Q (.nrm, REnv kind kk kn ns l [(8, .own 0 ks.length), (14, .own 1 acc.length), (15, .p (.int .i64 (a : Int))), (16, .own (U.length + 2) (groupT ns l k).length)], (.row false 1 (strs ks) :: .row false 5 (sers acc) :: (U ++ [.row false 5 (sers (groupT ns l k))])))) :
    ∀ (n i : Nat), i + n = l.length →
    Wp Γ r24_Group_l1 (REnv kind kk kn ns l [(8, .own 0 ks.length), (14, .own 1 acc.length), (15, .p (.int .i64 (a : Int))), (16, .own (U.length + 2) (groupT ns (l.take i) k).length), (17, .p (.int .i64 (i : Int)))]) (.row false 1 (strs ks) :: .row false 5 (sers acc) :: (U ++ [.row false 5 (sers (groupT ns (l.take i) k))])) (InBlk [0, 1, 2, 8, 14, 15, 16] 8 Q) := by
  intro n
  induction n with
  | zero =>
    intro i hi
    obtain rfl : i = l.length := by omega
    rw [List.take_length]
    generalize groupT ns l k = g at *
    rw [W_loop (L := r24_Group_l1) rfl]
    simp (disch := first | assumption | omega | decide | (simp only [lens] <;> omega) | fail) only [go_sem]
    exact hQ
  | succ n ih =>
    intro i hi
    have hlt : i < l.length := by omega
    have hm := ser_mem hlt
    have ih := ih (i + 1) (by omega)
    obtain ⟨x, hx⟩ : ∃ x, l.getD i noSer = x := ⟨_, rfl⟩
    rw [hx] at hm
    rw [take_snoc' noSer hlt, hx] at ih
    have hgl : (groupT ns (l.take i) k).length ≤ 100 := by
      have := @groupG_len _ (keyF ns) (l.take i) k
      rw [List.length_take] at this
      show (groupG _ _ _).length ≤ 100
      omega
    have eK := keyF_res7 (kn := kn) ns hn hr x (hN x hm)
    have ek : groupT ns (l.take i ++ [x]) k = if keyF ns x = k then groupT ns (l.take i) k ++ [x] else groupT ns (l.take i) k := groupG_snoc
    rw [ek] at ih
    generalize groupT ns (l.take i) k = g at *
    generalize keyF ns x = k' at *
    by_cases h : k' = k
    · rw [if_pos h, List.length_append] at ih
      rw [W_loop (L := r24_Group_l1) rfl]
      simp (disch := first | assumption | omega | decide | (simp only [lens] <;> omega) | fail) only [go_sem, hx, serC, eK, hk, h, at_last]
      rw [appK_pos sers_len (by rw [sers_len]; simp only [List.length_cons, List.length_nil]; omega)]
      simp (disch := first | assumption | omega | decide | (simp only [lens] <;> omega) | fail) only [go_sem, set_last]
      exact ih
    · rw [if_neg h] at ih
      rw [W_loop (L := r24_Group_l1) rfl]
      simp (disch := first | assumption | omega | decide | (simp only [lens] <;> omega) | fail) only [go_sem, hx, serC, eK, hk, h, at_last]
      exact ih
set_option maxRecDepth 10000 in
theorem rGroup_l2_ok {kk kn : SK} (kind : Int) (ns : List Int) (hn : ns.length ≤ 20) (hr : ∀ n ∈ ns, -9223372036854775808 ≤ n ∧ n ≤ 9223372036854775807) (l : List (SK × Ser)) (hl : l.length ≤ 100) (hN : ∀ x ∈ l, x.2.name.length ≤ 4096) (hv : ∀ x ∈ l, x.2.vals.length ≤ 1000000) (ks : List Key) (hks : ks.length ≤ 100) (hm : ∀ k ∈ ks, k ∈ keysT ns l)
    (Q : Out → Prop) (H1 : ∀ e H, e ≠ 0 → grpR kind (groupT ns l) ks [] = ([], e) → Q (.ret, [(6, .p (.sl .nil 5 [])), (7, .p (.int .i64 e))], H))
    (H2 : ∀ acc B0 U, grpR kind (groupT ns l) ks [] = (acc, 0) → Q (.nrm, [(14, .own 1 acc.length)], B0 :: .row false 5 (sers acc) :: U)) :
    ∀ (n i : Nat) (acc : List (SK × Ser)) (U : List Blk), i + n = ks.length → acc.length = i → grpR kind (groupT ns l) (ks.drop i) acc = grpR kind (groupT ns l) ks [] →
    Wp Γ r24_Group_l2 (REnv kind kk kn ns l [(8, .own 0 ks.length), (14, .own 1 acc.length), (15, .p (.int .i64 (i : Int)))]) (.row false 1 (strs ks) :: .row false 5 (sers acc) :: U) (InBlk [14] 6 Q) := by
  intro n
  induction n with
  | zero =>
    intro i acc U hi ha hR
    obtain rfl : i = ks.length := by omega
    rw [List.drop_length] at hR
    have H2 := H2 acc (.row false 1 (strs ks)) U hR.symm
    rw [W_loop (L := r24_Group_l2) rfl]
    simp (disch := first | assumption | omega | decide | (simp only [lens] <;> omega) | fail) only [go_sem]
    exact H2
  | succ n ih =>
    intro i acc U hi ha hR
    have hlt : i < ks.length := by omega
    have ed := drop_getD hlt
    obtain ⟨k, hk⟩ : ∃ k, ks.getD i [] = k := ⟨_, rfl⟩
    rw [hk] at ed
    have hmk : k ∈ ks := List.mem_of_mem_drop (i := i) (by rw [ed]; simp)
    have hmm := hm k hmk
    rw [ed] at hR
    have g1 : groupT ns l k ≠ [] := List.length_pos_iff.1 (groupG_pos hmm)
    have g2 : (groupT ns l k).length ≤ 100 := Nat.le_trans groupG_len hl
    have eA := fun kk => resM_rApply (kk := kk) kind (groupT ns l k) g1 g2 (fun x hx => hv x (mem_groupG.1 hx).1) (fun x hx => hN x (mem_groupG.1 hx).1)
    have eR : rowAt (some (Blk.row false 5 (sers (groupT ns l k)))) (groupT ns l k).length = some (5, sers (groupT ns l k)) := rowAt_pos sers_len
    have L := fun Q hQ => rGroup_l1_ok (kk := kk) (kn := kn) kind ns hn hr l hl hN ks hks acc U i hlt k hk Q hQ l.length 0 (by omega)
    have ih := fun U => ih (i + 1) (acc ++ [nameS k (aggS kind (groupT ns l k))]) U (by omega) (by rw [List.length_append]; simp only [List.length_cons, List.length_nil]; omega)
    unfold aggM jAgg at eA
    conv at hR => lhs; unfold grpR
    rw [W_loop (L := r24_Group_l2) rfl]
    simp (disch := first | assumption | omega | decide | (simp only [lens] <;> omega) | fail) only [go_sem]
    refine L _ ?_
    generalize groupT ns l k = g at *
    by_cases he : errJ (sersOf g) = 0
    · rw [if_neg (fun h => h he)] at eA hR
      rw [hR, List.length_append] at ih
      simp (disch := first | assumption | omega | decide | (simp only [lens] <;> omega) | fail) only [go_sem, at_last, set_last, eR]
      generalize U ++ [Blk.row true 5 (sers g)] = U' at *
      generalize aggS kind g = x at *
      simp (disch := first | assumption | omega | decide | (simp only [lens] <;> omega) | fail) only [go_sem, at_last, set_last, eA]
      have e5 : sers [x] = [.agg [.str x.2.name, .int .i64 x.2.start, .int .i64 x.2.step, .sl x.1 2 (vpv x.2.vals), .int .i64 x.2.cons]] := rfl
      rw [e5]
      simp (disch := first | assumption | omega | decide | (simp only [lens] <;> omega) | fail) only [go_sem, hk, at_last, set_last, storeK_name, loadK_one5]
      rw [appK_pos sers_len (by rw [sers_len]; simp only [List.length_cons, List.length_nil]; omega)]
      simp (disch := first | assumption | omega | decide | (simp only [lens] <;> omega) | fail) only [go_sem]
      exact ih _ rfl
    · rw [if_pos he] at eA hR
      simp (disch := first | assumption | omega | decide | (simp only [lens] <;> omega) | fail) only [go_sem, at_last, set_last, eR, eA]
      exact H1 _ _ he hR.symm
theorem aggName_nil {kind : Int} : aggName kind = [] ↔ kind < 1 ∨ 5 < kind := by
  unfold aggName
  by_cases h1 : kind = 1
  · subst h1; simp
  by_cases h2 : kind = 2
  · subst h2; simp
  by_cases h3 : kind = 3
  · subst h3; simp
  by_cases h4 : kind = 4
  · subst h4; simp
  by_cases h5 : kind = 5
  · subst h5; simp
  rw [if_neg h1, if_neg h2, if_neg h3, if_neg h4, if_neg h5]
  simp only [true_iff]
  omega
theorem res_r24Group {kk kn : SK} (kind : Int) (ns : List Int) (hn : ns.length ≤ 20) (hr : ∀ n ∈ ns, -9223372036854775808 ≤ n ∧ n ≤ 9223372036854775807) (l : List (SK × Ser)) (hl : l.length ≤ 100) (hN : ∀ x ∈ l, x.2.name.length ≤ 4096) (hv : ∀ x ∈ l, x.2.vals.length ≤ 1000000) :
    res Γ 387 [.int .i64 kind, .sl kn 1 (ints .i64 ns), .sl kk 5 (sers l)] = some [.sl (grpK (grpS kind ns l)) 5 (sers (grpS kind ns l).1), .int .i64 (grpS kind ns l).2] := by
  unfold grpS
  by_cases h1 : aggName kind = []
  · rw [if_pos (.inl h1)]
    rw [aggName_nil] at h1
    by_cases h4 : kind < 1
    · refine res_code (fn := r24_Group) rfl rfl ?_
      simp (disch := first | assumption | omega | decide | (simp only [lens] <;> omega) | fail) only [go_sem, r24_Group, h4]
      rfl
    · have h5 : 5 < kind := by omega
      refine res_code (fn := r24_Group) rfl rfl ?_
      simp (disch := first | assumption | omega | decide | (simp only [lens] <;> omega) | fail) only [go_sem, r24_Group, h4, h5]
      rfl
  · have h1' := h1
    rw [aggName_nil] at h1'
    have h4 : ¬ kind < 1 := fun h => h1' (.inl h)
    have h5 : ¬ 5 < kind := fun h => h1' (.inr h)
    by_cases h2 : ns = []
    · subst h2
      rw [if_pos (.inr (.inl rfl))]
      refine res_code (fn := r24_Group) rfl rfl ?_
      simp (disch := first | assumption | omega | decide | (simp only [lens] <;> omega) | fail) only [go_sem, r24_Group, h4, h5]
      rfl
    · have h2' : ¬ ns.length = 0 := fun h => h2 (List.length_eq_zero_iff.1 h)
      refine res_code (fn := r24_Group) rfl rfl ?_
      simp (disch := first | assumption | omega | decide | (simp only [lens] <;> omega) | fail) only [go_sem, r24_Group, h4, h5, h2']
      refine rGroup_l5_ok kind ns l hl hv _ (fun h3 => ?_) (fun h3 => ?_) l.length 0 (by omega) rfl
      · rw [if_neg (by simp [h1, h2, h3])]
        have hks : (keysT ns l).length ≤ 100 := by
          have := @keysG_len _ (keyF ns) l
          show (keysG _ _).length ≤ 100
          omega
        simp (disch := first | assumption | omega | decide | (simp only [lens] <;> omega) | fail) only [go_sem]
        refine rGroup_l4_ok kind ns hn hr l hl hN _ ?_ l.length 0 (by omega)
        have L := fun Q H1 H2 => rGroup_l2_ok (kk := kk) (kn := kn) kind ns hn hr l hl hN hv (keysT ns l) hks (fun k h => h) Q H1 H2 (keysT ns l).length 0 [] [] (by omega) rfl rfl
        generalize keysT ns l = ks at *
        generalize grpR kind (groupT ns l) ks [] = R at *
        simp (disch := first | assumption | omega | decide | (simp only [lens] <;> omega) | fail) only [go_sem]
        refine L _ (fun e H he h => ?_) (fun acc B0 U h => ?_)
        · rw [h]
          simp (disch := first | assumption | omega | decide | (simp only [lens] <;> omega) | fail) only [go_sem]
          unfold grpK
          rw [if_neg he]
        · rw [h]
          simp (disch := first | assumption | omega | decide | (simp only [lens] <;> omega) | fail) only [go_sem]
          rw [rowAt_pos sers_len]
          rfl
      · rw [if_pos (.inr (.inr h3))]
        simp (disch := first | assumption | omega | decide | (simp only [lens] <;> omega) | fail) only [go_sem]
        rfl
end Ab
namespace Ab
open Go (IntKind BinOp UnOp)
theorem ints_lit {k : IntKind} {a : Int} : [PV.int k a] = ints k [a] := rfl
@[go_sem] theorem res_known24 : res Γ 8 [] = some [.bool true] := by
  have e1 : baseB [115, 99, 97, 108, 101, 40, 97, 46, 98, 44, 50, 41] = [97, 46, 98] := by decide +kernel
  have e2 : joinB [46] (keyB [115, 99, 97, 108, 101, 40, 97, 46, 98, 44, 50, 41] [1]) = [98] := by decide +kernel
  have e3 := res_fnameKey (kk := .tight) [115, 99, 97, 108, 101, 40, 97, 46, 98, 44, 50, 41] (.int .i64 0) (.int .i64 0) (.sl .nil 2 []) (.int .i64 0) [1] (by decide) (by decide) (by decide)
  rw [e2, ← ints_lit] at e3
  refine res_code (fn := l24_known) rfl rfl ?_
  simp (disch := first | assumption | omega | decide | (simp only [lens] <;> omega) | fail) only [go_sem, l24_known, e1, e3]
end Ab
namespace Ab
open Go (IntKind BinOp UnOp)
theorem r18_SameR_l1_ok {k1 k2 : SK} (a : Ser) (hv : a.vals.length ≤ 1073741824) (Q : Out → Prop) : ∀ (k i : Nat), i + k = a.vals.length →
    (∀ H, Q (.nrm, [], H)) →
    Wp Γ r18_Same_l1 [(2, .bx 0 0), (3, .bx 1 0), (5, .p (.int .i64 (i : Int)))] [.box [.p (.str a.name), .p (.int .i64 a.start), .p (.int .i64 a.step), .p (.sl k1 2 (vpv a.vals)), .p (.int .i64 a.cons)], .box [.p (.str a.name), .p (.int .i64 a.start), .p (.int .i64 a.step), .p (.sl k2 2 (vpv a.vals)), .p (.int .i64 a.cons)]] (InBlk [] 0 Q) := by
  intro k
  induction k with
  | zero =>
    intro i hi hQ
    obtain rfl : i = a.vals.length := by omega
    rw [W_loop (L := r18_Same_l1) rfl]
    simp (disch := first | assumption | omega | decide | (simp only [lens] <;> omega) | fail) only [go_sem]
    exact hQ _
  | succ k ih =>
    intro i hi hQ
    rw [W_loop (L := r18_Same_l1) rfl]
    simp (disch := first | assumption | omega | decide | (simp only [lens] <;> omega) | fail) only [go_sem, valP]
    exact ih (i + 1) (by omega) hQ
theorem res_SameR {k1 k2 : SK} (s : Ser) (hv : s.vals.length ≤ 1073741824) : res Γ 28 [s.pv k1, s.pv k2] = some [.bool true] := by
  unfold Ser.pv
  refine res_code (fn := r18_Same) rfl rfl ?_
  simp (disch := first | assumption | omega | decide | (simp only [lens] <;> omega) | fail) only [go_sem, r18_Same, ne_eq, not_true_eq_false]
  refine r18_SameR_l1_ok s hv _ s.vals.length 0 (by omega) (fun H => ?_)
  simp (disch := first | assumption | omega | decide | (simp only [lens] <;> omega) | fail) only [go_sem]
theorem res_same24R {k1 k2 : SK} (s : Ser) (hv : s.vals.length ≤ 1073741824) : res Γ 11 [s.pv k1, s.pv k2] = some [.bool true] := by
  have e := res_SameR (k1 := k1) (k2 := k2) s hv
  unfold Ser.pv at e ⊢
  refine res_code (fn := l24_same) rfl rfl ?_
  simp (disch := first | assumption | omega | decide | (simp only [lens] <;> omega) | fail) only [go_sem, l24_same, e]
end Ab
namespace Ab
open Go (IntKind BinOp UnOp)
theorem res_small0 {kt kn : SK} (ns : List Int) : res Γ 305 [.sl kt 1 [], .sl kn 1 (ints .i64 ns)] = some [.bool (decide (ns.length ≤ 20))] := by
  by_cases h : 20 < ns.length
  · rw [decide_eq_false (by omega)]
    refine res_code (fn := l24_small) rfl rfl ?_
    simp (disch := first | assumption | omega | decide | (simp only [lens] <;> omega) | fail) only [go_sem, l24_small]
  · rw [decide_eq_true (by omega)]
    refine res_code (fn := l24_small) rfl rfl ?_
    simp (disch := first | assumption | omega | decide | (simp only [lens] <;> omega) | fail) only [go_sem, l24_small]
    rw [W_loop (L := l24_small_l1) rfl]
    simp (disch := first | assumption | omega | decide | (simp only [lens] <;> omega) | fail) only [go_sem]
end Ab
