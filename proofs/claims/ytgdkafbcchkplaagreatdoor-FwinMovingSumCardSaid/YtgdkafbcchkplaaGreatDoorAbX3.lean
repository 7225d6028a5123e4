import Derived.Test.YtgdkafbcchkplaaGreatDoorAbX2
import Derived.Laws.AppendOwn
namespace Ab
open Go (IntKind BinOp UnOp World Value Addr Obj undef maxLen Program TypeId Oper Op Operand Act Sem Next Result execOp Builtin)
section
variable {Γ : Ctx} {N : Names} {P : Program} {w : World} {S : Nat → Prop} {μ : Nat → Value} {H : Heap}

/-- A source of elements: nothing, or cells that lie somewhere. -/
def Src (w : World) (y : Value) (sz m : Nat) (news : List Value) : Prop :=
  news.length = m * sz ∧ (∀ u ∈ news, u.oneCell' = true) ∧ ((∃ a c, y = .slice a m c ∧ m = 0) ∨ ∃ ad c, y = .slice (some ad) m c ∧ ∀ (j : Nat) u, news[j]? = some u → w.cell? (ad.add j) = some u)

theorem run_append_zero {t ty e : TypeId} {i : Go.TypeInfo} (ht : P.underlying t = some (.slice e)) (hi : P.info? e = some i) (a : Option Addr) (n cap : Nat) (hn : n ≤ cap) (b : Option Addr) (c : Nat) :
    (Builtin.append_ #[t, t] ty #[.slice a n cap, .slice b 0 c]).run P w = .ok (.slice a n cap) w := by
  cases a <;> cases b <;> simp [Builtin.append_, Go.run_underlying ht, Go.sizeOf, Go.typeInfo, hi, Builtin.lenOf, hn, Builtin.firstCells, Go.loadCells, Go.loadCellsFrom, Go.storeCells]

theorem run_append_room' (t ty e e' : TypeId) (i : Go.TypeInfo) (ht : P.underlying t = some (.slice e)) (hi : P.info? e = some i)
    (g sLen sCap : Nat) (cur : Array Value) (hg : w.heap[g]? = some (.cells cur e' (0, 0)))
    (a : Addr) (m c : Nat) (news : List Value) (hl : news.length = m * i.size) (hnews : ∀ (j : Nat) u, news[j]? = some u → w.cell? (a.add j) = some u) (h1 : ∀ u ∈ news, u.oneCell' = true)
    (hroom : sLen + m ≤ sCap) (hfit : sLen * i.size + news.length ≤ cur.size) :
    (Builtin.append_ #[t, t] ty #[.slice (some ⟨g, 0, none⟩) sLen sCap, .slice (some a) m c]).run P w =
      .ok (.slice (some ⟨g, 0, none⟩) (sLen + m) sCap) (w.setRow g (cur.toList.take (sLen * i.size) ++ news ++ cur.toList.drop (sLen * i.size + news.length)).toArray) := by
  have hf := Go.run_firstCells_some (P := P) w i.size m a m c news hl hnews
  have hst := Go.run_storeCells_at P g (sLen * i.size) e' news 0 cur w hg (by simpa using hfit) h1
  simp only [Nat.add_zero] at hst
  simp [Builtin.append_, Go.run_underlying ht, Go.sizeOf, Go.typeInfo, hi, Builtin.lenOf, hroom, hf, Go.Addr.add_lit, hst]

/-- What 'append' leaves. -/
theorem run_append_row {t ty e : TypeId} {i : Go.TypeInfo} {z : Value} {sz n m : Nat} {v y : Value} {us news : List Value} (ht : P.underlying t = some (.slice e)) (hi : P.info? e = some i) (hz : i.zero = some z)
    (hsz : i.size = sz) (hzs : z.cells.size = sz) (h0 : 0 < sz) (hv : RowAt w v sz n us) (hy : Src w y sz m news) (hlim : n + m ≤ lim) (hb : i.bytes ≤ 65536) :
    ∃ v' w', (Builtin.append_ #[t, t] ty #[v, y]).run P w = .ok v' w' ∧ RowAt w' v' sz (n + m) (us ++ news) ∧ w'.os = w.os ∧ w'.tape = w.tape ∧ w'.output = w.output ∧ w.heap.size ≤ w'.heap.size ∧
      (∀ g, g < w.heap.size → blkOf v ≠ some g → w'.heap[g]? = w.heap[g]?) ∧ (∀ g, blkOf v' = some g → blkOf v = some g ∨ w.heap.size ≤ g) ∧ (m = 0 → v' = v) := by
  subst hsz
  have lim_eq : lim = 1073741824 := rfl
  have hbytes : (n + m) * i.bytes ≤ 140737488355328 := by
    calc (n + m) * i.bytes ≤ 1073741824 * 65536 := Nat.mul_le_mul (by omega) hb
      _ ≤ 140737488355328 := by decide
  obtain ⟨hl, hone, hy⟩ := hy
  obtain ⟨hul, hv⟩ := hv
  by_cases hm : m = 0
  · subst hm
    have hn0 : news = [] := List.eq_nil_of_length_eq_zero (by simpa using hl)
    subst hn0
    obtain ⟨b, c, rfl⟩ : ∃ b c, y = .slice b 0 c := by
      rcases hy with ⟨a, c, h, _⟩ | ⟨ad, c, h, _⟩
      · exact ⟨a, c, h⟩
      · exact ⟨_, c, h⟩
    obtain ⟨a, cap, rfl, hcap⟩ : ∃ a cap, v = .slice a n cap ∧ n ≤ cap := by
      rcases hv with ⟨rfl, a, h⟩ | ⟨g, cap, cur, e', h, _, _, hc, _⟩
      · exact ⟨a, 0, h, Nat.le_refl _⟩
      · exact ⟨_, cap, h, hc⟩
    exact ⟨_, w, run_append_zero ht hi a n cap hcap b c, ⟨by simpa using hul, by simpa using hv⟩, rfl, rfl, rfl, Nat.le_refl _, fun _ _ _ => rfl, fun g hg => .inl hg, fun _ => rfl⟩
  · obtain ⟨ad, c, rfl, hnews⟩ : ∃ ad c, y = .slice (some ad) m c ∧ ∀ (j : Nat) u, news[j]? = some u → w.cell? (ad.add j) = some u := by
      rcases hy with ⟨a, c, _, h⟩ | h
      · exact absurd h hm
      · exact h
    have hlen : (us ++ news).length = (n + m) * i.size := by rw [List.length_append, hul, hl, Nat.add_mul]
    have h63 : n + m ≤ 9223372036854775807 := by omega
    have grown : ∀ (old : Nat), old < n + m →
        RowAt (w.drew.alloc (.cells (us.toArray ++ news.toArray ++ Builtin.zeroCells z.cells (Go.grownCap w (n + m) old e - (n + m))) e)) (.slice (some ⟨w.heap.size, 0, none⟩) (n + m) (Go.grownCap w (n + m) old e)) i.size (n + m) (us ++ news) := by
      intro old ho
      have hge := Go.grownCap_ge w (n + m) old e
      have hcm : Go.grownCap w (n + m) old e ≤ maxLen := Go.grownCap_le_maxLen w (n + m) old e (by simp only [maxLen]; omega)
      refine ⟨hlen, .inr ⟨w.heap.size, _, _, e, rfl, by omega, Go.heap_alloc_new w.drew _, hge, hcm, ?_, ?_⟩⟩
      · simp only [Array.size_append, List.size_toArray, Go.size_zeroCells, hzs, hul, hl, ← Nat.add_mul]
        congr 1
        omega
      · simp only [Array.toList_append, List.append_assoc]
        rw [← List.append_assoc, ← hlen]
        exact List.take_left
    have rest : ∀ (o : Obj), (w.drew.alloc o).os = w.os ∧ (w.drew.alloc o).tape = w.tape ∧ (w.drew.alloc o).output = w.output ∧ w.heap.size ≤ (w.drew.alloc o).heap.size ∧
        (∀ g, g < w.heap.size → blkOf v ≠ some g → (w.drew.alloc o).heap[g]? = w.heap[g]?) ∧ ∀ n c g, blkOf (.slice (some ⟨w.heap.size, 0, none⟩) n c) = some g → blkOf v = some g ∨ w.heap.size ≤ g := by
      intro o
      refine ⟨rfl, rfl, rfl, by simp, fun g hg _ => (Grows.alloc w.drew o).keep g hg, fun n c g hg => ?_⟩
      simp only [blkOf] at hg
      split at hg
      · cases hg
      · simp only [Option.some.injEq] at hg; omega
    rcases hv with ⟨rfl, a, rfl⟩ | ⟨g, cap, cur, e', rfl, hc0, hg, hnc, hcm, hcs, htake⟩
    · have hus : us = [] := List.eq_nil_of_length_eq_zero (by simpa using hul)
      subst hus
      simp only [Nat.zero_add, List.nil_append] at *
      cases a with
      | none =>
        have hr := Go.run_append_nil (P := P) w t ty e i z ht hi hz ad m c news hl hnews (by omega) (by omega) (by omega)
        have hgr := grown 0 (by omega)
        simp only [Array.empty_append] at hgr
        obtain ⟨r1, r2, r3, r4, r5, r6⟩ := rest (.cells (news.toArray ++ Builtin.zeroCells z.cells (Go.grownCap w m 0 e - m)) e)
        exact ⟨_, _, hr, hgr, r1, r2, r3, r4, r5, r6 _ _, fun h => absurd h hm⟩
      | some b =>
        have hr := Go.run_append_grow (P := P) w t ty e i z ht hi hz b 0 0 [] (by simp) (by simp) ad m c news hl hnews (by omega) (by omega) (Go.growslice_fits (by omega) (by simpa using hbytes))
        simp only [Nat.zero_add, Array.empty_append] at hr
        have hgr := grown 0 (by omega)
        simp only [Array.empty_append] at hgr
        obtain ⟨r1, r2, r3, r4, r5, r6⟩ := rest (.cells (news.toArray ++ Builtin.zeroCells z.cells (Go.grownCap w m 0 e - m)) e)
        exact ⟨_, _, hr, hgr, r1, r2, r3, r4, r5, r6 _ _, fun h => absurd h hm⟩
    · have hbl : ∀ k, blkOf (.slice (some ⟨g, 0, none⟩) k cap) = some g := by intro k; simp only [blkOf]; rw [if_neg (by omega)]
      by_cases hroom : n + m ≤ cap
      · have hfit : n * i.size + news.length ≤ cur.size := by rw [hl, hcs, ← Nat.add_mul]; exact Nat.mul_le_mul_right _ hroom
        have hr := run_append_room' t ty e e' i ht hi g n cap cur hg ad m c news hl hnews hone hroom hfit
        refine ⟨_, _, hr, ⟨hlen, .inr ⟨g, cap, _, e', rfl, hc0, Go.setRow_heap w g cur _ e' _ hg, hroom, hcm, ?_, ?_⟩⟩, rfl, rfl, rfl, Nat.le_of_eq setRow_size.symm, fun k _ hne => setRow_keep (fun e => hne (by rw [e]; exact hbl _)), fun k hk => .inl ?_, fun h => absurd h hm⟩
        · simp only [List.size_toArray, List.length_append, List.length_take, List.length_drop, Array.length_toList]
          omega
        · rw [htake, ← hlen]
          exact List.take_left
        · rw [hbl _] at hk ⊢; exact hk
      · have hcell : ∀ (j : Nat) u, us[j]? = some u → w.cell? ((⟨g, 0, none⟩ : Addr).add j) = some u := by
          intro j u hj
          rw [Go.Addr.add_lit, Nat.zero_add, Go.cell_of_row w g j cur e' _ hg]
          rw [← htake, List.getElem?_take] at hj
          split at hj
          · simpa using hj
          · cases hj
        have hr := Go.run_append_grow (P := P) w t ty e i z ht hi hz ⟨g, 0, none⟩ n cap us hul hcell ad m c news hl hnews (by omega) (by omega) (Go.growslice_fits (by omega) hbytes)
        obtain ⟨r1, r2, r3, r4, r5, r6⟩ := rest (.cells (us.toArray ++ news.toArray ++ Builtin.zeroCells z.cells (Go.grownCap w (n + m) cap e - (n + m))) e)
        exact ⟨_, _, hr, grown cap (by omega), r1, r2, r3, r4, r5, r6 _ _, fun h => absurd h hm⟩

/-- Elements' cells in one row. -/
def FlatRel (ν : Nat → Nat) (w : World) (S : Nat → Prop) (sz : Nat) (ys : List PV) (news : List Value) : Prop :=
  (∀ x ∈ ys, x.cells.length = sz ∧ ∀ c ∈ x.cells, c.one = true) ∧ ∀ i x j c, ys[i]? = some x → x.cells[j]? = some c → RelP ν w S c (news.getD (i * sz + j) undef)

theorem elems_src (hr : Rel N.fn w S μ H) {sz : Nat} {y : Value} {y' : AV} {ys : List PV} (h0 : 0 < sz) (hy : RelV N.fn w S μ H y' y) (hv : elemsOf H sz y' = some ys) :
    ∃ news, Src w y sz ys.length news ∧ FlatRel N.fn w S sz ys news := by
  unfold elemsOf at hv
  split at hv
  · rename_i k sz' xs
    simp only [Option.ite_none_right_eq_some, Option.some.injEq] at hv
    obtain ⟨hk, rfl⟩ := hv
    have hy := hy.p_inv
    cases hy with
    | sl _ _ _ a cap us h1 h2 h3 h4 h5 h6 h7 h8 =>
    by_cases hne : xs = []
    · subst hne
      exact ⟨[], ⟨by simp, by simp, .inl ⟨a, cap, rfl, rfl⟩⟩, by simp, by simp⟩
    · obtain ⟨ad, rfl, hS⟩ := h6 hne
      have hsz : sz' = sz := by
        rcases hk with h | h
        · exact h.symm
        · exact absurd (h4 h).1 hne
      subst hsz
      have get : ∀ t, t < xs.length * sz' → ∃ x c, xs[t / sz']? = some x ∧ x.cells[t % sz']? = some c := by
        intro t ht
        have h9 : t / sz' < xs.length := (Nat.div_lt_iff_lt_mul h0).2 ht
        have h10 := h3 _ (List.getElem_mem h9)
        have h11 : t % sz' < xs[t / sz'].cells.length := by rw [h10.1]; exact Nat.mod_lt _ h0
        exact ⟨_, _, List.getElem?_eq_getElem h9, List.getElem?_eq_getElem h11⟩
      have dm : ∀ i j, j < sz' → (i * sz' + j) / sz' = i ∧ (i * sz' + j) % sz' = j := by
        intro i j hj
        constructor
        · rw [Nat.add_comm, Nat.add_mul_div_right _ _ h0, Nat.div_eq_of_lt hj, Nat.zero_add]
        · rw [Nat.add_comm, Nat.add_mul_mod_self_right, Nat.mod_eq_of_lt hj]
      refine ⟨(List.range (xs.length * sz')).map fun t => us (t / sz') (t % sz'), ⟨by simp, fun u hu => ?_, .inr ⟨ad, cap, rfl, fun j u hu => ?_⟩⟩, h3, fun i x j c hx hc => ?_⟩
      · obtain ⟨t, ht, rfl⟩ := List.mem_map.1 hu
        obtain ⟨x, c, hx, hc⟩ := get t (by simpa using ht)
        rw [(h8 _ _ _ _ hx hc).one]
        exact (h3 x (List.mem_of_getElem? hx)).2 c (List.mem_of_getElem? hc)
      · rw [List.getElem?_map] at hu
        obtain ⟨t, ht, rfl⟩ := Option.map_eq_some_iff.1 hu
        obtain ⟨hlt, rfl⟩ : j < xs.length * sz' ∧ j = t := by
          have := List.getElem?_eq_some_iff.1 ht
          obtain ⟨h9, h10⟩ := this
          simp at h9 h10
          exact ⟨h9, h10⟩
        obtain ⟨x, c, hx, hc⟩ := get j hlt
        have := h7 ad rfl _ _ _ _ hx hc
        rwa [show j / sz' * sz' + j % sz' = j by rw [Nat.mul_comm]; exact Nat.div_add_mod j sz'] at this
      · have hj : j < sz' := by rw [← (h3 x (List.mem_of_getElem? hx)).1]; exact (List.getElem?_eq_some_iff.1 hc).1
        have hi : i < xs.length := (List.getElem?_eq_some_iff.1 hx).1
        have hlt : i * sz' + j < xs.length * sz' := by
          calc i * sz' + j < i * sz' + sz' := by omega
            _ = (i + 1) * sz' := by rw [Nat.add_mul, Nat.one_mul]
            _ ≤ xs.length * sz' := Nat.mul_le_mul_right _ hi
        rw [List.getD_eq_getElem?_getD, List.getElem?_map, List.getElem?_range hlt]
        simp only [Option.map_some, Option.getD_some]
        rw [(dm i j hj).1, (dm i j hj).2]
        exact h8 _ _ _ _ hx hc
  · rename_i id n
    obtain ⟨⟨sz', xs⟩, hb, hv⟩ := Option.bind_eq_some_iff.1 hv
    simp only [Option.ite_none_right_eq_some, Option.some.injEq] at hv
    obtain ⟨rfl, rfl⟩ := hv
    rw [hy.own_inv hb]
    obtain ⟨f, h1, h2⟩ := rowOf_spec hb
    obtain ⟨_, _, us, h3, h4, h5, _⟩ := hr.blk id _ h1
    have h3' := h3
    obtain ⟨hul, h3⟩ := h3
    have hone : ∀ u ∈ us, u.oneCell' = true := by
      intro u hu
      obtain ⟨t, ht⟩ := List.getElem?_of_mem hu
      have hlt : t < xs.length * sz := by rw [← hul]; exact (List.getElem?_eq_some_iff.1 ht).1
      have h9 : t / sz < xs.length := (Nat.div_lt_iff_lt_mul h0).2 hlt
      have h10 := h4 _ (List.getElem_mem h9)
      have h11 : t % sz < xs[t / sz].cells.length := by rw [h10.1]; exact Nat.mod_lt _ h0
      have := h5 _ _ _ _ (List.getElem?_eq_getElem h9) (List.getElem?_eq_getElem h11)
      rw [show t / sz * sz + t % sz = t by rw [Nat.mul_comm]; exact Nat.div_add_mod t sz, List.getD_eq_getElem?_getD, ht] at this
      simp only [Option.getD_some] at this
      rw [this.one]
      exact h10.2 _ (List.getElem_mem h11)
    refine ⟨us, ⟨hul, hone, ?_⟩, h4, h5⟩
    rcases h3 with ⟨h6, a, h7⟩ | ⟨g, cap, cur, e', h6, _⟩
    · exact .inl ⟨a, 0, by rw [h7, h6], h6⟩
    · refine .inr ⟨_, cap, h6, fun j u hu => ?_⟩
      have hlt : j < xs.length * sz := by rw [← hul]; exact (List.getElem?_eq_some_iff.1 hu).1
      rw [Go.Addr.add_lit, Nat.zero_add, row_cell h3' h6 hlt, List.getD_eq_getElem?_getD, hu]
      rfl
  · cases hv

theorem FlatRel.keep {ν : Nat → Nat} {w' : World} {sz : Nat} {ys : List PV} {news : List Value} (h : FlatRel ν w S sz ys news) (hw : ∀ g, S g → w'.heap[g]? = w.heap[g]?) : FlatRel ν w' S sz ys news :=
  ⟨h.1, fun i x j c hx hc => (h.2 i x j c hx hc).keep (fun _ h => h) hw⟩

theorem FlatRel.append {ν : Nat → Nat} {sz : Nat} {xs ys : List PV} {us news : List Value} (hx : FlatRel ν w S sz xs us) (hy : FlatRel ν w S sz ys news) (hl : us.length = xs.length * sz) : FlatRel ν w S sz (xs ++ ys) (us ++ news) := by
  refine ⟨fun x h => ?_, fun i x j c hi hc => ?_⟩
  · rcases List.mem_append.1 h with h | h
    · exact hx.1 x h
    · exact hy.1 x h
  · by_cases h : i < xs.length
    · rw [List.getElem?_append_left h] at hi
      have hj : j < sz := by rw [← (hx.1 x (List.mem_of_getElem? hi)).1]; exact (List.getElem?_eq_some_iff.1 hc).1
      have hlt : i * sz + j < us.length := by
        rw [hl]
        calc i * sz + j < i * sz + sz := by omega
          _ = (i + 1) * sz := by rw [Nat.add_mul, Nat.one_mul]
          _ ≤ xs.length * sz := Nat.mul_le_mul_right _ h
      rw [List.getD_eq_getElem?_getD, List.getElem?_append_left hlt, ← List.getD_eq_getElem?_getD]
      exact hx.2 i x j c hi hc
    · rw [List.getElem?_append_right (by omega)] at hi
      have e : i * sz + j = us.length + ((i - xs.length) * sz + j) := by
        rw [hl, ← Nat.add_assoc, ← Nat.add_mul]
        congr 2
        omega
      rw [e, List.getD_eq_getElem?_getD, List.getElem?_append_right (by omega), Nat.add_sub_cancel_left, ← List.getD_eq_getElem?_getD]
      exact hy.2 _ x j c hi hc

/-- A new row of the call's own. -/
theorem step_newrow (hr : Rel N.fn w S μ H) {w' : World} {v : Value} {sz : Nat} {xs : List PV} {us : List Value} (hg : Grows w w') (h0 : 0 < sz) (hlim : xs.length ≤ lim) (hrow : RowAt w' v sz xs.length us) (hf : FlatRel N.fn w' S sz xs us)
    (hn : ∀ g, blkOf v = some g → w.heap.size ≤ g) :
    ∃ μ', Step N.fn w S μ H w' S μ' (H ++ [.row false sz xs]) ∧ RelV N.fn w' S μ' (H ++ [.row false sz xs]) (.own H.length xs.length) v := by
  refine ⟨upd μ H.length v, Step.push hr hg ⟨h0, hlim, us, by rw [upd_same]; exact hrow, hf.1, hf.2, fun h => by cases h⟩ hn, ?_⟩
  refine .own _ _ _ (by simp) (fun f sz' xs' h => ?_) ?_
  · rw [List.getElem?_append_right (Nat.le_refl _)] at h
    simp only [Nat.sub_self, List.getElem?_cons_zero, Option.some.injEq, Blk.row.injEq] at h
    obtain ⟨_, _, rfl⟩ := h
    exact ⟨Nat.le_refl _, fun _ => upd_same.symm⟩
  · obtain ⟨_, h⟩ := hrow
    rcases h with ⟨_, a, h⟩ | ⟨g, cap, cur, e, h, _⟩ <;> rw [h] <;> rfl

theorem x_newrow (hr : Rel N.fn w S μ H) {sz : Nat} (h0 : 0 < sz) : ∃ μ', Step N.fn w S μ H w S μ' (H ++ [.row false sz []]) ∧ RelV N.fn w S μ' (H ++ [.row false sz []]) (.own H.length 0) (.slice none 0 0) :=
  step_newrow hr (us := []) (Grows.refl w) h0 (Nat.zero_le _) ⟨by simp, .inl ⟨rfl, none, rfl⟩⟩ ⟨by simp, by simp⟩ (by intro g h; cases h)

theorem x_appendA (hr : Rel N.fn w S μ H) {t ty e : TypeId} {i : Go.TypeInfo} {z : Value} {sz : Nat} {x y : Value} {x' : AV} {ys : List PV} {news : List Value} {r : AV × Heap} (ht : P.underlying t = some (.slice e)) (hi : P.info? e = some i) (hz : i.zero = some z)
    (hsz : i.size = sz) (hzs : z.cells.size = sz) (h0 : 0 < sz) (hb : i.bytes ≤ 65536) (hx : RelV N.fn w S μ H x' x) (hs : Src w y sz ys.length news) (hf : FlatRel N.fn w S sz ys news) (hv : appendA H sz x' ys = some r) :
    ∃ v' w' μ', (Builtin.append_ #[t, t] ty #[x, y]).run P w = .ok v' w' ∧ Step N.fn w S μ H w' S μ' r.2 ∧ RelV N.fn w' S μ' r.2 r.1 v' := by
  unfold appendA at hv
  split at hv
  · rename_i id n
    split at hv
    rotate_left
    · cases hv
    rename_i sz' xs hb'
    simp only [Option.ite_none_right_eq_some, Option.some.injEq] at hv
    obtain ⟨⟨rfl, rfl, hlim⟩, rfl⟩ := hv
    have hrow : rowOf H id xs.length = some (sz', xs) := by simp [rowOf, hb']
    rw [hx.own_inv hrow]
    obtain ⟨_, _, us, h3, h4, h5, _⟩ := hr.blk id _ hb'
    rw [List.length_append] at hlim
    obtain ⟨v', w', r1, r2, r3, r4, r5, r6, r7, r8, r9⟩ := run_append_row (ty := ty) ht hi hz hsz hzs h0 h3 hs hlim hb
    have hm : Moves μ H (upd μ id v') (H.set id (.row false sz' (xs ++ ys))) := moves_set_row hb' (by simp) (fun h => r9 (by simpa using h))
    have keepS : ∀ g, S g → w'.heap[g]? = w.heap[g]? := fun g hg => r7 g (hr.lt g hg) (fun e => hr.apart g (alive_iff.2 ⟨id, _, hb', .inr ⟨sz', xs, rfl⟩, e⟩) hg)
    have hfl : FlatRel N.fn w' S sz' (xs ++ ys) (us ++ news) := (FlatRel.append ⟨h4, h5⟩ hf h3.1).keep keepS
    have hlt := (List.getElem?_eq_some_iff.1 hb').1
    refine ⟨v', w', upd μ id v', r1, Step.set hr hb' (.inr ⟨sz', xs, rfl⟩) r3 r4 r5 r6 r7 hm ⟨h0, by simpa using hlim, us ++ news, by rw [upd_same, List.length_append]; exact r2, hfl.1, hfl.2, fun h => by cases h⟩ r8, ?_⟩
    refine .own _ _ _ (by simpa using hlt) (fun f sz2 xs2 h => ?_) ?_
    · simp only [List.getElem?_set, hlt, if_true, Option.some.injEq, Blk.row.injEq] at h
      obtain ⟨_, _, rfl⟩ := h
      exact ⟨Nat.le_refl _, fun _ => upd_same.symm⟩
    · obtain ⟨_, h⟩ := r2
      rcases h with ⟨_, a, h⟩ | ⟨g, cap, cur, e, h, _⟩ <;> rw [h] <;> rfl
  · rename_i k sz' xs
    simp only [Option.ite_none_right_eq_some] at hv
    obtain ⟨⟨hk, hlim⟩, hv⟩ := hv
    have hx := hx.p_inv
    have hx2 := hx
    cases hx with
    | sl _ _ _ a cap us h1 h2 h3 h4 h5 h6 h7 h8 =>
    split at hv
    · -- nothing was there
      simp only [Option.some.injEq] at hv
      subst hv
      have hcap : cap = 0 := by
        rcases hk with h | ⟨h, _⟩
        · exact (h4 h).2.2
        · exact (h5 (.inl h)).2 h
      subst hcap
      have hrow : RowAt w (.slice a 0 0) sz 0 [] := ⟨by simp, .inl ⟨rfl, a, rfl⟩⟩
      simp only [List.nil_append] at hlim
      obtain ⟨v', w', r1, r2, r3, r4, r5, r6, r7, r8, r9⟩ := run_append_row (ty := ty) ht hi hz hsz hzs h0 hrow hs (by omega) hb
      have hg : Grows w w' := ⟨r3, r4, r5, r6, fun g hg => r7 g hg (by cases a <;> simp [blkOf])⟩
      rw [Nat.zero_add, List.nil_append] at r2
      obtain ⟨μ', s1, s2⟩ := step_newrow hr hg h0 hlim r2 (hf.keep (hr.keepS hg)) (fun g hg => by
        rcases r8 g hg with h | h
        · cases a <;> simp [blkOf] at h
        · exact h)
      exact ⟨v', w', μ', r1, s1, s2⟩
    · -- nothing to add
      simp only [Option.some.injEq] at hv
      subst hv
      obtain ⟨_, _, hy⟩ := hs
      obtain ⟨b, c, rfl⟩ : ∃ b c, y = .slice b 0 c := by
        rcases hy with ⟨b, c, h, _⟩ | ⟨ad, c, h, _⟩
        · exact ⟨b, c, h⟩
        · exact ⟨_, c, h⟩
      exact ⟨_, w, μ, run_append_zero ht hi _ _ _ h1 b c, ⟨hr, Ext.refl, .refl⟩, .p _ _ hx2⟩
    · rename_i x0 xs0 y0 ys0
      simp only [Option.some.injEq] at hv
      subst hv
      have hk : k = .tight ∧ sz' = sz := by
        rcases hk with h | h
        · exact absurd (h4 h).1 (by simp)
        · exact h
      obtain ⟨rfl, rfl⟩ := hk
      have hcap := (h5 (.inl rfl)).2 rfl
      subst hcap
      obtain ⟨ad, rfl, hS⟩ := h6 (by simp)
      obtain ⟨news0, g1, g2⟩ := elems_src (N := N) (μ := μ) (H := H) hr (y' := .p (.sl .tight sz' (x0 :: xs0))) h0 (.p _ _ hx2) (by simp [elemsOf]; rfl)
      obtain ⟨hl, hone, hy⟩ := hs
      obtain ⟨ad2, c, rfl, hnews⟩ : ∃ ad c, y = .slice (some ad) (y0 :: ys0).length c ∧ ∀ (j : Nat) u, news[j]? = some u → w.cell? (ad.add j) = some u := by
        rcases hy with ⟨a, c, _, h⟩ | h
        · cases h
        · exact h
      obtain ⟨gl, gone, hg⟩ := g1
      obtain ⟨ad3, c3, e3, holds⟩ : ∃ ad' c, Value.slice (some ad) (x0 :: xs0).length (x0 :: xs0).length = .slice (some ad') (x0 :: xs0).length c ∧ ∀ (j : Nat) u, news0[j]? = some u → w.cell? (ad'.add j) = some u := by
        rcases hg with ⟨a, c, _, h⟩ | h
        · cases h
        · exact h
      cases e3
      subst hsz
      have lim_eq : lim = 1073741824 := rfl
      rw [List.length_append] at hlim
      have hbytes : ((x0 :: xs0).length + (y0 :: ys0).length) * i.bytes ≤ 140737488355328 := by
        calc ((x0 :: xs0).length + (y0 :: ys0).length) * i.bytes ≤ 1073741824 * 65536 := Nat.mul_le_mul (by omega) hb
          _ ≤ 140737488355328 := by decide
      have hlt : (x0 :: xs0).length < (x0 :: xs0).length + (y0 :: ys0).length := by simp
      have hrun := Go.run_append_grow (P := P) w t ty e i z ht hi hz ad _ _ news0 gl holds ad2 _ c news hl hnews hlt (by omega) (Go.growslice_fits hlt hbytes)
      have hge := Go.grownCap_ge w ((x0 :: xs0).length + (y0 :: ys0).length) (x0 :: xs0).length e
      have hcm : Go.grownCap w ((x0 :: xs0).length + (y0 :: ys0).length) (x0 :: xs0).length e ≤ maxLen := Go.grownCap_le_maxLen w _ _ e (by simp only [maxLen]; omega)
      have hgr : Grows w (w.drew.alloc (.cells (news0.toArray ++ news.toArray ++ Builtin.zeroCells z.cells (Go.grownCap w ((x0 :: xs0).length + (y0 :: ys0).length) (x0 :: xs0).length e - ((x0 :: xs0).length + (y0 :: ys0).length))) e)) := (Grows.drew w).trans (Grows.alloc w.drew _)
      have hrow : RowAt (w.drew.alloc (.cells (news0.toArray ++ news.toArray ++ Builtin.zeroCells z.cells (Go.grownCap w ((x0 :: xs0).length + (y0 :: ys0).length) (x0 :: xs0).length e - ((x0 :: xs0).length + (y0 :: ys0).length))) e))
          (.slice (some ⟨w.heap.size, 0, none⟩) ((x0 :: xs0).length + (y0 :: ys0).length) (Go.grownCap w ((x0 :: xs0).length + (y0 :: ys0).length) (x0 :: xs0).length e)) i.size (x0 :: xs0 ++ y0 :: ys0).length (news0 ++ news) := by
        have hlen : (news0 ++ news).length = ((x0 :: xs0).length + (y0 :: ys0).length) * i.size := by rw [List.length_append, gl, hl, Nat.add_mul]
        rw [List.length_append]
        refine ⟨hlen, .inr ⟨w.heap.size, _, _, e, rfl, by omega, Go.heap_alloc_new w.drew _, hge, hcm, ?_, ?_⟩⟩
        · simp only [Array.size_append, List.size_toArray, Go.size_zeroCells, hzs, gl, hl, ← Nat.add_mul]
          congr 1
          omega
        · simp only [Array.toList_append, List.append_assoc]
          rw [← List.append_assoc, ← hlen]
          exact List.take_left
      obtain ⟨μ', s1, s2⟩ := step_newrow hr hgr h0 (by rw [List.length_append]; exact hlim) hrow ((FlatRel.append g2 hf gl).keep (hr.keepS hgr)) (fun g hg => by
        simp only [blkOf] at hg
        split at hg
        · cases hg
        · simp only [Option.some.injEq] at hg; omega)
      exact ⟨_, _, μ', hrun, s1, by simpa using s2⟩
  · cases hv
end
end Ab
