import Derived.Test.YtgdkafbcchkplaaGreatDoorAbX
namespace Ab
open Go (IntKind BinOp UnOp World Value Addr Obj undef maxLen Program TypeId Oper Op Operand Act Sem Next Result execOp Builtin)
section
variable {Γ : Ctx} {N : Names} {P : Program} {w : World} {S : Nat → Prop} {μ : Nat → Value} {H : Heap}

theorem Rel.keepS (hr : Rel N.fn w S μ H) {w' : World} (hg : Grows w w') : ∀ g, S g → w'.heap[g]? = w.heap[g]? := fun g h => hg.keep g (hr.lt g h)

theorem step_box (hr : Rel N.fn w S μ H) {cs : List AV} {us : Array Value} (T : TypeId) (h : CellsRel N.fn w S μ H cs us) :
    ∃ μ', Step N.fn w S μ H (w.alloc (.cells us T)) S μ' (H ++ [.box cs]) ∧ RelV N.fn (w.alloc (.cells us T)) S μ' (H ++ [.box cs]) (.bx H.length 0) (.pointer (some ⟨w.heap.size, 0, none⟩)) := by
  refine ⟨upd μ H.length (.pointer (some ⟨w.heap.size, 0, none⟩)), Step.push hr (Grows.alloc w _) ?_ ?_, ?_⟩
  · refine ⟨w.heap.size, upd_same, .inl ⟨us, T, Go.heap_alloc_new w _, h.size, h.one, fun j c hc => ?_⟩⟩
    exact (h.rel j c hc).keep (fun _ h => h) (hr.keepS (Grows.alloc w _)) moves_push
  · intro g hg
    simp only [blkOf, Option.some.injEq] at hg
    omega
  · exact .bx _ _ w.heap.size _ (by simp) (fun _ _ => upd_same) rfl

theorem x_box (hr : Rel N.fn w S μ H) {T : TypeId} {x : Value} {x' : AV} {r : AV × Heap} (hx : RelV N.fn w S μ H x' x) (hv : boxA H x' = some r) :
    ∃ u w' μ', (Go.Instr.box T x).run P w = .ok u w' ∧ Step N.fn w S μ H w' S μ' r.2 ∧ RelV N.fn w' S μ' r.2 r.1 u := by
  unfold boxA at hv
  split at hv
  · rename_i hok
    simp only [Option.some.injEq] at hv
    subst hv
    obtain ⟨c1, c2, c3⟩ := hx.cells hok
    obtain ⟨μ', h1, h2⟩ := step_box hr T ⟨c1, c2, c3⟩
    exact ⟨_, _, μ', by simp [Go.Instr.box, Go.newVar, Go.newRow], h1, h2⟩
  · cases hv

theorem x_alloc (hr : Rel N.fn w S μ H) {T : TypeId} {zero : List PV} (hz : zeroT P T zero = true) :
    ∃ u w' μ', (Go.Instr.alloc T true (.tuple #[])).run P w = .ok u w' ∧ Step N.fn w S μ H w' S μ' (H ++ [.box (zero.map .p)]) ∧ RelV N.fn w' S μ' (H ++ [.box (zero.map .p)]) (.bx H.length 0) u := by
  obtain ⟨z, z1, z2⟩ := zeroT_spec (N := N) (w := w) (S := S) (μ := μ) (H := H) hz
  obtain ⟨μ', h1, h2⟩ := step_box hr T z2
  exact ⟨_, _, μ', by simp [Go.Instr.alloc, z1, Go.newVar, Go.newRow], h1, h2⟩

theorem moves_set_box {id : Nat} {cs cs' : List AV} {v : Value} (h0 : H[id]? = some (.box cs)) (hv : v = μ id) : Moves μ H (upd μ id v) (H.set id (.box cs')) := by
  have hlt := (List.getElem?_eq_some_iff.1 h0).1
  refine ⟨by simp, fun i f sz xs hl h => ?_, fun i c hl h => ?_⟩
  · simp only [List.getElem?_set, hlt, if_true] at h
    split at h
    · cases h
    · rename_i e; exact ⟨f, xs, h, Nat.le_refl _, fun _ => upd_ne (Ne.symm e)⟩
  · simp only [List.getElem?_set, hlt, if_true] at h
    split at h
    · rename_i e; subst e; exact ⟨cs, h0, by rw [upd_same, hv]⟩
    · rename_i e; exact ⟨c, h, upd_ne (Ne.symm e)⟩
theorem moves_set_row {id : Nat} {f f' : Bool} {sz : Nat} {xs xs' : List PV} {v : Value} (h0 : H[id]? = some (.row f sz xs)) (hl : xs.length ≤ xs'.length) (hv : xs.length = xs'.length → v = μ id) : Moves μ H (upd μ id v) (H.set id (.row f' sz xs')) := by
  have hlt := (List.getElem?_eq_some_iff.1 h0).1
  refine ⟨by simp, fun i g sz2 ys hli h => ?_, fun i c hli h => ?_⟩
  · simp only [List.getElem?_set, hlt, if_true] at h
    split at h
    · rename_i e; subst e
      simp only [Option.some.injEq, Blk.row.injEq] at h
      obtain ⟨rfl, rfl, rfl⟩ := h
      exact ⟨f, xs, h0, hl, fun e => by rw [upd_same]; exact hv e⟩
    · rename_i e; exact ⟨g, ys, h, Nat.le_refl _, fun _ => upd_ne (Ne.symm e)⟩
  · simp only [List.getElem?_set, hlt, if_true] at h
    split at h
    · cases h
    · rename_i e; exact ⟨c, h, upd_ne (Ne.symm e)⟩

theorem setRow_keep {g k : Nat} {cs : Array Value} (h : k ≠ g) : (w.setRow g cs).heap[k]? = w.heap[k]? := Go.setRow_other w g k cs h
theorem setRow_size {g : Nat} {cs : Array Value} : (w.setRow g cs).heap.size = w.heap.size := by simp [World.setRow]

/-- Cells in the middle of a block. -/
theorem splice_getD {cur : Array Value} {vs : List Value} {off j : Nat} (h : off + vs.length ≤ cur.size) :
    (cur.toList.take off ++ vs ++ cur.toList.drop (off + vs.length)).toArray.getD j undef = if off ≤ j ∧ j < off + vs.length then vs.getD (j - off) undef else cur.getD j undef := by
  have l1 : (cur.toList.take off).length = off := by simp; omega
  rw [list_getD, List.getD_eq_getElem?_getD, Array.getD_eq_getD_getElem?, List.append_assoc]
  by_cases h1 : j < off
  · rw [if_neg (by omega), List.getElem?_append_left (by omega), List.getElem?_take, if_pos h1]
    simp
  · rw [List.getElem?_append_right (by omega), l1]
    by_cases h2 : j < off + vs.length
    · rw [if_pos (by omega), List.getElem?_append_left (by omega), List.getD_eq_getElem?_getD]
    · rw [if_neg (by omega), List.getElem?_append_right (by omega), List.getElem?_drop, show off + vs.length + (j - off - vs.length) = j by omega]
      simp

theorem splice_get {α : Type} {cs vs : List α} {off j : Nat} {c : α} (h : off + vs.length ≤ cs.length) (hc : (cs.take off ++ vs ++ cs.drop (off + vs.length))[j]? = some c) :
    (off ≤ j ∧ j < off + vs.length ∧ vs[j - off]? = some c) ∨ (¬ (off ≤ j ∧ j < off + vs.length) ∧ cs[j]? = some c) := by
  have l1 : (cs.take off).length = off := by simp; omega
  rw [List.append_assoc] at hc
  by_cases h1 : j < off
  · rw [List.getElem?_append_left (by omega)] at hc
    exact .inr ⟨by omega, (take_get hc).2⟩
  · rw [List.getElem?_append_right (by omega), l1] at hc
    by_cases h2 : j < off + vs.length
    · rw [List.getElem?_append_left (by omega)] at hc
      exact .inl ⟨by omega, h2, hc⟩
    · rw [List.getElem?_append_right (by omega), List.getElem?_drop, show off + vs.length + (j - off - vs.length) = j by omega] at hc
      exact .inr ⟨by omega, hc⟩

theorem getD_toList {us : Array Value} {j : Nat} : us.toList.getD j undef = us.getD j undef := by simp [List.getD]

theorem cells_one {cs : List AV} {us : Array Value} (h : CellsRel N.fn w S μ H cs us) : ∀ v ∈ us.toList, v.oneCell' = true := by
  intro v hv
  obtain ⟨j, hj⟩ := List.getElem?_of_mem hv
  have hlt : j < us.size := by simpa using (List.getElem?_eq_some_iff.1 hj).1
  have hlt2 : j < cs.length := by rw [← h.size]; exact hlt
  have h1 : cs[j]? = some cs[j] := List.getElem?_eq_getElem hlt2
  have h2 := h.rel j _ h1
  have e : us.getD j undef = v := by rw [← getD_toList, List.getD_eq_getElem?_getD, hj]; rfl
  rw [e] at h2
  exact h2.one (h.one _ (List.mem_of_getElem? h1))

theorem run_store_at {T : TypeId} {g off sz : Nat} {t : TypeId} {cur : Array Value} {u : Value} (hs : (P.info? T).map (·.size) = some sz) (hu : u.cells.size = sz) (hg : w.heap[g]? = some (.cells cur t (0, 0))) (hle : off + sz ≤ cur.size)
    (h1 : ∀ v ∈ u.cells.toList, v.oneCell' = true) :
    (Go.Instr.storeAt T (.pointer (some ⟨g, off, none⟩)) u).run P w = .ok () (w.setRow g (cur.toList.take off ++ u.cells.toList ++ cur.toList.drop (off + u.cells.toList.length)).toArray) := by
  have hst := Go.run_storeCells_at P g off t u.cells.toList 0 cur w hg (by simp [hu]; omega) h1
  simp only [Nat.add_zero] at hst
  simp only [Go.Instr.storeAt, Go.Instr.sureAddr, Go.storeVar, Go.Sem.run_bind, Go.Sem.run_pure, Go.Result.andThen_ok, run_sizeOf hs, hu, ne_eq, not_true_eq_false, if_false]
  exact hst

theorem x_store (hr : Rel N.fn w S μ H) {T : TypeId} {sz : Nat} {x y : Value} {x' y' : AV} {H' : Heap} (hs : (P.info? T).map (·.size) = some sz) (hx : RelV N.fn w S μ H x' x) (hy : RelV N.fn w S μ H y' y) (hv : storeA H sz x' y' = some H') :
    ∃ w' μ', (Go.Instr.storeAt T x y).run P w = .ok () w' ∧ Step N.fn w S μ H w' S μ' H' := by
  unfold storeA at hv
  split at hv
  · rename_i id off
    obtain ⟨cs, hb, hv⟩ := Option.bind_eq_some_iff.1 hv
    simp only [Option.ite_none_right_eq_some, Option.some.injEq] at hv
    obtain ⟨⟨hok, hsz, hle⟩, rfl⟩ := hv
    have hb0 := hb
    have hb := boxOf_spec hb
    obtain ⟨g, rfl, hl, hg⟩ := hx.bx_inv
    obtain ⟨g', arr, t, e1, e2, e3, e4, e5⟩ := hr.box_of hb0
    rw [hg cs hb] at e1
    cases e1
    obtain ⟨c1, c2, c3⟩ := hy.cells hok
    have hlen : y.cells.toList.length = y'.cells.length := by simpa using c1
    have hle' : off + y.cells.toList.length ≤ arr.size := by rw [hlen, hsz, e3]; exact hle
    refine ⟨_, upd μ id (.pointer (some ⟨g, 0, none⟩)), run_store_at hs (by rw [c1, hsz]) e2 (by rw [e3]; exact hle) (cells_one ⟨c1, c2, c3⟩), ?_⟩
    have hm : Moves μ H (upd μ id (.pointer (some ⟨g, 0, none⟩))) (H.set id (.box (cs.take off ++ y'.cells ++ cs.drop (off + sz)))) := moves_set_box hb (hg cs hb).symm
    have hk : ∀ k, k < w.heap.size → blkOf (μ id) ≠ some k → (w.setRow g (arr.toList.take off ++ y.cells.toList ++ arr.toList.drop (off + y.cells.toList.length)).toArray).heap[k]? = w.heap[k]? := by
      intro k _ hne
      rw [hg cs hb] at hne
      exact setRow_keep (fun e => hne (by rw [e]; rfl))
    refine Step.set hr hb (.inl ⟨cs, rfl⟩) rfl rfl rfl (Nat.le_of_eq setRow_size.symm) hk hm ?_ (fun k h => .inl (by rw [hg cs hb]; exact h))
    have keepS : ∀ k, S k → (w.setRow g (arr.toList.take off ++ y.cells.toList ++ arr.toList.drop (off + y.cells.toList.length)).toArray).heap[k]? = w.heap[k]? := fun k hk' =>
      hk k (hr.lt k hk') (fun e => hr.apart k (alive_iff.2 ⟨id, _, hb, .inl ⟨cs, rfl⟩, e⟩) hk')
    refine ⟨g, upd_same, .inl ⟨_, t, Go.setRow_heap w g arr _ t _ e2, ?_, fun c hc => ?_, fun j c hc => ?_⟩⟩
    · simp only [List.size_toArray, List.length_append, List.length_take, List.length_drop, Array.length_toList, hlen, hsz, e3]
    · simp only [List.mem_append] at hc
      rcases hc with (hc | hc) | hc
      · exact e4 c (List.mem_of_mem_take hc)
      · exact c2 c hc
      · exact e4 c (List.mem_of_mem_drop hc)
    · rw [splice_getD hle']
      subst hsz
      rcases splice_get hle hc with ⟨h1, h2, h3⟩ | ⟨h1, h2⟩
      · rw [if_pos ⟨h1, by omega⟩, getD_toList]
        exact (c3 _ c h3).keep (fun _ h => h) keepS hm
      · rw [if_neg (by omega)]
        exact (e5 j c h2).keep (fun _ h => h) keepS hm
  · rename_i id n i off
    split at hv
    rotate_left
    · cases hv
    rename_i sz' xs hb
    split at hv
    rotate_left
    · cases hv
    rename_i hn
    subst hn
    obtain ⟨z, hz, hv⟩ := Option.bind_eq_some_iff.1 hv
    obtain ⟨ps, hps, hv⟩ := Option.bind_eq_some_iff.1 hv
    simp only [Option.ite_none_right_eq_some, Option.some.injEq] at hv
    obtain ⟨⟨hok, hpos, hsz, hle⟩, rfl⟩ := hv
    have hi : i < xs.length := (List.getElem?_eq_some_iff.1 hz).1
    cases hx with
    | el _ _ _ _ _ hl hx0 _ =>
    obtain ⟨_, hx1⟩ := hx0 _ _ _ hb
    obtain ⟨g, cap, hμ, rfl⟩ := hx1 rfl (by omega)
    obtain ⟨r0, rlim, us, r1, r2, r3, r4⟩ := hr.blk id _ hb
    obtain ⟨rl, r1⟩ := r1
    rcases r1 with ⟨h0, _⟩ | ⟨g', cap', cur, e, hv', hc0, hg, hnc, hcm, hcs, htake⟩
    · omega
    rw [hμ] at hv'
    cases hv'
    obtain ⟨c1, c2, c3⟩ := hy.cells hok
    obtain ⟨p1, p2, p3⟩ := pures_cells hps ⟨c1, c2, c3⟩
    have hzl : z.cells.length = sz' := (r2 z (List.mem_of_getElem? hz)).1
    have hlen : y.cells.toList.length = sz := by rw [Array.length_toList, p1, hsz]
    have hrow : (i + 1) * sz' ≤ xs.length * sz' := Nat.mul_le_mul_right _ hi
    have hrow' : xs.length * sz' ≤ cap * sz' := Nat.mul_le_mul_right _ (by omega)
    have hi1 : (i + 1) * sz' = i * sz' + sz' := by rw [Nat.add_mul, Nat.one_mul]
    have hfit : i * sz' + off + y.cells.toList.length ≤ cur.size := by omega
    refine ⟨_, upd μ id (μ id), run_store_at hs (by rw [p1, hsz]) hg (by omega) (cells_one ⟨c1, c2, c3⟩), ?_⟩
    generalize hx2 : setPart off sz ps z = z2
    have z2c : z2.cells.length = sz' ∧ (∀ c ∈ z2.cells, c.one = true) ∧ ∀ j c, z2.cells[j]? = some c → (off ≤ j ∧ j < off + sz ∧ ps[j - off]? = some c) ∨ (¬ (off ≤ j ∧ j < off + sz) ∧ z.cells[j]? = some c) := by
      have hone := (r2 z (List.mem_of_getElem? hz)).2
      by_cases hag : ∃ cs, z = .agg cs
      · obtain ⟨cs, rfl⟩ := hag
        subst hx2
        simp only [PV.cells, setPart] at hzl hone hle ⊢
        subst hsz
        refine ⟨by simp only [List.length_append, List.length_take, List.length_drop]; omega, fun c hc => ?_, fun j c hc => splice_get hle hc⟩
        simp only [List.mem_append] at hc
        rcases hc with (hc | hc) | hc
        · exact hone c (List.mem_of_mem_take hc)
        · exact p2 c hc
        · exact hone c (List.mem_of_mem_drop hc)
      · have hz1 : z.cells = [z] := by cases z <;> first | rfl | exact absurd ⟨_, rfl⟩ hag
        rw [hz1] at hzl hle ⊢
        simp only [List.length_cons, List.length_nil] at hzl hle
        have e1 : off = 0 := by omega
        have e2 : sz = 1 := by omega
        subst e1
        match ps, hsz, p2, hx2 with
        | [q], hsz, p2, hx2 =>
          have hq := p2 q (by simp)
          have : z2 = q := by subst hx2; cases z <;> first | rfl | exact absurd ⟨_, rfl⟩ hag
          rw [this, PV.cells_one hq]
          refine ⟨by simp; omega, by simpa using hq, fun j c hc => .inl ?_⟩
          cases j with
          | zero => simpa [e2] using hc
          | succ j => simp at hc
        | [], hsz, _, _ => simp at hsz; omega
        | _ :: _ :: _, hsz, _, _ => simp at hsz; omega
    have hm : Moves μ H (upd μ id (μ id)) (H.set id (.row false sz' (xs.set i z2))) := moves_set_row hb (by simp) (fun _ => rfl)
    have hk : ∀ k, k < w.heap.size → blkOf (μ id) ≠ some k → (w.setRow g (cur.toList.take (i * sz' + off) ++ y.cells.toList ++ cur.toList.drop (i * sz' + off + y.cells.toList.length)).toArray).heap[k]? = w.heap[k]? := by
      intro k _ hne
      rw [hμ] at hne
      simp only [blkOf] at hne
      rw [if_neg (by omega)] at hne
      exact setRow_keep (fun e => hne (by rw [e]))
    refine Step.set hr hb (.inr ⟨sz', xs, rfl⟩) rfl rfl rfl (Nat.le_of_eq setRow_size.symm) hk hm ?_ (fun k h => .inl h)
    have keepS : ∀ k, S k → (w.setRow g (cur.toList.take (i * sz' + off) ++ y.cells.toList ++ cur.toList.drop (i * sz' + off + y.cells.toList.length)).toArray).heap[k]? = w.heap[k]? := fun k hk' =>
      hk k (hr.lt k hk') (fun e => hr.apart k (alive_iff.2 ⟨id, _, hb, .inr ⟨sz', xs, rfl⟩, e⟩) hk')
    generalize hcur : (cur.toList.take (i * sz' + off) ++ y.cells.toList ++ cur.toList.drop (i * sz' + off + y.cells.toList.length)).toArray = cur' at keepS hk ⊢
    have hcur' : ∀ j, cur'.getD j undef = if i * sz' + off ≤ j ∧ j < i * sz' + off + y.cells.toList.length then y.cells.toList.getD (j - (i * sz' + off)) undef else cur.getD j undef := fun j => by rw [← hcur]; exact splice_getD hfit
    have hcsz : cur'.size = cur.size := by
      rw [← hcur]
      simp only [List.size_toArray, List.length_append, List.length_take, List.length_drop, Array.length_toList]
      simp only [Array.length_toList] at hfit
      omega
    have husg : ∀ j, j < xs.length * sz' → us.getD j undef = cur.getD j undef := fun j hj => by
      rw [← htake, List.getD_eq_getElem?_getD, List.getElem?_take, if_pos hj, ← List.getD_eq_getElem?_getD, getD_toList]
    refine ⟨r0, by simpa using rlim, cur'.toList.take (xs.length * sz'), ⟨by simp only [List.length_take, Array.length_toList, List.length_set]; omega, ?_⟩, fun x hx => ?_, fun i2 x j c hx hc => ?_, by simp⟩
    · rw [upd_same, hμ, List.length_set]
      exact .inr ⟨g, cap, cur', e, rfl, hc0, Go.setRow_heap w g cur _ e _ hg, hnc, hcm, by omega, rfl⟩
    · rcases List.mem_or_eq_of_mem_set hx with h | h
      · exact r2 x h
      · subst h; exact ⟨z2c.1, z2c.2.1⟩
    · have hi2 : i2 < xs.length := by simpa using (List.getElem?_eq_some_iff.1 hx).1
      have hrow2 : (i2 + 1) * sz' ≤ xs.length * sz' := Nat.mul_le_mul_right _ hi2
      have hi21 : (i2 + 1) * sz' = i2 * sz' + sz' := by rw [Nat.add_mul, Nat.one_mul]
      by_cases he : i2 = i
      · subst he
        rw [List.getElem?_set_self hi] at hx
        simp only [Option.some.injEq] at hx
        subst hx
        have hj : j < sz' := by rw [← z2c.1]; exact (List.getElem?_eq_some_iff.1 hc).1
        rw [List.getD_eq_getElem?_getD, List.getElem?_take, if_pos (by omega), ← List.getD_eq_getElem?_getD, getD_toList, hcur' _]
        rcases z2c.2.2 j c hc with ⟨h1, h2, h3⟩ | ⟨h1, h2⟩
        · rw [if_pos (by omega), show i2 * sz' + j - (i2 * sz' + off) = j - off by omega, getD_toList]
          exact (p3 _ c h3).keep (fun _ h => h) keepS
        · rw [if_neg (by omega), ← husg _ (by omega)]
          exact (r3 i2 z j c hz h2).keep (fun _ h => h) keepS
      · rw [List.getElem?_set_ne (Ne.symm he)] at hx
        have hj : j < sz' := by rw [← (r2 x (List.mem_of_getElem? hx)).1]; exact (List.getElem?_eq_some_iff.1 hc).1
        rw [List.getD_eq_getElem?_getD, List.getElem?_take, if_pos (by omega), ← List.getD_eq_getElem?_getD, getD_toList, hcur' _]
        have far : ¬ (i * sz' + off ≤ i2 * sz' + j ∧ i2 * sz' + j < i * sz' + off + y.cells.toList.length) := by
          rcases Nat.lt_or_gt_of_ne he with h | h
          · have : (i2 + 1) * sz' ≤ i * sz' := Nat.mul_le_mul_right _ h
            omega
          · have : (i + 1) * sz' ≤ i2 * sz' := Nat.mul_le_mul_right _ h
            omega
        rw [if_neg far, ← husg _ (by omega)]
        exact (r3 i2 x j c hx hc).keep (fun _ h => h) keepS
  · cases hv
end
end Ab
