/- Ranges over strings. -/
import Derived.Test.YtgdkafbcchkplaaGreatDoorAbX5
namespace Ab
open Go (IntKind BinOp UnOp World Value Addr Obj undef maxLen Program TypeId Oper Op Operand Act Sem Next Result execOp Builtin)
section
variable {Γ : Ctx} {N : Names} {P : Program} {w : World} {S : Nat → Prop} {μ : Nat → Value} {H : Heap}

theorem x_range (hr : Rel N.fn w S μ H) {T : TypeId} {x : Value} {x' : AV} {r : AV × Heap} (hT : strT P T = true) (hx : RelV N.fn w S μ H x' x) (hv : rangeA H x' = some r) :
    ∃ u w' μ', (Go.Instr.range T x).run P w = .ok u w' ∧ Step N.fn w S μ H w' S μ' r.2 ∧ RelV N.fn w' S μ' r.2 r.1 u := by
  unfold rangeA at hv
  split at hv
  rotate_left
  · cases hv
  rename_i s
  simp only [Option.some.injEq] at hv
  subst hv
  rw [hx.str_inv]
  refine ⟨.pointer (some ⟨w.heap.size, 0, none⟩), w.alloc (.stringIter ⟨s.toArray⟩ 0), upd μ H.length (.pointer (some ⟨w.heap.size, 0, none⟩)), ?_, Step.push hr (Grows.alloc w _) ?_ ?_, ?_⟩
  · simp [Go.Instr.range, Go.run_underlying (strT_spec hT), Go.newObj, Go.Sem.run]
  · exact ⟨w.heap.size, upd_same, .inr ⟨s, 0, rfl, Go.heap_alloc_new w _⟩⟩
  · intro g hg
    simp only [blkOf, Option.some.injEq] at hg
    omega
  · exact .bx _ _ w.heap.size _ (by simp) (fun _ _ => upd_same) rfl

theorem x_next (hr : Rel N.fn w S μ H) {ty : TypeId} {x : Value} {x' : AV} {r : AV × Heap} (hx : RelV N.fn w S μ H x' x) (hv : nextA H x' = some r) :
    ∃ u w' μ', (Go.Instr.next x true ty).run P w = .ok u w' ∧ Step N.fn w S μ H w' S μ' r.2 ∧ RelV N.fn w' S μ' r.2 r.1 u := by
  unfold nextA at hv
  split at hv
  rotate_left
  · cases hv
  rename_i id
  split at hv
  rotate_left
  · cases hv
  rename_i s pos hb
  obtain ⟨g, rfl, hl, hg⟩ := hx.bx_inv
  obtain ⟨g', h1, ⟨arr, t, h2, h3, h4, h5⟩ | ⟨s', pos', h2, h3⟩⟩ := hr.blk id _ hb
  · exact absurd (h4 .nov (by simp)) (by simp [AV.one])
  simp only [iterCells, List.cons.injEq, AV.p.injEq, PV.str.injEq, PV.int.injEq, and_true, true_and] at h2
  obtain ⟨rfl, rfl⟩ := h2
  rw [hg _ hb] at h1
  cases h1
  by_cases hlt : (pos' : Int) < s.length
  · have hlt' : pos' < s.length := by omega
    rw [if_pos hlt] at hv
    simp only [Option.some.injEq, Int.toNat_natCast] at hv
    subst hv
    have hm : Moves μ H (upd μ id (.pointer (some ⟨g, 0, none⟩))) (H.set id (.box (iterCells s (pos' + (runeAt s pos').2)))) := moves_set_box hb (hg _ hb).symm
    have hk : ∀ k, k < w.heap.size → blkOf (μ id) ≠ some k → ({ w with heap := w.heap.setIfInBounds g (.stringIter ⟨s.toArray⟩ (pos' + (runeAt s pos').2)) } : World).heap[k]? = w.heap[k]? := by
      intro k _ hne
      rw [hg _ hb] at hne
      have : g ≠ k := fun e => hne (by rw [e]; rfl)
      simp [Array.getElem?_setIfInBounds_ne this]
    have hgl : g < w.heap.size := (Array.getElem?_eq_some_iff.1 h3).1
    refine ⟨.tuple #[.bool true, .int .i64 pos', .int .i32 (runeAt s pos').1], { w with heap := w.heap.setIfInBounds g (.stringIter ⟨s.toArray⟩ (pos' + (runeAt s pos').2)) }, upd μ id (.pointer (some ⟨g, 0, none⟩)), ?_, ?_, ?_⟩
    · have hsz : (ByteArray.mk s.toArray).size = s.length := size_mk s
      simp [Go.Instr.next, Go.getObj, Go.setObj, Go.Sem.run, h3, hsz, hlt', runeAt, Go.goInt]
    · refine Step.set hr hb (.inl ⟨_, rfl⟩) rfl rfl rfl (by simp) hk hm ?_ (fun k h => .inl (by rw [hg _ hb]; exact h))
      exact ⟨g, upd_same, .inr ⟨s, _, rfl, by simp [hgl]⟩⟩
    · refine .tup _ _ (by simp) fun j c hc => ?_
      match j with
      | 0 => simp only [List.getElem?_cons_zero, Option.some.injEq] at hc; subst hc; exact .p _ _ (.bool _)
      | 1 => simp only [List.getElem?_cons_succ, List.getElem?_cons_zero, Option.some.injEq] at hc; subst hc; exact .p _ _ (.int _ _)
      | 2 => simp only [List.getElem?_cons_succ, List.getElem?_cons_zero, Option.some.injEq] at hc; subst hc; exact .p _ _ (.int _ _)
      | j + 3 => simp at hc
  · have hlt' : ¬ pos' < s.length := by omega
    rw [if_neg hlt] at hv
    simp only [Option.some.injEq] at hv
    subst hv
    refine ⟨.tuple #[.bool false], w, μ, ?_, .refl hr, ?_⟩
    · have hsz : (ByteArray.mk s.toArray).size = s.length := size_mk s
      simp [Go.Instr.next, Go.getObj, Go.Sem.run, h3, hsz, hlt']
    · refine .tup _ _ (by simp) fun j c hc => ?_
      match j with
      | 0 => simp only [List.getElem?_cons_zero, Option.some.injEq] at hc; subst hc; exact .p _ _ (.bool _)
      | j + 1 => simp at hc

theorem RelO.step {w' : World} {S' : Nat → Prop} {μ' : Nat → Value} {H' : Heap} (hr : Rel N.fn w S μ H) (hs : Step N.fn w S μ H w' S' μ' H') : ∀ {o : Option AV} {u : Option Value}, RelO N.fn w S μ H o u → RelO N.fn w' S' μ' H' o u := by
  intro o u h
  unfold RelO at *
  split at h
  · exact h
  · exact RelV.keep hs.ext.more (fun g hg => hs.ext.keep g (hr.lt g hg) (hr.stable hg).2) hs.moves h
  · exact h

theorem x_slicef {T e : TypeId} {sz : Nat} {x : Value} {x' : AV} {r : AV × Heap} {lo hi : Option AV} {lo' hi' : Option Value} (hr : Rel N.fn w S μ H) (hT : slT P T = some e) (hs : (P.info? e).map (·.size) = some sz)
    (hx : RelV N.fn w S μ H x' x) (hlo : RelO N.fn w S μ H lo lo') (hhi : RelO N.fn w S μ H hi hi') (hv : slicefA H sz x' lo hi = some r) :
    ∃ u w' S' μ', (Go.Instr.sliceAt T x lo' hi' none).run P w = .ok u w' ∧ Step N.fn w S μ H w' S' μ' r.2 ∧ RelV N.fn w' S' μ' r.2 r.1 u := by
  unfold slicefA at hv
  split at hv
  · rename_i id n
    obtain ⟨rr, hrr, hv⟩ := Option.bind_eq_some_iff.1 hv
    obtain ⟨v, hv', rfl⟩ := Option.map_eq_some_iff.1 hv
    obtain ⟨S', hst, hrow⟩ := step_freeze [.own id n] hr
    obtain ⟨fz, hb, hn⟩ := rowOf_spec hrr
    obtain ⟨f1, hb1, hf1⟩ := hrow id fz rr.1 rr.2 hb
    have := hf1 (.inl ⟨n, by simp⟩)
    subst this
    have hp : RelP N.fn w S' (.sl .any rr.1 rr.2) (μ id) := by
      refine row_relP hr hb hst.ext.more fun g hg => ?_
      obtain ⟨_, _, us, _, _, _, h4⟩ := hst.rel.blk id _ hb1
      exact h4 rfl g hg
    have hx1 : x = μ id := hx.own_inv hrr
    rw [hx1]
    obtain ⟨u, h1, h2⟩ := q_slice hT hs (RelV.p (μ := μ) (H := freeze H [.own id n]) _ _ hp) (RelO.step hr hst hlo) (RelO.step hr hst hhi) hv'
    exact ⟨u, w, S', μ, h1, hst, h2⟩
  · obtain ⟨v, hv', rfl⟩ := Option.map_eq_some_iff.1 hv
    obtain ⟨u, h1, h2⟩ := q_slice hT hs hx hlo hhi hv'
    exact ⟨u, w, S, μ, h1, .refl hr, h2⟩
end
end Ab
