/- Operations that make or change memory. -/
import Derived.Test.YtgdkafbcchkplaaGreatDoorAbQ3
import Derived.Laws.CopyOwn
namespace Ab
open Go (IntKind BinOp UnOp World Value Addr Obj undef maxLen Program TypeId Oper Op Operand Act Sem Next Result execOp Builtin)

structure Step (ν : Nat → Nat) (w : World) (S : Nat → Prop) (μ : Nat → Value) (H : Heap) (w' : World) (S' : Nat → Prop) (μ' : Nat → Value) (H' : Heap) : Prop where
  rel : Rel ν w' S' μ' H'
  ext : Ext w S μ H w' S' μ' H'
  moves : Moves μ H μ' H'

def upd (μ : Nat → Value) (id : Nat) (v : Value) : Nat → Value := fun i => if i = id then v else μ i
@[simp] theorem upd_same {μ id v} : upd μ id v id = v := by simp [upd]
theorem upd_ne {μ id v i} (h : i ≠ id) : upd μ id v i = μ i := by simp [upd, h]

section
variable {ν : Nat → Nat} {w w' : World} {S S' : Nat → Prop} {μ : Nat → Value} {H : Heap}

def isAlive (b : Blk) : Prop := (∃ cs, b = .box cs) ∨ ∃ sz xs, b = .row false sz xs
theorem alive_iff {g} : alive μ H g ↔ ∃ id b, H[id]? = some b ∧ isAlive b ∧ blkOf (μ id) = some g := by
  constructor
  · rintro ⟨id, h1, ⟨cs, h2⟩ | ⟨sz, xs, h2⟩⟩
    · exact ⟨id, _, h2, .inl ⟨cs, rfl⟩, h1⟩
    · exact ⟨id, _, h2, .inr ⟨sz, xs, rfl⟩, h1⟩
  · rintro ⟨id, b, h1, ⟨cs, rfl⟩ | ⟨sz, xs, rfl⟩, h3⟩
    · exact ⟨id, h3, .inl ⟨cs, h1⟩⟩
    · exact ⟨id, h3, .inr ⟨sz, xs, h1⟩⟩
theorem Rel.inj' (hr : Rel ν w S μ H) {i j b c g} (hi : H[i]? = some b) (hj : H[j]? = some c) (ai : isAlive b) (aj : isAlive c) (gi : blkOf (μ i) = some g) (gj : blkOf (μ j) = some g) : i = j := by
  refine hr.inj i j g gi gj ?_ ?_
  · rcases ai with ⟨cs, rfl⟩ | ⟨sz, xs, rfl⟩
    · exact .inl ⟨cs, hi⟩
    · exact .inr ⟨sz, xs, hi⟩
  · rcases aj with ⟨cs, rfl⟩ | ⟨sz, xs, rfl⟩
    · exact .inl ⟨cs, hj⟩
    · exact .inr ⟨sz, xs, hj⟩

theorem RowAt.keep {v sz n us} (h : RowAt w v sz n us) (hk : ∀ g, blkOf v = some g → w'.heap[g]? = w.heap[g]?) : RowAt w' v sz n us := by
  obtain ⟨h1, h2⟩ := h
  refine ⟨h1, ?_⟩
  rcases h2 with h2 | ⟨g, cap, cur, e, hv, hc, hg, rest⟩
  · exact .inl h2
  · refine .inr ⟨g, cap, cur, e, hv, hc, ?_, rest⟩
    rw [hk g (by rw [hv]; simp [blkOf]; omega)]
    exact hg

/-- A block that nobody touched. -/
theorem BlkRel.keep {μ' : Nat → Value} {H' : Heap} {id : Nat} {b : Blk} (h : BlkRel ν w S μ H id b) (hS : ∀ g, S g → S' g) (hw : ∀ g, S g → w'.heap[g]? = w.heap[g]?) (hm : Moves μ H μ' H') (hμ : μ' id = μ id)
    (hk : ∀ g, blkOf (μ id) = some g → w'.heap[g]? = w.heap[g]?) : BlkRel ν w' S' μ' H' id b := by
  cases b with
  | box cells =>
    obtain ⟨g, h1, ⟨cs, t, h2, h3, h4, h5⟩ | ⟨s, pos, h2, h3⟩⟩ := h
    · exact ⟨g, by rw [hμ, h1], .inl ⟨cs, t, by rw [hk g (by rw [h1]; rfl)]; exact h2, h3, h4, fun j c hc => (h5 j c hc).keep hS hw hm⟩⟩
    · exact ⟨g, by rw [hμ, h1], .inr ⟨s, pos, h2, by rw [hk g (by rw [h1]; rfl)]; exact h3⟩⟩
  | row f sz xs =>
    obtain ⟨h0, hl, us, h1, h2, h3, h4⟩ := h
    exact ⟨h0, hl, us, by rw [hμ]; exact h1.keep hk, h2, fun i x j c hx hc => (h3 i x j c hx hc).keep hS hw, fun hf g hg => hS _ (h4 hf g (by rw [← hμ]; exact hg))⟩

theorem Rel.stable (hr : Rel ν w S μ H) {g} (h : S g) : g < w.heap.size ∧ ¬ alive μ H g := ⟨hr.lt g h, fun ha => hr.apart g ha h⟩

theorem Rel.blk_lt (hr : Rel ν w S μ H) {id b g} (hb : H[id]? = some b) (hg : blkOf (μ id) = some g) : g < w.heap.size := by
  have h := hr.blk id b hb
  cases b with
  | box cells =>
    obtain ⟨g', h1, ⟨cs, t, h2, _⟩ | ⟨s, pos, _, h2⟩⟩ := h
    · rw [h1] at hg; cases hg
      exact (Array.getElem?_eq_some_iff.1 h2).1
    · rw [h1] at hg; cases hg
      exact (Array.getElem?_eq_some_iff.1 h2).1
  | row f sz xs =>
    obtain ⟨_, _, us, ⟨_, h1⟩, _⟩ := h
    rcases h1 with ⟨_, a, ha⟩ | ⟨g', cap, cur, e, hv, hc, h2, _⟩
    · rw [ha] at hg; cases a <;> simp [blkOf] at hg
    · rw [hv] at hg
      simp only [blkOf] at hg
      rw [if_neg (by omega)] at hg
      cases hg
      exact (Array.getElem?_eq_some_iff.1 h2).1

/-- Nothing changes but that memory grows. -/
theorem Step.grow (hr : Rel ν w S μ H) (hg : Grows w w') (hS : ∀ g, S g → S' g) (hlt : ∀ g, S' g → g < w'.heap.size) (hnew : ∀ g, S' g → S g ∨ w.heap.size ≤ g) : Step ν w S μ H w' S' μ H := by
  have keep : ∀ g, S g → w'.heap[g]? = w.heap[g]? := fun g h => hg.keep g (hr.lt g h)
  refine ⟨⟨hlt, fun id b hb => (hr.blk id b hb).keep hS keep .refl rfl (fun g h => hg.keep g (hr.blk_lt hb h)), fun g ha hs => ?_, hr.inj⟩,
    ⟨hg.os, hg.tape, hg.output, hg.size, fun g h _ => hg.keep g h, hS, fun g h hl => ?_, fun g h _ => h⟩, .refl⟩
  · rcases hnew g hs with h | h
    · exact hr.apart g ha h
    · obtain ⟨id, b, hb, _, hb2⟩ := alive_iff.1 ha
      have := hr.blk_lt hb hb2
      omega
  · rcases hnew g h with h | h
    · exact .inl h
    · omega

theorem getElem?_push_lt {α : Type} {l : List α} {x : α} {i : Nat} (h : i < l.length) : (l ++ [x])[i]? = l[i]? := List.getElem?_append_left h
theorem moves_push {v b} : Moves μ H (upd μ H.length v) (H ++ [b]) := by
  refine ⟨by simp, fun id f sz xs hl h => ?_, fun id cs hl h => ?_⟩
  · rw [getElem?_push_lt hl] at h
    exact ⟨f, xs, h, Nat.le_refl _, fun _ => upd_ne (by omega)⟩
  · rw [getElem?_push_lt hl] at h
    exact ⟨cs, h, upd_ne (by omega)⟩

/-- A new block of the call's own. -/
theorem Step.push (hr : Rel ν w S μ H) {v : Value} {b : Blk} (hg : Grows w w') (hb : BlkRel ν w' S (upd μ H.length v) (H ++ [b]) H.length b) (hn : ∀ g, blkOf v = some g → w.heap.size ≤ g) :
    Step ν w S μ H w' S (upd μ H.length v) (H ++ [b]) := by
  have keep : ∀ g, S g → w'.heap[g]? = w.heap[g]? := fun g h => hg.keep g (hr.lt g h)
  have old : ∀ (id : Nat) c, (H ++ [b])[id]? = some c → (id < H.length ∧ H[id]? = some c) ∨ (id = H.length ∧ c = b) := by
    intro id c h
    rcases Nat.lt_trichotomy id H.length with hl | hl | hl
    · rw [getElem?_push_lt hl] at h; exact .inl ⟨hl, h⟩
    · subst hl; rw [List.getElem?_append_right (Nat.le_refl _)] at h; simp at h; exact .inr ⟨rfl, h.symm⟩
    · rw [List.getElem?_append_right (by omega)] at h
      have := (List.getElem?_eq_some_iff.1 h).1
      simp at this; omega
  have al : ∀ g, alive (upd μ H.length v) (H ++ [b]) g → alive μ H g ∨ blkOf v = some g := by
    intro g ha
    obtain ⟨id, c, h1, h2, h3⟩ := alive_iff.1 ha
    rcases old id c h1 with ⟨hl, h⟩ | ⟨rfl, rfl⟩
    · rw [upd_ne (by omega)] at h3; exact .inl (alive_iff.2 ⟨id, c, h, h2, h3⟩)
    · rw [upd_same] at h3; exact .inr h3
  refine ⟨⟨fun g h => Nat.lt_of_lt_of_le (hr.lt g h) hg.size, fun id c hc => ?_, fun g ha hs => ?_, fun i j g hi hj ai aj => ?_⟩, ⟨hg.os, hg.tape, hg.output, hg.size, fun g h _ => hg.keep g h, fun _ h => h, fun g h _ => .inl h, fun g h hl => ?_⟩, moves_push⟩
  · rcases old id c hc with ⟨hl, h⟩ | ⟨rfl, rfl⟩
    · exact (hr.blk id c h).keep (fun _ h => h) keep moves_push (upd_ne (by omega)) (fun g hb => hg.keep g (hr.blk_lt h hb))
    · exact hb
  · rcases al g ha with h | h
    · exact hr.apart g h hs
    · have := hn g h; have := hr.lt g hs; omega
  · have get : ∀ k : Nat, ((∃ cs, (H ++ [b])[k]? = some (Blk.box cs)) ∨ ∃ sz xs, (H ++ [b])[k]? = some (Blk.row false sz xs)) → ∃ c, (H ++ [b])[k]? = some c ∧ isAlive c := by
      rintro k (⟨cs, h⟩ | ⟨sz, xs, h⟩)
      · exact ⟨_, h, .inl ⟨cs, rfl⟩⟩
      · exact ⟨_, h, .inr ⟨sz, xs, rfl⟩⟩
    obtain ⟨c, hc, ac⟩ := get i ai
    obtain ⟨d, hd, ad⟩ := get j aj
    rcases old i c hc with ⟨hl, h⟩ | ⟨rfl, rfl⟩ <;> rcases old j d hd with ⟨hl2, h2⟩ | ⟨rfl, rfl⟩
    · rw [upd_ne (by omega)] at hi hj; exact hr.inj' h h2 ac ad hi hj
    · rw [upd_ne (by omega)] at hi; rw [upd_same] at hj
      have := hn g hj; have := hr.blk_lt h hi; omega
    · rw [upd_ne (by omega)] at hj; rw [upd_same] at hi
      have := hn g hi; have := hr.blk_lt h2 hj; omega
    · rfl
  · rcases al g h with h | h
    · exact h
    · have := hn g h; omega

/-- A block of the call's own changes (and may move to new memory). -/
theorem Step.set (hr : Rel ν w S μ H) {id : Nat} {v : Value} {b b' : Blk} (h0 : H[id]? = some b) (hal : isAlive b) (hos : w'.os = w.os) (htp : w'.tape = w.tape) (hout : w'.output = w.output) (hsz : w.heap.size ≤ w'.heap.size)
    (hk : ∀ g, g < w.heap.size → blkOf (μ id) ≠ some g → w'.heap[g]? = w.heap[g]?)
    (hm : Moves μ H (upd μ id v) (H.set id b')) (hb : BlkRel ν w' S (upd μ id v) (H.set id b') id b') (hn : ∀ g, blkOf v = some g → blkOf (μ id) = some g ∨ w.heap.size ≤ g) :
    Step ν w S μ H w' S (upd μ id v) (H.set id b') := by
  have hlt : id < H.length := (List.getElem?_eq_some_iff.1 h0).1
  have notS : ∀ g, S g → blkOf (μ id) ≠ some g := fun g hs hg => hr.apart g (alive_iff.2 ⟨id, b, h0, hal, hg⟩) hs
  have keep : ∀ g, S g → w'.heap[g]? = w.heap[g]? := fun g h => hk g (hr.lt g h) (notS g h)
  have old : ∀ (i : Nat) c, (H.set id b')[i]? = some c → (i ≠ id ∧ H[i]? = some c) ∨ (i = id ∧ c = b') := by
    intro i c h
    simp only [List.getElem?_set, hlt, if_true] at h
    split at h
    · rename_i e; subst e; simp only [Option.some.injEq] at h; exact .inr ⟨rfl, h.symm⟩
    · rename_i e; exact .inl ⟨Ne.symm e, h⟩
  have al : ∀ g, alive (upd μ id v) (H.set id b') g → alive μ H g ∨ blkOf v = some g := by
    intro g ha
    obtain ⟨i, c, h1, h2, h3⟩ := alive_iff.1 ha
    rcases old i c h1 with ⟨hl, h⟩ | ⟨rfl, rfl⟩
    · rw [upd_ne hl] at h3; exact .inl (alive_iff.2 ⟨i, c, h, h2, h3⟩)
    · rw [upd_same] at h3; exact .inr h3
  have far : ∀ i c g, i ≠ id → H[i]? = some c → blkOf (μ i) = some g → blkOf (μ id) ≠ some g := by
    intro i c g hne hc hg hid
    by_cases hca : isAlive c
    · exact hne (hr.inj' hc h0 hca hal hg hid)
    · cases c with
      | box cs => exact hca (.inl ⟨cs, rfl⟩)
      | row f sz xs =>
        cases f with
        | false => exact hca (.inr ⟨sz, xs, rfl⟩)
        | true =>
          obtain ⟨_, _, us, _, _, _, h4⟩ := hr.blk i _ hc
          exact notS g (h4 rfl g hg) hid
  refine ⟨⟨fun g h => Nat.lt_of_lt_of_le (hr.lt g h) hsz, fun i c hc => ?_, fun g ha hs => ?_, fun i j g hi hj ai aj => ?_⟩, ⟨hos, htp, hout, hsz, fun g h hna => ?_, fun _ h => h, fun g h _ => .inl h, fun g h hl => ?_⟩, hm⟩
  · rcases old i c hc with ⟨hl, h⟩ | ⟨rfl, rfl⟩
    · exact (hr.blk i c h).keep (fun _ h => h) keep hm (upd_ne hl) (fun g hg => hk g (hr.blk_lt h hg) (far i c g hl h hg))
    · exact hb
  · rcases al g ha with h | h
    · exact hr.apart g h hs
    · rcases hn g h with h | h
      · exact notS g hs h
      · have := hr.lt g hs; omega
  · have get : ∀ k : Nat, ((∃ cs, (H.set id b')[k]? = some (Blk.box cs)) ∨ ∃ sz xs, (H.set id b')[k]? = some (Blk.row false sz xs)) → ∃ c, (H.set id b')[k]? = some c ∧ isAlive c := by
      rintro k (⟨cs, h⟩ | ⟨sz, xs, h⟩)
      · exact ⟨_, h, .inl ⟨cs, rfl⟩⟩
      · exact ⟨_, h, .inr ⟨sz, xs, rfl⟩⟩
    obtain ⟨c, hc, ac⟩ := get i ai
    obtain ⟨d, hd, ad⟩ := get j aj
    have cross : ∀ k c, k ≠ id → H[k]? = some c → blkOf (μ k) = some g → blkOf v = some g → False := by
      intro k c hne hc hg hv
      rcases hn g hv with h | h
      · exact far k c g hne hc hg h
      · have := hr.blk_lt hc hg; omega
    rcases old i c hc with ⟨hl, h⟩ | ⟨rfl, rfl⟩ <;> rcases old j d hd with ⟨hl2, h2⟩ | ⟨rfl, rfl⟩
    · rw [upd_ne hl] at hi; rw [upd_ne hl2] at hj; exact hr.inj' h h2 ac ad hi hj
    · rw [upd_ne hl] at hi; rw [upd_same] at hj; exact (cross i c hl h hi hj).elim
    · rw [upd_ne hl2] at hj; rw [upd_same] at hi; exact (cross j d hl2 h2 hj hi).elim
    · rfl
  · exact hk g h (fun hg => hna (alive_iff.2 ⟨id, b, h0, hal, hg⟩))
  · rcases al g h with h | h
    · exact h
    · rcases hn g h with h | h
      · exact alive_iff.2 ⟨id, b, h0, hal, h⟩
      · omega
end
end Ab
