import Derived.Test.YtgdkafbcchkplaaGreatDoorAbZ1
import Derived.Carry
/- From what a claim reads to trees. -/
namespace Ab
open Go (IntKind BinOp UnOp World Value Addr Obj undef maxLen Program TypeId Oper Op Operand Act Sem Next Result execOp Builtin Calls Ending Exit DataW Lit MemPlace)

/-- Fields that lie one behind the other. -/
def tiles (P : Program) : List Go.Field → Nat → Option Nat
  | [], k => some k
  | f :: fs, k => if f.offset = k then tiles P fs (k + P.cellsOf f.type) else none

/-- Types whose values are trees. -/
def plainT (P : Program) : Nat → TypeId → Bool
  | 0, _ => false
  | n + 1, t => match P.underlying t with
    | some .bool | some (.int _) | some .string => true
    | some (.slice e) => plainT P n e && decide (0 < P.cellsOf e) && (aggB P e).isSome
    | some (.struct fs) => (match tiles P fs.toList 0 with | some k => k == P.cellsOf t | none => false) && fs.toList.all fun f => plainT P n f.type
    | _ => false

/-- The trees of types, one behind the other. -/
def okFs (R : TypeId → List PV → Prop) : List TypeId → List PV → Prop
  | [], pcs => pcs = []
  | t :: ts, pcs => ∃ a b, pcs = a ++ b ∧ R t a ∧ okFs R ts b
/-- The trees of a type. -/
def okT (P : Program) : Nat → TypeId → List PV → Prop
  | 0, _, _ => False
  | n + 1, t, pcs => match P.underlying t with
    | some .bool => ∃ b, pcs = [.bool b]
    | some (.int k) => ∃ m, pcs = [.int k m] ∧ (Lit.int k m).wf = true
    | some .string => ∃ s, pcs = [.str s] ∧ s.length ≤ maxLen
    | some (.slice e) => ∃ k xs, pcs = [.sl k (P.cellsOf e) xs] ∧ xs.length ≤ maxLen ∧ ((k = .nil ∧ xs = []) ∨ k = .mem) ∧ ∀ x ∈ xs, x.one = !((aggB P e).getD true) ∧ okT P n e x.cells
    | some (.struct fs) => okFs (okT P n) (fs.toList.map (·.type)) pcs
    | _ => False

section
variable {H : Type} {enc : TypeId × Value → H} {P : Program} {N : Names} {w : World} {sp : Nat → Bool} {held : Bool} {S : Nat → Prop}

/-- Cells as trees. -/
structure Trees (ν : Nat → Nat) (w : World) (S : Nat → Prop) (pcs : List PV) (cs : List Value) : Prop where
  len : pcs.length = cs.length
  one : ∀ c ∈ pcs, c.one = true
  rel : ∀ (j : Nat) c, pcs[j]? = some c → RelP ν w S c (cs.getD j undef)

theorem Trees.single {c : PV} {v : Value} (h : RelP N.fn w S c v) (h1 : c.one = true) : Trees N.fn w S [c] [v] :=
  ⟨rfl, by simpa using h1, fun j c' hc => by
    cases j with
    | zero => simp only [List.getElem?_cons_zero, Option.some.injEq] at hc; subst hc; simpa using h
    | succ j => simp at hc⟩
theorem Trees.append {a b : List PV} {cs ds : List Value} (ha : Trees N.fn w S a cs) (hb : Trees N.fn w S b ds) : Trees N.fn w S (a ++ b) (cs ++ ds) := by
  refine ⟨by simp [ha.len, hb.len], fun c hc => ?_, fun j c hc => ?_⟩
  · rcases List.mem_append.1 hc with h | h
    · exact ha.one c h
    · exact hb.one c h
  · by_cases hj : j < a.length
    · rw [List.getElem?_append_left hj] at hc
      have := ha.rel j c hc
      rwa [List.getD_eq_getElem?_getD, List.getElem?_append_left (by rw [← ha.len]; exact hj), ← List.getD_eq_getElem?_getD]
    · rw [List.getElem?_append_right (by omega)] at hc
      have := hb.rel _ c hc
      rwa [List.getD_eq_getElem?_getD, List.getElem?_append_right (by rw [← ha.len]; omega), ← ha.len, ← List.getD_eq_getElem?_getD]

theorem mapM_get {α β : Type} {f : α → Option β} : ∀ {l : List α} {r : List β}, l.mapM f = some r → r.length = l.length ∧ ∀ (j : Nat) x, r[j]? = some x → ∃ a, l[j]? = some a ∧ f a = some x
  | [], r, h => by simp at h; subst h; simp
  | a :: l, r, h => by
    simp only [List.mapM_cons, Option.pure_def, Option.bind_eq_bind, Option.bind_eq_some_iff, Option.some.injEq] at h
    obtain ⟨x, hx, xs, hxs, rfl⟩ := h
    obtain ⟨h1, h2⟩ := mapM_get hxs
    refine ⟨by simp [h1], fun j y hy => ?_⟩
    cases j with
    | zero => simp only [List.getElem?_cons_zero, Option.some.injEq] at hy; subst hy; exact ⟨a, rfl, hx⟩
    | succ j => simpa using h2 j y (by simpa using hy)

theorem cell?_lt {a : Addr} {v : Value} (h : w.cell? a = some v) : a.block < w.heap.size := by
  have hs := Go.World.cell?_spot h
  unfold World.cell? at h
  cases hg : w.heap[a.block]? with
  | none => simp [hg] at h
  | some o => exact (Array.getElem?_eq_some_iff.1 hg).1

theorem tiles_trees (R : TypeId → List PV → Prop) (cs : List Value) (n F : Nat) (ih : ∀ t (cs : List Value) d ps, plainT P n t = true → DataW.trod enc P w 0 sp held F t cs = some (d, ps) → ∃ pcs, R t pcs ∧ Trees N.fn w S pcs cs) :
    ∀ (fs : List Go.Field) (k m : Nat) (xs : List (DataW H × List MemPlace)), tiles P fs k = some m → (fs.all fun f => plainT P n f.type) = true → m = cs.length →
      fs.mapM (fun f => DataW.trod enc P w 0 sp held F f.type ((cs.drop f.offset).take (P.cellsOf f.type))) = some xs → k ≤ m ∧ ∃ pcs, okFs R (fs.map (·.type)) pcs ∧ Trees N.fn w S pcs (cs.drop k)
  | [], k, m, xs, ht, _, hm, _ => by
    simp only [tiles, Option.some.injEq] at ht
    subst ht
    refine ⟨Nat.le_refl _, [], rfl, ?_⟩
    rw [List.drop_of_length_le (by omega)]
    exact ⟨rfl, by simp, by simp⟩
  | f :: fs, k, m, xs, ht, hp, hm, hx => by
    simp only [tiles] at ht
    split at ht
    rotate_left
    · cases ht
    rename_i hk
    simp only [List.all_cons, Bool.and_eq_true] at hp
    simp only [List.mapM_cons, Option.pure_def, Option.bind_eq_bind, Option.bind_eq_some_iff, Option.some.injEq] at hx
    obtain ⟨⟨d, ps⟩, hd, ys, hys, rfl⟩ := hx
    obtain ⟨hle, pcs, h1, h2⟩ := tiles_trees R cs n F ih fs (k + P.cellsOf f.type) m ys ht hp.2 hm hys
    obtain ⟨a, h3, h4⟩ := ih f.type _ d ps hp.1 hd
    refine ⟨by omega, a ++ pcs, ⟨a, pcs, rfl, h3, h1⟩, ?_⟩
    have := h4.append h2
    rw [hk] at this
    rw [← List.drop_drop, List.take_append_drop] at this
    exact this

theorem trod_trees (hS : ∀ g, g < w.heap.size → S g) : ∀ (F n : Nat) (t : TypeId) (cs : List Value) d ps, plainT P n t = true → DataW.trod enc P w 0 sp held F t cs = some (d, ps) → ∃ pcs, okT P n t pcs ∧ Trees N.fn w S pcs cs
  | 0, _, _, _, _, _, _, h => by simp [DataW.trod] at h
  | F + 1, 0, _, _, _, _, hp, _ => by cases hp
  | F + 1, n + 1, t, cs, d, ps, hp, h => by
    simp only [plainT] at hp
    split at hp
    · rename_i hu
      obtain ⟨b, rfl, _⟩ := DataW.trod_bool hu h
      exact ⟨_, by rw [okT, hu]; exact ⟨b, rfl⟩, .single (.bool b) rfl⟩
    · rename_i k hu
      obtain ⟨m, rfl, _, hw⟩ := DataW.trod_int hu h
      exact ⟨_, by rw [okT, hu]; exact ⟨m, rfl, hw⟩, .single (.int k m) rfl⟩
    · rename_i hu
      obtain ⟨s, rfl, _, hs⟩ := DataW.trod_string hu h
      refine ⟨_, by rw [okT, hu]; exact ⟨s.data.toList, rfl, by rw [Array.length_toList]; exact hs⟩, .single ?_ rfl⟩
      have := RelP.str (ν := N.fn) (w := w) (S := S) s.data.toList
      simpa using this
    · rename_i e hu
      simp only [Bool.and_eq_true, decide_eq_true_eq] at hp
      obtain ⟨⟨hp, h0⟩, hag⟩ := hp
      obtain ⟨ag, hag⟩ := Option.isSome_iff_exists.1 hag
      rcases DataW.trod_slice hu h with ⟨rfl, _⟩ | ⟨a, len, cap, elems, rest, F', hF, rfl, _, _, hlc, hcm, hel, hget, _⟩
      · refine ⟨[.sl .nil (P.cellsOf e) []], by rw [okT, hu]; exact ⟨.nil, [], rfl, by simp, .inl ⟨rfl, rfl⟩, by simp⟩, .single ?_ rfl⟩
        exact .sl .nil _ [] none 0 (fun _ _ => undef) (Nat.le_refl _) (Nat.zero_le _) (by simp) (by simp) (by simp) (by simp) (by simp) (by simp)
      · obtain rfl : F = F' := by omega
        have each : ∀ i, i < len → ∃ (x : PV) (us : List Value), us.length = P.cellsOf e ∧ (∀ j, j < P.cellsOf e → w.cell? ((a.add (i * P.cellsOf e)).add j) = us[j]?) ∧ x.one = !ag ∧ okT P n e x.cells ∧ Trees N.fn w S x.cells us := by
          intro i hi
          have := hget i hi
          rw [List.getElem?_eq_getElem (by omega)] at this
          obtain ⟨us, hus, hd⟩ := Option.bind_eq_some_iff.1 this
          obtain ⟨_, hul, huc⟩ := Go.World.cells?_some hus
          obtain ⟨pcs, hok, htr⟩ := trod_trees hS F n e us _ _ hp hd
          cases ag with
          | true => exact ⟨.agg pcs, us, hul, huc, rfl, hok, htr⟩
          | false =>
            obtain ⟨c, rfl⟩ : ∃ c, pcs = [c] := by
              cases n with
              | zero => exact hok.elim
              | succ n =>
                rw [okT] at hok
                unfold aggB at hag
                split at hok
                · obtain ⟨_, h⟩ := hok; exact ⟨_, h⟩
                · obtain ⟨_, h, _⟩ := hok; exact ⟨_, h⟩
                · obtain ⟨_, h, _⟩ := hok; exact ⟨_, h⟩
                · obtain ⟨_, _, h, _⟩ := hok; exact ⟨_, h⟩
                · rename_i hs; rw [hs] at hag; simp at hag
                · exact hok.elim
            have hone := htr.one c (by simp)
            exact ⟨c, us, hul, huc, hone, by rw [PV.cells_one hone]; exact hok, by rw [PV.cells_one hone]; exact htr⟩
        have : ∃ (xs : List PV) (us : Nat → List Value), xs.length = len ∧ ∀ i x, xs[i]? = some x → (us i).length = P.cellsOf e ∧ (∀ j, j < P.cellsOf e → w.cell? ((a.add (i * P.cellsOf e)).add j) = (us i)[j]?) ∧ x.one = !ag ∧ okT P n e x.cells ∧ Trees N.fn w S x.cells (us i) := by
          refine ⟨(List.range len).map fun i => if hi : i < len then (each i hi).choose else .nilp, fun i => if hi : i < len then (each i hi).choose_spec.choose else [], by simp, fun i x hx => ?_⟩
          simp only [List.getElem?_map, Option.map_eq_some_iff] at hx
          obtain ⟨i', hi', rfl⟩ := hx
          obtain ⟨hlt, he⟩ := List.getElem?_eq_some_iff.1 hi'
          simp only [List.length_range] at hlt
          simp only [List.getElem_range] at he
          subst he
          simp only [hlt, dif_pos]
          exact (each i hlt).choose_spec.choose_spec
        obtain ⟨xs, us, hxl, hxs⟩ := this
        refine ⟨[.sl .mem (P.cellsOf e) xs], by rw [okT, hu]; refine ⟨.mem, xs, rfl, by omega, .inr rfl, fun x hx => ?_⟩; obtain ⟨i, hi⟩ := List.getElem?_of_mem hx; obtain ⟨_, _, h3, h4, _⟩ := hxs i x hi; rw [hag]; exact ⟨h3, h4⟩, .single ?_ rfl⟩
        rw [← hxl]
        refine .sl .mem _ xs (some a) cap (fun i j => (us i).getD j undef) (by omega) hcm (fun x hx => ?_) (by simp) (by simp) (fun hne => ⟨a, rfl, hS _ ?_⟩) (fun ad had i x j c hx hc => ?_) (fun i x j c hx hc => ?_)
        · obtain ⟨i, hi⟩ := List.getElem?_of_mem hx
          obtain ⟨h1, _, _, _, h5⟩ := hxs i x hi
          exact ⟨by rw [h5.len, h1], h5.one⟩
        · cases xs with
          | nil => exact absurd rfl hne
          | cons x xs =>
            obtain ⟨h1, h2, _, _, _⟩ := hxs 0 x rfl
            have := h2 0 h0
            rw [List.getElem?_eq_getElem (by omega)] at this
            have := cell?_lt this
            rwa [block_add, block_add] at this
        · cases had
          obtain ⟨h1, h2, _, _, h5⟩ := hxs i x hx
          have hj : j < P.cellsOf e := by rw [← h1, ← h5.len]; exact (List.getElem?_eq_some_iff.1 hc).1
          have := h2 j hj
          rw [add_add] at this
          rw [this, List.getD_eq_getElem?_getD, List.getElem?_eq_getElem (by omega), Option.getD_some]
        · obtain ⟨_, _, _, _, h5⟩ := hxs i x hx
          exact h5.rel j c hc
    · rename_i fs hu
      simp only [Bool.and_eq_true] at hp
      obtain ⟨hp1, hp2⟩ := hp
      split at hp1
      · rename_i k hk
        simp only [beq_iff_eq] at hp1
        obtain ⟨xs, F', hF, _, hl, hxl, hget⟩ := DataW.trod_struct hu h
        obtain rfl : F = F' := by omega
        have hm : fs.toList.mapM (fun f => DataW.trod enc P w 0 sp held F f.type ((cs.drop f.offset).take (P.cellsOf f.type))) = some xs := by
          have key : ∀ (l : List Go.Field) (ys : List (DataW H × List MemPlace)), ys.length = l.length → (∀ (i : Nat) f, l[i]? = some f → DataW.trod enc P w 0 sp held F f.type ((cs.drop f.offset).take (P.cellsOf f.type)) = ys[i]?) →
              l.mapM (fun f => DataW.trod enc P w 0 sp held F f.type ((cs.drop f.offset).take (P.cellsOf f.type))) = some ys := by
            intro l
            induction l with
            | nil => intro ys h1 _; cases ys with | nil => rfl | cons _ _ => simp at h1
            | cons f l ih =>
              intro ys h1 h2
              cases ys with
              | nil => simp at h1
              | cons y ys =>
                have e0 := h2 0 f rfl
                simp only [List.getElem?_cons_zero] at e0
                have e1 := ih ys (by simpa using h1) fun i g hg => by simpa using h2 (i + 1) g (by simpa using hg)
                simp [List.mapM_cons, e0, e1]
          exact key fs.toList xs (by simpa using hxl) fun i f hf => hget i f (by simpa using hf)
        obtain ⟨_, pcs, h1, h2⟩ := tiles_trees (N := N) (S := S) (okT P n) cs n F (fun t cs d ps hp hd => trod_trees hS F n t cs d ps hp hd) fs.toList 0 k xs hk hp2 (by omega) hm
        refine ⟨pcs, by rw [okT, hu]; exact h1, by simpa using h2⟩
      · cases hp1
    · cases hp
end
end Ab
