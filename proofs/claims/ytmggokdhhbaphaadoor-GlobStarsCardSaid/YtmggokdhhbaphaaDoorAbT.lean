import Derived.Test.YtmggokdhhbaphaaDoorAbB4
import Derived.Test.YtmggokdhhbaphaaDoorAbRow
/- What a claim's arguments are as trees. -/
namespace Ab
open Go (IntKind BinOp UnOp World Value Addr Obj undef maxLen Program TypeId)

theorem all2_1 {α β : Type} {R : α → β → Prop} {l : List α} {a : β} (h : All2 R l [a]) : ∃ p, l = [p] ∧ R p a := by
  match l, h with
  | [p], ⟨h1, _⟩ => exact ⟨p, rfl, h1⟩
theorem all2_2 {α β : Type} {R : α → β → Prop} {l : List α} {a b : β} (h : All2 R l [a, b]) : ∃ p q, l = [p, q] ∧ R p a ∧ R q b := by
  match l, h with
  | [p, q], ⟨h1, h2, _⟩ => exact ⟨p, q, rfl, h1, h2⟩
theorem all2_3 {α β : Type} {R : α → β → Prop} {l : List α} {a b c : β} (h : All2 R l [a, b, c]) : ∃ p q r, l = [p, q, r] ∧ R p a ∧ R q b ∧ R r c := by
  match l, h with
  | [p, q, r], ⟨h1, h2, h3, _⟩ => exact ⟨p, q, r, rfl, h1, h2, h3⟩
theorem all2_4 {α β : Type} {R : α → β → Prop} {l : List α} {a b c d : β} (h : All2 R l [a, b, c, d]) : ∃ p q r s, l = [p, q, r, s] ∧ R p a ∧ R q b ∧ R r c ∧ R s d := by
  match l, h with
  | [p, q, r, s], ⟨h1, h2, h3, h4, _⟩ => exact ⟨p, q, r, s, rfl, h1, h2, h3, h4⟩
theorem one_cells {p c : PV} (h : p.one = true) (hc : p.cells = [c]) : p = c := by
  cases p <;> simp_all [PV.cells, PV.one]
theorem treeT_string {P : Program} {n : Nat} {p : PV} {t : TypeId} (h : treeT P (n + 1) p t) (ht : P.underlying t = some .string) (ha : aggB P t = some false) : ∃ s, p = .str s ∧ s.length ≤ maxLen := by
  obtain ⟨h1, h2⟩ := h
  rw [ha] at h1
  simp only [okT, ht] at h2
  obtain ⟨s, e, hs⟩ := h2
  exact ⟨s, one_cells (by simpa using h1) e, hs⟩
theorem treeT_bool {P : Program} {n : Nat} {p : PV} {t : TypeId} (h : treeT P (n + 1) p t) (ht : P.underlying t = some .bool) (ha : aggB P t = some false) : ∃ b, p = .bool b := by
  obtain ⟨h1, h2⟩ := h
  rw [ha] at h1
  simp only [okT, ht] at h2
  obtain ⟨s, e⟩ := h2
  exact ⟨s, one_cells (by simpa using h1) e⟩
theorem treeT_int {P : Program} {n : Nat} {p : PV} {t : TypeId} {k : IntKind} (h : treeT P (n + 1) p t) (ht : P.underlying t = some (.int k)) (ha : aggB P t = some false) : ∃ m, p = .int k m ∧ (Go.Lit.int k m).wf = true := by
  obtain ⟨h1, h2⟩ := h
  rw [ha] at h1
  simp only [okT, ht] at h2
  obtain ⟨s, e, hs⟩ := h2
  exact ⟨s, one_cells (by simpa using h1) e, hs⟩
theorem treeT_slice {P : Program} {n : Nat} {p : PV} {t e : TypeId} (h : treeT P (n + 1) p t) (ht : P.underlying t = some (.slice e)) (ha : aggB P t = some false) :
    ∃ k xs, p = .sl k (P.cellsOf e) xs ∧ xs.length ≤ maxLen ∧ ((k = .nil ∧ xs = []) ∨ k = .mem) ∧ ∀ x ∈ xs, treeT P n x e := by
  obtain ⟨h1, h2⟩ := h
  rw [ha] at h1
  simp only [okT, ht] at h2
  obtain ⟨k, xs, e1, hs, hk, hx⟩ := h2
  exact ⟨k, xs, one_cells (by simpa using h1) e1, hs, hk, hx⟩
theorem i64_wf {m : Int} (h : (Go.Lit.int .i64 m).wf = true) : -9223372036854775808 ≤ m ∧ m ≤ 9223372036854775807 := by
  simp [Go.Lit.wf, IntKind.min, IntKind.max, IntKind.bits, IntKind.signed] at h
  omega
theorem treeT_ints {P : Program} {n : Nat} {p : PV} {t e : TypeId} {k : IntKind} (h : treeT P (n + 2) p t) (ht : P.underlying t = some (.slice e)) (ha : aggB P t = some false) (he : P.underlying e = some (.int k)) (hae : aggB P e = some false) (hc : P.cellsOf e = 1) :
    ∃ kk ns, p = .sl kk 1 (ints k ns) ∧ ns.length ≤ maxLen ∧ ((kk = .nil ∧ ns = []) ∨ kk = .mem) ∧ ∀ m ∈ ns, (Go.Lit.int k m).wf = true := by
  obtain ⟨kk, xs, rfl, hl, hk, hx⟩ := treeT_slice h ht ha
  rw [hc]
  have key : ∀ xs : List PV, (∀ x ∈ xs, treeT P (n + 1) x e) → ∃ ns, xs = ints k ns ∧ ∀ m ∈ ns, (Go.Lit.int k m).wf = true := by
    intro xs
    induction xs with
    | nil => exact fun _ => ⟨[], rfl, by simp⟩
    | cons x xs ih =>
      intro hx
      obtain ⟨m, rfl, hm⟩ := treeT_int (hx x (by simp)) he hae
      obtain ⟨ns, rfl, hns⟩ := ih fun y hy => hx y (by simp [hy])
      exact ⟨m :: ns, rfl, by simpa using ⟨hm, hns⟩⟩
  obtain ⟨ns, rfl, hns⟩ := key xs hx
  refine ⟨kk, ns, rfl, by simpa [ints] using hl, ?_, hns⟩
  rcases hk with ⟨h1, h2⟩ | h
  · exact .inl ⟨h1, by simpa [ints] using h2⟩
  · exact .inr h
theorem treeT_strs {P : Program} {n : Nat} {p : PV} {t e : TypeId} (h : treeT P (n + 2) p t) (ht : P.underlying t = some (.slice e)) (ha : aggB P t = some false) (he : P.underlying e = some .string) (hae : aggB P e = some false) (hc : P.cellsOf e = 1) :
    ∃ kk l, p = .sl kk 1 (strs l) ∧ l.length ≤ maxLen ∧ ((kk = .nil ∧ l = []) ∨ kk = .mem) ∧ ∀ s ∈ l, s.length ≤ maxLen := by
  obtain ⟨kk, xs, rfl, hl, hk, hx⟩ := treeT_slice h ht ha
  rw [hc]
  have key : ∀ xs : List PV, (∀ x ∈ xs, treeT P (n + 1) x e) → ∃ l, xs = strs l ∧ ∀ s ∈ l, s.length ≤ maxLen := by
    intro xs
    induction xs with
    | nil => exact fun _ => ⟨[], rfl, by simp⟩
    | cons x xs ih =>
      intro hx
      obtain ⟨m, rfl, hm⟩ := treeT_string (hx x (by simp)) he hae
      obtain ⟨ns, rfl, hns⟩ := ih fun y hy => hx y (by simp [hy])
      exact ⟨m :: ns, rfl, by simpa using ⟨hm, hns⟩⟩
  obtain ⟨ns, rfl, hns⟩ := key xs hx
  refine ⟨kk, ns, rfl, by simpa [strs] using hl, ?_, hns⟩
  rcases hk with ⟨h1, h2⟩ | h
  · exact .inl ⟨h1, by simpa [strs] using h2⟩
  · exact .inr h

theorem law_of_res {Γ : Ctx} {f : Nat} {ps : List PV} (h : res Γ f ps = some [.bool true]) : ∃ m h, callOf Γ (ev Γ m) f (ps.map .p) [] = some ([.p (.bool true)], h) := by
  obtain ⟨n, ⟨vs, H⟩, h1, h2⟩ := of_res h
  refine ⟨n, H, ?_⟩
  rw [h1]
  match vs, h2 with
  | [v], h2 =>
    simp only [mapO_cons, mapO_nil, Option.map_some] at h2
    obtain ⟨x, hx, he⟩ := Option.bind_eq_some_iff.1 h2
    simp only [Option.some.injEq, List.cons.injEq, and_true] at he
    subst he
    congr 3
    cases v with
    | p v => rw [reify_p] at hx; cases hx; rfl
    | own id n => rw [reify_own] at hx; obtain ⟨_, _, h⟩ := Option.map_eq_some_iff.1 hx; cases h
    | bx id off =>
      rw [reify_bx] at hx
      obtain ⟨cs, _, h⟩ := Option.bind_eq_some_iff.1 hx
      split at h
      · obtain ⟨_, _, h⟩ := Option.map_eq_some_iff.1 h; cases h
      · cases h
    | el id n i off =>
      rw [reify_el] at hx
      obtain ⟨cs, _, h⟩ := Option.bind_eq_some_iff.1 hx
      obtain ⟨x, _, h⟩ := Option.bind_eq_some_iff.1 h
      split at h <;> cases h
    | agg cs => rw [reify_agg] at hx; obtain ⟨_, _, h⟩ := Option.map_eq_some_iff.1 hx; cases h
    | clo f cs => rw [reify_clo] at hx; obtain ⟨_, _, h⟩ := Option.map_eq_some_iff.1 hx; cases h
    | tup cs => cases hx
    | nov => cases hx
    | any => cases hx
  | [], h2 => simp [mapO] at h2
  | v :: w :: r, h2 =>
    simp only [mapO_cons] at h2
    obtain ⟨x, hx, he⟩ := Option.bind_eq_some_iff.1 h2
    obtain ⟨y, hy, he⟩ := Option.map_eq_some_iff.1 he
    obtain ⟨z, hz, hy⟩ := Option.bind_eq_some_iff.1 hy
    obtain ⟨u, hu, hy⟩ := Option.map_eq_some_iff.1 hy
    subst hy
    cases he
end Ab
