import Derived.Test.YtgdkafbcchkplaaGreatDoorAbT
/- Series as trees. -/
namespace Ab
open Go (IntKind BinOp UnOp World Value Addr Obj undef maxLen Program TypeId)
def structIs (P : Program) (t : TypeId) (l : List TypeId) : Bool := match P.underlying t with
  | some (.struct fs) => fs.toList.map (·.type) == l
  | _ => false
theorem structIs_spec {P : Program} {t : TypeId} {l : List TypeId} (h : structIs P t l = true) : ∃ fs, P.underlying t = some (.struct fs) ∧ fs.toList.map (·.type) = l := by
  unfold structIs at h
  split at h
  · rename_i fs hf; exact ⟨fs, hf, by simpa using h⟩
  · cases h
/-- The types of a series' parts in a program. -/
structure SerT (P : Program) (t ts ti tv te tb : TypeId) : Prop where
  s : structIs P t [ts, ti, ti, tv, ti] = true
  str : P.underlying ts = some .string
  int : P.underlying ti = some (.int .i64)
  vals : P.underlying tv = some (.slice te)
  v : structIs P te [tb, ti] = true
  bool : P.underlying tb = some .bool
  cells : P.cellsOf te = 2
theorem not_one {p : PV} (h : p.one = false) : p = .agg p.cells := by cases p <;> first | rfl | cases h
theorem aggB_struct {P : Program} {t : TypeId} {fs} (h : P.underlying t = some (.struct fs)) : aggB P t = some true := by unfold aggB; rw [h]
/-- A series whose parts are in range. -/
structure Ser.Ok (k : SK) (s : Ser) : Prop where
  name : s.name.length ≤ maxLen
  start : -9223372036854775808 ≤ s.start ∧ s.start ≤ 9223372036854775807
  step : -9223372036854775808 ≤ s.step ∧ s.step ≤ 9223372036854775807
  cons : -9223372036854775808 ≤ s.cons ∧ s.cons ≤ 9223372036854775807
  len : s.vals.length ≤ maxLen
  kind : (k = .nil ∧ s.vals = []) ∨ k = .mem
  vals : ∀ x ∈ s.vals, -9223372036854775808 ≤ x.2 ∧ x.2 ≤ 9223372036854775807
theorem okT_val {P : Program} {t ts ti tv te tb : TypeId} (T : SerT P t ts ti tv te tb) {n : Nat} {x : PV} (h1 : x.one = !((aggB P te).getD true)) (h : okT P (n + 2) te x.cells) : ∃ y : Bool × Int, x = .agg (valP y) ∧ -9223372036854775808 ≤ y.2 ∧ y.2 ≤ 9223372036854775807 := by
  obtain ⟨fs, h2, h3⟩ := structIs_spec T.v
  rw [aggB_struct h2] at h1
  have e := not_one (by simpa using h1)
  simp only [okT, h2, h3, okFs] at h
  obtain ⟨a, b, e1, ha, c, d, rfl, hc, rfl⟩ := h
  simp only [T.bool] at ha
  simp only [T.int] at hc
  obtain ⟨q, rfl⟩ := ha
  obtain ⟨m, rfl, hm⟩ := hc
  rw [e1] at e
  exact ⟨(q, m), e, i64_wf hm⟩
theorem treeT_series {P : Program} {t ts ti tv te tb : TypeId} (T : SerT P t ts ti tv te tb) {n : Nat} {p : PV} (h : treeT P (n + 4) p t) : ∃ k s, p = s.pv k ∧ Ser.Ok k s := by
  obtain ⟨h1, h2⟩ := h
  obtain ⟨fs, h3, h4⟩ := structIs_spec T.s
  rw [aggB_struct h3] at h1
  have e := not_one (by simpa using h1)
  rw [okT] at h2
  simp only [h3, h4, okFs] at h2
  obtain ⟨a1, b1, e1, g1, a2, b2, rfl, g2, a3, b3, rfl, g3, a4, b4, rfl, g4, a5, b5, rfl, g5, rfl⟩ := h2
  rw [okT] at g1 g2 g3 g4 g5
  simp only [T.str] at g1
  simp only [T.int] at g2 g3 g5
  simp only [T.vals] at g4
  obtain ⟨s, rfl, hs⟩ := g1
  obtain ⟨m2, rfl, hm2⟩ := g2
  obtain ⟨m3, rfl, hm3⟩ := g3
  obtain ⟨m5, rfl, hm5⟩ := g5
  obtain ⟨k, xs, rfl, hl, hk, hx⟩ := g4
  have key : ∀ xs : List PV, (∀ x ∈ xs, x.one = !((aggB P te).getD true) ∧ okT P (n + 2) te x.cells) → ∃ l : List (Bool × Int), xs = vpv l ∧ ∀ x ∈ l, -9223372036854775808 ≤ x.2 ∧ x.2 ≤ 9223372036854775807 := by
    intro xs
    induction xs with
    | nil => exact fun _ => ⟨[], rfl, by simp⟩
    | cons x xs ih =>
      intro hx
      obtain ⟨y, rfl, hy⟩ := okT_val T (hx x (by simp)).1 (hx x (by simp)).2
      obtain ⟨l, rfl, hl⟩ := ih fun z hz => hx z (by simp [hz])
      exact ⟨y :: l, rfl, fun z hz => by
        rcases List.mem_cons.1 hz with rfl | h
        · exact hy
        · exact hl z h⟩
  obtain ⟨l, rfl, hv⟩ := key xs hx
  rw [vpv_len] at hl
  refine ⟨k, ⟨s, m2, m3, l, m5⟩, ?_, hs, i64_wf hm2, i64_wf hm3, i64_wf hm5, hl, ?_, hv⟩
  · rw [e, e1, T.cells]; rfl
  · rcases hk with ⟨h, h'⟩ | h
    · refine .inl ⟨h, ?_⟩
      have := congrArg List.length h'
      rw [vpv_len] at this
      exact List.eq_nil_of_length_eq_zero this
    · exact .inr h
end Ab
