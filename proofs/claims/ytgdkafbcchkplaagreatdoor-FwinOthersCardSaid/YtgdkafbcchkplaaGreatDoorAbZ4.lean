import Derived.Test.YtgdkafbcchkplaaGreatDoorPSer
import Derived.Test.YtgdkafbcchkplaaGreatDoorAbZ3
/- Values and rows of values as trees. -/
namespace Ab
open Go (IntKind BinOp UnOp World Value Addr Obj undef maxLen Program TypeId)
structure ValT (P : Program) (te ti tb : TypeId) : Prop where
  int : P.underlying ti = some (.int .i64)
  v : structIs P te [tb, ti] = true
  bool : P.underlying tb = some .bool
  cells : P.cellsOf te = 2
theorem okT_val' {P : Program} {te ti tb : TypeId} (T : ValT P te ti tb) {n : Nat} {x : PV} (h1 : x.one = !((aggB P te).getD true)) (h : okT P (n + 2) te x.cells) : ∃ y : Bool × Int, x = .agg (valP y) ∧ -9223372036854775808 ≤ y.2 ∧ y.2 ≤ 9223372036854775807 := by
  obtain ⟨fs, h2, h3⟩ := structIs_spec T.v
  rw [aggB_struct h2] at h1
  have e := not_one (by simpa using h1)
  simp only [okT, h2, h3, okFs] at h
  obtain ⟨a, b, e1, ha, c, d, rfl, hc, rfl⟩ := h
  simp only [T.bool] at ha
  simp only [T.int] at hc
  obtain ⟨q, rfl⟩ := ha
  obtain ⟨m, rfl, hm⟩ := hc
  rw [e1] at e
  exact ⟨(q, m), e, i64_wf hm⟩
theorem treeT_val {P : Program} {te ti tb : TypeId} (T : ValT P te ti tb) {n : Nat} {p : PV} (h : treeT P (n + 2) p te) : ∃ y : Bool × Int, p = .agg [.bool y.1, .int .i64 y.2] ∧ -9223372036854775808 ≤ y.2 ∧ y.2 ≤ 9223372036854775807 := by
  obtain ⟨h1, h2⟩ := h
  obtain ⟨fs, h3, h4⟩ := structIs_spec T.v
  refine okT_val' T (n := n) ?_ h2
  rw [h1, aggB_struct h3]
theorem treeT_vals {P : Program} {t te ti tb : TypeId} (T : ValT P te ti tb) {n : Nat} {p : PV} (h : treeT P (n + 3) p t) (ht : P.underlying t = some (.slice te)) (ha : aggB P t = some false) :
    ∃ k l, p = .sl k 2 (vpv l) ∧ l.length ≤ maxLen ∧ ((k = .nil ∧ l = []) ∨ k = .mem) ∧ ∀ x ∈ l, -9223372036854775808 ≤ x.2 ∧ x.2 ≤ 9223372036854775807 := by
  obtain ⟨k, xs, rfl, hl, hk, hx⟩ := treeT_slice h ht ha
  rw [T.cells]
  have key : ∀ xs : List PV, (∀ x ∈ xs, treeT P (n + 2) x te) → ∃ l : List (Bool × Int), xs = vpv l ∧ ∀ x ∈ l, -9223372036854775808 ≤ x.2 ∧ x.2 ≤ 9223372036854775807 := by
    intro xs
    induction xs with
    | nil => exact fun _ => ⟨[], rfl, by simp⟩
    | cons x xs ih =>
      intro hx
      obtain ⟨y, rfl, hy⟩ := treeT_val T (hx x (by simp))
      obtain ⟨l, rfl, hl⟩ := ih fun z hz => hx z (by simp [hz])
      exact ⟨y :: l, rfl, fun z hz => by
        rcases List.mem_cons.1 hz with rfl | h
        · exact hy
        · exact hl z h⟩
  obtain ⟨l, rfl, hv⟩ := key xs hx
  rw [vpv_len] at hl
  refine ⟨k, l, rfl, hl, ?_, hv⟩
  rcases hk with ⟨h, h'⟩ | h
  · refine .inl ⟨h, ?_⟩
    have := congrArg List.length h'
    rw [vpv_len] at this
    exact List.eq_nil_of_length_eq_zero this
  · exact .inr h
/-- Rows of series. -/
def sers (l : List (SK × Ser)) : List PV := l.map fun x => x.2.pv x.1
theorem treeT_sers {P : Program} {t e ts ti tv te tb : TypeId} (T : SerT P e ts ti tv te tb) {n : Nat} {p : PV} (h : treeT P (n + 5) p t) (ht : P.underlying t = some (.slice e)) (ha : aggB P t = some false) (hc : P.cellsOf e = 5) :
    ∃ k l, p = .sl k 5 (sers l) ∧ l.length ≤ maxLen ∧ ((k = .nil ∧ l = []) ∨ k = .mem) ∧ ∀ x ∈ l, Ser.Ok x.1 x.2 := by
  obtain ⟨k, xs, rfl, hl, hk, hx⟩ := treeT_slice h ht ha
  rw [hc]
  have key : ∀ xs : List PV, (∀ x ∈ xs, treeT P (n + 4) x e) → ∃ l : List (SK × Ser), xs = sers l ∧ ∀ x ∈ l, Ser.Ok x.1 x.2 := by
    intro xs
    induction xs with
    | nil => exact fun _ => ⟨[], rfl, by simp⟩
    | cons x xs ih =>
      intro hx
      obtain ⟨k, s, rfl, hs⟩ := treeT_series T (hx x (by simp))
      obtain ⟨l, rfl, hl⟩ := ih fun z hz => hx z (by simp [hz])
      exact ⟨(k, s) :: l, rfl, fun z hz => by
        rcases List.mem_cons.1 hz with rfl | h
        · exact hs
        · exact hl z h⟩
  obtain ⟨l, rfl, hv⟩ := key xs hx
  refine ⟨k, l, rfl, by simpa [sers] using hl, ?_, hv⟩
  rcases hk with ⟨h, h'⟩ | h
  · exact .inl ⟨h, by simpa [sers] using h'⟩
  · exact .inr h
end Ab
/- A table that a row lays, wherever on the list it stands. -/
namespace Ab
open Go
theorem tabIs_of_laid {P : Program} {W : World} {name : String} {k : IntKind} {zs : List Int} {g : Nat} {t e : TypeId} {n : Nat}
    (hg : P.globalNamed name = some g) (hty : (P.globals[g]?).map (·.type) = some t) (ht : P.underlying t = some (.array n e)) (he : P.underlying e = some (.int k)) (hce : P.cellsOf e = 1) (hct : P.cellsOf t = n) :
    ∀ {laid : List (String × DataW Unit)} {ps : List MemPlace}, DataW.LaidVars P W laid ps → ∀ i : Nat, laid[i]? = some (name, Lib.tabData k zs) → Lib.TabIs P W name k zs
  | [], _, _, i, h => by simp at h
  | (n0, d0) :: r, _, ⟨g', t', cs, fuel, p, q, hg', ht', hvar, hd, hr, _⟩, i, h => by
    cases i with
    | zero =>
      simp only [List.getElem?_cons_zero, Option.some.injEq, Prod.mk.injEq] at h
      obtain ⟨rfl, rfl⟩ := h
      obtain rfl := Option.some.inj (hg.symm.trans hg')
      obtain rfl := Option.some.inj (hty.symm.trans ht')
      unfold Lib.TabIs
      rw [hvar, ← Lib.cells_of_tab ht he hce hct hd]
    | succ i => exact tabIs_of_laid hg hty ht he hce hct hr i (by simpa using h)
end Ab
