
/- Values in millionths: what chapters 1 and 6 compute, in plain Lean. -/
namespace Ab
abbrev Val := Bool × Int
def maxN : Int := 4611686018427387904
def noV : Val := (false, 0)
def isV (v : Val) : Bool := if v.1 = true then decide (-maxN ≤ v.2 ∧ v.2 ≤ maxN) else decide (v.2 = 0)
def knV (v : Val) : Bool := v.1 && isV v
def ofV (n : Int) : Val := if -maxN ≤ n ∧ n ≤ maxN then (true, n) else noV
def intV (n : Int) : Val := if -maxN ≤ n * 1000000 ∧ n * 1000000 ≤ maxN then (true, n * 1000000) else noV
def sumV (a b : Val) : Val := if knV a = true ∧ knV b = true then ofV (a.2 + b.2) else noV
def addV (l : List Val) : Val := l.foldl sumV (ofV 0)
def lessV (a b : Val) : Bool := knV a && knV b && decide (a.2 < b.2)
def knL (l : List Val) : List Val := l.filter knV
/-- a times b by c, rounded half away from nothing; none: c is 0, or it is too much. -/
def mdV (a b c : Int) : Option Int :=
  if c = 0 then none else
    let q := (a.natAbs * b.natAbs) / c.natAbs
    let r := (a.natAbs * b.natAbs) % c.natAbs
    let q' := if c.natAbs - r ≤ r then q + 1 else q
    if (q' : Int) ≤ maxN then some (if ((decide (a < 0) != decide (b < 0)) != decide (c < 0)) = true then -(q' : Int) else q') else none
def valV : Option Int → Val
  | some n => ofV n
  | none => noV
def mulV (a b : Val) : Val := if knV a = true ∧ knV b = true then valV (mdV a.2 b.2 1000000) else noV
def divV (a b : Val) : Val := if knV a = true ∧ knV b = true then valV (mdV a.2 1000000 b.2) else noV
def maxV (b : Val) (l : List Val) : Val := l.foldl (fun b v => if b.2 < v.2 then v else b) b
def minV (b : Val) (l : List Val) : Val := l.foldl (fun b v => if v.2 < b.2 then v else b) b
/-- Many values as one. -/
def aggV (kind : Int) (l : List Val) : Val :=
  match knL l with
  | [] => noV
  | b :: k =>
    if kind = 1 then divV (addV (b :: k)) (intV ((b :: k).length : Nat)) else
    if kind = 2 then addV (b :: k) else
    if kind = 3 then (b :: k).getLastD noV else
    if kind = 4 then maxV b k else
    if kind = 5 then minV b k else noV
theorem knV_iff {v : Val} : knV v = true ↔ v.1 = true ∧ -maxN ≤ v.2 ∧ v.2 ≤ maxN := by
  unfold knV isV
  constructor
  · intro h
    simp only [Bool.and_eq_true] at h
    obtain ⟨h1, h2⟩ := h
    rw [if_pos h1] at h2
    exact ⟨h1, by simpa using h2⟩
  · rintro ⟨h1, h2⟩
    simp [h1, h2]
theorem knV_bound {v : Val} (h : knV v = true) : -4611686018427387904 ≤ v.2 ∧ v.2 ≤ 4611686018427387904 := (knV_iff.1 h).2
theorem ofV_isV (n : Int) : isV (ofV n) = true := by
  unfold ofV isV noV
  split <;> simp_all
theorem sumV_isV (a b : Val) : isV (sumV a b) = true := by
  unfold sumV
  split
  · exact ofV_isV _
  · rfl
theorem knL_mem {l : List Val} {v : Val} (h : v ∈ knL l) : knV v = true := (List.mem_filter.1 h).2
end Ab
