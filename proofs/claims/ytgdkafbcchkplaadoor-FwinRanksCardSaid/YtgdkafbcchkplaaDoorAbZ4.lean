import Derived.Test.YtgdkafbcchkplaaDoorAbZ3
/- A table that a row lays, wherever on the list it stands. -/
namespace Ab
open Go
theorem tabIs_of_laid {P : Program} {W : World} {name : String} {k : IntKind} {zs : List Int} {g : Nat} {t e : TypeId} {n : Nat}
    (hg : P.globalNamed name = some g) (hty : (P.globals[g]?).map (·.type) = some t) (ht : P.underlying t = some (.array n e)) (he : P.underlying e = some (.int k)) (hce : P.cellsOf e = 1) (hct : P.cellsOf t = n) :
    ∀ {laid : List (String × DataW Unit)} {ps : List MemPlace}, DataW.LaidVars P W laid ps → ∀ i : Nat, laid[i]? = some (name, Lib.tabData k zs) → Lib.TabIs P W name k zs
  | [], _, _, i, h => by simp at h
  | (n0, d0) :: r, _, ⟨g', t', cs, fuel, p, q, hg', ht', hvar, hd, hr, _⟩, i, h => by
    cases i with
    | zero =>
      simp only [List.getElem?_cons_zero, Option.some.injEq, Prod.mk.injEq] at h
      obtain ⟨rfl, rfl⟩ := h
      obtain rfl := Option.some.inj (hg.symm.trans hg')
      obtain rfl := Option.some.inj (hty.symm.trans ht')
      unfold Lib.TabIs
      rw [hvar, ← Lib.cells_of_tab ht he hce hct hd]
    | succ i => exact tabIs_of_laid hg hty ht he hce hct hr i (by simpa using h)
end Ab
