import Derived.Test.YtiaplnepogjedaaGreatDoorAbMem2
import Derived.Test.YtiaplnepogjedaaGreatDoorAbTS
namespace Ab
open Go (IntKind BinOp UnOp)
def noSer : SK × Ser := (.nil, ⟨[], 0, 0, [], 0⟩)
def serC (x : SK × Ser) : List PV := [.str x.2.name, .int .i64 x.2.start, .int .i64 x.2.step, .sl x.1 2 (vpv x.2.vals), .int .i64 x.2.cons]
def sers (l : List (SK × Ser)) : List PV := l.map fun x => .agg (serC x)
theorem sers_len {l} : (sers l).length = l.length := by simp [sers]
theorem sers_nil : sers [] = [] := rfl
theorem sers_app {l l'} : sers l ++ sers l' = sers (l ++ l') := by simp [sers]
theorem sers_one {l k nm st sp v cs} : sers l ++ [.agg [.str nm, .int .i64 st, .int .i64 sp, .sl k 2 (vpv v), .int .i64 cs]] = sers (l ++ [(k, ⟨nm, st, sp, v, cs⟩)]) := by simp [sers, serC]
theorem sers_get {l : List (SK × Ser)} {i : Nat} (h : i < l.length) : (sers l)[i]? = some (.agg (serC (l.getD i noSer))) := by simp [sers, List.getElem?_eq_getElem h]
theorem sers_take {l n} : (sers l).take n = sers (l.take n) := by simp [sers, List.map_take]
theorem sers_drop {l n} : (sers l).drop n = sers (l.drop n) := by simp [sers, List.map_drop]
theorem iaddr_sers {H xs k' k i} (h0 : 0 ≤ i) (h : i < (xs.length : Int)) : iaddrA H 5 (.p (.sl k' 5 (sers xs))) (.p (.int k i)) = some (.p (.ptr (serC (xs.getD i.toNat noSer)))) := by
  rw [iaddr_sl h0 (sers_get (by omega))]; rfl
theorem loadK_sers {f sz s ag} {l : List (SK × Ser)} {n i off : Nat} (h : l.length = n) (h' : i < n) : loadK (some (.row f sz (sers l))) s ag n i off = takeP s ag ((serC (l.getD i noSer)).drop off) := by
  simp only [loadK, sers_len, h, if_true, sers_get (show i < l.length by omega), Option.bind_some, PV.cells]
attribute [go_sem] sers_len sers_app sers_one sers_take sers_drop iaddr_sers loadK_sers sers_nil
end Ab
namespace Ab
open Go (IntKind BinOp UnOp World Value Addr Obj undef maxLen Program TypeId)
structure ValT (P : Program) (te ti tb : TypeId) : Prop where
  int : P.underlying ti = some (.int .i64)
  v : structIs P te [tb, ti] = true
  bool : P.underlying tb = some .bool
  cells : P.cellsOf te = 2
end Ab
