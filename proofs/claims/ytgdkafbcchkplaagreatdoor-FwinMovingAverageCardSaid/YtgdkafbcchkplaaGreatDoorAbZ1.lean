import Derived.Test.YtgdkafbcchkplaaGreatDoorAbY9
import Derived.Test.YtgdkafbcchkplaaGreatDoorAbPrim
import Derived.Lib.Bytealg
/- Functions of the library that are rows of the model. -/
namespace Ab
open Go (IntKind BinOp UnOp World Value Addr Obj undef maxLen Program TypeId Oper Op Operand Act Sem Next Result execOp Builtin Calls Ending Exit)

/-- A function without a body, and the model's row for it. -/
def RowFor (P : Program) (f : Nat) (e : Array Value → Sem Value) : Prop :=
  ∃ fn, P.funcs[f]? = some fn ∧ (fn.name == "runtime.NumGoroutine") = false ∧ fn.body.isNone = true ∧ Go.Extern.findNext fn = none ∧ Go.Extern.find fn = some e

theorem RowFor.does {P : Program} {f : Nat} {e : Array Value → Sem Value} (h : RowFor P f e) {us : Array Value} {w w' : World} {v : Value} {R : Value → World → Prop} (hrun : (e us).run P w = .ok v w') (hR : R v w') : Does P f us w R := by
  obtain ⟨fn, h1, h2, h3, h4, h5⟩ := h
  refine .inr ⟨v, w', ?_, hR⟩
  simp only [beq_eq_false_iff_ne, ne_eq] at h2
  have h3 := Option.isNone_iff_eq_none.1 h3
  simp [Go.callFunc, h1, h2, h3, h4, h5, hrun, Go.mark, Sem.run]

theorem ixB_eq (s : List UInt8) (c : UInt8) : Go.Lib.indexByte s c = ixB s c := by
  induction s with
  | nil => rfl
  | cons b l ih => simp only [Go.Lib.indexByte, ixB, ih]

section
variable {Γ : Ctx} {N : Names} {P : Program} {f : Nat}
theorem prim_indexByte (h : RowFor P (N.fn f) Go.Extern.BytealgIndexByte.indexByte) : PrimOk Γ N P f indexByteG := by
  intro ps rs hg w S us hS hgl ha
  unfold indexByteG at hg
  split at hg
  rotate_left
  · cases hg
  rename_i s c
  simp only [Option.some.injEq] at hg
  subst hg
  match us, ha with
  | [u1, u2], ⟨h1, h2, _⟩ =>
    rw [h1.str_inv, h2.int_inv]
    rw [← ixB_eq]
    exact h.does (w' := w) (Go.Lib.run_indexByteString ⟨s.toArray⟩ c w) ⟨[.int .i64 (Go.Lib.indexByte s c.toNat.toUInt8)], S, rfl, .refl w, fun _ h => h, hS, fun _ h => .inl h, .int _ _, trivial⟩

theorem prim_count (h : RowFor P (N.fn f) Go.Extern.BytealgCount.count) : PrimOk Γ N P f countG := by
  intro ps rs hg w S us hS hgl ha
  unfold countG at hg
  split at hg
  rotate_left
  · cases hg
  rename_i s c
  simp only [Option.some.injEq] at hg
  subst hg
  match us, ha with
  | [u1, u2], ⟨h1, h2, _⟩ =>
    rw [h1.str_inv, h2.int_inv]
    exact h.does (w' := w) (Go.Lib.run_countString ⟨s.toArray⟩ c w) ⟨[.int .i64 (s.count c.toNat.toUInt8 : Nat)], S, rfl, .refl w, fun _ h => h, hS, fun _ h => .inl h, .int _ _, trivial⟩
end
end Ab
