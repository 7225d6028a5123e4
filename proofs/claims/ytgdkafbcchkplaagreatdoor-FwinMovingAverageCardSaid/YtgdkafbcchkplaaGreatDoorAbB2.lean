import Derived.Test.YtgdkafbcchkplaaGreatDoorAbB1
import Derived.ChangeSame
import Derived.RowKit
/- What the abstract machine says of a law, as the claim's words want it. -/
namespace Ab
open Go (IntKind BinOp UnOp World Value Addr Obj undef maxLen Program TypeId Oper Op Operand Act Sem Next Result execOp Builtin Calls Ending Exit DataW Lit MemPlace)

def treeT (P : Program) (n : Nat) (p : PV) (t : TypeId) : Prop := p.one = !((aggB P t).getD true) ∧ okT P n t p.cells

section
variable {H : Type} {enc : TypeId × Value → H} {P : Program} {N : Names} {Γ : Ctx} {W : World}

theorem cellOk_one {r : Go.Reach} {b : Nat} {t : TypeId} {v : Value} (h : Go.Cell.okWide P W r b t v) : v.oneCell' = true := by
  unfold Go.Cell.okWide at h
  split at h <;> first | rfl | (unfold Go.Cell.ok at h; split at h <;> first | rfl | exact h.elim)

theorem cells_single {v : Value} (h : v.oneCell' = true) : v.cells.toList = [v] := by cases v <;> first | rfl | cases h

theorem arg_tree {S : Nat → Prop} (hS : ∀ g, g < W.heap.size → S g) {n : Nat} {t : TypeId} {v : Value} {d : DataW H} {ps : List MemPlace} {b0 : Nat} {r : Go.Reach} (hp : plainT P n t = true) (hv : Value.okWide P W r b0 t v)
    (hd : DataW.Trod enc P W 0 (fun _ => true) true t v d ps) : ∃ p, treeT P n p t ∧ RelP N.fn W S p v := by
  obtain ⟨F, hd⟩ := hd
  obtain ⟨pcs, hok, htr⟩ := trod_trees (N := N) hS F n t _ _ _ hp hd
  cases n with
  | zero => cases hp
  | succ n =>
    have leaf : ∀ c, pcs = [c] → aggB P t = some false → v.oneCell' = true → ∃ p, treeT P (n + 1) p t ∧ RelP N.fn W S p v := by
      rintro c rfl ha h1
      have hone := htr.one c (by simp)
      refine ⟨c, ⟨by rw [hone, ha]; rfl, by rw [PV.cells_one hone]; exact hok⟩, ?_⟩
      have := htr.rel 0 c rfl
      rw [cells_single h1] at this
      simpa using this
    simp only [plainT] at hp
    unfold Value.okWide at hv
    have hok' := hok
    rw [okT] at hok'
    split at hp
    · rename_i hu
      rw [hu] at hv hok'
      obtain ⟨b, h⟩ := hok'
      exact leaf _ h (by simp [aggB, hu]) (cellOk_one hv)
    · rename_i k hu
      rw [hu] at hv hok'
      obtain ⟨b, h, _⟩ := hok'
      exact leaf _ h (by simp [aggB, hu]) (cellOk_one hv)
    · rename_i hu
      rw [hu] at hv hok'
      obtain ⟨b, h, _⟩ := hok'
      exact leaf _ h (by simp [aggB, hu]) (cellOk_one hv)
    · rename_i e hu
      rw [hu] at hv hok'
      obtain ⟨_, _, h, _⟩ := hok'
      exact leaf _ h (by simp [aggB, hu]) (cellOk_one hv)
    · rename_i fs hu
      rw [hu] at hv
      obtain ⟨cs, rfl, _, _⟩ := hv
      refine ⟨.agg pcs, ⟨by simp [aggB, hu, PV.one], hok⟩, .agg pcs cs ?_ htr.one (fun j c hc => ?_)⟩
      · have := htr.len
        simpa [Value.cells] using this.symm
      · have := htr.rel j c hc
        rwa [show (Value.agg cs).cells.toList = cs.toList from rfl, getD_toList] at this
    · cases hp

/-- All parameters. -/
theorem args_trees {S : Nat → Prop} (hS : ∀ g, g < W.heap.size → S g) {n : Nat} {b0 : Nat} {r : Go.Reach} : ∀ {ts : List TypeId} {vs : List Value} {ds : List (DataW H)} {ps : List MemPlace}, ts.all (plainT P n) = true → (∀ (j : Nat) t v, ts[j]? = some t → vs[j]? = some v → Value.okWide P W r b0 t v) →
    DataW.TrodAll enc P W 0 (fun _ => true) true ts vs ds ps → ∃ trees, All2 (treeT P n) trees ts ∧ All2 (fun u p => RelP N.fn W S p u) vs trees ∧ ds.length = ts.length
  | [], [], [], _, _, _, _ => ⟨[], trivial, trivial, rfl⟩
  | t :: ts, v :: vs, d :: ds, ps, hp, hv, h => by
    obtain ⟨p, q, h1, h2, _⟩ := h
    simp only [List.all_cons, Bool.and_eq_true] at hp
    obtain ⟨x, hx1, hx2⟩ := arg_tree (N := N) hS hp.1 (hv 0 t v rfl rfl) h1
    obtain ⟨xs, hxs1, hxs2, hl⟩ := args_trees hS hp.2 (fun j t v ht hv' => hv (j + 1) t v (by simpa using ht) (by simpa using hv')) h2
    exact ⟨x :: xs, ⟨hx1, hxs1⟩, ⟨hx2, hxs2⟩, by simp [hl]⟩
  | [], [], _ :: _, _, _, _, h => by cases h
  | [], _ :: _, _, _, _, _, h => by simp [DataW.TrodAll] at h
  | _ :: _, [], _, _, _, _, h => by simp [DataW.TrodAll] at h
  | _ :: _, _ :: _, [], _, _, _, h => by simp [DataW.TrodAll] at h

/-- The arguments read behind the call as they did. -/
theorem args_stay (hl : Go.laidOutB P = true) {W' : World} (hg : Grows W W') {sp : Nat → Bool} : ∀ {ts : List TypeId} {vs : List Value} {ds : List (DataW H)} {ps : List MemPlace}, ts.all (fun t => P.readableRec t && decide (t < P.types.size)) = true →
    DataW.TrodAll enc P W 0 (fun _ => true) true ts vs ds ps → (∀ x ∈ ps, x.block < W.heap.size) → (∀ x ∈ ps, sp x.block = true) → DataW.TrodAll enc P W' 0 sp true ts vs ds ps
  | [], [], [], _, _, h, _, _ => h
  | t :: ts, v :: vs, d :: ds, ps, hp, h, hlt, hsp => by
    obtain ⟨p, q, h1, h2, rfl⟩ := h
    simp only [List.all_cons, Bool.and_eq_true, decide_eq_true_eq] at hp
    have hb : Go.RowKit.Below W.heap.size W W' := ⟨hg.os, hg.tape, hg.output, hg.size, hg.keep⟩
    exact ⟨p, q, Go.WideElems.Trod_stays hl hp.1.1 hp.1.2 h1 (fun x hx => hb.same (hlt x (by simp [hx]))) (fun x hx => hsp x (by simp [hx])),
      args_stay hl hg hp.2 h2 (fun x hx => hlt x (by simp [hx])) (fun x hx => hsp x (by simp [hx])), rfl⟩
  | [], [], _ :: _, _, _, h, _, _ => by cases h
  | [], _ :: _, _, _, _, h, _, _ => by simp [DataW.TrodAll] at h
  | _ :: _, [], _, _, _, h, _, _ => by simp [DataW.TrodAll] at h
  | _ :: _, _ :: _, [], _, _, h, _, _ => by simp [DataW.TrodAll] at h
end
end Ab
