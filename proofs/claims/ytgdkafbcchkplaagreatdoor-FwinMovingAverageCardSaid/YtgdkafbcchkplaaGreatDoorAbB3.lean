import Derived.Test.YtgdkafbcchkplaaGreatDoorAbB2
/- A law that the abstract machine says true of all trees: what its row asks. -/
namespace Ab
open Go (IntKind BinOp UnOp World Value Addr Obj undef maxLen Program TypeId Oper Op Operand Act Sem Next Result execOp Builtin Calls Ending Exit DataW Lit MemPlace ChangeSpec)

theorem post_same {H : Type} {enc : TypeId × Value → H} {P : Program} {f : Go.Func} {s : ChangeSpec} {apart fresh handsOn again : Bool} {W W' : World} {args : Array Value} {v : Value} {ds gs : List (DataW H)} {before pa pv : List MemPlace}
    (hW : DataW.Whole enc P f.params.toList s.vars apart W args.toList ds gs before)
    (hres : ∀ (b : Nat) (sp : Nat → Bool) (hd : Bool), DataW.TrodAll enc P W' b sp hd f.resultTypes.toList (v.resultList f.resultTypes.size) (s.fn H (ds ++ gs)).results [])
    (hargs : ∀ sp : Nat → Bool, (∀ p ∈ before, sp p.block = true) → DataW.TrodAll enc P W' 0 sp true f.params.toList args.toList (s.fn H (ds ++ gs)).args pa)
    (hvars : ∀ sp : Nat → Bool, (∀ p ∈ before, sp p.block = true) → DataW.TrodVars enc P W' sp s.vars (s.fn H (ds ++ gs)).vars pv)
    (hps : before = pa ++ pv) (hk : W.keptBut W' (· ∈ before)) (hfz : ∀ p ∈ before, ∀ b off, p = .cell b off → W'.frozen? ⟨b, off, none⟩ = W.frozen? ⟨b, off, none⟩)
    (hok : ∀ (j : Nat) (t : TypeId) (r : Value), f.resultTypes[j]? = some t → (v.resultList f.resultTypes.size)[j]? = some r → Value.okWide P W' .any 0 t r) :
    s.post enc P f apart fresh handsOn again W args v W' := by
  have hold : ∀ p ∈ before, (fun b => decide (b < W.heap.size)) p.block = true := fun p hp => by simpa using hW.lt p hp
  refine ⟨ds, gs, before, [], pa, pv, hW, hres _ _ _, hargs _ hold, hvars _ hold, World.keptBut_mono (fun p hp => ⟨hp, ?_⟩) hk, fun _ => ?_⟩
  · rw [hps, List.mem_append] at hp
    exact Or.inr hp
  · obtain ⟨_, _, _, _, _, hz, hn⟩ := hW
    refine ⟨hok, _, _, ([] ++ pa) ++ pv, ⟨[] ++ pa, pv, Go.ChangeShapes.trodAll_append (hargs _ (fun _ _ => rfl)) (hres _ _ _), hvars _ (fun _ _ => rfl), rfl, ?_, ?_⟩, ?_⟩
    · intro b off hp
      have hp' : MemPlace.cell b off ∈ before := by rw [hps]; simpa using hp
      rw [hfz _ hp' b off rfl]
      exact hz b off hp'
    · intro ha
      have := hn ha
      rw [hps] at this
      simpa using this
    · intro p hp _
      rw [hps]
      simpa using hp

section
variable {H : Type} {enc : TypeId × Value → H} {P : Program} {N : Names} {Γ : Ctx} {W : World}

theorem enters_of {f : Nat} {g : Go.Func} (hf : P.funcs[f]? = some g) (hn : (g.name == "runtime.NumGoroutine") = false) (hb : g.body.isNone = false) : Enters P f := fun us w => by
  simp only [beq_eq_false_iff_ne, ne_eq] at hn
  simp only [Go.callFunc, Go.Sem.run_bind, Go.run_program, Go.Result.andThen_ok, hf, hb, Bool.false_eq_true, if_false, beq_iff_eq, hn, Go.Sem.run_pure]

theorem law_calls (K : Known Γ N P) {f lf n : Nat} {fn : Go.Func} {tb : TypeId} {s : ChangeSpec} {apart fresh handsOn again : Bool} {args : Array Value} {ds gs : List (DataW H)} {before : List MemPlace} {b0 : Nat} {r : Go.Reach}
    (hN : N.fn lf = f) (hE : Enters P f) (hgl : GlRel Γ N W fun g => g < W.heap.size) (hp : fn.params.toList.all (plainT P n) = true) (hrd : fn.params.toList.all (fun t => P.readableRec t && decide (t < P.types.size)) = true)
    (hl : Go.laidOutB P = true) (hres : fn.resultTypes = #[tb]) (htb : P.underlying tb = some .bool) (hvars : s.vars = [])
    (hspec : ∀ ds : List (DataW H), ds.length = fn.params.toList.length → s.fn H ds = { results := [.lit (.bool true)], args := ds })
    (law : ∀ trees, All2 (treeT P n) trees fn.params.toList → ∃ m h, callOf Γ (ev Γ m) lf (trees.map .p) [] = some ([.p (.bool true)], h))
    (hval : ∀ (j : Nat) t v, fn.params[j]? = some t → args[j]? = some v → Value.okWide P W r b0 t v) (hW : DataW.Whole enc P fn.params.toList s.vars apart W args.toList ds gs before) :
    Calls P f args W fun e W' => ∃ v, e = .returned v ∧ s.post enc P fn apart fresh handsOn again W args v W' := by
  have hlt := hW.lt
  have hW' := hW
  obtain ⟨p, q, hA, hV, rfl, hz, _⟩ := hW'
  obtain ⟨trees, ht1, ht2, hdl⟩ := args_trees (N := N) (S := fun g => g < W.heap.size) (fun _ h => h) hp (fun j t v ht hv => hval j t v (by simpa using ht) (by simpa using hv)) hA
  obtain ⟨m, h, hcall⟩ := law trees ht1
  have hrun := run_sound K (T := fun g => g < W.heap.size) (fun _ h => h) hgl ht2 hcall (rs := [.bool true]) rfl
  rw [hN] at hrun
  have hvg : gs = [] ∧ q = [] := by
    rw [hvars] at hV
    cases gs <;> simp_all [DataW.TrodVars]
  obtain ⟨rfl, rfl⟩ := hvg
  have hcalls : Calls P f args W fun e W' => ∃ v, e = .returned v ∧ (∃ vs, v = resVal vs ∧ Grows W W' ∧ All2 (fun u p => RelP N.fn W' (fun g => g < W.heap.size ∨ (W.heap.size ≤ g ∧ g < W'.heap.size)) p u) vs [.bool true]) := by
    rcases hrun with ⟨_, h⟩ | ⟨v, w', h, _⟩
    · simpa using h
    · rw [hE] at h; cases h
  refine hcalls.mono ?_
  rintro e W' ⟨v, rfl, vs, rfl, hg, hv⟩
  match vs, hv with
  | [u], ⟨hu, _⟩ =>
    cases hu
    have hb : Go.RowKit.Below W.heap.size W W' := ⟨hg.os, hg.tape, hg.output, hg.size, hg.keep⟩
    refine ⟨_, rfl, post_same (pa := p) (pv := []) hW (fun b sp hd => ?_) (fun sp hsp => ?_) (fun _ _ => ?_) rfl (hb.frame _) (fun x hx b off e => ?_) (Go.RowKit.ok_one hres rfl (Go.RowKit.okWide_bool_mk htb _))⟩
    · rw [List.append_nil, hspec ds hdl, hres]
      exact ⟨[], [], Go.RowKit.shut_bool htb _, rfl, rfl⟩
    · rw [List.append_nil, hspec ds hdl]
      exact args_stay hl hg hrd hA (fun x hx => hlt x (by simp [hx])) (fun x hx => hsp x (by simp [hx]))
    · rw [List.append_nil, hspec ds hdl, hvars]; rfl
    · subst e; exact hb.frozen (hlt _ hx)
end
end Ab
