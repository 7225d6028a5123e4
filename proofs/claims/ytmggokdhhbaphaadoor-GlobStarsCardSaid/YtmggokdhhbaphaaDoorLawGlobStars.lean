import Derived.Test.YtmggokdhhbaphaaDoorAbB4
import Derived.Test.YtmggokdhhbaphaaDoorSeat
import Derived.Test.YtmggokdhhbaphaaDoorAbT
import Derived.Test.YtmggokdhhbaphaaDoorLGlob13
import Derived.Test.YtmggokdhhbaphaaDoorCards
import Derived.Test.YtmggokdhhbaphaaDoorTie
import Derived.WalkKit
import Derived.ProofKit
import Derived.OpenShut
import Derived.Deep.DeepHandedRow
import Derived.Lib.LaidTab
import Derived.Lay
/- GlobStars holds of the program at every argument. No condition. -/
namespace Go.Proofs.YtmggokdhhbaphaaDoor
open Go Ab
theorem globStars_law : ∀ trees, All2 (treeT Tryd.prog 5) trees Tryd.f7.params.toList → (∀ x ∈ trees, ∀ s, x = PV.str s → s.length ≤ 140737488351232) → ∃ m h, callOf Γ (ev Γ m) 94 (trees.map .p) [] = some ([.p (.bool true)], h) := by
  intro trees h hz
  have hp : Tryd.f7.params.toList = [9, 9, 9] := by kernel_rfl
  rw [hp] at h
  obtain ⟨p0, p1, p2, rfl, h0, h1, h2⟩ := all2_3 h
  obtain ⟨a0, rfl, b0⟩ := treeT_string h0 (by kernel_rfl) (by kernel_rfl)
  have c0 := hz _ (by simp) _ (rfl : PV.str a0 = _)
  obtain ⟨a1, rfl, b1⟩ := treeT_string h1 (by kernel_rfl) (by kernel_rfl)
  have c1 := hz _ (by simp) _ (rfl : PV.str a1 = _)
  obtain ⟨a2, rfl, b2⟩ := treeT_string h2 (by kernel_rfl) (by kernel_rfl)
  have c2 := hz _ (by simp) _ (rfl : PV.str a2 = _)
  exact law_of_res (res_GlobStarsA a0 a1 a2 c0 c1 c2)

def wargs : Array Value := #[.string ⟨#[]⟩, .string ⟨#[]⟩, .string ⟨#[]⟩]
def wds {H : Type} : List (DataW H) := [.lit (.string []), .lit (.string []), .lit (.string [])]
theorem own : ownKnob Tryd.prog.godebug = Option.none := by kernel_rfl
theorem enters : Enters Tryd.prog 7 := Ab.enters_of Tryd.func7 (by kernel_rfl) (by kernel_rfl)
set_option maxRecDepth 100000 in
theorem contract (H : Type) (enc : TypeId × Value → H) (W : World) (base : Nat) (args : Array Value) (ds gs : List (DataW H)) (before : List MemPlace)
    (hval : ∀ (j : Nat) t v, Tryd.f7.params[j]? = some t → args[j]? = some v → Value.okWide Tryd.prog W .any base t v)
    (hW : DataW.Whole enc Tryd.prog Tryd.f7.params.toList Rows.globStarsSpec.vars false W args.toList ds gs before)
    (hz : (DataW.weightsEach Tryd.prog (Tryd.f7.params.toList ++ (OpenSpec.ofChange Rows.globStarsSpec).bare.plain.varTypes Tryd.prog) (ds ++ gs)).all (· ≤ reachBytes) = true) :
    Calls Tryd.prog 7 args W fun e W' => ∃ v, e = .returned v ∧ Rows.globStarsSpec.post enc Tryd.prog Tryd.f7 false true false false W args v W' :=
  law_calls_sized (f := 7) (fn := Tryd.f7) (s := Rows.globStarsSpec) (args := args) (ds := ds) (gs := gs) (before := before) (b0 := base) (r := .any) (lf := 94) (n := 5) known (by kernel_rfl) enters ⟨(fun n cs h => by cases h), (fun n cs h => by cases h)⟩ (by kernel_rfl) (by kernel_rfl) (by kernel_rfl) (tb := 4) (by kernel_rfl) (by kernel_rfl) rfl (fun t ht => by
      have hl : Tryd.f7.params.toList = [9, 9, 9] := by kernel_rfl
      rw [hl] at ht
      simp only [List.mem_cons, List.not_mem_nil, or_false, or_self] at ht
      subst ht
      exact (by kernel_rfl : Tryd.prog.underlying 9 = some TypeDesc.string))
    (fun ds h => by
      have hl : Tryd.f7.params.toList.length = 3 := by kernel_rfl
      rw [hl] at h
      match ds, h with
      | [d0, d1, d2], _ => rfl) globStars_law hval hW hz

theorem laid_met (os : Os) : laidMet Tryd.prog Rows.globStarsRow.laid ((World.laidAll Tryd.prog os Rows.globStarsRow.laid).forCall (fun _ _ => 0) ⟨#[], wargs, []⟩).memory :=
  laidMet_laidAll wargs (by kernel_rfl) (by kernel_rfl)
theorem reads (os : Os) {H : Type} (enc : TypeId × Value → H) : ∃ places, DataW.whole enc Tryd.prog ((World.laidAll Tryd.prog os Rows.globStarsRow.laid).forCall (fun _ _ => 0) ⟨#[], wargs, []⟩).memory Tryd.f7.params.toList Rows.globStarsSpec.vars false wargs.toList 8 = some (wds, [], places) :=
  ⟨[], by kernel_rfl⟩
set_option maxRecDepth 100000 in
theorem lifted (os : Os) (started : os.Started) (H : Type) (enc : TypeId × Value → H) (F : Stop.Interp) :
    ReturnsInHanded {} Tryd.checked os 7 .any ((OpenSpec.ofChange Rows.globStarsSpec).preRow enc Tryd.prog Tryd.f7 Rows.globStarsRow.domain false Rows.globStarsRow.laid) (((OpenSpec.ofChange Rows.globStarsSpec).at F).post enc Tryd.prog Tryd.f7 false true false false) := by
  obtain ⟨places, hx⟩ := reads os enc
  refine returnsInHanded_of_row (C := Tryd.checked) (s := OpenSpec.ofChange Rows.globStarsSpec) own started (by kernel_rfl) Tryd.func7
    (witness_row_at (enc := enc) (C := Tryd.checked) false (World.laidAll Tryd.prog os Rows.globStarsRow.laid) wargs (World.laidAll_os _ _ _) (by kernel_rfl) (by kernel_rfl) (by kernel_rfl)
      (OpenSpec.preRow_of_cond 8 hx (by kernel_rfl) (fun k hk => by cases hk) (by kernel_rfl) (laid_met os))) ?_
  intro W base args ds gs before hval hW _ _ hz _ _ _
  exact contract H enc W base args ds gs before hval hW hz
theorem said : Rows.GlobStarsSaid :=
  OpenClaim.holds_of_cond 7 Tryd.f7 rfl rfl rfl rfl rfl rfl rfl ⟨rfl, rfl, rfl, rfl, rfl⟩ rfl rfl rfl rfl rfl (by kernel_rfl) Tryd.func7 (by kernel_rfl)
    (of_decide_eq_true (by kernel_rfl)) (by unfold Func.isWrapper; first | (rw [if_pos (by decide +kernel)]; kernel_rfl) | (rw [if_neg (by decide +kernel)]; exact ⟨rfl, rfl⟩))
    (fun os started H enc _ F => by rw [OpenClaim.pre_eq_preRow]; exact lifted os started H enc F)

theorem plain (f : FuncId) (fn : Func) (hf : Tryd.pinned.checked.prog.funcNamed "graticule/graticulelaw9.GlobStars" = some f) (hfn : Tryd.pinned.checked.prog.funcs[f]? = some fn) :
    false = Tryd.pinned.checked.prog.looks [] ∧ ∀ (j : Nat) t, fn.params[j]? = some t → Tryd.pinned.checked.prog.wantsStandIn t = false := by
  obtain rfl : f = 7 := Option.some.inj ((show Tryd.prog.funcNamed "graticule/graticulelaw9.GlobStars" = some 7 by kernel_rfl).symm.trans hf) |>.symm
  obtain rfl : fn = Tryd.f7 := (Option.some.inj (Tryd.func7.symm.trans hfn)).symm
  refine ⟨by kernel_rfl, fun j t ht => ?_⟩
  have hall : Tryd.f7.params.toList.all (fun t => !Tryd.prog.wantsStandIn t) = true := by kernel_rfl
  have := List.all_eq_true.1 hall t (by simpa using Array.mem_of_getElem? ht)
  have h2 : Tryd.prog.wantsStandIn t = false := by simpa using this
  exact h2
theorem card : Rows.GlobStarsCardSaid :=
  Claim7.holds_tied_plain_at .later [] _ _ _ _ said (fun _ h => by cases h) (by kernel_rfl) (fun _ h => by cases h) globStars_row_tie rfl ⟨rfl, rfl⟩ (by kernel_rfl) rfl plain (by kernel_rfl)
end Go.Proofs.YtmggokdhhbaphaaDoor
