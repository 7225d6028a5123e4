import Derived.Test.YtmggokdhhbaphaaDoorSeat
import Derived.Test.YtmggokdhhbaphaaDoorAbT
import Derived.Test.YtmggokdhhbaphaaDoorLGlob13
import Derived.Test.YtmggokdhhbaphaaDoorCards
import Derived.Test.YtmggokdhhbaphaaDoorTie
import Derived.WalkKit
import Derived.ProofKit
import Derived.OpenShut
import Derived.Deep.DeepHandedRow
import Derived.Lib.LaidTab
import Derived.Lay
/- GlobParts holds of the program at every argument. No condition. -/
namespace Go.Proofs.YtmggokdhhbaphaaDoor
open Go Ab
theorem globParts_law : ∀ trees, All2 (treeT Tryd.prog 5) trees Tryd.f10.params.toList → ∃ m h, callOf Γ (ev Γ m) 97 (trees.map .p) [] = some ([.p (.bool true)], h) := by
  intro trees h
  have hp : Tryd.f10.params.toList = [9] := by kernel_rfl
  rw [hp] at h
  obtain ⟨p0, rfl, h0⟩ := all2_1 h
  obtain ⟨a0, rfl, b0⟩ := treeT_string h0 (by kernel_rfl) (by kernel_rfl)
  exact law_of_res (res_GlobPartsA a0)

def wargs : Array Value := #[.string ⟨#[]⟩]
def wds {H : Type} : List (DataW H) := [.lit (.string [])]
theorem own : ownKnob Tryd.prog.godebug = Option.none := by kernel_rfl
theorem enters : Enters Tryd.prog 10 := Ab.enters_of Tryd.func10 (by kernel_rfl) (by kernel_rfl)
set_option maxRecDepth 100000 in
theorem contract (H : Type) (enc : TypeId × Value → H) (W : World) (base : Nat) (args : Array Value) (ds gs : List (DataW H)) (before : List MemPlace)
    (hval : ∀ (j : Nat) t v, Tryd.f10.params[j]? = some t → args[j]? = some v → Value.okWide Tryd.prog W .any base t v)
    (hW : DataW.Whole enc Tryd.prog Tryd.f10.params.toList Rows.globPartsSpec.vars false W args.toList ds gs before) :
    Calls Tryd.prog 10 args W fun e W' => ∃ v, e = .returned v ∧ Rows.globPartsSpec.post enc Tryd.prog Tryd.f10 false true false false W args v W' :=
  law_calls (f := 10) (fn := Tryd.f10) (s := Rows.globPartsSpec) (args := args) (ds := ds) (gs := gs) (before := before) (b0 := base) (r := .any) (lf := 97) (n := 5) known (by kernel_rfl) enters ⟨(fun n cs h => by cases h), (fun n cs h => by cases h)⟩ (by kernel_rfl) (by kernel_rfl) (by kernel_rfl) (tb := 4) (by kernel_rfl) (by kernel_rfl) rfl
    (fun ds h => by
      have hl : Tryd.f10.params.toList.length = 1 := by kernel_rfl
      rw [hl] at h
      match ds, h with
      | [d0], _ => rfl) globParts_law hval hW

theorem laid_met (os : Os) : laidMet Tryd.prog Rows.globPartsRow.laid ((World.laidAll Tryd.prog os Rows.globPartsRow.laid).forCall (fun _ _ => 0) ⟨#[], wargs, []⟩).memory :=
  laidMet_laidAll wargs (by kernel_rfl) (by kernel_rfl)
theorem reads (os : Os) {H : Type} (enc : TypeId × Value → H) : ∃ places, DataW.whole enc Tryd.prog ((World.laidAll Tryd.prog os Rows.globPartsRow.laid).forCall (fun _ _ => 0) ⟨#[], wargs, []⟩).memory Tryd.f10.params.toList Rows.globPartsSpec.vars false wargs.toList 8 = some (wds, [], places) :=
  ⟨[], by kernel_rfl⟩
set_option maxRecDepth 100000 in
theorem lifted (os : Os) (started : os.Started) (H : Type) (enc : TypeId × Value → H) (F : Stop.Interp) :
    ReturnsInHanded {} Tryd.checked os 10 .any ((OpenSpec.ofChange Rows.globPartsSpec).preRow enc Tryd.prog Tryd.f10 Rows.globPartsRow.domain false Rows.globPartsRow.laid) (((OpenSpec.ofChange Rows.globPartsSpec).at F).post enc Tryd.prog Tryd.f10 false true false false) := by
  obtain ⟨places, hx⟩ := reads os enc
  refine returnsInHanded_of_row (C := Tryd.checked) (s := OpenSpec.ofChange Rows.globPartsSpec) own started (by kernel_rfl) Tryd.func10
    (witness_row_at (enc := enc) (C := Tryd.checked) false (World.laidAll Tryd.prog os Rows.globPartsRow.laid) wargs (World.laidAll_os _ _ _) (by kernel_rfl) (by kernel_rfl) (by kernel_rfl)
      (OpenSpec.preRow_of_cond 8 hx (by kernel_rfl) (fun k hk => by cases hk) (by kernel_rfl) (laid_met os))) ?_
  intro W base args ds gs before hval hW _ _ _ _ _ _
  exact contract H enc W base args ds gs before hval hW
theorem said : Rows.GlobPartsSaid :=
  OpenClaim.holds_of_cond 10 Tryd.f10 rfl rfl rfl rfl rfl rfl rfl ⟨rfl, rfl, rfl, rfl, rfl⟩ rfl rfl rfl rfl rfl (by kernel_rfl) Tryd.func10 (by kernel_rfl)
    (of_decide_eq_true (by kernel_rfl)) (by unfold Func.isWrapper; first | (rw [if_pos (by decide +kernel)]; kernel_rfl) | (rw [if_neg (by decide +kernel)]; exact ⟨rfl, rfl⟩))
    (fun os started H enc _ F => by rw [OpenClaim.pre_eq_preRow]; exact lifted os started H enc F)

theorem plain (f : FuncId) (fn : Func) (hf : Tryd.pinned.checked.prog.funcNamed "graticule/graticulelaw9.GlobParts" = some f) (hfn : Tryd.pinned.checked.prog.funcs[f]? = some fn) :
    false = Tryd.pinned.checked.prog.looks [] ∧ ∀ (j : Nat) t, fn.params[j]? = some t → Tryd.pinned.checked.prog.wantsStandIn t = false := by
  obtain rfl : f = 10 := Option.some.inj ((show Tryd.prog.funcNamed "graticule/graticulelaw9.GlobParts" = some 10 by kernel_rfl).symm.trans hf) |>.symm
  obtain rfl : fn = Tryd.f10 := (Option.some.inj (Tryd.func10.symm.trans hfn)).symm
  refine ⟨by kernel_rfl, fun j t ht => ?_⟩
  have hall : Tryd.f10.params.toList.all (fun t => !Tryd.prog.wantsStandIn t) = true := by kernel_rfl
  have := List.all_eq_true.1 hall t (by simpa using Array.mem_of_getElem? ht)
  have h2 : Tryd.prog.wantsStandIn t = false := by simpa using this
  exact h2
theorem card : Rows.GlobPartsCardSaid :=
  Claim7.holds_tied_plain_at .later [] _ _ _ _ said (fun _ h => by cases h) (by kernel_rfl) (fun _ h => by cases h) globParts_row_tie rfl ⟨rfl, rfl⟩ (by kernel_rfl) rfl plain (by kernel_rfl)
end Go.Proofs.YtmggokdhhbaphaaDoor
