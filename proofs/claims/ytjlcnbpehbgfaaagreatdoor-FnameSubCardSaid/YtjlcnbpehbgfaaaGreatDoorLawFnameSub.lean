/- The law FnameSub (graticulelaw24) answers true at every argument that its statement allows; the conditions are those of the given statement, none is added. -/
import Derived.Test.YtjlcnbpehbgfaaaGreatDoorSeat
import Derived.Test.YtjlcnbpehbgfaaaGreatDoorLRen
import Derived.Test.YtjlcnbpehbgfaaaGreatDoorPRex
import Derived.Test.YtjlcnbpehbgfaaaGreatDoorLSub36
import Derived.Test.YtjlcnbpehbgfaaaGreatDoorCards
import Derived.Test.YtjlcnbpehbgfaaaGreatDoorTie
import Derived.WalkKit
import Derived.ProofKit
import Derived.OpenShut
import Derived.Deep.DeepHandedRow
import Derived.Lib.LaidTab
import Derived.Lay
namespace Go.Proofs.YtjlcnbpehbgfaaaGreatDoor
open Go Ab
theorem serT : SerT Tryz.prog 24 9 3 22 67 4 := ⟨by kernel_rfl, by kernel_rfl, by kernel_rfl, by kernel_rfl, by kernel_rfl, by kernel_rfl, by kernel_rfl⟩
theorem fnameSub_law : ∀ trees, All2 (treeT Tryz.prog 5) trees Tryz.f3.params.toList → ∃ m h, callOf Γ (ev Γ m) 303 (trees.map .p) [] = some ([.p (.bool true)], h) := by
 intro trees h
 have hp : Tryz.f3.params.toList = [24, 9, 9] := by kernel_rfl
 rw [hp] at h
 obtain ⟨p0, p1, p2, rfl, h0, h1, h2⟩ := all2_3 h
 obtain ⟨k0, a0, rfl, o0⟩ := treeT_series serT h0
 obtain ⟨a1, rfl, b1⟩ := treeT_string h1 (by kernel_rfl) (by kernel_rfl)
 obtain ⟨a2, rfl, b2⟩ := treeT_string h2 (by kernel_rfl) (by kernel_rfl)
 exact law_of_res (res_FnameSubA a0 a1 a2 o0)
def wargs : Array Value := #[.agg #[.string ⟨#[]⟩, .int .i64 0, .int .i64 0, .slice Option.none 0 0, .int .i64 0], .string ⟨#[]⟩, .string ⟨#[]⟩]
def wds {H : Type} : List (DataW H) := [.agg [.lit (.string []), .lit (.int .i64 0), .lit (.int .i64 0), .nil, .lit (.int .i64 0)], .lit (.string []), .lit (.string [])]
theorem own : ownKnob Tryz.prog.godebug = Option.none := by kernel_rfl
theorem enters : Enters Tryz.prog 3 := Ab.enters_of Tryz.func3 (by kernel_rfl) (by kernel_rfl)
set_option maxRecDepth 100000 in
theorem contract (H : Type) (enc : TypeId × Value → H) (W : World) (base : Nat) (args : Array Value) (ds gs : List (DataW H)) (before : List MemPlace)
  (hval : ∀ (j : Nat) t v, Tryz.f3.params[j]? = some t → args[j]? = some v → Value.okWide Tryz.prog W .any base t v)
  (hW : DataW.Whole enc Tryz.prog Tryz.f3.params.toList Rows.fnameSubSpec.vars false W args.toList ds gs before) :
  Calls Tryz.prog 3 args W fun e W' => ∃ v, e = .returned v ∧ Rows.fnameSubSpec.post enc Tryz.prog Tryz.f3 false true false false W args v W' :=
 law_calls (f := 3) (fn := Tryz.f3) (s := Rows.fnameSubSpec) (args := args) (ds := ds) (gs := gs) (before := before) (b0 := base) (r := .any) (lf := 303) (n := 5) known (by kernel_rfl) enters ⟨(fun n cs h => by cases h), (fun n cs h => by cases h)⟩ (by kernel_rfl) (by kernel_rfl) (by kernel_rfl) (tb := 4) (by kernel_rfl) (by kernel_rfl) rfl
  (fun ds h => by
   have hl : Tryz.f3.params.toList.length = 3 := by kernel_rfl
   rw [hl] at h
   match ds, h with
   | [d0, d1, d2], _ => rfl) fnameSub_law hval hW
theorem laid_met (os : Os) : laidMet Tryz.prog Rows.fnameSubRow.laid ((World.laidAll Tryz.prog os Rows.fnameSubRow.laid).forCall (fun _ _ => 0) ⟨#[], wargs, []⟩).memory :=
 laidMet_laidAll wargs (by kernel_rfl) (by kernel_rfl)
theorem reads (os : Os) {H : Type} (enc : TypeId × Value → H) : ∃ places, DataW.whole enc Tryz.prog ((World.laidAll Tryz.prog os Rows.fnameSubRow.laid).forCall (fun _ _ => 0) ⟨#[], wargs, []⟩).memory Tryz.f3.params.toList Rows.fnameSubSpec.vars false wargs.toList 8 = some (wds, [], places) :=
 ⟨[], by kernel_rfl⟩
set_option maxRecDepth 100000 in
theorem lifted (os : Os) (started : os.Started) (H : Type) (enc : TypeId × Value → H) (F : Stop.Interp) :
  ReturnsInHanded {} Tryz.checked os 3 .any ((OpenSpec.ofChange Rows.fnameSubSpec).preRow enc Tryz.prog Tryz.f3 Rows.fnameSubRow.domain false Rows.fnameSubRow.laid) (((OpenSpec.ofChange Rows.fnameSubSpec).at F).post enc Tryz.prog Tryz.f3 false true false false) := by
 obtain ⟨places, hx⟩ := reads os enc
 refine returnsInHanded_of_row (C := Tryz.checked) (s := OpenSpec.ofChange Rows.fnameSubSpec) own started (by kernel_rfl) Tryz.func3
  (witness_row_at (enc := enc) (C := Tryz.checked) false (World.laidAll Tryz.prog os Rows.fnameSubRow.laid) wargs (World.laidAll_os _ _ _) (by kernel_rfl) (by kernel_rfl) (by kernel_rfl)
   (OpenSpec.preRow_of_cond 8 hx (by kernel_rfl) (fun k hk => by cases hk) (by kernel_rfl) (laid_met os))) ?_
 intro W base args ds gs before hval hW _ _ _ _ _ _
 exact contract H enc W base args ds gs before hval hW
theorem said : Rows.FnameSubSaid :=
 OpenClaim.holds_of_cond 3 Tryz.f3 rfl rfl rfl rfl rfl rfl rfl ⟨rfl, rfl, rfl, rfl, rfl⟩ rfl rfl rfl rfl rfl (by kernel_rfl) Tryz.func3 (by kernel_rfl)
  (of_decide_eq_true (by kernel_rfl)) (by unfold Func.isWrapper; first | (rw [if_pos (by decide +kernel)]; kernel_rfl) | (rw [if_neg (by decide +kernel)]; exact ⟨rfl, rfl⟩))
  (fun os started H enc _ F => by rw [OpenClaim.pre_eq_preRow]; exact lifted os started H enc F)
theorem plain (f : FuncId) (fn : Func) (hf : Tryz.pinned.checked.prog.funcNamed "graticule/graticulelaw24.FnameSub" = some f) (hfn : Tryz.pinned.checked.prog.funcs[f]? = some fn) :
  false = Tryz.pinned.checked.prog.looks [] ∧ ∀ (j : Nat) t, fn.params[j]? = some t → Tryz.pinned.checked.prog.wantsStandIn t = false := by
 obtain rfl : f = 3 := Option.some.inj ((show Tryz.prog.funcNamed "graticule/graticulelaw24.FnameSub" = some 3 by kernel_rfl).symm.trans hf) |>.symm
 obtain rfl : fn = Tryz.f3 := (Option.some.inj (Tryz.func3.symm.trans hfn)).symm
 refine ⟨by kernel_rfl, fun j t ht => ?_⟩
 have hall : Tryz.f3.params.toList.all (fun t => !Tryz.prog.wantsStandIn t) = true := by kernel_rfl
 have := List.all_eq_true.1 hall t (by simpa using Array.mem_of_getElem? ht)
 have h2 : Tryz.prog.wantsStandIn t = false := by simpa using this
 exact h2
theorem card : Rows.FnameSubCardSaid :=
 Claim7.holds_tied_plain_at .later [] _ _ _ _ said (fun _ h => by cases h) (by kernel_rfl) (fun _ h => by cases h) fnameSub_row_tie rfl ⟨rfl, rfl⟩ (by kernel_rfl) rfl plain (by kernel_rfl)
end Go.Proofs.YtjlcnbpehbgfaaaGreatDoor
