/- The law FnameKeys (graticulelaw24) answers true at every argument that its statement allows; the conditions are those of the given statement, none is added. -/
import Derived.Test.YtinkfiahfcpopaaGreatDoorSeat
import Derived.Test.YtinkfiahfcpopaaGreatDoorLAgg
import Derived.Test.YtinkfiahfcpopaaGreatDoorLGrp7
import Derived.Test.YtinkfiahfcpopaaGreatDoorCards
import Derived.Test.YtinkfiahfcpopaaGreatDoorTie
import Derived.WalkKit
import Derived.ProofKit
import Derived.OpenShut
import Derived.Deep.DeepHandedRow
import Derived.Lib.LaidTab
import Derived.Lay
namespace Go.Proofs.YtinkfiahfcpopaaGreatDoor
open Go Ab
def chrs (l : List Nat) : List Char := l.map Char.ofNat
theorem serT : SerT Tryz.prog 30 9 3 28 51 4 := ⟨by kernel_rfl, by kernel_rfl, by kernel_rfl, by kernel_rfl, by kernel_rfl, by kernel_rfl, by kernel_rfl⟩
theorem fnameKeys_law : ∀ trees, All2 (treeT Tryz.prog 5) trees Tryz.f4.params.toList → ∃ m h, callOf Γ (ev Γ m) 391 (trees.map .p) [] = some ([.p (.bool true)], h) := by
  intro trees h
  have hp : Tryz.f4.params.toList = [3, 23] := by kernel_rfl
  rw [hp] at h
  obtain ⟨p0, p1, rfl, h0, h1⟩ := all2_2 h
  obtain ⟨a0, rfl, b0⟩ := treeT_int (k := .i64) h0 (by kernel_rfl) (by kernel_rfl)
  obtain ⟨k1, a1, rfl, b1, -, c1⟩ := treeT_sers serT h1 (by kernel_rfl) (by kernel_rfl) (by kernel_rfl)
  exact law_of_res (res_FnameKeysA a0 a1 (i64_wf b0) b1 c1)

def wargs : Array Value := #[.int .i64 0, .slice Option.none 0 0]
def wds {H : Type} : List (DataW H) := [.lit (.int .i64 0), .nil]
theorem own : ownKnob Tryz.prog.godebug = Option.none := by kernel_rfl
theorem enters : Enters Tryz.prog 4 := Ab.enters_of Tryz.func4 (by kernel_rfl) (by kernel_rfl)
set_option maxRecDepth 100000 in
theorem contract (H : Type) (enc : TypeId × Value → H) (W : World) (base : Nat) (args : Array Value) (ds gs : List (DataW H)) (before : List MemPlace)
    (hval : ∀ (j : Nat) t v, Tryz.f4.params[j]? = some t → args[j]? = some v → Value.okWide Tryz.prog W .any base t v)
    (hW : DataW.Whole enc Tryz.prog Tryz.f4.params.toList Rows.fnameKeysSpec.vars false W args.toList ds gs before) :
    Calls Tryz.prog 4 args W fun e W' => ∃ v, e = .returned v ∧ Rows.fnameKeysSpec.post enc Tryz.prog Tryz.f4 false true false false W args v W' :=
  law_calls (f := 4) (fn := Tryz.f4) (s := Rows.fnameKeysSpec) (args := args) (ds := ds) (gs := gs) (before := before) (b0 := base) (r := .any) (lf := 391) (n := 5) known (by kernel_rfl) enters ⟨(fun n cs h => by cases h), (fun n cs h => by cases h)⟩ (by kernel_rfl) (by kernel_rfl) (by kernel_rfl) (tb := 4) (by kernel_rfl) (by kernel_rfl) rfl
    (fun ds h => by
      have hl : Tryz.f4.params.toList.length = 2 := by kernel_rfl
      rw [hl] at h
      match ds, h with
      | [d0, d1], _ => rfl) fnameKeys_law hval hW

theorem laid_met (os : Os) : laidMet Tryz.prog Rows.fnameKeysRow.laid ((World.laidAll Tryz.prog os Rows.fnameKeysRow.laid).forCall (fun _ _ => 0) ⟨#[], wargs, []⟩).memory :=
  laidMet_laidAll wargs (by kernel_rfl) (by kernel_rfl)
theorem reads (os : Os) {H : Type} (enc : TypeId × Value → H) : ∃ places, DataW.whole enc Tryz.prog ((World.laidAll Tryz.prog os Rows.fnameKeysRow.laid).forCall (fun _ _ => 0) ⟨#[], wargs, []⟩).memory Tryz.f4.params.toList Rows.fnameKeysSpec.vars false wargs.toList 8 = some (wds, [], places) :=
  ⟨[], by kernel_rfl⟩
set_option maxRecDepth 100000 in
theorem lifted (os : Os) (started : os.Started) (H : Type) (enc : TypeId × Value → H) (F : Stop.Interp) :
    ReturnsInHanded {} Tryz.checked os 4 .any ((OpenSpec.ofChange Rows.fnameKeysSpec).preRow enc Tryz.prog Tryz.f4 Rows.fnameKeysRow.domain false Rows.fnameKeysRow.laid) (((OpenSpec.ofChange Rows.fnameKeysSpec).at F).post enc Tryz.prog Tryz.f4 false true false false) := by
  obtain ⟨places, hx⟩ := reads os enc
  refine returnsInHanded_of_row (C := Tryz.checked) (s := OpenSpec.ofChange Rows.fnameKeysSpec) own started (by kernel_rfl) Tryz.func4
    (witness_row_at (enc := enc) (C := Tryz.checked) false (World.laidAll Tryz.prog os Rows.fnameKeysRow.laid) wargs (World.laidAll_os _ _ _) (by kernel_rfl) (by kernel_rfl) (by kernel_rfl)
      (OpenSpec.preRow_of_cond 8 hx (by kernel_rfl) (fun k hk => by cases hk) (by kernel_rfl) (laid_met os))) ?_
  intro W base args ds gs before hval hW _ _ _ _ _ _
  exact contract H enc W base args ds gs before hval hW
def wl : List Char := (chrs [104,97,114,110,101,115,115,32,56,56,102,48,51,49,100,51,51,48,102,48,101,51,54,57,100,52,98,97,102,51,48,102,49,53,48,56,99,102,52,50,102,49,56,53,97,54,99,49,54,49,51,54,101,53,51,56,102,56,97,99,54,56,49,98,55,50,54,49,54,51,49,101,32,99,117,116,32,97,116,32,103,114,97,116,105,99,117,108,101,47,103,114,97,116,105,99,117,108,101,108,97,119,50,52,46,70,110,97,109,101,71,114,111,117,112,115,32,103,114,97,116,105,99,117,108,101,47,103,114,97,116,105,99,117,108,101,108,97,119,50,52,46,70,110,97,109,101,75,101,121,115])
def wr : List (List Char) := [(chrs [97,116]),(chrs [103,114,97,116,105,99,117,108,101,47,103,114,97,116,105,99,117,108,101,108,97,119,50,52,46,70,110,97,109,101,71,114,111,117,112,115]),(chrs [103,114,97,116,105,99,117,108,101,47,103,114,97,116,105,99,117,108,101,108,97,119,50,52,46,70,110,97,109,101,75,101,121,115])]
set_option maxRecDepth 100000 in
theorem words : wordsSigns Tryz.pinned.checked.prog.initOrder.toList = wordsF [] wl := by
  have h : Tryz.pinned.checked.prog.initOrder = String.ofList wl := by kernel_rfl
  rw [h, String.toList_ofList, wordsSigns_is]
set_option maxRecDepth 100000 in
theorem headed : wordsSigns Tryz.pinned.checked.prog.initOrder.toList = (chrs [104,97,114,110,101,115,115]) :: (chrs [56,56,102,48,51,49,100,51,51,48,102,48,101,51,54,57,100,52,98,97,102,51,48,102,49,53,48,56,99,102,52,50,102,49,56,53,97,54,99,49,54,49,51,54,101,53,51,56,102,56,97,99,54,56,49,98,55,50,54,49,54,51,49,101]) :: (chrs [99,117,116]) :: wr := by
  rw [words]; kernel_rfl
theorem behind : behindMainWord (wordsSigns Tryz.pinned.checked.prog.initOrder.toList) = (chrs [99,117,116]) :: wr := by
  rw [headed]; kernel_rfl
theorem later_is : Tryz.pinned.checked.prog.laysLater = false := by kernel_rfl
theorem reflect_is : Tryz.pinned.checked.prog.bearsReflect = false := by kernel_rfl
theorem door_is : Tryz.pinned.checked.prog.doorFits [] = true := by kernel_rfl
theorem closed : joinedFacts Tryz.pinned.checked.prog 4 Tryz.f4 (OpenSpec.ofChange Rows.fnameKeysSpec).bare Rows.fnameKeysRow = true := by
  unfold joinedFacts; rw [enter_cut behind later_is reflect_is door_is, final_cut behind, make_cut behind]; kernel_rfl
theorem said : Rows.FnameKeysSaid :=
  OpenClaim.holds_of_cond 4 Tryz.f4 rfl rfl rfl rfl rfl rfl rfl ⟨rfl, rfl, rfl, rfl, rfl⟩ rfl rfl rfl rfl rfl (by kernel_rfl) Tryz.func4 closed
    (of_decide_eq_true (by kernel_rfl)) (by unfold Func.isWrapper; first | (rw [if_pos (by decide +kernel)]; kernel_rfl) | (rw [if_neg (by decide +kernel)]; exact ⟨rfl, rfl⟩))
    (fun os started H enc _ F => by rw [OpenClaim.pre_eq_preRow]; exact lifted os started H enc F)

theorem plain (f : FuncId) (fn : Func) (hf : Tryz.pinned.checked.prog.funcNamed "graticule/graticulelaw24.FnameKeys" = some f) (hfn : Tryz.pinned.checked.prog.funcs[f]? = some fn) :
    false = Tryz.pinned.checked.prog.looks [] ∧ ∀ (j : Nat) t, fn.params[j]? = some t → Tryz.pinned.checked.prog.wantsStandIn t = false := by
  obtain rfl : f = 4 := Option.some.inj ((show Tryz.prog.funcNamed "graticule/graticulelaw24.FnameKeys" = some 4 by kernel_rfl).symm.trans hf) |>.symm
  obtain rfl : fn = Tryz.f4 := (Option.some.inj (Tryz.func4.symm.trans hfn)).symm
  refine ⟨by kernel_rfl, fun j t ht => ?_⟩
  have hall : Tryz.f4.params.toList.all (fun t => !Tryz.prog.wantsStandIn t) = true := by kernel_rfl
  have := List.all_eq_true.1 hall t (by simpa using Array.mem_of_getElem? ht)
  have h2 : Tryz.prog.wantsStandIn t = false := by simpa using this
  exact h2
theorem main_is : Tryz.pinned.checked.prog.mainIs = some (true, "88f031d330f0e369d4baf30f1508cf42f185a6c16136e538f8ac681b7261631e".toList) := by
  have e : "88f031d330f0e369d4baf30f1508cf42f185a6c16136e538f8ac681b7261631e".toList = (chrs [56,56,102,48,51,49,100,51,51,48,102,48,101,51,54,57,100,52,98,97,102,51,48,102,49,53,48,56,99,102,52,50,102,49,56,53,97,54,99,49,54,49,51,54,101,53,51,56,102,56,97,99,54,56,49,98,55,50,54,49,54,51,49,101]) := by
    rw [show "88f031d330f0e369d4baf30f1508cf42f185a6c16136e538f8ac681b7261631e" = String.ofList (chrs [56,56,102,48,51,49,100,51,51,48,102,48,101,51,54,57,100,52,98,97,102,51,48,102,49,53,48,56,99,102,52,50,102,49,56,53,97,54,99,49,54,49,51,54,101,53,51,56,102,56,97,99,54,56,49,98,55,50,54,49,54,51,49,101]) by rfl, String.toList_ofList]
  rw [e]; exact main_har headed (by kernel_rfl)
theorem card : Rows.FnameKeysCardSaid :=
  Claim7.holds_tied_plain_at .later [] _ _ _ _ said (fun _ h => by cases h) (by kernel_rfl) (fun _ h => by cases h) fnameKeys_row_tie rfl ⟨rfl, rfl⟩ main_is rfl plain (by kernel_rfl)
end Go.Proofs.YtinkfiahfcpopaaGreatDoor
