/- The law FjoinSumSeries (graticulelaw22) answers true at every argument that its statement allows; the conditions are those of the given statement, none is added. -/
import Derived.Test.YtcjkmikiinljmaaGreatDoorSeat
import Derived.Test.YtcjkmikiinljmaaGreatDoorPSer
import Derived.Test.YtcjkmikiinljmaaGreatDoorOfFjoinSumSeries
import Derived.Test.YtcjkmikiinljmaaGreatDoorCards
import Derived.Test.YtcjkmikiinljmaaGreatDoorTie
import Derived.WalkKit
import Derived.ProofKit
import Derived.OpenShut
import Derived.Deep.DeepHandedRow
import Derived.Lib.LaidTab
import Derived.Lay
namespace Go.Proofs.YtcjkmikiinljmaaGreatDoor
open Go Ab
def chrs (l : List Nat) : List Char := l.map Char.ofNat
theorem serT : SerT Tryz.prog 31 9 3 29 25 4 := ⟨by kernel_rfl, by kernel_rfl, by kernel_rfl, by kernel_rfl, by kernel_rfl, by kernel_rfl, by kernel_rfl⟩
theorem fjoinSumSeries_law : ∀ trees, All2 (treeT Tryz.prog 5) trees Tryz.f3.params.toList → ∃ m h, callOf Γ (ev Γ m) 278 (trees.map .p) [] = some ([.p (.bool true)], h) := by
  intro trees h
  have hp : Tryz.f3.params.toList = [22] := by kernel_rfl
  rw [hp] at h
  obtain ⟨p0, rfl, h0⟩ := all2_1 h
  obtain ⟨k0, a0, rfl, b0, -, c0⟩ := treeT_sers serT h0 (by kernel_rfl) (by kernel_rfl) (by kernel_rfl)
  exact law_of_res (res_FjoinSumSeriesA a0 b0 c0)

set_option maxRecDepth 100000 in
theorem gl_is (n : Nat) (cs : List PV) (h : Γ.gl n = some cs) : n = 154 ∧ cs = Lib.pow10Tab.map (.int .u64) := by
  simp only [Γ] at h
  split at h
  · cases h; exact ⟨rfl, by kernel_rfl⟩
  · cases h

def wargs : Array Value := #[.slice Option.none 0 0]
def wds {H : Type} : List (DataW H) := [.nil]
theorem own : ownKnob Tryz.prog.godebug = Option.none := by kernel_rfl
theorem enters : Enters Tryz.prog 3 := Ab.enters_of Tryz.func3 (by kernel_rfl) (by kernel_rfl)
set_option maxRecDepth 100000 in
theorem contract (H : Type) (enc : TypeId × Value → H) (W : World) (base : Nat) (args : Array Value) (ds gs : List (DataW H)) (before : List MemPlace)
    (hval : ∀ (j : Nat) t v, Tryz.f3.params[j]? = some t → args[j]? = some v → Value.okWide Tryz.prog W .any base t v)
    (hW : DataW.Whole enc Tryz.prog Tryz.f3.params.toList Rows.fjoinSumSeriesSpec.vars false W args.toList ds gs before) (htab : Lib.TabIs Tryz.prog W "internal/strconv.uint64pow10" .u64 Lib.pow10Tab) :
    Calls Tryz.prog 3 args W fun e W' => ∃ v, e = .returned v ∧ Rows.fjoinSumSeriesSpec.post enc Tryz.prog Tryz.f3 false true false false W args v W' :=
  law_calls (f := 3) (fn := Tryz.f3) (s := Rows.fjoinSumSeriesSpec) (args := args) (ds := ds) (gs := gs) (before := before) (b0 := base) (r := .any) (lf := 278) (n := 5) known (by kernel_rfl) enters (glRel_tab (gv := 154) (fun n cs h => gl_is n cs h) (by decide) (by kernel_rfl) htab) (by kernel_rfl) (by kernel_rfl) (by kernel_rfl) (tb := 4) (by kernel_rfl) (by kernel_rfl) rfl
    (fun ds h => by
      have hl : Tryz.f3.params.toList.length = 1 := by kernel_rfl
      rw [hl] at h
      match ds, h with
      | [d0], _ => rfl) fjoinSumSeries_law hval hW

theorem laid_met (os : Os) : laidMet Tryz.prog Rows.fjoinSumSeriesRow.laid ((World.laidAll Tryz.prog os Rows.fjoinSumSeriesRow.laid).forCall (fun _ _ => 0) ⟨#[], wargs, []⟩).memory :=
  laidMet_laidAll wargs (by kernel_rfl) (by kernel_rfl)
theorem reads (os : Os) {H : Type} (enc : TypeId × Value → H) : ∃ places, DataW.whole enc Tryz.prog ((World.laidAll Tryz.prog os Rows.fjoinSumSeriesRow.laid).forCall (fun _ _ => 0) ⟨#[], wargs, []⟩).memory Tryz.f3.params.toList Rows.fjoinSumSeriesSpec.vars false wargs.toList 8 = some (wds, [], places) :=
  ⟨[], by kernel_rfl⟩
set_option maxRecDepth 100000 in
theorem lifted (os : Os) (started : os.Started) (H : Type) (enc : TypeId × Value → H) (F : Stop.Interp) :
    ReturnsInHanded {} Tryz.checked os 3 .any ((OpenSpec.ofChange Rows.fjoinSumSeriesSpec).preRow enc Tryz.prog Tryz.f3 Rows.fjoinSumSeriesRow.domain false Rows.fjoinSumSeriesRow.laid) (((OpenSpec.ofChange Rows.fjoinSumSeriesSpec).at F).post enc Tryz.prog Tryz.f3 false true false false) := by
  obtain ⟨places, hx⟩ := reads os enc
  refine returnsInHanded_of_row (C := Tryz.checked) (s := OpenSpec.ofChange Rows.fjoinSumSeriesSpec) own started (by kernel_rfl) Tryz.func3
    (witness_row_at (enc := enc) (C := Tryz.checked) false (World.laidAll Tryz.prog os Rows.fjoinSumSeriesRow.laid) wargs (World.laidAll_os _ _ _) (by kernel_rfl) (by kernel_rfl) (by kernel_rfl)
      (OpenSpec.preRow_of_cond 8 hx (by kernel_rfl) (fun k hk => by cases hk) (by kernel_rfl) (laid_met os))) ?_
  intro W base args ds gs before hval hW _ _ _ hlaid _ _
  obtain ⟨_, hlv, _⟩ : laidMet Tryz.prog Rows.fjoinSumSeriesRow.laid W := hlaid
  exact contract H enc W base args ds gs before hval hW (tabIs_of_laid (g := 3) (n := 20) (t := 168) (e := 118) (by kernel_rfl) (by kernel_rfl) (by kernel_rfl) (by kernel_rfl) (by kernel_rfl) (by kernel_rfl) hlv 2 rfl)
def wl : List Char := (chrs [104,97,114,110,101,115,115,32,48,101,53,54,52,48,99,56,52,102,101,99,57,51,99,55,55,102,50,52,50,102,101,48,51,100,53,102,98,99,101,52,101,100,51,100,50,99,55,56,49,52,51,48,49,49,50,100,51,100,98,48,55,57,56,49,99,57,53,56,97,50,97,102,32,99,117,116,32,97,116,32,103,114,97,116,105,99,117,108,101,47,103,114,97,116,105,99,117,108,101,108,97,119,50,50,46,70,106,111,105,110,83,117,109,83,101,114,105,101,115,32,103,114,97,116,105,99,117,108,101,47,103,114,97,116,105,99,117,108,101,108,97,119,50,50,46,70,106,111,105,110,65,118,101,114,97,103,101,83,101,114,105,101,115,32,103,114,97,116,105,99,117,108,101,47,103,114,97,116,105,99,117,108,101,108,97,119,50,50,46,70,106,111,105,110,77,105,110,83,101,114,105,101,115,32,103,114,97,116,105,99,117,108,101,47,103,114,97,116,105,99,117,108,101,108,97,119,50,50,46,70,106,111,105,110,77,97,120,83,101,114,105,101,115,32,103,114,97,116,105,99,117,108,101,47,103,114,97,116,105,99,117,108,101,108,97,119,50,50,46,70,106,111,105,110,77,101,100,105,97,110,83,101,114,105,101,115,32,103,114,97,116,105,99,117,108,101,47,103,114,97,116,105,99,117,108,101,108,97,119,50,50,46,70,106,111,105,110,82,97,110,103,101,79,102,83,101,114,105,101,115,32,103,114,97,116,105,99,117,108,101,47,103,114,97,116,105,99,117,108,101,108,97,119,50,50,46,70,106,111,105,110,77,117,108,116,105,112,108,121,83,101,114,105,101,115,32,103,114,97,116,105,99,117,108,101,47,103,114,97,116,105,99,117,108,101,108,97,119,50,50,46,70,106,111,105,110,83,116,100,100,101,118,83,101,114,105,101,115,32,103,114,97,116,105,99,117,108,101,47,103,114,97,116,105,99,117,108,101,108,97,119,50,50,46,70,106,111,105,110,67,111,117,110,116,83,101,114,105,101,115,32,103,114,97,116,105,99,117,108,101,47,103,114,97,116,105,99,117,108,101,108,97,119,50,50,46,70,106,111,105,110,68,105,102,102,83,101,114,105,101,115,32,103,114,97,116,105,99,117,108,101,47,103,114,97,116,105,99,117,108,101,108,97,119,50,50,46,70,106,111,105,110,80,101,114,99,101,110,116,105,108,101,32,103,114,97,116,105,99,117,108,101,47,103,114,97,116,105,99,117,108,101,108,97,119,50,50,46,70,106,111,105,110,65,103,103,114,101,103,97,116,101,32,103,114,97,116,105,99,117,108,101,47,103,114,97,116,105,99,117,108,101,108,97,119,50,50,46,70,106,111,105,110,65,108,111,110,101,32,103,114,97,116,105,99,117,108,101,47,103,114,97,116,105,99,117,108,101,108,97,119,50,50,46,70,106,111,105,110,66,101,116,119,101,101,110,32,103,114,97,116,105,99,117,108,101,47,103,114,97,116,105,99,117,108,101,108,97,119,50,50,46,70,106,111,105,110,68,105,118,105,100,101,115,32,103,114,97,116,105,99,117,108,101,47,103,114,97,116,105,99,117,108,101,108,97,119,50,50,46,70,106,111,105,110,80,101,114,99,101,110,116,115,32,103,114,97,116,105,99,117,108,101,47,103,114,97,116,105,99,117,108,101,108,97,119,50,50,46,70,106,111,105,110,79,116,104,101,114,115])
def wr : List (List Char) := [(chrs [97,116]),(chrs [103,114,97,116,105,99,117,108,101,47,103,114,97,116,105,99,117,108,101,108,97,119,50,50,46,70,106,111,105,110,83,117,109,83,101,114,105,101,115]),(chrs [103,114,97,116,105,99,117,108,101,47,103,114,97,116,105,99,117,108,101,108,97,119,50,50,46,70,106,111,105,110,65,118,101,114,97,103,101,83,101,114,105,101,115]),(chrs [103,114,97,116,105,99,117,108,101,47,103,114,97,116,105,99,117,108,101,108,97,119,50,50,46,70,106,111,105,110,77,105,110,83,101,114,105,101,115]),(chrs [103,114,97,116,105,99,117,108,101,47,103,114,97,116,105,99,117,108,101,108,97,119,50,50,46,70,106,111,105,110,77,97,120,83,101,114,105,101,115]),(chrs [103,114,97,116,105,99,117,108,101,47,103,114,97,116,105,99,117,108,101,108,97,119,50,50,46,70,106,111,105,110,77,101,100,105,97,110,83,101,114,105,101,115]),(chrs [103,114,97,116,105,99,117,108,101,47,103,114,97,116,105,99,117,108,101,108,97,119,50,50,46,70,106,111,105,110,82,97,110,103,101,79,102,83,101,114,105,101,115]),(chrs [103,114,97,116,105,99,117,108,101,47,103,114,97,116,105,99,117,108,101,108,97,119,50,50,46,70,106,111,105,110,77,117,108,116,105,112,108,121,83,101,114,105,101,115]),(chrs [103,114,97,116,105,99,117,108,101,47,103,114,97,116,105,99,117,108,101,108,97,119,50,50,46,70,106,111,105,110,83,116,100,100,101,118,83,101,114,105,101,115]),(chrs [103,114,97,116,105,99,117,108,101,47,103,114,97,116,105,99,117,108,101,108,97,119,50,50,46,70,106,111,105,110,67,111,117,110,116,83,101,114,105,101,115]),(chrs [103,114,97,116,105,99,117,108,101,47,103,114,97,116,105,99,117,108,101,108,97,119,50,50,46,70,106,111,105,110,68,105,102,102,83,101,114,105,101,115]),(chrs [103,114,97,116,105,99,117,108,101,47,103,114,97,116,105,99,117,108,101,108,97,119,50,50,46,70,106,111,105,110,80,101,114,99,101,110,116,105,108,101]),(chrs [103,114,97,116,105,99,117,108,101,47,103,114,97,116,105,99,117,108,101,108,97,119,50,50,46,70,106,111,105,110,65,103,103,114,101,103,97,116,101]),(chrs [103,114,97,116,105,99,117,108,101,47,103,114,97,116,105,99,117,108,101,108,97,119,50,50,46,70,106,111,105,110,65,108,111,110,101]),(chrs [103,114,97,116,105,99,117,108,101,47,103,114,97,116,105,99,117,108,101,108,97,119,50,50,46,70,106,111,105,110,66,101,116,119,101,101,110]),(chrs [103,114,97,116,105,99,117,108,101,47,103,114,97,116,105,99,117,108,101,108,97,119,50,50,46,70,106,111,105,110,68,105,118,105,100,101,115]),(chrs [103,114,97,116,105,99,117,108,101,47,103,114,97,116,105,99,117,108,101,108,97,119,50,50,46,70,106,111,105,110,80,101,114,99,101,110,116,115]),(chrs [103,114,97,116,105,99,117,108,101,47,103,114,97,116,105,99,117,108,101,108,97,119,50,50,46,70,106,111,105,110,79,116,104,101,114,115])]
set_option maxRecDepth 100000 in
theorem words : wordsSigns Tryz.pinned.checked.prog.initOrder.toList = wordsF [] wl := by
  have h : Tryz.pinned.checked.prog.initOrder = String.ofList wl := by kernel_rfl
  rw [h, String.toList_ofList, wordsSigns_is]
set_option maxRecDepth 100000 in
theorem headed : wordsSigns Tryz.pinned.checked.prog.initOrder.toList = (chrs [104,97,114,110,101,115,115]) :: (chrs [48,101,53,54,52,48,99,56,52,102,101,99,57,51,99,55,55,102,50,52,50,102,101,48,51,100,53,102,98,99,101,52,101,100,51,100,50,99,55,56,49,52,51,48,49,49,50,100,51,100,98,48,55,57,56,49,99,57,53,56,97,50,97,102]) :: (chrs [99,117,116]) :: wr := by
  rw [words]; kernel_rfl
theorem behind : behindMainWord (wordsSigns Tryz.pinned.checked.prog.initOrder.toList) = (chrs [99,117,116]) :: wr := by
  rw [headed]; kernel_rfl
theorem later_is : Tryz.pinned.checked.prog.laysLater = false := by kernel_rfl
theorem reflect_is : Tryz.pinned.checked.prog.bearsReflect = false := by kernel_rfl
theorem door_is : Tryz.pinned.checked.prog.doorFits [] = true := by kernel_rfl
theorem closed : joinedFacts Tryz.pinned.checked.prog 3 Tryz.f3 (OpenSpec.ofChange Rows.fjoinSumSeriesSpec).bare Rows.fjoinSumSeriesRow = true := by
  unfold joinedFacts; rw [enter_cut behind later_is reflect_is door_is, final_cut behind, make_cut behind]; kernel_rfl
theorem said : Rows.FjoinSumSeriesSaid :=
  OpenClaim.holds_of_cond 3 Tryz.f3 rfl rfl rfl rfl rfl rfl rfl ⟨rfl, rfl, rfl, rfl, rfl⟩ rfl rfl rfl rfl rfl (by kernel_rfl) Tryz.func3 closed
    (of_decide_eq_true (by kernel_rfl)) (by unfold Func.isWrapper; first | (rw [if_pos (by decide +kernel)]; kernel_rfl) | (rw [if_neg (by decide +kernel)]; exact ⟨rfl, rfl⟩))
    (fun os started H enc _ F => by rw [OpenClaim.pre_eq_preRow]; exact lifted os started H enc F)

theorem plain (f : FuncId) (fn : Func) (hf : Tryz.pinned.checked.prog.funcNamed "graticule/graticulelaw22.FjoinSumSeries" = some f) (hfn : Tryz.pinned.checked.prog.funcs[f]? = some fn) :
    false = Tryz.pinned.checked.prog.looks [] ∧ ∀ (j : Nat) t, fn.params[j]? = some t → Tryz.pinned.checked.prog.wantsStandIn t = false := by
  obtain rfl : f = 3 := Option.some.inj ((show Tryz.prog.funcNamed "graticule/graticulelaw22.FjoinSumSeries" = some 3 by kernel_rfl).symm.trans hf) |>.symm
  obtain rfl : fn = Tryz.f3 := (Option.some.inj (Tryz.func3.symm.trans hfn)).symm
  refine ⟨by kernel_rfl, fun j t ht => ?_⟩
  have hall : Tryz.f3.params.toList.all (fun t => !Tryz.prog.wantsStandIn t) = true := by kernel_rfl
  have := List.all_eq_true.1 hall t (by simpa using Array.mem_of_getElem? ht)
  have h2 : Tryz.prog.wantsStandIn t = false := by simpa using this
  exact h2
theorem main_is : Tryz.pinned.checked.prog.mainIs = some (true, "0e5640c84fec93c77f242fe03d5fbce4ed3d2c781430112d3db07981c958a2af".toList) := by
  have e : "0e5640c84fec93c77f242fe03d5fbce4ed3d2c781430112d3db07981c958a2af".toList = (chrs [48,101,53,54,52,48,99,56,52,102,101,99,57,51,99,55,55,102,50,52,50,102,101,48,51,100,53,102,98,99,101,52,101,100,51,100,50,99,55,56,49,52,51,48,49,49,50,100,51,100,98,48,55,57,56,49,99,57,53,56,97,50,97,102]) := by
    rw [show "0e5640c84fec93c77f242fe03d5fbce4ed3d2c781430112d3db07981c958a2af" = String.ofList (chrs [48,101,53,54,52,48,99,56,52,102,101,99,57,51,99,55,55,102,50,52,50,102,101,48,51,100,53,102,98,99,101,52,101,100,51,100,50,99,55,56,49,52,51,48,49,49,50,100,51,100,98,48,55,57,56,49,99,57,53,56,97,50,97,102]) by rfl, String.toList_ofList]
  rw [e]; exact main_har headed (by kernel_rfl)
theorem card : Rows.FjoinSumSeriesCardSaid :=
  Claim7.holds_tied_plain_at .later [] _ _ _ _ said (fun _ h => by cases h) (by kernel_rfl) (fun _ h => by cases h) fjoinSumSeries_row_tie rfl ⟨rfl, rfl⟩ main_is rfl plain (by kernel_rfl)
end Go.Proofs.YtcjkmikiinljmaaGreatDoor
