/- The law FjoinBetween (graticulelaw22) answers true at every argument that its statement allows; the conditions are those of the given statement, none is added. -/
import Derived.Test.YtjkkipfigangaaaGreatDoorSeat
import Derived.Test.YtjkkipfigangaaaGreatDoorPSer
import Derived.Test.YtjkkipfigangaaaGreatDoorLBetween
import Derived.Test.YtjkkipfigangaaaGreatDoorCards
import Derived.Test.YtjkkipfigangaaaGreatDoorTie
import Derived.WalkKit
import Derived.ProofKit
import Derived.OpenShut
import Derived.Deep.DeepHandedRow
import Derived.Lib.LaidTab
import Derived.Lay
namespace Go.Proofs.YtjkkipfigangaaaGreatDoor
open Go Ab
def chrs (l : List Nat) : List Char := l.map Char.ofNat
theorem serT : SerT Tryz.prog 24 9 3 22 33 4 := ⟨by kernel_rfl, by kernel_rfl, by kernel_rfl, by kernel_rfl, by kernel_rfl, by kernel_rfl, by kernel_rfl⟩
theorem fjoinBetween_law : ∀ trees, All2 (treeT Tryz.prog 5) trees Tryz.f4.params.toList → ∃ m h, callOf Γ (ev Γ m) 291 (trees.map .p) [] = some ([.p (.bool true)], h) := by
  intro trees h
  have hp : Tryz.f4.params.toList = [28] := by kernel_rfl
  rw [hp] at h
  obtain ⟨p0, rfl, h0⟩ := all2_1 h
  obtain ⟨k0, a0, rfl, b0, -, c0⟩ := treeT_sers serT h0 (by kernel_rfl) (by kernel_rfl) (by kernel_rfl)
  exact law_of_res (res_FjoinBetweenA a0 b0 c0)

set_option maxRecDepth 100000 in
theorem gl_is (n : Nat) (cs : List PV) (h : Γ.gl n = some cs) : n = 154 ∧ cs = Lib.pow10Tab.map (.int .u64) := by
  simp only [Γ] at h
  split at h
  · cases h; exact ⟨rfl, by kernel_rfl⟩
  · cases h

def wargs : Array Value := #[.slice Option.none 0 0]
def wds {H : Type} : List (DataW H) := [.nil]
theorem own : ownKnob Tryz.prog.godebug = Option.none := by kernel_rfl
theorem enters : Enters Tryz.prog 4 := Ab.enters_of Tryz.func4 (by kernel_rfl) (by kernel_rfl)
set_option maxRecDepth 100000 in
theorem contract (H : Type) (enc : TypeId × Value → H) (W : World) (base : Nat) (args : Array Value) (ds gs : List (DataW H)) (before : List MemPlace)
    (hval : ∀ (j : Nat) t v, Tryz.f4.params[j]? = some t → args[j]? = some v → Value.okWide Tryz.prog W .any base t v)
    (hW : DataW.Whole enc Tryz.prog Tryz.f4.params.toList Rows.fjoinBetweenSpec.vars false W args.toList ds gs before) (htab : Lib.TabIs Tryz.prog W "internal/strconv.uint64pow10" .u64 Lib.pow10Tab) :
    Calls Tryz.prog 4 args W fun e W' => ∃ v, e = .returned v ∧ Rows.fjoinBetweenSpec.post enc Tryz.prog Tryz.f4 false true false false W args v W' :=
  law_calls (f := 4) (fn := Tryz.f4) (s := Rows.fjoinBetweenSpec) (args := args) (ds := ds) (gs := gs) (before := before) (b0 := base) (r := .any) (lf := 291) (n := 5) known (by kernel_rfl) enters (glRel_tab (gv := 154) (fun n cs h => gl_is n cs h) (by decide) (by kernel_rfl) htab) (by kernel_rfl) (by kernel_rfl) (by kernel_rfl) (tb := 4) (by kernel_rfl) (by kernel_rfl) rfl
    (fun ds h => by
      have hl : Tryz.f4.params.toList.length = 1 := by kernel_rfl
      rw [hl] at h
      match ds, h with
      | [d0], _ => rfl) fjoinBetween_law hval hW

theorem laid_met (os : Os) : laidMet Tryz.prog Rows.fjoinBetweenRow.laid ((World.laidAll Tryz.prog os Rows.fjoinBetweenRow.laid).forCall (fun _ _ => 0) ⟨#[], wargs, []⟩).memory :=
  laidMet_laidAll wargs (by kernel_rfl) (by kernel_rfl)
theorem reads (os : Os) {H : Type} (enc : TypeId × Value → H) : ∃ places, DataW.whole enc Tryz.prog ((World.laidAll Tryz.prog os Rows.fjoinBetweenRow.laid).forCall (fun _ _ => 0) ⟨#[], wargs, []⟩).memory Tryz.f4.params.toList Rows.fjoinBetweenSpec.vars false wargs.toList 8 = some (wds, [], places) :=
  ⟨[], by kernel_rfl⟩
set_option maxRecDepth 100000 in
theorem lifted (os : Os) (started : os.Started) (H : Type) (enc : TypeId × Value → H) (F : Stop.Interp) :
    ReturnsInHanded {} Tryz.checked os 4 .any ((OpenSpec.ofChange Rows.fjoinBetweenSpec).preRow enc Tryz.prog Tryz.f4 Rows.fjoinBetweenRow.domain false Rows.fjoinBetweenRow.laid) (((OpenSpec.ofChange Rows.fjoinBetweenSpec).at F).post enc Tryz.prog Tryz.f4 false true false false) := by
  obtain ⟨places, hx⟩ := reads os enc
  refine returnsInHanded_of_row (C := Tryz.checked) (s := OpenSpec.ofChange Rows.fjoinBetweenSpec) own started (by kernel_rfl) Tryz.func4
    (witness_row_at (enc := enc) (C := Tryz.checked) false (World.laidAll Tryz.prog os Rows.fjoinBetweenRow.laid) wargs (World.laidAll_os _ _ _) (by kernel_rfl) (by kernel_rfl) (by kernel_rfl)
      (OpenSpec.preRow_of_cond 8 hx (by kernel_rfl) (fun k hk => by cases hk) (by kernel_rfl) (laid_met os))) ?_
  intro W base args ds gs before hval hW _ _ _ hlaid _ _
  obtain ⟨_, hlv, _⟩ : laidMet Tryz.prog Rows.fjoinBetweenRow.laid W := hlaid
  exact contract H enc W base args ds gs before hval hW (tabIs_of_laid (g := 3) (n := 20) (t := 166) (e := 117) (by kernel_rfl) (by kernel_rfl) (by kernel_rfl) (by kernel_rfl) (by kernel_rfl) (by kernel_rfl) hlv 2 rfl)
def wl : List Char := (chrs [104,97,114,110,101,115,115,32,102,52,56,51,49,57,51,53,57,54,54,57,49,48,56,52,56,97,48,56,57,98,97,54,101,98,55,97,56,97,49,98,102,97,53,56,56,56,53,56,51,51,56,55,48,57,53,50,55,98,48,50,48,53,50,102,54,49,102,57,98,52,54,102,32,99,117,116,32,97,116,32,103,114,97,116,105,99,117,108,101,47,103,114,97,116,105,99,117,108,101,108,97,119,50,50,46,70,106,111,105,110,65,108,111,110,101,32,103,114,97,116,105,99,117,108,101,47,103,114,97,116,105,99,117,108,101,108,97,119,50,50,46,70,106,111,105,110,66,101,116,119,101,101,110,32,103,114,97,116,105,99,117,108,101,47,103,114,97,116,105,99,117,108,101,108,97,119,50,50,46,70,106,111,105,110,79,116,104,101,114,115])
def wr : List (List Char) := [(chrs [97,116]),(chrs [103,114,97,116,105,99,117,108,101,47,103,114,97,116,105,99,117,108,101,108,97,119,50,50,46,70,106,111,105,110,65,108,111,110,101]),(chrs [103,114,97,116,105,99,117,108,101,47,103,114,97,116,105,99,117,108,101,108,97,119,50,50,46,70,106,111,105,110,66,101,116,119,101,101,110]),(chrs [103,114,97,116,105,99,117,108,101,47,103,114,97,116,105,99,117,108,101,108,97,119,50,50,46,70,106,111,105,110,79,116,104,101,114,115])]
set_option maxRecDepth 100000 in
theorem words : wordsSigns Tryz.pinned.checked.prog.initOrder.toList = wordsF [] wl := by
  have h : Tryz.pinned.checked.prog.initOrder = String.ofList wl := by kernel_rfl
  rw [h, String.toList_ofList, wordsSigns_is]
set_option maxRecDepth 100000 in
theorem headed : wordsSigns Tryz.pinned.checked.prog.initOrder.toList = (chrs [104,97,114,110,101,115,115]) :: (chrs [102,52,56,51,49,57,51,53,57,54,54,57,49,48,56,52,56,97,48,56,57,98,97,54,101,98,55,97,56,97,49,98,102,97,53,56,56,56,53,56,51,51,56,55,48,57,53,50,55,98,48,50,48,53,50,102,54,49,102,57,98,52,54,102]) :: (chrs [99,117,116]) :: wr := by
  rw [words]; kernel_rfl
theorem behind : behindMainWord (wordsSigns Tryz.pinned.checked.prog.initOrder.toList) = (chrs [99,117,116]) :: wr := by
  rw [headed]; kernel_rfl
theorem later_is : Tryz.pinned.checked.prog.laysLater = false := by kernel_rfl
theorem reflect_is : Tryz.pinned.checked.prog.bearsReflect = false := by kernel_rfl
theorem door_is : Tryz.pinned.checked.prog.doorFits [] = true := by kernel_rfl
theorem closed : joinedFacts Tryz.pinned.checked.prog 4 Tryz.f4 (OpenSpec.ofChange Rows.fjoinBetweenSpec).bare Rows.fjoinBetweenRow = true := by
  unfold joinedFacts; rw [enter_cut behind later_is reflect_is door_is, final_cut behind, make_cut behind]; kernel_rfl
theorem said : Rows.FjoinBetweenSaid :=
  OpenClaim.holds_of_cond 4 Tryz.f4 rfl rfl rfl rfl rfl rfl rfl ⟨rfl, rfl, rfl, rfl, rfl⟩ rfl rfl rfl rfl rfl (by kernel_rfl) Tryz.func4 closed
    (of_decide_eq_true (by kernel_rfl)) (by unfold Func.isWrapper; first | (rw [if_pos (by decide +kernel)]; kernel_rfl) | (rw [if_neg (by decide +kernel)]; exact ⟨rfl, rfl⟩))
    (fun os started H enc _ F => by rw [OpenClaim.pre_eq_preRow]; exact lifted os started H enc F)

theorem plain (f : FuncId) (fn : Func) (hf : Tryz.pinned.checked.prog.funcNamed "graticule/graticulelaw22.FjoinBetween" = some f) (hfn : Tryz.pinned.checked.prog.funcs[f]? = some fn) :
    false = Tryz.pinned.checked.prog.looks [] ∧ ∀ (j : Nat) t, fn.params[j]? = some t → Tryz.pinned.checked.prog.wantsStandIn t = false := by
  obtain rfl : f = 4 := Option.some.inj ((show Tryz.prog.funcNamed "graticule/graticulelaw22.FjoinBetween" = some 4 by kernel_rfl).symm.trans hf) |>.symm
  obtain rfl : fn = Tryz.f4 := (Option.some.inj (Tryz.func4.symm.trans hfn)).symm
  refine ⟨by kernel_rfl, fun j t ht => ?_⟩
  have hall : Tryz.f4.params.toList.all (fun t => !Tryz.prog.wantsStandIn t) = true := by kernel_rfl
  have := List.all_eq_true.1 hall t (by simpa using Array.mem_of_getElem? ht)
  have h2 : Tryz.prog.wantsStandIn t = false := by simpa using this
  exact h2
theorem main_is : Tryz.pinned.checked.prog.mainIs = some (true, "f4831935966910848a089ba6eb7a8a1bfa588858338709527b02052f61f9b46f".toList) := by
  have e : "f4831935966910848a089ba6eb7a8a1bfa588858338709527b02052f61f9b46f".toList = (chrs [102,52,56,51,49,57,51,53,57,54,54,57,49,48,56,52,56,97,48,56,57,98,97,54,101,98,55,97,56,97,49,98,102,97,53,56,56,56,53,56,51,51,56,55,48,57,53,50,55,98,48,50,48,53,50,102,54,49,102,57,98,52,54,102]) := by
    rw [show "f4831935966910848a089ba6eb7a8a1bfa588858338709527b02052f61f9b46f" = String.ofList (chrs [102,52,56,51,49,57,51,53,57,54,54,57,49,48,56,52,56,97,48,56,57,98,97,54,101,98,55,97,56,97,49,98,102,97,53,56,56,56,53,56,51,51,56,55,48,57,53,50,55,98,48,50,48,53,50,102,54,49,102,57,98,52,54,102]) by rfl, String.toList_ofList]
  rw [e]; exact main_har headed (by kernel_rfl)
theorem card : Rows.FjoinBetweenCardSaid :=
  Claim7.holds_tied_plain_at .later [] _ _ _ _ said (fun _ h => by cases h) (by kernel_rfl) (fun _ h => by cases h) fjoinBetween_row_tie rfl ⟨rfl, rfl⟩ main_is rfl plain (by kernel_rfl)
end Go.Proofs.YtjkkipfigangaaaGreatDoor
