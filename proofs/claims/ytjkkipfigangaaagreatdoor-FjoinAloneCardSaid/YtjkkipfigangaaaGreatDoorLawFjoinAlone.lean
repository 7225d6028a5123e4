import Derived.Test.YtjkkipfigangaaaGreatDoorSeat
import Derived.Test.YtjkkipfigangaaaGreatDoorLAgg
import Derived.Test.YtjkkipfigangaaaGreatDoorLAlone
import Derived.Test.YtjkkipfigangaaaGreatDoorCards
import Derived.Test.YtjkkipfigangaaaGreatDoorTie
import Derived.WalkKit
import Derived.ProofKit
import Derived.OpenShut
import Derived.Deep.DeepHandedRow
import Derived.Lib.LaidTab
import Derived.Lay
namespace Go.Proofs.YtjkkipfigangaaaGreatDoor
open Go Ab
theorem serT : SerT Tryz.prog 24 9 3 22 33 4 := ⟨by kernel_rfl, by kernel_rfl, by kernel_rfl, by kernel_rfl, by kernel_rfl, by kernel_rfl, by kernel_rfl⟩
theorem fjoinAlone_law : ∀ trees, All2 (treeT Tryz.prog 5) trees Tryz.f3.params.toList → ∃ m h, callOf Γ (ev Γ m) 290 (trees.map .p) [] = some ([.p (.bool true)], h) := by
  intro trees h
  have hp : Tryz.f3.params.toList = [24] := by kernel_rfl
  rw [hp] at h
  obtain ⟨p0, rfl, h0⟩ := all2_1 h
  obtain ⟨k0, a0, rfl, o0⟩ := treeT_series serT h0
  exact law_of_res (res_FjoinAloneA a0 o0)

set_option maxRecDepth 100000 in
theorem gl_is (n : Nat) (cs : List PV) (h : Γ.gl n = some cs) : n = 154 ∧ cs = Lib.pow10Tab.map (.int .u64) := by
  simp only [Γ] at h
  split at h
  · cases h; exact ⟨rfl, by kernel_rfl⟩
  · cases h

def wargs : Array Value := #[.agg #[.string ⟨#[]⟩, .int .i64 0, .int .i64 0, .slice Option.none 0 0, .int .i64 0]]
def wds {H : Type} : List (DataW H) := [.agg [.lit (.string []), .lit (.int .i64 0), .lit (.int .i64 0), .nil, .lit (.int .i64 0)]]
theorem own : ownKnob Tryz.prog.godebug = Option.none := by kernel_rfl
theorem enters : Enters Tryz.prog 3 := Ab.enters_of Tryz.func3 (by kernel_rfl) (by kernel_rfl)
set_option maxRecDepth 100000 in
theorem contract (H : Type) (enc : TypeId × Value → H) (W : World) (base : Nat) (args : Array Value) (ds gs : List (DataW H)) (before : List MemPlace)
    (hval : ∀ (j : Nat) t v, Tryz.f3.params[j]? = some t → args[j]? = some v → Value.okWide Tryz.prog W .any base t v)
    (hW : DataW.Whole enc Tryz.prog Tryz.f3.params.toList Rows.fjoinAloneSpec.vars false W args.toList ds gs before) (htab : Lib.TabIs Tryz.prog W "internal/strconv.uint64pow10" .u64 Lib.pow10Tab) :
    Calls Tryz.prog 3 args W fun e W' => ∃ v, e = .returned v ∧ Rows.fjoinAloneSpec.post enc Tryz.prog Tryz.f3 false true false false W args v W' :=
  law_calls (f := 3) (fn := Tryz.f3) (s := Rows.fjoinAloneSpec) (args := args) (ds := ds) (gs := gs) (before := before) (b0 := base) (r := .any) (lf := 290) (n := 5) known (by kernel_rfl) enters (glRel_tab (gv := 154) (fun n cs h => gl_is n cs h) (by decide) (by kernel_rfl) htab) (by kernel_rfl) (by kernel_rfl) (by kernel_rfl) (tb := 4) (by kernel_rfl) (by kernel_rfl) rfl
    (fun ds h => by
      have hl : Tryz.f3.params.toList.length = 1 := by kernel_rfl
      rw [hl] at h
      match ds, h with
      | [d0], _ => rfl) fjoinAlone_law hval hW

theorem laid_met (os : Os) : laidMet Tryz.prog Rows.fjoinAloneRow.laid ((World.laidAll Tryz.prog os Rows.fjoinAloneRow.laid).forCall (fun _ _ => 0) ⟨#[], wargs, []⟩).memory :=
  laidMet_laidAll wargs (by kernel_rfl) (by kernel_rfl)
theorem reads (os : Os) {H : Type} (enc : TypeId × Value → H) : ∃ places, DataW.whole enc Tryz.prog ((World.laidAll Tryz.prog os Rows.fjoinAloneRow.laid).forCall (fun _ _ => 0) ⟨#[], wargs, []⟩).memory Tryz.f3.params.toList Rows.fjoinAloneSpec.vars false wargs.toList 8 = some (wds, [], places) :=
  ⟨[], by kernel_rfl⟩
set_option maxRecDepth 100000 in
theorem lifted (os : Os) (started : os.Started) (H : Type) (enc : TypeId × Value → H) (F : Stop.Interp) :
    ReturnsInHanded {} Tryz.checked os 3 .any ((OpenSpec.ofChange Rows.fjoinAloneSpec).preRow enc Tryz.prog Tryz.f3 Rows.fjoinAloneRow.domain false Rows.fjoinAloneRow.laid) (((OpenSpec.ofChange Rows.fjoinAloneSpec).at F).post enc Tryz.prog Tryz.f3 false true false false) := by
  obtain ⟨places, hx⟩ := reads os enc
  refine returnsInHanded_of_row (C := Tryz.checked) (s := OpenSpec.ofChange Rows.fjoinAloneSpec) own started (by kernel_rfl) Tryz.func3
    (witness_row_at (enc := enc) (C := Tryz.checked) false (World.laidAll Tryz.prog os Rows.fjoinAloneRow.laid) wargs (World.laidAll_os _ _ _) (by kernel_rfl) (by kernel_rfl) (by kernel_rfl)
      (OpenSpec.preRow_of_cond 8 hx (by kernel_rfl) (fun k hk => by cases hk) (by kernel_rfl) (laid_met os))) ?_
  intro W base args ds gs before hval hW _ _ _ hlaid _ _
  obtain ⟨_, hlv, _⟩ : laidMet Tryz.prog Rows.fjoinAloneRow.laid W := hlaid
  exact contract H enc W base args ds gs before hval hW (tabIs_of_laid (g := 3) (n := 20) (t := 166) (e := 117) (by kernel_rfl) (by kernel_rfl) (by kernel_rfl) (by kernel_rfl) (by kernel_rfl) (by kernel_rfl) hlv 2 rfl)
def wl : List Char := ['h','a','r','n','e','s','s',' ','f','4','8','3','1','9','3','5','9','6','6','9','1','0','8','4','8','a','0','8','9','b','a','6','e','b','7','a','8','a','1','b','f','a','5','8','8','8','5','8','3','3','8','7','0','9','5','2','7','b','0','2','0','5','2','f','6','1','f','9','b','4','6','f',' ','c','u','t',' ','a','t',' ','g','r','a','t','i','c','u','l','e','/','g','r','a','t','i','c','u','l','e','l','a','w','2','2','.','F','j','o','i','n','A','l','o','n','e',' ','g','r','a','t','i','c','u','l','e','/','g','r','a','t','i','c','u','l','e','l','a','w','2','2','.','F','j','o','i','n','B','e','t','w','e','e','n',' ','g','r','a','t','i','c','u','l','e','/','g','r','a','t','i','c','u','l','e','l','a','w','2','2','.','F','j','o','i','n','O','t','h','e','r','s']
def wr : List (List Char) := [['a','t'],['g','r','a','t','i','c','u','l','e','/','g','r','a','t','i','c','u','l','e','l','a','w','2','2','.','F','j','o','i','n','A','l','o','n','e'],['g','r','a','t','i','c','u','l','e','/','g','r','a','t','i','c','u','l','e','l','a','w','2','2','.','F','j','o','i','n','B','e','t','w','e','e','n'],['g','r','a','t','i','c','u','l','e','/','g','r','a','t','i','c','u','l','e','l','a','w','2','2','.','F','j','o','i','n','O','t','h','e','r','s']]
set_option maxRecDepth 100000 in
theorem words : wordsSigns Tryz.pinned.checked.prog.initOrder.toList = wordsF [] wl := by
  have h : Tryz.pinned.checked.prog.initOrder = String.ofList wl := by kernel_rfl
  rw [h, String.toList_ofList, wordsSigns_is]
set_option maxRecDepth 100000 in
theorem headed : wordsSigns Tryz.pinned.checked.prog.initOrder.toList = ['h', 'a', 'r', 'n', 'e', 's', 's'] :: ['f', '4', '8', '3', '1', '9', '3', '5', '9', '6', '6', '9', '1', '0', '8', '4', '8', 'a', '0', '8', '9', 'b', 'a', '6', 'e', 'b', '7', 'a', '8', 'a', '1', 'b', 'f', 'a', '5', '8', '8', '8', '5', '8', '3', '3', '8', '7', '0', '9', '5', '2', '7', 'b', '0', '2', '0', '5', '2', 'f', '6', '1', 'f', '9', 'b', '4', '6', 'f'] :: ['c', 'u', 't'] :: wr := by
  rw [words]; kernel_rfl
theorem behind : behindMainWord (wordsSigns Tryz.pinned.checked.prog.initOrder.toList) = ['c', 'u', 't'] :: wr := by
  rw [headed]; kernel_rfl
theorem later_is : Tryz.pinned.checked.prog.laysLater = false := by kernel_rfl
theorem reflect_is : Tryz.pinned.checked.prog.bearsReflect = false := by kernel_rfl
theorem door_is : Tryz.pinned.checked.prog.doorFits [] = true := by kernel_rfl
theorem closed : joinedFacts Tryz.pinned.checked.prog 3 Tryz.f3 (OpenSpec.ofChange Rows.fjoinAloneSpec).bare Rows.fjoinAloneRow = true := by
  unfold joinedFacts; rw [enter_cut behind later_is reflect_is door_is, final_cut behind, make_cut behind]; kernel_rfl
theorem said : Rows.FjoinAloneSaid :=
  OpenClaim.holds_of_cond 3 Tryz.f3 rfl rfl rfl rfl rfl rfl rfl ⟨rfl, rfl, rfl, rfl, rfl⟩ rfl rfl rfl rfl rfl (by kernel_rfl) Tryz.func3 closed
    (of_decide_eq_true (by kernel_rfl)) (by unfold Func.isWrapper; first | (rw [if_pos (by decide +kernel)]; kernel_rfl) | (rw [if_neg (by decide +kernel)]; exact ⟨rfl, rfl⟩))
    (fun os started H enc _ F => by rw [OpenClaim.pre_eq_preRow]; exact lifted os started H enc F)

theorem plain (f : FuncId) (fn : Func) (hf : Tryz.pinned.checked.prog.funcNamed "graticule/graticulelaw22.FjoinAlone" = some f) (hfn : Tryz.pinned.checked.prog.funcs[f]? = some fn) :
    false = Tryz.pinned.checked.prog.looks [] ∧ ∀ (j : Nat) t, fn.params[j]? = some t → Tryz.pinned.checked.prog.wantsStandIn t = false := by
  obtain rfl : f = 3 := Option.some.inj ((show Tryz.prog.funcNamed "graticule/graticulelaw22.FjoinAlone" = some 3 by kernel_rfl).symm.trans hf) |>.symm
  obtain rfl : fn = Tryz.f3 := (Option.some.inj (Tryz.func3.symm.trans hfn)).symm
  refine ⟨by kernel_rfl, fun j t ht => ?_⟩
  have hall : Tryz.f3.params.toList.all (fun t => !Tryz.prog.wantsStandIn t) = true := by kernel_rfl
  have := List.all_eq_true.1 hall t (by simpa using Array.mem_of_getElem? ht)
  have h2 : Tryz.prog.wantsStandIn t = false := by simpa using this
  exact h2
theorem main_is : Tryz.pinned.checked.prog.mainIs = some (true, "f4831935966910848a089ba6eb7a8a1bfa588858338709527b02052f61f9b46f".toList) := by
  have e : "f4831935966910848a089ba6eb7a8a1bfa588858338709527b02052f61f9b46f".toList = ['f', '4', '8', '3', '1', '9', '3', '5', '9', '6', '6', '9', '1', '0', '8', '4', '8', 'a', '0', '8', '9', 'b', 'a', '6', 'e', 'b', '7', 'a', '8', 'a', '1', 'b', 'f', 'a', '5', '8', '8', '8', '5', '8', '3', '3', '8', '7', '0', '9', '5', '2', '7', 'b', '0', '2', '0', '5', '2', 'f', '6', '1', 'f', '9', 'b', '4', '6', 'f'] := by
    rw [show "f4831935966910848a089ba6eb7a8a1bfa588858338709527b02052f61f9b46f" = String.ofList ['f', '4', '8', '3', '1', '9', '3', '5', '9', '6', '6', '9', '1', '0', '8', '4', '8', 'a', '0', '8', '9', 'b', 'a', '6', 'e', 'b', '7', 'a', '8', 'a', '1', 'b', 'f', 'a', '5', '8', '8', '8', '5', '8', '3', '3', '8', '7', '0', '9', '5', '2', '7', 'b', '0', '2', '0', '5', '2', 'f', '6', '1', 'f', '9', 'b', '4', '6', 'f'] by rfl, String.toList_ofList]
  rw [e]; exact main_har headed (by kernel_rfl)
theorem card : Rows.FjoinAloneCardSaid :=
  Claim7.holds_tied_plain_at .later [] _ _ _ _ said (fun _ h => by cases h) (by kernel_rfl) (fun _ h => by cases h) fjoinAlone_row_tie rfl ⟨rfl, rfl⟩ main_is rfl plain (by kernel_rfl)
end Go.Proofs.YtjkkipfigangaaaGreatDoor
