/- The law StoreOfNothing (graticulelaw26) answers true at every argument that its statement allows; the conditions are those of the given statement, none is added. -/
import Derived.Test.YthecbhbcjnajbaaGreatDoorSeat
import Derived.Test.YthecbhbcjnajbaaGreatDoorAbT
import Derived.Shelf.Vars
import Derived.Test.YthecbhbcjnajbaaGreatDoorLStore2
import Derived.Test.YthecbhbcjnajbaaGreatDoorCards
import Derived.Test.YthecbhbcjnajbaaGreatDoorTie
import Derived.WalkKit
import Derived.ProofKit
import Derived.OpenShut
import Derived.Deep.DeepHandedRow
import Derived.Lib.LaidTab
import Derived.Lay
namespace Go.Proofs.YthecbhbcjnajbaaGreatDoor
open Go Ab
def chrs (l : List Nat) : List Char := l.map Char.ofNat
theorem storeOfNothing_law : ∀ trees, All2 (treeT Tryz.prog 5) trees Tryz.f3.params.toList → ∃ m h, callOf Γ (ev Γ m) 544 (trees.map .p) [] = some ([.p (.bool true)], h) := by
 intro trees h
 have hp : Tryz.f3.params.toList = [9, 3] := by kernel_rfl
 rw [hp] at h
 obtain ⟨p0, p1, rfl, h0, h1⟩ := all2_2 h
 obtain ⟨a0, rfl, b0⟩ := treeT_string h0 (by kernel_rfl) (by kernel_rfl)
 obtain ⟨a1, rfl, b1⟩ := treeT_int (k := .i64) h1 (by kernel_rfl) (by kernel_rfl)
 exact law_of_res (res_StoreOfNothingA a0 a1 (i64_wf b1))
theorem gi_is (n : Nat) (h : n ∈ Γ.gi) : n = 78 := by simpa [Γ] using h
theorem gi_at : names.gl 78 = 0 := by kernel_rfl
theorem ints_of {W : World} (hsh : W.ShapedOpen Tryz.prog) : GlRel Γ names W fun g => g < W.heap.size :=
 glRel_ints (fun n cs h => by cases h) fun n hn => by
  rw [gi_is n hn, gi_at]
  exact cell_of_shapedOpen_int (P := Tryz.prog) (g := 0) (t := 3) (zero := #[.int .i64 0]) hsh (of_decide_eq_true (by kernel_rfl)) (by kernel_rfl) rfl (by kernel_rfl) (by kernel_rfl) Tryz.underlying3
def wargs : Array Value := #[.string ⟨#[]⟩, .int .i64 0]
def wds {H : Type} : List (DataW H) := [.lit (.string []), .lit (.int .i64 0)]
theorem own : ownKnob Tryz.prog.godebug = Option.none := by kernel_rfl
theorem enters : Enters Tryz.prog 3 := Ab.enters_of Tryz.func3 (by kernel_rfl) (by kernel_rfl)
set_option maxRecDepth 100000 in
theorem contract (H : Type) (enc : TypeId × Value → H) (W : World) (base : Nat) (args : Array Value) (ds gs : List (DataW H)) (before : List MemPlace)
  (hval : ∀ (j : Nat) t v, Tryz.f3.params[j]? = some t → args[j]? = some v → Value.okWide Tryz.prog W .any base t v)
  (hW : DataW.Whole enc Tryz.prog Tryz.f3.params.toList Rows.storeOfNothingSpec.vars false W args.toList ds gs before) (hsh : W.ShapedOpen Tryz.prog) :
  Calls Tryz.prog 3 args W fun e W' => ∃ v, e = .returned v ∧ Rows.storeOfNothingSpec.post enc Tryz.prog Tryz.f3 false true false false W args v W' :=
 law_calls (f := 3) (fn := Tryz.f3) (s := Rows.storeOfNothingSpec) (args := args) (ds := ds) (gs := gs) (before := before) (b0 := base) (r := .any) (lf := 544) (n := 5) known (by kernel_rfl) enters (ints_of hsh) (by kernel_rfl) (by kernel_rfl) (by kernel_rfl) (tb := 4) (by kernel_rfl) (by kernel_rfl) rfl
  (fun ds h => by
   have hl : Tryz.f3.params.toList.length = 2 := by kernel_rfl
   rw [hl] at h
   match ds, h with
   | [d0, d1], _ => rfl) storeOfNothing_law hval hW
theorem laid_met (os : Os) : laidMet Tryz.prog Rows.storeOfNothingRow.laid ((World.laidAll Tryz.prog os Rows.storeOfNothingRow.laid).forCall (fun _ _ => 0) ⟨#[], wargs, []⟩).memory :=
 laidMet_laidAll wargs (by kernel_rfl) (by kernel_rfl)
theorem reads (os : Os) {H : Type} (enc : TypeId × Value → H) : ∃ places, DataW.whole enc Tryz.prog ((World.laidAll Tryz.prog os Rows.storeOfNothingRow.laid).forCall (fun _ _ => 0) ⟨#[], wargs, []⟩).memory Tryz.f3.params.toList Rows.storeOfNothingSpec.vars false wargs.toList 8 = some (wds, [], places) :=
 ⟨[], by kernel_rfl⟩
set_option maxRecDepth 100000 in
theorem lifted (os : Os) (started : os.Started) (H : Type) (enc : TypeId × Value → H) (F : Stop.Interp) :
  ReturnsInHanded {} Tryz.checked os 3 .any ((OpenSpec.ofChange Rows.storeOfNothingSpec).preRow enc Tryz.prog Tryz.f3 Rows.storeOfNothingRow.domain false Rows.storeOfNothingRow.laid) (((OpenSpec.ofChange Rows.storeOfNothingSpec).at F).post enc Tryz.prog Tryz.f3 false true false false) := by
 obtain ⟨places, hx⟩ := reads os enc
 refine returnsInHanded_of_row (C := Tryz.checked) (s := OpenSpec.ofChange Rows.storeOfNothingSpec) own started (by kernel_rfl) Tryz.func3
  (witness_row_at (enc := enc) (C := Tryz.checked) false (World.laidAll Tryz.prog os Rows.storeOfNothingRow.laid) wargs (World.laidAll_os _ _ _) (by kernel_rfl) (by kernel_rfl) (by kernel_rfl)
   (OpenSpec.preRow_of_cond 8 hx (by kernel_rfl) (fun k hk => by cases hk) (by kernel_rfl) (laid_met os))) ?_
 intro W base args ds gs before hval hW _ _ _ _ hsh _
 exact contract H enc W base args ds gs before hval hW hsh
def wl : List Char := (chrs [104,97,114,110,101,115,115,32,100,51,52,51,55,99,54,55,54,49,57,57,97,52,53,99,52,48,49,48,56,101,102,97,55,52,57,99,56,48,99,100,102,53,97,97,102,56,52,97,48,49,51,100,57,98,101,56,100,99,100,97,48,97,56,54,101,52,55,52,101,56,53,97,32,99,117,116,32,97,116,32,103,114,97,116,105,99,117,108,101,47,103,114,97,116,105,99,117,108,101,108,97,119,50,54,46,83,116,111,114,101,79,102,78,111,116,104,105,110,103])
def wr : List (List Char) := [(chrs [97,116]),(chrs [103,114,97,116,105,99,117,108,101,47,103,114,97,116,105,99,117,108,101,108,97,119,50,54,46,83,116,111,114,101,79,102,78,111,116,104,105,110,103])]
set_option maxRecDepth 100000 in
theorem words : wordsSigns Tryz.pinned.checked.prog.initOrder.toList = wordsF [] wl := by
 have h : Tryz.pinned.checked.prog.initOrder = String.ofList wl := by kernel_rfl
 rw [h, String.toList_ofList, wordsSigns_is]
set_option maxRecDepth 100000 in
theorem headed : wordsSigns Tryz.pinned.checked.prog.initOrder.toList = (chrs [104,97,114,110,101,115,115]) :: (chrs [100,51,52,51,55,99,54,55,54,49,57,57,97,52,53,99,52,48,49,48,56,101,102,97,55,52,57,99,56,48,99,100,102,53,97,97,102,56,52,97,48,49,51,100,57,98,101,56,100,99,100,97,48,97,56,54,101,52,55,52,101,56,53,97]) :: (chrs [99,117,116]) :: wr := by
 rw [words]; kernel_rfl
theorem behind : behindMainWord (wordsSigns Tryz.pinned.checked.prog.initOrder.toList) = (chrs [99,117,116]) :: wr := by
 rw [headed]; kernel_rfl
theorem later_is : Tryz.pinned.checked.prog.laysLater = false := by kernel_rfl
theorem reflect_is : Tryz.pinned.checked.prog.bearsReflect = false := by kernel_rfl
theorem door_is : Tryz.pinned.checked.prog.doorFits [] = true := by kernel_rfl
theorem closed : joinedFacts Tryz.pinned.checked.prog 3 Tryz.f3 (OpenSpec.ofChange Rows.storeOfNothingSpec).bare Rows.storeOfNothingRow = true := by
 unfold joinedFacts; rw [enter_cut behind later_is reflect_is door_is, final_cut behind, make_cut behind]; kernel_rfl
theorem said : Rows.StoreOfNothingSaid :=
 OpenClaim.holds_of_cond 3 Tryz.f3 rfl rfl rfl rfl rfl rfl rfl ⟨rfl, rfl, rfl, rfl, rfl⟩ rfl rfl rfl rfl rfl (by kernel_rfl) Tryz.func3 closed
  (of_decide_eq_true (by kernel_rfl)) (by unfold Func.isWrapper; first | (rw [if_pos (by decide +kernel)]; kernel_rfl) | (rw [if_neg (by decide +kernel)]; exact ⟨rfl, rfl⟩))
  (fun os started H enc _ F => by rw [OpenClaim.pre_eq_preRow]; exact lifted os started H enc F)
theorem plain (f : FuncId) (fn : Func) (hf : Tryz.pinned.checked.prog.funcNamed "graticule/graticulelaw26.StoreOfNothing" = some f) (hfn : Tryz.pinned.checked.prog.funcs[f]? = some fn) :
  true = Tryz.pinned.checked.prog.looks [] ∧ ∀ (j : Nat) t, fn.params[j]? = some t → Tryz.pinned.checked.prog.wantsStandIn t = false := by
 obtain rfl : f = 3 := Option.some.inj ((show Tryz.prog.funcNamed "graticule/graticulelaw26.StoreOfNothing" = some 3 by kernel_rfl).symm.trans hf) |>.symm
 obtain rfl : fn = Tryz.f3 := (Option.some.inj (Tryz.func3.symm.trans hfn)).symm
 refine ⟨by kernel_rfl, fun j t ht => ?_⟩
 have hall : Tryz.f3.params.toList.all (fun t => !Tryz.prog.wantsStandIn t) = true := by kernel_rfl
 have := List.all_eq_true.1 hall t (by simpa using Array.mem_of_getElem? ht)
 have h2 : Tryz.prog.wantsStandIn t = false := by simpa using this
 exact h2
theorem main_is : Tryz.pinned.checked.prog.mainIs = some (true, "d3437c676199a45c40108efa749c80cdf5aaf84a013d9be8dcda0a86e474e85a".toList) := by
 have e : "d3437c676199a45c40108efa749c80cdf5aaf84a013d9be8dcda0a86e474e85a".toList = (chrs [100,51,52,51,55,99,54,55,54,49,57,57,97,52,53,99,52,48,49,48,56,101,102,97,55,52,57,99,56,48,99,100,102,53,97,97,102,56,52,97,48,49,51,100,57,98,101,56,100,99,100,97,48,97,56,54,101,52,55,52,101,56,53,97]) := by
  rw [show "d3437c676199a45c40108efa749c80cdf5aaf84a013d9be8dcda0a86e474e85a" = String.ofList (chrs [100,51,52,51,55,99,54,55,54,49,57,57,97,52,53,99,52,48,49,48,56,101,102,97,55,52,57,99,56,48,99,100,102,53,97,97,102,56,52,97,48,49,51,100,57,98,101,56,100,99,100,97,48,97,56,54,101,52,55,52,101,56,53,97]) by rfl, String.toList_ofList]
 rw [e]; exact main_har headed (by kernel_rfl)
theorem card : Rows.StoreOfNothingCardSaid :=
 Claim7.holds_tied_plain_at .later [] _ _ _ _ said (fun _ h => by cases h) (by kernel_rfl) (fun _ h => by cases h) storeOfNothing_row_tie rfl ⟨rfl, rfl⟩ main_is rfl plain (by kernel_rfl)
end Go.Proofs.YthecbhbcjnajbaaGreatDoor
