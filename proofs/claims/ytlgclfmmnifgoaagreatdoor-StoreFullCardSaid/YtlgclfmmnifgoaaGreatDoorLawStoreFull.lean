/- The law StoreFull (graticulelaw26) answers true at every argument that its statement allows; the conditions are those of the given statement, none is added. -/
import Derived.Test.YtlgclfmmnifgoaaGreatDoorSeat
import Derived.Test.YtlgclfmmnifgoaaGreatDoorAbT
import Derived.Shelf.Vars
import Derived.Test.YtlgclfmmnifgoaaGreatDoorLSt34
import Derived.Test.YtlgclfmmnifgoaaGreatDoorCards
import Derived.Test.YtlgclfmmnifgoaaGreatDoorTie
import Derived.WalkKit
import Derived.ProofKit
import Derived.OpenShut
import Derived.Deep.DeepHandedRow
import Derived.Lib.LaidTab
import Derived.Lay
namespace Go.Proofs.YtlgclfmmnifgoaaGreatDoor
open Go Ab
def chrs (l : List Nat) : List Char := l.map Char.ofNat
theorem qK : ∀ trees, All2 (nT Tryz.prog 5) trees Tryz.f3.params.toList → ∃ m h, callOf Γ (ev Γ m) 635 (trees.map .p) [] = some ([.p (.bool true)], h) := by
 intro trees h
 have hp : Tryz.f3.params.toList = [3, 22] := by kernel_rfl
 rw [hp] at h
 obtain ⟨p0, p1, rfl, h0, h1⟩ := all2_2 h
 obtain ⟨a0, rfl, b0⟩ := AJ (k := .i64) h0 (by kernel_rfl) (by kernel_rfl)
 obtain ⟨k1, a1, rfl, b1, -, c1⟩ := xQ (e := 9) h1 (by kernel_rfl) (by kernel_rfl) (by kernel_rfl) (by kernel_rfl) (by kernel_rfl)
 exact wJ (oQ a0 a1 (i64_wf b0))
theorem gi_is (n : Nat) (h : n ∈ Γ.gi) : n = 78 := List.mem_singleton.1 h
theorem gi_at : names.gl 78 = 0 := by kernel_rfl
theorem ints_of {W : World} (hsh : W.ShapedOpen Tryz.prog) : GlRel Γ names W fun g => g < W.heap.size :=
 yP (fun n cs h => by cases h) fun n hn => by
  rw [gi_is n hn, gi_at]
  exact cell_of_shapedOpen_int (P := Tryz.prog) (g := 0) (t := 3) (zero := #[.int .i64 0]) hsh (of_decide_eq_true (by kernel_rfl)) (by kernel_rfl) rfl (by kernel_rfl) (by kernel_rfl) Tryz.underlying3
def wargs : Array Value := #[.int .i64 0, .slice Option.none 0 0]
def wds {H : Type} : List (DataW H) := [.lit (.int .i64 0), .nil]
theorem own : ownKnob Tryz.prog.godebug = Option.none := by kernel_rfl
theorem enters : Enters Tryz.prog 3 := Ab.enters_of Tryz.func3 (by kernel_rfl) (by kernel_rfl)
set_option maxRecDepth 100000 in
theorem contract (H : Type) (enc : TypeId × Value → H) (W : World) (base : Nat) (args : Array Value) (ds gs : List (DataW H)) (before : List MemPlace)
  (hval : ∀ (j : Nat) t v, Tryz.f3.params[j]? = some t → args[j]? = some v → Value.okWide Tryz.prog W .any base t v)
  (hW : DataW.Whole enc Tryz.prog Tryz.f3.params.toList Rows.storeFullSpec.vars false W args.toList ds gs before) (hsh : W.ShapedOpen Tryz.prog) :
  Calls Tryz.prog 3 args W fun e W' => ∃ v, e = .returned v ∧ Rows.storeFullSpec.post enc Tryz.prog Tryz.f3 false true false false W args v W' :=
 zZ (f := 3) (fn := Tryz.f3) (s := Rows.storeFullSpec) (args := args) (ds := ds) (gs := gs) (before := before) (b0 := base) (r := .any) (lf := 635) (n := 5) known (by kernel_rfl) enters (ints_of hsh) (by kernel_rfl) (by kernel_rfl) (by kernel_rfl) (tb := 4) (by kernel_rfl) (by kernel_rfl) rfl
  (fun ds h => by
   have hl : Tryz.f3.params.toList.length = 2 := by kernel_rfl
   rw [hl] at h
   match ds, h with
   | [d0, d1], _ => rfl) qK hval hW
theorem laid_met (os : Os) : laidMet Tryz.prog Rows.storeFullRow.laid ((World.laidAll Tryz.prog os Rows.storeFullRow.laid).forCall (fun _ _ => 0) ⟨#[], wargs, []⟩).memory :=
 laidMet_laidAll wargs (by kernel_rfl) (by kernel_rfl)
theorem reads (os : Os) {H : Type} (enc : TypeId × Value → H) : ∃ places, DataW.whole enc Tryz.prog ((World.laidAll Tryz.prog os Rows.storeFullRow.laid).forCall (fun _ _ => 0) ⟨#[], wargs, []⟩).memory Tryz.f3.params.toList Rows.storeFullSpec.vars false wargs.toList 8 = some (wds, [], places) :=
 ⟨[], by kernel_rfl⟩
set_option maxRecDepth 100000 in
theorem lifted (os : Os) (started : os.Started) (H : Type) (enc : TypeId × Value → H) (F : Stop.Interp) :
  ReturnsInHanded {} Tryz.checked os 3 .any ((OpenSpec.ofChange Rows.storeFullSpec).preRow enc Tryz.prog Tryz.f3 Rows.storeFullRow.domain false Rows.storeFullRow.laid) (((OpenSpec.ofChange Rows.storeFullSpec).at F).post enc Tryz.prog Tryz.f3 false true false false) := by
 obtain ⟨places, hx⟩ := reads os enc
 refine returnsInHanded_of_row (C := Tryz.checked) (s := OpenSpec.ofChange Rows.storeFullSpec) own started (by kernel_rfl) Tryz.func3
  (witness_row_at (enc := enc) (C := Tryz.checked) false (World.laidAll Tryz.prog os Rows.storeFullRow.laid) wargs (World.laidAll_os _ _ _) (by kernel_rfl) (by kernel_rfl) (by kernel_rfl)
   (OpenSpec.preRow_of_cond 8 hx (by kernel_rfl) (fun k hk => by cases hk) (by kernel_rfl) (laid_met os))) ?_
 intro W base args ds gs before hval hW _ _ _ _ hsh _
 exact contract H enc W base args ds gs before hval hW hsh
def wl : List Char := (chrs [104,97,114,110,101,115,115,32,100,50,56,54,53,50,56,48,49,49,54,99,51,102,52,50,102,101,97,52,55,50,98,102,99,101,50,50,102,98,52,100,53,100,98,53,54,97,52,99,97,57,53,53,57,99,51,56,48,101,97,56,101,97,49,101,102,54,99,48,48,98,48,99,32,99,117,116,32,97,116,32,103,114,97,116,105,99,117,108,101,47,103,114,97,116,105,99,117,108,101,108,97,119,50,54,46,83,116,111,114,101,70,117,108,108])
def wr : List (List Char) := [(chrs [97,116]),(chrs [103,114,97,116,105,99,117,108,101,47,103,114,97,116,105,99,117,108,101,108,97,119,50,54,46,83,116,111,114,101,70,117,108,108])]
set_option maxRecDepth 100000 in
theorem words : wordsSigns Tryz.pinned.checked.prog.initOrder.toList = lL [] wl := by
 have h : Tryz.pinned.checked.prog.initOrder = String.ofList wl := by kernel_rfl
 rw [h, String.toList_ofList, qh]
set_option maxRecDepth 100000 in
theorem headed : wordsSigns Tryz.pinned.checked.prog.initOrder.toList = (chrs [104,97,114,110,101,115,115]) :: (chrs [100,50,56,54,53,50,56,48,49,49,54,99,51,102,52,50,102,101,97,52,55,50,98,102,99,101,50,50,102,98,52,100,53,100,98,53,54,97,52,99,97,57,53,53,57,99,51,56,48,101,97,56,101,97,49,101,102,54,99,48,48,98,48,99]) :: (chrs [99,117,116]) :: wr := by
 rw [words]; kernel_rfl
theorem behind : behindMainWord (wordsSigns Tryz.pinned.checked.prog.initOrder.toList) = (chrs [99,117,116]) :: wr := by
 rw [headed]; kernel_rfl
theorem later_is : Tryz.pinned.checked.prog.laysLater = false := by kernel_rfl
theorem xJ : Tryz.pinned.checked.prog.bearsReflect = false := by kernel_rfl
theorem door_is : Tryz.pinned.checked.prog.doorFits [] = true := by kernel_rfl
theorem c2 : laidOutB Tryz.pinned.checked.prog = true := by kernel_rfl
theorem c3 : mapsRowed Tryz.pinned.checked.prog = true := by kernel_rfl
theorem c7 : (Tryz.pinned.checked.prog.stops == []) = true := by kernel_rfl
theorem c9 : (Tryz.pinned.checked.prog.stopKnobs == []) = true := by kernel_rfl
theorem c10 : (Rows.storeFullRow.inPlace == Tryz.pinned.checked.prog.inPlace 3) = true := by kernel_rfl
theorem c11 : (Rows.storeFullRow.unfollowed == Tryz.pinned.checked.prog.unfollowed 3) = true := by kernel_rfl
theorem c12 : (Rows.storeFullRow.recurses == Tryz.pinned.checked.prog.recurses 3) = true := by kernel_rfl
theorem c13 : (Rows.storeFullRow.named == Tryz.pinned.checked.prog.varsNamed 3) = true := by kernel_rfl
theorem c22 : (Rows.storeFullRow.plainKeys == Tryz.pinned.checked.prog.plainKeys) = true := by kernel_rfl
theorem c23 : Tryz.pinned.checked.prog.stopsHeard = true := by kernel_rfl
theorem closed : joinedFacts Tryz.pinned.checked.prog 3 Tryz.f3 (OpenSpec.ofChange Rows.storeFullSpec).bare Rows.storeFullRow = true := by
 unfold joinedFacts; rw [zk behind later_is xJ door_is, AF behind, make_cut behind, c2, c3, c7, c9, c10, c11, c12, c13, c22, c23]; kernel_rfl
theorem said : Rows.StoreFullSaid :=
 OpenClaim.holds_of_cond 3 Tryz.f3 rfl rfl rfl rfl rfl rfl rfl ⟨rfl, rfl, rfl, rfl, rfl⟩ rfl rfl rfl rfl rfl (by kernel_rfl) Tryz.func3 closed
  (of_decide_eq_true (by kernel_rfl)) (by unfold Func.isWrapper; first | (rw [if_pos (by decide +kernel)]; kernel_rfl) | (rw [if_neg (by decide +kernel)]; exact ⟨rfl, rfl⟩))
  (fun os started H enc _ F => by rw [OpenClaim.pre_eq_preRow]; exact lifted os started H enc F)
theorem plain (f : FuncId) (fn : Func) (hf : Tryz.pinned.checked.prog.funcNamed "graticule/graticulelaw26.StoreFull" = some f) (hfn : Tryz.pinned.checked.prog.funcs[f]? = some fn) :
  true = Tryz.pinned.checked.prog.looks [] ∧ ∀ (j : Nat) t, fn.params[j]? = some t → Tryz.pinned.checked.prog.wantsStandIn t = false := by
 obtain rfl : f = 3 := Option.some.inj ((show Tryz.prog.funcNamed "graticule/graticulelaw26.StoreFull" = some 3 by kernel_rfl).symm.trans hf) |>.symm
 obtain rfl : fn = Tryz.f3 := (Option.some.inj (Tryz.func3.symm.trans hfn)).symm
 refine ⟨by kernel_rfl, fun j t ht => ?_⟩
 have hall : Tryz.f3.params.toList.all (fun t => !Tryz.prog.wantsStandIn t) = true := by kernel_rfl
 have := List.all_eq_true.1 hall t (by simpa using Array.mem_of_getElem? ht)
 have h2 : Tryz.prog.wantsStandIn t = false := by simpa using this
 exact h2
theorem main_is : Tryz.pinned.checked.prog.mainIs = some (true, "d2865280116c3f42fea472bfce22fb4d5db56a4ca9559c380ea8ea1ef6c00b0c".toList) := by
 have e : "d2865280116c3f42fea472bfce22fb4d5db56a4ca9559c380ea8ea1ef6c00b0c".toList = (chrs [100,50,56,54,53,50,56,48,49,49,54,99,51,102,52,50,102,101,97,52,55,50,98,102,99,101,50,50,102,98,52,100,53,100,98,53,54,97,52,99,97,57,53,53,57,99,51,56,48,101,97,56,101,97,49,101,102,54,99,48,48,98,48,99]) := by
  rw [show "d2865280116c3f42fea472bfce22fb4d5db56a4ca9559c380ea8ea1ef6c00b0c" = String.ofList (chrs [100,50,56,54,53,50,56,48,49,49,54,99,51,102,52,50,102,101,97,52,55,50,98,102,99,101,50,50,102,98,52,100,53,100,98,53,54,97,52,99,97,57,53,53,57,99,51,56,48,101,97,56,101,97,49,101,102,54,99,48,48,98,48,99]) by rfl, String.toList_ofList]
 rw [e]; exact main_har headed (by kernel_rfl)
theorem card : Rows.StoreFullCardSaid :=
 Claim7.holds_tied_plain_at .later [] _ _ _ _ said (fun _ h => by cases h) (by kernel_rfl) (fun _ h => by cases h) storeFull_row_tie rfl ⟨rfl, rfl⟩ main_is rfl plain (by kernel_rfl)
end Go.Proofs.YtlgclfmmnifgoaaGreatDoor
