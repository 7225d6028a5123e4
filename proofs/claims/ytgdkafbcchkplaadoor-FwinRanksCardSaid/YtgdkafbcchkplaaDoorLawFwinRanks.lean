import Derived.Test.YtgdkafbcchkplaaDoorSeat
import Derived.Test.YtgdkafbcchkplaaDoorPSer
import Derived.Test.YtgdkafbcchkplaaDoorAbZ4
import Derived.Test.YtgdkafbcchkplaaDoorLClone
import Derived.Test.YtgdkafbcchkplaaDoorCards
import Derived.Test.YtgdkafbcchkplaaDoorTie
import Derived.WalkKit
import Derived.ProofKit
import Derived.OpenShut
import Derived.Deep.DeepHandedRow
import Derived.Lib.LaidTab
import Derived.Lay
/- FwinRanks holds of the program at every argument. No condition. -/
namespace Go.Proofs.YtgdkafbcchkplaaDoor
open Go Ab
theorem valT : ValT Tryd.prog 30 3 4 := ⟨by kernel_rfl, by kernel_rfl, by kernel_rfl, by kernel_rfl⟩
theorem fwinRanks_law : ∀ trees, All2 (treeT Tryd.prog 5) trees Tryd.f4.params.toList → ∃ m h, callOf Γ (ev Γ m) 213 (trees.map .p) [] = some ([.p (.bool true)], h) := by
  intro trees h
  have hp : Tryd.f4.params.toList = [22] := by kernel_rfl
  rw [hp] at h
  obtain ⟨p0, rfl, h0⟩ := all2_1 h
  obtain ⟨k0, a0, rfl, b0, -, c0⟩ := treeT_vals valT h0 (by kernel_rfl) (by kernel_rfl)
  exact law_of_res (res_FwinRanksA a0 b0 c0)

theorem gl_is (n : Nat) (cs : List PV) (h : Γ.gl n = some cs) : n = 154 ∧ cs = Lib.pow10Tab.map (.int .u64) := by
  simp only [Γ] at h
  split at h
  · cases h; exact ⟨rfl, by kernel_rfl⟩
  · cases h

def wargs : Array Value := #[.slice Option.none 0 0]
def wds {H : Type} : List (DataW H) := [.nil]
theorem own : ownKnob Tryd.prog.godebug = Option.none := by kernel_rfl
theorem enters : Enters Tryd.prog 4 := Ab.enters_of Tryd.func4 (by kernel_rfl) (by kernel_rfl)
set_option maxRecDepth 100000 in
theorem contract (H : Type) (enc : TypeId × Value → H) (W : World) (base : Nat) (args : Array Value) (ds gs : List (DataW H)) (before : List MemPlace)
    (hval : ∀ (j : Nat) t v, Tryd.f4.params[j]? = some t → args[j]? = some v → Value.okWide Tryd.prog W .any base t v)
    (hW : DataW.Whole enc Tryd.prog Tryd.f4.params.toList Rows.fwinRanksSpec.vars false W args.toList ds gs before) (htab : Lib.TabIs Tryd.prog W "internal/strconv.uint64pow10" .u64 Lib.pow10Tab) :
    Calls Tryd.prog 4 args W fun e W' => ∃ v, e = .returned v ∧ Rows.fwinRanksSpec.post enc Tryd.prog Tryd.f4 false true false false W args v W' :=
  law_calls (f := 4) (fn := Tryd.f4) (s := Rows.fwinRanksSpec) (args := args) (ds := ds) (gs := gs) (before := before) (b0 := base) (r := .any) (lf := 213) (n := 5) known (by kernel_rfl) enters (glRel_tab (gv := 154) (fun n cs h => gl_is n cs h) (by decide) (by kernel_rfl) htab) (by kernel_rfl) (by kernel_rfl) (by kernel_rfl) (tb := 4) (by kernel_rfl) (by kernel_rfl) rfl
    (fun ds h => by
      have hl : Tryd.f4.params.toList.length = 1 := by kernel_rfl
      rw [hl] at h
      match ds, h with
      | [d0], _ => rfl) fwinRanks_law hval hW

theorem laid_met (os : Os) : laidMet Tryd.prog Rows.fwinRanksRow.laid ((World.laidAll Tryd.prog os Rows.fwinRanksRow.laid).forCall (fun _ _ => 0) ⟨#[], wargs, []⟩).memory :=
  laidMet_laidAll wargs (by kernel_rfl) (by kernel_rfl)
theorem reads (os : Os) {H : Type} (enc : TypeId × Value → H) : ∃ places, DataW.whole enc Tryd.prog ((World.laidAll Tryd.prog os Rows.fwinRanksRow.laid).forCall (fun _ _ => 0) ⟨#[], wargs, []⟩).memory Tryd.f4.params.toList Rows.fwinRanksSpec.vars false wargs.toList 8 = some (wds, [], places) :=
  ⟨[], by kernel_rfl⟩
set_option maxRecDepth 100000 in
theorem lifted (os : Os) (started : os.Started) (H : Type) (enc : TypeId × Value → H) (F : Stop.Interp) :
    ReturnsInHanded {} Tryd.checked os 4 .any ((OpenSpec.ofChange Rows.fwinRanksSpec).preRow enc Tryd.prog Tryd.f4 Rows.fwinRanksRow.domain false Rows.fwinRanksRow.laid) (((OpenSpec.ofChange Rows.fwinRanksSpec).at F).post enc Tryd.prog Tryd.f4 false true false false) := by
  obtain ⟨places, hx⟩ := reads os enc
  refine returnsInHanded_of_row (C := Tryd.checked) (s := OpenSpec.ofChange Rows.fwinRanksSpec) own started (by kernel_rfl) Tryd.func4
    (witness_row_at (enc := enc) (C := Tryd.checked) false (World.laidAll Tryd.prog os Rows.fwinRanksRow.laid) wargs (World.laidAll_os _ _ _) (by kernel_rfl) (by kernel_rfl) (by kernel_rfl)
      (OpenSpec.preRow_of_cond 8 hx (by kernel_rfl) (fun k hk => by cases hk) (by kernel_rfl) (laid_met os))) ?_
  intro W base args ds gs before hval hW _ _ _ hlaid _ _
  obtain ⟨_, hlv, _⟩ : laidMet Tryd.prog Rows.fwinRanksRow.laid W := hlaid
  exact contract H enc W base args ds gs before hval hW (tabIs_of_laid (g := 3) (n := 20) (t := 114) (e := 77) (by kernel_rfl) (by kernel_rfl) (by kernel_rfl) (by kernel_rfl) (by kernel_rfl) (by kernel_rfl) hlv 2 rfl)
theorem said : Rows.FwinRanksSaid :=
  OpenClaim.holds_of_cond 4 Tryd.f4 rfl rfl rfl rfl rfl rfl rfl ⟨rfl, rfl, rfl, rfl, rfl⟩ rfl rfl rfl rfl rfl (by kernel_rfl) Tryd.func4 (by kernel_rfl)
    (of_decide_eq_true (by kernel_rfl)) (by unfold Func.isWrapper; first | (rw [if_pos (by decide +kernel)]; kernel_rfl) | (rw [if_neg (by decide +kernel)]; exact ⟨rfl, rfl⟩))
    (fun os started H enc _ F => by rw [OpenClaim.pre_eq_preRow]; exact lifted os started H enc F)

theorem plain (f : FuncId) (fn : Func) (hf : Tryd.pinned.checked.prog.funcNamed "graticule/graticulelaw21.FwinRanks" = some f) (hfn : Tryd.pinned.checked.prog.funcs[f]? = some fn) :
    false = Tryd.pinned.checked.prog.looks [] ∧ ∀ (j : Nat) t, fn.params[j]? = some t → Tryd.pinned.checked.prog.wantsStandIn t = false := by
  obtain rfl : f = 4 := Option.some.inj ((show Tryd.prog.funcNamed "graticule/graticulelaw21.FwinRanks" = some 4 by kernel_rfl).symm.trans hf) |>.symm
  obtain rfl : fn = Tryd.f4 := (Option.some.inj (Tryd.func4.symm.trans hfn)).symm
  refine ⟨by kernel_rfl, fun j t ht => ?_⟩
  have hall : Tryd.f4.params.toList.all (fun t => !Tryd.prog.wantsStandIn t) = true := by kernel_rfl
  have := List.all_eq_true.1 hall t (by simpa using Array.mem_of_getElem? ht)
  have h2 : Tryd.prog.wantsStandIn t = false := by simpa using this
  exact h2
theorem card : Rows.FwinRanksCardSaid :=
  Claim7.holds_tied_plain_at .later [] _ _ _ _ said (fun _ h => by cases h) (by kernel_rfl) (fun _ h => by cases h) fwinRanks_row_tie rfl ⟨rfl, rfl⟩ (by kernel_rfl) rfl plain (by kernel_rfl)
end Go.Proofs.YtgdkafbcchkplaaDoor
