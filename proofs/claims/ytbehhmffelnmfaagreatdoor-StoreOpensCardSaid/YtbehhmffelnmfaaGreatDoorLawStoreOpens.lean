/- The law StoreOpens (graticulelaw26) answers true at every argument that its statement allows; the conditions are the given statement's own, none is added. -/
import Derived.Test.YtbehhmffelnmfaaGreatDoorSeat
import Derived.Test.YtbehhmffelnmfaaGreatDoorAbW2
import Derived.Shelf.Vars
import Derived.Test.YtbehhmffelnmfaaGreatDoorLOp59
import Derived.Test.YtbehhmffelnmfaaGreatDoorCards
import Derived.Test.YtbehhmffelnmfaaGreatDoorTie
import Derived.WalkKit
import Derived.ProofKit
import Derived.OpenShut
import Derived.Deep.DeepHandedRow
import Derived.Lib.LaidTab
import Derived.Lay
set_option linter.all false
namespace Go.Proofs.YtbehhmffelnmfaaGreatDoor
open Go Ab
def chrs(l:List Nat):List Char:=l.map Char.ofNat
theorem actO:ActO Tryz.prog 67 3 9 40 37:=⟨by kernel_rfl,by kernel_rfl,by kernel_rfl,by kernel_rfl,by kernel_rfl,by kernel_rfl,by kernel_rfl⟩
theorem Ar:∀trees,All2 (tG Tryz.prog 5) trees Tryz.f5.params.toList->∃m h,callOf Γ (ev Γ m) 651 (trees.map .p) []=some ([.p (.bool true)],h):=by
 intro trees h;have hp:Tryz.f5.params.toList=[64,3,3]:=by kernel_rfl
 rw[hp]at h;obtain⟨p0,p1,p2,rfl,h0,h1,h2⟩:=all2_3 h;obtain⟨k0,a0,rfl,b0⟩:=Iy actO h0 (by kernel_rfl) (by kernel_rfl);obtain⟨a1,rfl,b1⟩:=EK (k:=.i64) h1 (by kernel_rfl) (by kernel_rfl);obtain⟨a2,rfl,b2⟩:=EK (k:=.i64) h2 (by kernel_rfl) (by kernel_rfl);exact Ob (xe a0 a1 a2 b0 (i64_wf b1) (i64_wf b2))
theorem gi_is(n:Nat)(h:n∈Γ.gi):n=78:=List.mem_singleton.1 h
theorem gi_at:names.gl 78=0:=by kernel_rfl
theorem ints_of{W:World}(hsh:W.ShapedOpen Tryz.prog):GlRel Γ names W λg=>g<W.heap.size:=Py (λn cs h=>by cases h) λn hn=>by rw[gi_is n hn,gi_at];exact cell_of_shapedOpen_int (P:=Tryz.prog) (g:=0) (t:=3) (zero:=#[.int .i64 0]) hsh (of_decide_eq_true (by kernel_rfl)) (by kernel_rfl) rfl (by kernel_rfl) (by kernel_rfl) Tryz.underlying3
def wargs:Array Value:=#[.slice Option.none 0 0,.int .i64 0,.int .i64 0]
def wds{H:Type}:List (DataW H):=[.nil,.lit (.int .i64 0),.lit (.int .i64 0)]
theorem own:ownKnob Tryz.prog.godebug=Option.none:=by kernel_rfl
theorem enters:Enters Tryz.prog 5:=Ab.enters_of Tryz.func5 (by kernel_rfl) (by kernel_rfl)
set_option maxRecDepth 100000 in
theorem contract(H:Type)(enc:TypeId×Value->H)(W:World)(base:Nat)(args:Array Value)(ds gs:List (DataW H))(before:List MemPlace)(hval:∀(j:Nat)t v,Tryz.f5.params[j]?=some t->args[j]?=some v->Value.okWide Tryz.prog W .any base t v)(hW:DataW.Whole enc Tryz.prog Tryz.f5.params.toList Rows.storeOpensSpec.vars false W args.toList ds gs before)(hsh:W.ShapedOpen Tryz.prog):Calls Tryz.prog 5 args W λe W'=>∃v,e=.returned v/\Rows.storeOpensSpec.post enc Tryz.prog Tryz.f5 false true false false W args v W':=QP (f:=5) (fn:=Tryz.f5) (s:=Rows.storeOpensSpec) (args:=args) (ds:=ds) (gs:=gs) (before:=before) (b0:=base) (r:=.any) (lf:=651) (n:=5) known (by kernel_rfl) enters (ints_of hsh) (by kernel_rfl) (by kernel_rfl) (by kernel_rfl) (tb:=4) (by kernel_rfl) (by kernel_rfl) rfl (λds h=>by
   have hl:Tryz.f5.params.toList.length=3:=by kernel_rfl
   rw[hl]at h;match ds,h with|[d0,d1,d2],_=>rfl) Ar hval hW
theorem laid_met(os:Os):laidMet Tryz.prog Rows.storeOpensRow.laid ((World.laidAll Tryz.prog os Rows.storeOpensRow.laid).forCall (λ_ _=>0) ⟨#[],wargs,[]⟩).memory:=laidMet_laidAll wargs (by kernel_rfl) (by kernel_rfl)
theorem reads(os:Os){H:Type}(enc:TypeId×Value->H):∃places,DataW.whole enc Tryz.prog ((World.laidAll Tryz.prog os Rows.storeOpensRow.laid).forCall (λ_ _=>0) ⟨#[],wargs,[]⟩).memory Tryz.f5.params.toList Rows.storeOpensSpec.vars false wargs.toList 8=some (wds,[],places):=⟨[],by kernel_rfl⟩
set_option maxRecDepth 100000 in
theorem lifted (os : Os) (started : os.Started) (H : Type) (enc : TypeId × Value → H) (F : Stop.Interp) :
  ReturnsInHanded {} Tryz.checked os 5 .any ((OpenSpec.ofChange Rows.storeOpensSpec).preRow enc Tryz.prog Tryz.f5 Rows.storeOpensRow.domain false Rows.storeOpensRow.laid) (((OpenSpec.ofChange Rows.storeOpensSpec).at F).post enc Tryz.prog Tryz.f5 false true false false) := by
 obtain ⟨places, hx⟩ := reads os enc
 refine returnsInHanded_of_row (C := Tryz.checked) (s := OpenSpec.ofChange Rows.storeOpensSpec) own started (by kernel_rfl) Tryz.func5
  (witness_row_at (enc := enc) (C := Tryz.checked) false (World.laidAll Tryz.prog os Rows.storeOpensRow.laid) wargs (World.laidAll_os _ _ _) (by kernel_rfl) (by kernel_rfl) (by kernel_rfl)
   (OpenSpec.preRow_of_cond 8 hx (by kernel_rfl) (fun k hk => by cases hk) (by kernel_rfl) (laid_met os))) ?_
 intro W base args ds gs before hval hW _ _ _ _ hsh _
 exact contract H enc W base args ds gs before hval hW hsh


def wl:List Char:=(chrs [104,97,114,110,101,115,115,32,98,49,51,53,56,54,99,54,54,53,97,48,100,50,100,52,102,56,97,97,100,55,53,57,100,49,56,100,102,56,49,102,48,54,55,101,53,101,53,53,52,51,49,52,48,97,57,102,97,53,98,48,50,54,98,102,102,57,53,48,99,48,99,55,32,99,117,116,32,97,116,32,103,114,97,116,105,99,117,108,101,47,103,114,97,116,105,99,117,108,101,108,97,119,50,54,46,83,116,111,114,101,70,117,108,108,32,103,114,97,116,105,99,117,108,101,47,103,114,97,116,105,99,117,108,101,108,97,119,50,54,46,83,116,111,114,101,79,102,78,111,116,104,105,110,103,32,103,114,97,116,105,99,117,108,101,47,103,114,97,116,105,99,117,108,101,108,97,119,50,54,46,83,116,111,114,101,79,112,101,110,115])
def wr:List (List Char):=[(chrs [97,116]),(chrs [103,114,97,116,105,99,117,108,101,47,103,114,97,116,105,99,117,108,101,108,97,119,50,54,46,83,116,111,114,101,70,117,108,108]),(chrs [103,114,97,116,105,99,117,108,101,47,103,114,97,116,105,99,117,108,101,108,97,119,50,54,46,83,116,111,114,101,79,102,78,111,116,104,105,110,103]),(chrs [103,114,97,116,105,99,117,108,101,47,103,114,97,116,105,99,117,108,101,108,97,119,50,54,46,83,116,111,114,101,79,112,101,110,115])]
set_option maxRecDepth 100000 in
theorem words:wordsSigns Tryz.pinned.checked.prog.initOrder.toList=vr [] wl:=by
 have h:Tryz.pinned.checked.prog.initOrder=String.ofList wl:=by kernel_rfl
 rw[h,String.toList_ofList,CW]
set_option maxRecDepth 100000 in
theorem headed:wordsSigns Tryz.pinned.checked.prog.initOrder.toList=(chrs [104,97,114,110,101,115,115])::(chrs [98,49,51,53,56,54,99,54,54,53,97,48,100,50,100,52,102,56,97,97,100,55,53,57,100,49,56,100,102,56,49,102,48,54,55,101,53,101,53,53,52,51,49,52,48,97,57,102,97,53,98,48,50,54,98,102,102,57,53,48,99,48,99,55])::(chrs [99,117,116])::wr:=by rw[words];kernel_rfl
theorem behind:behindMainWord (wordsSigns Tryz.pinned.checked.prog.initOrder.toList)=(chrs [99,117,116])::wr:=by rw[headed];kernel_rfl
theorem later_is:Tryz.pinned.checked.prog.laysLater=false:=by kernel_rfl
theorem Pz:Tryz.pinned.checked.prog.bearsReflect=false:=by kernel_rfl
theorem door_is:Tryz.pinned.checked.prog.doorFits []=true:=by kernel_rfl
theorem c2:laidOutB Tryz.pinned.checked.prog=true:=by kernel_rfl
theorem c3:mapsRowed Tryz.pinned.checked.prog=true:=by kernel_rfl
theorem c7:(Tryz.pinned.checked.prog.stops==[])=true:=by kernel_rfl
theorem c9:(Tryz.pinned.checked.prog.stopKnobs==[])=true:=by kernel_rfl
theorem c10:(Rows.storeOpensRow.inPlace==Tryz.pinned.checked.prog.inPlace 5)=true:=by kernel_rfl
theorem c11:(Rows.storeOpensRow.unfollowed==Tryz.pinned.checked.prog.unfollowed 5)=true:=by kernel_rfl
theorem c12:(Rows.storeOpensRow.recurses==Tryz.pinned.checked.prog.recurses 5)=true:=by kernel_rfl
theorem c13:(Rows.storeOpensRow.named==Tryz.pinned.checked.prog.varsNamed 5)=true:=by kernel_rfl
theorem c22:(Rows.storeOpensRow.plainKeys==Tryz.pinned.checked.prog.plainKeys)=true:=by kernel_rfl
theorem c23:Tryz.pinned.checked.prog.stopsHeard=true:=by kernel_rfl
theorem closed:joinedFacts Tryz.pinned.checked.prog 5 Tryz.f5 (OpenSpec.ofChange Rows.storeOpensSpec).bare Rows.storeOpensRow=true:=by unfold joinedFacts;rw[RB behind later_is Pz door_is,Su behind,make_cut behind,c2,c3,c7,c9,c10,c11,c12,c13,c22,c23];kernel_rfl
theorem said:Rows.StoreOpensSaid:=OpenClaim.holds_of_cond 5 Tryz.f5 rfl rfl rfl rfl rfl rfl rfl ⟨rfl,rfl,rfl,rfl,rfl⟩ rfl rfl rfl rfl rfl (by kernel_rfl) Tryz.func5 closed (of_decide_eq_true (by kernel_rfl)) (by unfold Func.isWrapper;first|(rw[if_pos (by decide+kernel)];kernel_rfl)|(rw[if_neg (by decide+kernel)];exact⟨rfl,rfl⟩)) (λos started H enc _ F=>by rw[OpenClaim.pre_eq_preRow];exact lifted os started H enc F)
theorem plain(f:FuncId)(fn:Func)(hf:Tryz.pinned.checked.prog.funcNamed "graticule/graticulelaw26.StoreOpens"=some f)(hfn:Tryz.pinned.checked.prog.funcs[f]?=some fn):true=Tryz.pinned.checked.prog.looks []/\∀(j:Nat)t,fn.params[j]?=some t->Tryz.pinned.checked.prog.wantsStandIn t=false:=by
 obtain rfl:f=5:=Option.some.inj ((show Tryz.prog.funcNamed "graticule/graticulelaw26.StoreOpens"=some 5 by kernel_rfl).symm.trans hf)|>.symm;obtain rfl:fn=Tryz.f5:=(Option.some.inj (Tryz.func5.symm.trans hfn)).symm;refine⟨by kernel_rfl,λj t ht=>?_⟩;have hall:Tryz.f5.params.toList.all (λt=>!Tryz.prog.wantsStandIn t)=true:=by kernel_rfl
 have :=List.all_eq_true.1 hall t (by simpa using Array.mem_of_getElem? ht);have h2:Tryz.prog.wantsStandIn t=false:=by simpa using this
 exact h2
theorem goes0:Tryz.pinned.checked.prog.funcs.any Func.goes=false:=by kernel_rfl
theorem goes1(f:FuncId):Tryz.pinned.checked.prog.goes f=false:=by have h:=goes0;generalize Tryz.pinned.checked.prog=P at h⊢;unfold Program.goes;rw[h,Bool.and_false,Bool.or_false,List.any_eq_false];intro g _ e;cases q:P.funcs[g]? with|none=>rw[q]at e;cases e|some x=>rw[q]at e;obtain⟨i,rfl⟩:=Array.getElem?_eq_some_iff.1 q;exact Array.any_eq_false.1 h g i e
theorem goes2:false=Rows.storeOpensRow.goesBy Tryz.pinned.checked.prog:=by have h:=goes1;unfold OpenClaim.goesBy Program.goesAt Program.goesFrom;rw[show Rows.storeOpensRow.start=.entering from rfl];generalize Tryz.pinned.checked.prog=P at h⊢;cases P.funcNamed Rows.storeOpensRow.func with|none=>rfl|some f=>simp[h]
theorem main_is:Tryz.pinned.checked.prog.mainIs=some (true,"b13586c665a0d2d4f8aad759d18df81f067e5e5543140a9fa5b026bff950c0c7".toList):=by
 have e: "b13586c665a0d2d4f8aad759d18df81f067e5e5543140a9fa5b026bff950c0c7".toList=(chrs [98,49,51,53,56,54,99,54,54,53,97,48,100,50,100,52,102,56,97,97,100,55,53,57,100,49,56,100,102,56,49,102,48,54,55,101,53,101,53,53,52,51,49,52,48,97,57,102,97,53,98,48,50,54,98,102,102,57,53,48,99,48,99,55]):=by rw[show "b13586c665a0d2d4f8aad759d18df81f067e5e5543140a9fa5b026bff950c0c7"=String.ofList (chrs [98,49,51,53,56,54,99,54,54,53,97,48,100,50,100,52,102,56,97,97,100,55,53,57,100,49,56,100,102,56,49,102,48,54,55,101,53,101,53,53,52,51,49,52,48,97,57,102,97,53,98,48,50,54,98,102,102,57,53,48,99,48,99,55])by rfl,String.toList_ofList]
 rw[e];exact main_har headed (by kernel_rfl)
theorem card:Rows.StoreOpensCardSaid:=Claim7.holds_tied_plain_at .later [] _ _ _ _ said (λ_ h=>by cases h) (by kernel_rfl) (λ_ h=>by cases h) storeOpens_row_tie rfl ⟨rfl,rfl⟩ main_is rfl plain goes2
end Go.Proofs.YtbehhmffelnmfaaGreatDoor
