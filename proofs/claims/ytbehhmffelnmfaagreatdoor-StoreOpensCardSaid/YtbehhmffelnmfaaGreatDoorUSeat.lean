import Derived.Test.YtbehhmffelnmfaaGreatDoorAbB3
import Derived.Tactics
import Derived.Tactics2
import Derived.StillTactics
import Derived.LoopTactic
import Derived.LoopN
import Derived.Scope
import Derived.Laws.World
import Derived.Laws.Sem
import Derived.Laws.Wrap64
import Derived.WalkKit
import Derived.KernelRfl
import Derived.Test.YtbehhmffelnmfaaGreatDoorProg
set_option linter.all false
namespace Go.Proofs
open Ab
theorem Tryz.used_nil(w:World):Calls Tryz.prog 12 #[.pointer none] w λe w'=>e=.returned (.int .i64 0)/\Ab.Grows w w':=by go_enter Tryz.func12,Tryz.ntmps12;go_wp2;go_ret;exact⟨rfl,.refl _⟩
set_option maxRecDepth 1000000 in
theorem Tryz.used_some(g:Nat)(arr:Array Value)(t:TypeId)(bm:Nat)(es:Array MapEntry)(clock:Nat)(w:World)(_hg:w.heap[g]?=some (.cells arr t (0,0)))(hm:w.cell? ⟨g,2,none⟩=some (.map (some bm)))(hb:w.heap[bm]?=some (.map es clock))(hst:MapKept.Stamped es clock)(hv:∀x∈es.toList,∃a n c,x.val=.slice a n c)(hle:qj es.toList<=1000000000000):Calls Tryz.prog 12 #[.pointer (some ⟨g,0,none⟩)] w λe w'=>e=.returned (.int .i64 (qj es.toList:Nat))/\Ab.Grows w w':=by
 have hrg:=run_range_map (P:=Tryz.prog) w 98 9 99 bm es clock Tryz.underlying98 hb;go_enter Tryz.func12,Tryz.ntmps12;go_wp2;go_loopw[3](λs w'=>∃(w1:World)(seen:Array Nat),w1.Alike w/\w1.tape=w.tape/\w'=w1.alloc (.mapIter (some bm) clock seen clock)/\s=.int .i64 (iV es.toList seen:Nat))(λ_ w'=>(leftOf es (w'.iterSeen w.heap.size)).size);case atStart=>exact⟨w,#[],⟨rfl,rfl,rfl⟩,rfl,rfl,by rw[uL];rfl⟩
 case round=>
  obtain⟨w1,seen,hal,htp,rfl,rfl⟩:=hrel;have hsz:w1.heap.size=w.heap.size:=by rw[hal.1]
  have hb1:w1.heap[bm]?=some (.map es clock):=by rw[hal.1];exact hb
  have law:=run_next_map (P:=Tryz.prog) w1 0 bm clock clock seen es clock hb1 hst.1 (Nat.le_refl _);rw[hsz]at law;rcases law with⟨h0,hrun⟩|⟨e,he,w2,hal2,hrun⟩;·have hnx:∀ty,(Instr.next (.pointer (some ⟨w.heap.size,0,none⟩)) false ty).run Tryz.prog (w1.alloc (.mapIter (some bm) clock seen clock))=_:=λ_=>hrun;go_wp2;go_ret;rw[HU es seen h0];exact⟨rfl,hal.2.1,htp,hal.2.2,by simp[hsz],λk hk=>by rw[heap_alloc_old w1 _ (by omega),hal.1]⟩
  ·obtain⟨va,vn,vc,hval⟩:=hv e (mem_left he).1;have ht2:=UD hrun;rw[hval]at hrun;have hnx:∀ty,(Instr.next (.pointer (some ⟨w.heap.size,0,none⟩)) false ty).run Tryz.prog (w1.alloc (.mapIter (some bm) clock seen clock))=_:=λ_=>hrun;have hsz2:w2.heap.size=w.heap.size:=by rw[hal2.1,hal.1]
   have hb2:w2.heap[bm]?=some (.map es clock):=by rw[hal2.1];exact hb1
   have hen:=run_entry_map (P:=Tryz.prog) w2 bm clock seen es clock e hb2 (mem_left he).1 hst.2.1;rw[hsz2,hval]at hen;go_wp2;go_roundw;case rel=>refine⟨w2,seen.push e.born,⟨hal2.1.trans hal.1,hal2.2.1.trans hal.2.1,hal2.2.2.trans hal.2.2⟩,ht2.trans htp,rfl,?_⟩;have hsum:=uS seen e (mem_left he).2 es.toList hst.2.1 (mem_left he).1;have hle2:=BX es.toList (seen.push e.born);rw[hval]at hsum;simp only[lenV]at hsum;rw[hsum]at hle2⊢;simp only[Value.int.injEq,true_and,RowKit.wrap64];omega
   case measure=>rw[<-hsz2,World.iterSeen_alloc,hsz2,<-hsz,World.iterSeen_alloc];exact left_shrinks es seen e he
set_option maxRecDepth 1000000 in
theorem Tryz.used_none(g:Nat)(arr:Array Value)(t:TypeId)(w:World)(_hg:w.heap[g]?=some (.cells arr t (0,0)))(hm:w.cell? ⟨g,2,none⟩=some (.map none)):Calls Tryz.prog 12 #[.pointer (some ⟨g,0,none⟩)] w λe w'=>e=.returned (.int .i64 0)/\Ab.Grows w w':=by have hrg:=run_range_nilMap (P:=Tryz.prog) w 98 9 99 Tryz.underlying98;have hnx:∀ty,(Instr.next (.pointer (some ⟨w.heap.size,0,none⟩)) false ty).run Tryz.prog (w.alloc (.mapIter none 0 #[] 0))=_:=λty=>run_next_nilMap w ty 0 0 #[];go_enter Tryz.func12,Tryz.ntmps12;go_wp2;refine wp_loop_rounds 1 ?_;rw[rounds_succ];go_wp2;go_ret;exact⟨rfl,.alloc _ _⟩
theorem Tryz.usedOk:Ab.UsedOk Tryz.prog 12:=⟨Ab.enters_of Tryz.func12 (by kernel_rfl) rfl,Tryz.used_nil,Tryz.used_none,Tryz.used_some⟩
end Go.Proofs
