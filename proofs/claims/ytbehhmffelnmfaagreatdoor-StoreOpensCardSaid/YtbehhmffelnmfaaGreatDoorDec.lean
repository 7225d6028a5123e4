import Derived.Test.YtbehhmffelnmfaaGreatDoorAbBase
import Derived.Attr
namespace Ab
open Go (IntKind BinOp UnOp)
theorem RunP_det{Γ:Ctx}{f:Nat}{ps rs b:List PV}(h:RunP Γ f ps rs)(e:RunP Γ f ps b):rs=b:=by let⟨n,r,c,l⟩:=h;let⟨m,g,d,j⟩:=e;have i:=js (Nat.le_max_left n m) _ _ _ _ c;have k:=js (Nat.le_max_right n m) _ _ _ _ d;grind
open Classical in
noncomputable def res(Γ:Ctx)(f:Nat)(ps:List PV):Option (List PV):=if h:∃rs,RunP Γ f ps rs then some h.choose else none
theorem nM{Γ f ps rs}(h:RunP Γ f ps rs):res Γ f ps=some rs:=by have a:∃rs,RunP Γ f ps rs:=⟨_,h⟩;unfold res;rw[dif_pos a];exact congrArg some (RunP_det a.choose_spec h)
theorem QG{Γ f ps rs}(h:res Γ f ps=some rs):RunP Γ f ps rs:=by
 unfold res at h;split at h;all_goals grind
def WpL(Γ:Ctx)(l:List St)(env:Env)(H:Heap)(live:List Nat)(Q:Out->Prop):Prop:=WpS Γ l env H λe h=>Q (.nrm,prune live e,h)
def NxtC(Γ:Ctx)(b:Code)(Q:Out->Prop):Out->Prop|(.nrm,e,h)=>Wp Γ b e h Q|o=>Q o
def Az(Γ:Ctx)(v:AV)(a b:Code)(env:Env)(H:Heap)(Q:Out->Prop):Prop:=condP v (Wp Γ a env H Q) (Wp Γ b env H Q)
def opK(Γ:Ctx)(x:Option AV)(dst:Option Nat)(r:List St)(env:Env)(H:Heap)(live:List Nat)(Q:Out->Prop):Prop:=optP x λv=>WpL Γ r (put env dst v) H live Q
def opX(Γ:Ctx)(x:Option (AV×Heap))(dst:Option Nat)(r:List St)(env:Env)(live:List Nat)(Q:Out->Prop):Prop:=optP x λy=>WpL Γ r (put env dst y.1) y.2 live Q
def gdK(Γ:Ctx)(v:AV)(b:Bool)(dst:Option Nat)(op:QOp⊕XOp)(r:List St)(env:Env)(H:Heap)(live:List Nat)(Q:Out->Prop):Prop:=gd (match v with|.p (.bool c)=>some (c==b)|.nov=>some false|_=>none) (WpL Γ r (put env dst .nov) H live Q) (WpL Γ (⟨dst,none,op⟩::r) env H live Q)
def lpK(Γ:Ctx)(c L:Code)(x:Option (Env×Heap))(Q:Out->Prop):Prop:=optP x λeh=>Wp Γ c eh.1 eh.2 (NxtC Γ L Q)
section


variable{Γ:Ctx}{env:Env}{H:Heap}{live:List Nat}{Q:Out->Prop}{r:List St}{dst:Option Nat}
theorem W_seq{a b}:Wp Γ (.seq a b) env H Q↔Wp Γ a env H (NxtC Γ b Q):=Wp_seq
theorem NxtC_nrm{b e h}:NxtC Γ b Q (.nrm,e,h)↔Wp Γ b e h Q:=Iff.rfl
theorem NxtC_ex{b i e h}:NxtC Γ b Q (.ex i,e,h)↔Q (.ex i,e,h):=Iff.rfl
theorem NxtC_ret{b e h}:NxtC Γ b Q (.ret,e,h)↔Q (.ret,e,h):=Iff.rfl
theorem OX{b e h}:aW live b Q (.ex b,e,h)↔Q (.nrm,prune live e,h):=by rw[KS,if_pos rfl]
theorem Ju{b i e h}(hi:i≠b):aW live b Q (.ex i,e,h)↔Q (.ex i,e,h):=by rw[KS,if_neg hi]
theorem W_ops{l}:Wp Γ (.ops live l) env H Q↔WpL Γ l env H live Q:=Wp_ops
theorem W_cond{x a b}:Wp Γ (.cond x a b) env H Q↔Az Γ (x.ev Γ (look env)) a b env H Q:=Wp_cond
theorem Ca{a b}:Az Γ (.p (.bool true)) a b env H Q↔Wp Γ a env H Q:=Iff.rfl
theorem zM{a b}:Az Γ (.p (.bool false)) a b env H Q↔Wp Γ b env H Q:=by rfl
theorem xp{c:Bool}{a b}(g:c=true->Az Γ (.p (.bool true)) a b env H Q)(e:c=false->Az Γ (.p (.bool false)) a b env H Q):Az Γ (.p (.bool c)) a b env H Q:=by cases c<;>simp_all
theorem L_nil:WpL Γ [] env H live Q↔Q (.nrm,prune live env,H):=WpS_nil
theorem L_guard{t b f}:WpL Γ (⟨dst,some (t,b),f⟩::r) env H live Q↔gdK Γ (look env t) b dst f r env H live Q:=by unfold WpL gdK;rw[Ek,wanted,WpL,WpL,Ek,wanted,QX,if_pos rfl];rfl
theorem gdK_tt{e}:gdK Γ (.p (.bool true)) true dst e r env H live Q↔WpL Γ (⟨dst,none,e⟩::r) env H live Q:=by rfl
theorem gdK_ff{e}:gdK Γ (.p (.bool false)) false dst e r env H live Q↔WpL Γ (⟨dst,none,e⟩::r) env H live Q:=by rfl
theorem gdK_tf{e}:gdK Γ (.p (.bool true)) false dst e r env H live Q↔WpL Γ r (put env dst .nov) H live Q:=by rfl
theorem gdK_ft{e}:gdK Γ (.p (.bool false)) true dst e r env H live Q↔WpL Γ r (put env dst .nov) H live Q:=by rfl
theorem gdK_nov{f b}:gdK Γ .nov b dst f r env H live Q↔WpL Γ r (put env dst .nov) H live Q:=by rfl
theorem opK_some{v}:opK Γ (some v) dst r env H live Q↔WpL Γ r (put env dst v) H live Q:=Iff.rfl
theorem opX_some{v e}:opX Γ (some (v,e)) dst r env live Q↔WpL Γ r (put env dst v) e live Q:=Iff.rfl
theorem L_of{o}:WpL Γ (⟨dst,none,o⟩::r) env H live Q↔WpO Γ o env H λv e=>WpL Γ r (put env dst v) e live Q:=by unfold WpL;rw[Ek,wanted,QX,if_pos rfl]
theorem aa{L d c}(h:L=.loop live d c):Wp Γ L env H Q↔lpK Γ c L (norm live d env H) Q:=Wp_loop' h
theorem lpK_some{c L e h}:lpK Γ c L (some (e,h)) Q↔Wp Γ c e h (NxtC Γ L Q):=Iff.rfl
theorem L_mov{x}:WpL Γ (⟨dst,none,.inl (.mov x)⟩::r) env H live Q↔opK Γ (some (Arg.ev Γ (look env) x)) dst r env H live Q:=L_of.trans (iz rfl)
theorem L_pick{c a b}:WpL Γ (⟨dst,none,.inl (.pick c a b)⟩::r) env H live Q↔opK Γ (ES (Arg.ev Γ (look env) c) (Arg.ev Γ (look env) a) (Arg.ev Γ (look env) b)) dst r env H live Q:=L_of.trans (iz rfl)
theorem L_nilchk{x}:WpL Γ (⟨dst,none,.inl (.nilchk x)⟩::r) env H live Q↔opK Γ (lc H (Arg.ev Γ (look env) x)) dst r env H live Q:=L_of.trans (iz rfl)
theorem L_bin{e x y}:WpL Γ (⟨dst,none,.inl (.bin e x y)⟩::r) env H live Q↔opK Γ (cb e (Arg.ev Γ (look env) x) (Arg.ev Γ (look env) y)) dst r env H live Q:=L_of.trans (iz rfl)
theorem L_eqs{n c x y}:WpL Γ (⟨dst,none,.inl (.eqs n c x y)⟩::r) env H live Q↔opK Γ (eqsA n c (Arg.ev Γ (look env) x) (Arg.ev Γ (look env) y)) dst r env H live Q:=L_of.trans (iz rfl)
theorem L_eqk{kd c x y}:WpL Γ (⟨dst,none,.inl (.eqk kd c x y)⟩::r) env H live Q↔opK Γ (eqkA kd c (Arg.ev Γ (look env) x) (Arg.ev Γ (look env) y)) dst r env H live Q:=L_of.trans (iz rfl)
theorem L_un{e x}:WpL Γ (⟨dst,none,.inl (.un e x)⟩::r) env H live Q↔opK Γ (unA e (Arg.ev Γ (look env) x)) dst r env H live Q:=L_of.trans (iz rfl)
theorem L_conv{k x}:WpL Γ (⟨dst,none,.inl (.conv k x)⟩::r) env H live Q↔opK Γ (Tb k (Arg.ev Γ (look env) x)) dst r env H live Q:=L_of.trans (iz rfl)
theorem L_strOf{x}:WpL Γ (⟨dst,none,.inl (.strOf x)⟩::r) env H live Q↔opK Γ (zw H (Arg.ev Γ (look env) x)) dst r env H live Q:=L_of.trans (iz rfl)
theorem Ry{x}:WpL Γ (⟨dst,none,.inl (.runeStr x)⟩::r) env H live Q↔opK Γ (sf (Arg.ev Γ (look env) x)) dst r env H live Q:=L_of.trans (iz rfl)
theorem L_len{s x}:WpL Γ (⟨dst,none,.inl (.len s x)⟩::r) env H live Q↔opK Γ ((jm H s (Arg.ev Γ (look env) x)).map λ(n:Nat)=>AV.p (.int .i64 (n:Int))) dst r env H live Q:=L_of.trans (iz rfl)
theorem L_idx{x i}:WpL Γ (⟨dst,none,.inl (.idx x i)⟩::r) env H live Q↔opK Γ (idxA (Arg.ev Γ (look env) x) (Arg.ev Γ (look env) i)) dst r env H live Q:=L_of.trans (iz rfl)
theorem L_fld{c sz ag x}:WpL Γ (⟨dst,none,.inl (.fld c sz ag x)⟩::r) env H live Q↔opK Γ (fldA c sz ag (Arg.ev Γ (look env) x)) dst r env H live Q:=L_of.trans (iz rfl)
theorem L_faddr{c x}:WpL Γ (⟨dst,none,.inl (.faddr c x)⟩::r) env H live Q↔opK Γ (qg H c (Arg.ev Γ (look env) x)) dst r env H live Q:=L_of.trans (iz rfl)
theorem L_iaddr{sz x i}:WpL Γ (⟨dst,none,.inl (.iaddr sz x i)⟩::r) env H live Q↔opK Γ (iaddrA H sz (Arg.ev Γ (look env) x) (Arg.ev Γ (look env) i)) dst r env H live Q:=L_of.trans (iz rfl)
theorem L_iaddrA{sz n x i}:WpL Γ (⟨dst,none,.inl (.iaddrA sz n x i)⟩::r) env H live Q↔opK Γ (oH sz n (Arg.ev Γ (look env) x) (Arg.ev Γ (look env) i)) dst r env H live Q:=L_of.trans (iz rfl)
theorem L_load{sz ag x}:WpL Γ (⟨dst,none,.inl (.load sz ag x)⟩::r) env H live Q↔opK Γ (kj H sz ag (Arg.ev Γ (look env) x)) dst r env H live Q:=L_of.trans (iz rfl)
theorem L_sliceS{x lo hi}:WpL Γ (⟨dst,none,.inl (.sliceS x lo hi)⟩::r) env H live Q↔opK Γ (jb (Arg.ev Γ (look env) x) (lo.map (Arg.ev Γ (look env))) (hi.map (Arg.ev Γ (look env)))) dst r env H live Q:=L_of.trans (iz rfl)
theorem L_slice{sz x lo hi}:WpL Γ (⟨dst,none,.inl (.slice sz x lo hi)⟩::r) env H live Q↔opK Γ (gN sz (Arg.ev Γ (look env) x) (lo.map (Arg.ev Γ (look env))) (hi.map (Arg.ev Γ (look env)))) dst r env H live Q:=L_of.trans (iz rfl)
theorem L_build{zero parts}:WpL Γ (⟨dst,none,.inl (.build zero parts)⟩::r) env H live Q↔opK Γ ((lz (zero.map .p) (parts.map λq=>(q.off,q.sz,Arg.ev Γ (look env) q.arg))).map mkAgg) dst r env H live Q:=L_of.trans (iz rfl)
theorem L_bslice{sz ag n zero parts}:WpL Γ (⟨dst,none,.inl (.bslice sz ag n zero parts)⟩::r) env H live Q↔opK Γ (xi sz ag n (lz (zero.map .p) (parts.map λq=>(q.off,q.sz,Arg.ev Γ (look env) q.arg)))) dst r env H live Q:=L_of.trans (iz rfl)
theorem L_ext{x i}:WpL Γ (⟨dst,none,.inl (.ext x i)⟩::r) env H live Q↔opK Γ (extA i (Arg.ev Γ (look env) x)) dst r env H live Q:=L_of.trans (iz rfl)
theorem L_mget{kd zero a x k}:WpL Γ (⟨dst,none,.inl (.mget kd zero a x k)⟩::r) env H live Q↔opK Γ (Ni H kd zero a (Arg.ev Γ (look env) x) (Arg.ev Γ (look env) k)) dst r env H live Q:=L_of.trans (iz rfl)
theorem L_mlen{x}:WpL Γ (⟨dst,none,.inl (.mlen x)⟩::r) env H live Q↔opK Γ (Pf H (Arg.ev Γ (look env) x)) dst r env H live Q:=L_of.trans (iz rfl)
theorem L_isnil{c x y}:WpL Γ (⟨dst,none,.inl (.isnil c x y)⟩::r) env H live Q↔opK Γ (sI H c (Arg.ev Γ (look env) x) (Arg.ev Γ (look env) y)) dst r env H live Q:=L_of.trans (iz rfl)
theorem L_minmax{mx xs}:WpL Γ (⟨dst,none,.inl (.minmax mx xs)⟩::r) env H live Q↔opK Γ (minmax mx (xs.map (Arg.ev Γ (look env)))) dst r env H live Q:=L_of.trans (iz rfl)
theorem L_clos{f a}:WpL Γ (⟨dst,none,.inl (.clos f a)⟩::r) env H live Q↔opK Γ (ifB ((a.map (Arg.ev Γ (look env))).all AV.one) (some (UN f (a.map (Arg.ev Γ (look env)))))) dst r env H live Q:=L_of.trans (iz rfl)
theorem L_alloc{zero}:WpL Γ (⟨dst,none,.inr (.alloc zero)⟩::r) env H live Q↔opX Γ (some (.bx H.length 0,H++[.box (zero.map .p)])) dst r env live Q:=L_of.trans (mh rfl)
theorem L_box{x}:WpL Γ (⟨dst,none,.inr (.box x)⟩::r) env H live Q↔opX Γ (boxA H (Arg.ev Γ (look env) x)) dst r env live Q:=L_of.trans (mh rfl)
theorem L_store{sz x v}:WpL Γ (⟨dst,none,.inr (.store sz x v)⟩::r) env H live Q↔opX Γ ((oy H sz (Arg.ev Γ (look env) x) (Arg.ev Γ (look env) v)).map λe=>(AV.nov,e)) dst r env live Q:=L_of.trans (mh rfl)
theorem L_range{x}:WpL Γ (⟨dst,none,.inr (.range x)⟩::r) env H live Q↔opX Γ (FF H (Arg.ev Γ (look env) x)) dst r env live Q:=L_of.trans (mh rfl)
theorem L_next{x}:WpL Γ (⟨dst,none,.inr (.next x)⟩::r) env H live Q↔opX Γ (NX H (Arg.ev Γ (look env) x)) dst r env live Q:=L_of.trans (mh rfl)
theorem QH{sz ag zero n c}:WpL Γ (⟨dst,none,.inr (.mkslice sz ag zero n c)⟩::r) env H live Q↔opX Γ (lV H sz ag zero (Arg.ev Γ (look env) n) (Arg.ev Γ (look env) c)) dst r env live Q:=L_of.trans (mh rfl)
theorem L_brow{sz ag n zero parts}:WpL Γ (⟨dst,none,.inr (.brow sz ag n zero parts)⟩::r) env H live Q↔opX Γ (Nr H sz ag n (lz (zero.map .p) (parts.map λq=>(q.off,q.sz,Arg.ev Γ (look env) q.arg)))) dst r env live Q:=L_of.trans (mh rfl)
theorem L_mkmap:WpL Γ (⟨dst,none,.inr .mkmap⟩::r) env H live Q↔opX Γ (some (.mp H.length,H++[.box (ak [])])) dst r env live Q:=L_of.trans (mh rfl)
theorem L_msets{e x k v}:WpL Γ (⟨dst,none,.inr (.msets e x k v)⟩::r) env H live Q↔opX Γ ((Cb H e (Arg.ev Γ (look env) x) (Arg.ev Γ (look env) k) (Arg.ev Γ (look env) v)).map λf=>(AV.nov,f)) dst r env live Q:=L_of.trans (mh rfl)
theorem L_mset{kd x k v}:WpL Γ (⟨dst,none,.inr (.mset kd x k v)⟩::r) env H live Q↔opX Γ ((Er H kd (Arg.ev Γ (look env) x) (Arg.ev Γ (look env) k) (Arg.ev Γ (look env) v)).map λe=>(AV.nov,e)) dst r env live Q:=L_of.trans (mh rfl)
theorem L_newrow{sz}:WpL Γ (⟨dst,none,.inr (.newrow sz)⟩::r) env H live Q↔opX Γ (some (.own H.length 0,H++[.row false sz []])) dst r env live Q:=L_of.trans (mh rfl)
theorem L_append{sz x y}:WpL Γ (⟨dst,none,.inr (.append sz x y)⟩::r) env H live Q↔opX Γ ((elemsOf H sz (Arg.ev Γ (look env) y)).bind λys=>cH H sz (Arg.ev Γ (look env) x) ys) dst r env live Q:=L_of.trans (mh rfl)
theorem L_copy{sz x y}:WpL Γ (⟨dst,none,.inr (.copy sz x y)⟩::r) env H live Q↔opX Γ ((kx H sz (Arg.ev Γ (look env) y)).bind λys=>Hu H sz (Arg.ev Γ (look env) x) ys) dst r env live Q:=L_of.trans (mh rfl)
theorem Sy{x}:WpL Γ (⟨dst,none,.inr (.bytesOf x)⟩::r) env H live Q↔opX Γ (sP H (Arg.ev Γ (look env) x)) dst r env live Q:=L_of.trans (mh rfl)
theorem Lv{sz x hi}:WpL Γ (⟨dst,none,.inr (.popf sz x hi)⟩::r) env H live Q↔opX Γ (popA H sz (Arg.ev Γ (look env) x) (Arg.ev Γ (look env) hi)) dst r env live Q:=L_of.trans (mh rfl)
theorem L_storek{sz x v e}:WpL Γ (⟨dst,none,.inr (.storek sz x v e)⟩::r) env H live Q↔opX Γ ((ui H sz (Arg.ev Γ (look env) x) (Arg.ev Γ (look env) v) (e.map (Arg.ev Γ (look env)))).map λf=>(AV.nov,f)) dst r env live Q:=L_of.trans (mh rfl)
theorem kr{sz x lo hi}:WpL Γ (⟨dst,none,.inl (.wslice sz x lo hi)⟩::r) env H live Q↔opK Γ (km H sz (Arg.ev Γ (look env) x) (lo.map (Arg.ev Γ (look env))) (hi.map (Arg.ev Γ (look env)))) dst r env H live Q:=L_of.trans (iz rfl)
theorem L_loadk{sz ag x k}:WpL Γ (⟨dst,none,.inl (.loadk sz ag x k)⟩::r) env H live Q↔opK Γ (zb H sz ag (Arg.ev Γ (look env) x) (Arg.ev Γ (look env) k)) dst r env H live Q:=L_of.trans (iz rfl)
theorem L_slicef{sz x lo hi}:WpL Γ (⟨dst,none,.inr (.slicef sz x lo hi)⟩::r) env H live Q↔opX Γ (qM H sz (Arg.ev Γ (look env) x) (lo.map (Arg.ev Γ (look env))) (hi.map (Arg.ev Γ (look env)))) dst r env live Q:=L_of.trans (mh rfl)
noncomputable def callR(Γ:Ctx)(H:Heap)(f:AV)(aX:List AV):Option (List PV):=(callee f).bind λfc=>(mapO (aI H 4) (aX++fc.2)).bind (res Γ fc.1)
theorem Bp{f:AV}{a:List AV}{rs:List PV}(h:callR Γ H f a=some rs):∃n,vv (callOf Γ (ev Γ n)) H f a=some rs:=by unfold callR at h;let⟨g,c,h⟩:=Option.bind_eq_some_iff.1 h;let⟨ps,d,h⟩:=Option.bind_eq_some_iff.1 h;let⟨n,r,b,e⟩:=QG h;exact⟨n,by simp[vv,c,d,b,e]⟩
theorem Ls{f:AV}{a:List AV}{rs:List PV}{n:Nat}(h:vv (callOf Γ (ev Γ n)) H f a=some rs):callR Γ H f a=some rs:=by unfold vv at h;let⟨i,c,h⟩:=Option.bind_eq_some_iff.1 h;let⟨ps,d,h⟩:=Option.bind_eq_some_iff.1 h;let⟨r,b,e⟩:=Option.bind_eq_some_iff.1 h;simp[callR,c,d,];exact nM ⟨n,r,b,e⟩
theorem L_call{f args}:WpL Γ (⟨dst,none,.inl (.call f args)⟩::r) env H live Q↔opK Γ ((callR Γ H (Arg.ev Γ (look env) f) (args.map (Arg.ev Γ (look env)))).bind λrs=>ifB (allP (args.map (Arg.ev Γ (look env)))&&(Arg.ev Γ (look env) f).isP||rs.all flat) (some (results (rs.map .p)))) dst r env H live Q:=by
  rw[L_of];unfold opK WpO;constructor;·rintro⟨n,h⟩;dsimp only at h;rw[db]at h⊢;let⟨v,d,e⟩:=h;simp[evQ]at d;let⟨rs,i,j⟩:=Option.bind_eq_some_iff.1 d;exact⟨v,by rw[Ls i];grind,e⟩
  ·intro h;rw[db]at h;let⟨v,d,e⟩:=h;let⟨rs,i,j⟩:=Option.bind_eq_some_iff.1 d;let⟨n,k⟩:=Bp i;refine⟨n,?_⟩;simp[evQ,k,j];exact e
theorem L_callf{f args}:WpL Γ (⟨dst,none,.inr (.callf f args)⟩::r) env H live Q↔opX Γ (ifB (pW ((args.map (Arg.ev Γ (look env))).flatMap AV.cells)&&(Arg.ev Γ (look env) f).isP) ((callR Γ H (Arg.ev Γ (look env) f) (args.map (Arg.ev Γ (look env)))).map λrs=>(results (rs.map .p),freeze H ((args.map (Arg.ev Γ (look env))).flatMap AV.cells)))) dst r env live Q:=by
  rw[L_of];unfold opX WpO;constructor;·rintro⟨n,h⟩;dsimp only at h;rw[db]at h⊢;let⟨v,d,e⟩:=h;simp[evX]at d;let⟨k,g⟩:=ifB_some.1 d;obtain⟨rs,i,rfl⟩:=Option.map_eq_some_iff.1 g;exact⟨_,by rw[Ls i,ifB_some];grind,e⟩
  ·intro h;rw[db]at h;let⟨v,d,e⟩:=h;let⟨k,g⟩:=ifB_some.1 d;obtain⟨rs,i,rfl⟩:=Option.map_eq_some_iff.1 g;let⟨n,l⟩:=Bp i;refine⟨n,?_⟩;simp[evX,k,l,];exact e
end
end Ab
namespace Ab
open Go (IntKind)
def byt(s:List UInt8)(i:Nat):Int:=((s.getD i 0).toNat:Int)
theorem fk{s i}:0<=byt s i:=by unfold byt;omega
theorem qr{s i}:byt s i<=255:=by unfold byt;have :=(s.getD i 0).toNat_lt;omega
theorem TX{s:List UInt8}{k:IntKind}{i:Int}(a:0<=i)(h:i.toNat<s.length):idxA (.p (.str s)) (.p (.int k i))=some (.p (.int .u8 (byt s i.toNat))):=by simp[idxA,a,List.getElem?_eq_getElem h,byt,]
theorem map_add{k a b}:cb .add (.p (.int k a)) (.p (.int k b))=some (.p (.int k (k.wrap (a+b)))):=by simp[cb,ly,gt]
theorem map_sub{k a b}:cb .sub (.p (.int k a)) (.p (.int k b))=some (.p (.int k (k.wrap (a-b)))):=by simp[cb,ly,gt]
theorem map_mul{k a b}:cb .mul (.p (.int k a)) (.p (.int k b))=some (.p (.int k (k.wrap (a*b)))):=by simp[cb,ly,gt]
theorem map_lss{k a b}:cb .lss (.p (.int k a)) (.p (.int k b))=some (.p (.bool (decide (a<b)))):=by simp[cb,ly,gt]
theorem map_leq{k a b}:cb .leq (.p (.int k a)) (.p (.int k b))=some (.p (.bool (decide (a<=b)))):=by simp[cb,ly,gt]
theorem map_gtr{k a b}:cb .gtr (.p (.int k a)) (.p (.int k b))=some (.p (.bool (decide (b<a)))):=by simp[cb,ly,gt]
theorem map_geq{k a b}:cb .geq (.p (.int k a)) (.p (.int k b))=some (.p (.bool (decide (b<=a)))):=by simp[cb,ly,gt]
theorem map_eql{k a b}:cb .eql (.p (.int k a)) (.p (.int k b))=some (.p (.bool (decide (a=b)))):=by simp[cb,ly,];rfl
theorem map_neq{k a b}:cb .neq (.p (.int k a)) (.p (.int k b))=some (.p (.bool (decide (a≠b)))):=by simp[cb,ly,gt,];grind
theorem map_seql{a b}:cb .eql (.p (.str a)) (.p (.str b))=some (.p (.bool (decide (a=b)))):=by simp[cb,ly,xd,];grind
theorem map_sneq{a b}:cb .neq (.p (.str a)) (.p (.str b))=some (.p (.bool (decide (a≠b)))):=by simp[cb,ly,xd,];grind
theorem map_sadd{a b:List UInt8}(h:a.length+b.length<=9223372036854775807):cb .add (.p (.str a)) (.p (.str b))=some (.p (.str (a++b))):=by simp only[cb,ly,xd];rw[if_pos (by unfold maxI;omega)];rfl
theorem sl_in{s:List UInt8}{k1 k2:IntKind}{a b:Int}(d:0<=a)(e:a<=b)(f:b<=s.length):jb (.p (.str s)) (some (.p (.int k1 a))) (some (.p (.int k2 b)))=some (.p (.str ((s.take b.toNat).drop a.toNat))):=by simp[jb,bound];grind
theorem sl_to{s:List UInt8}{k2:IntKind}{b:Int}(d:0<=b)(c:b<=s.length):jb (.p (.str s)) none (some (.p (.int k2 b)))=some (.p (.str (s.take b.toNat))):=by simp[jb,bound];grind
theorem sl_from{s:List UInt8}{k2:IntKind}{a:Int}(c:0<=a)(d:a<=s.length):jb (.p (.str s)) (some (.p (.int k2 a))) none=some (.p (.str (s.drop a.toNat))):=by simp[jb,bound];grind
theorem not_bool{b:Bool}:unA .not (.p (.bool b))=some (.p (.bool (!b))):=rfl
def lk(b:Bool)(v:AV)(r:Env)(t:Nat):AV:=match b with|true=>v|false=>look r t
theorem RF{s t:Nat}{v:AV}{r:Env}:look ((s,v)::r) t=lk (s==t) v r t:=by unfold look lk;grind
theorem lk_t{v:AV}{r:Env}{t:Nat}:lk true v r t=v:=rfl
theorem lk_f{v:AV}{r:Env}{t:Nat}:lk false v r t=look r t:=rfl
theorem norm_f{a b H}:norm a none b H=some (prune a b,H):=rfl
def Sq(H:Heap)(e:Env)(L:List Nat):Option (Env×Heap):=match vd (place L) e,Heap.pick H L with|some e',some H'=>some (e',H')|_,_=>none
theorem Bt{a b H}:norm a (some 0) b H=Sq H (prune a b) (fP H 64 ((prune a b).flatMap λx=>x.2.refs) []):=by unfold norm Sq;grind
theorem Ha{a b H k}:norm a (some (k+1)) b H=Sq H (prune a b) (fP H 64 (((prune a b).flatMap λx=>x.2.refs)++(H.take (k+1)).flatMap Blk.refs) (List.range (k+1))):=rfl
theorem norm_1{a b H}:norm a (some 1) b H=Sq H (prune a b) (fP H 64 (((prune a b).flatMap λx=>x.2.refs)++(H.take 1).flatMap Blk.refs) [0]):=rfl
theorem ifB_t{b:Type}{x:Option b}:ifB true x=x:=rfl
theorem ifB_f{b:Type}{x:Option b}:ifB false x=none:=rfl
def nA:Nat->List AV->Env|_,[]=>[]|n,a::r=>(n,a)::nA (n+1) r
theorem ua{args:List AV}:ma args=nA 0 args:=by
 have b:∀(args:List AV)(k:Nat),((args.zipIdx k).map λx=>(x.2,x.1))=nA k args:=by intro args;induction args with|nil=>intro k;rfl|cons a r c=>intro k;rw[List.zipIdx_cons,List.map_cons,c];rfl
 exact b args 0
def Ends(rvs:List RV)(rs:List PV):Out->Prop|(.ex _,_,_)=>False|(_,e,h)=>optP (mapO (RV.get e h) rvs) λvs=>mapO (aI h 4) vs=some rs
def endK(vs:Option (List AV))(h:Heap)(rs:List PV):Prop:=optP vs λvs=>mapO (aI h 4) vs=some rs
theorem PQ{a h rs}:endK (some a) h rs↔mapO (aI h 4) a=some rs:=Iff.rfl
theorem Ends_nrm{b rs e h}:Ends b rs (.nrm,e,h)↔endK (mapO (RV.get e h) b) h rs:=Iff.rfl
theorem Ends_ret{b rs e h}:Ends b rs (.ret,e,h)↔endK (mapO (RV.get e h) b) h rs:=Iff.rfl
theorem get_slot{e h t}:RV.get e h (.slot t)=some (look e t):=rfl
theorem get_cell{e h t sz ag}:RV.get e h (.cell t sz ag)=kj h sz ag (look e t):=rfl
theorem HS{H d v}:aI H d (.p v)=some v:=by cases d<;>rfl
theorem FW{H d a n}:aI H (d+1) (.own a n)=(rowOf H a n).map λr=>.sl .any r.1 r.2:=rfl
theorem GE{H d cs}:aI H (d+1) (.agg cs)=(mapO (aI H d) cs).map .agg:=rfl
theorem Ma{H d b a}:aI H (d+1) (.bx b a)=(dj H b).bind λcs=>if a<cs.length then(mapO (aI H d) (cs.drop a)).map .ptr else none:=rfl
theorem Dw{H d b n i a}(h:i<n):aI H (d+1) (.el b n i a)=(rowOf H b n).bind λr=>r.2[i]?.bind λx=>if a<x.cells.length then some (.ptr (x.cells.drop a))else none:=by simp[aI];grind
theorem Dx{H d b n i a}(h:n<=i):aI H (d+1) (.el b n i a)=(rowOf H b n).bind λr=>if i-n<n/\i-n<=a/\a<=n then some (.sl .mem r.1 ((r.2.take a).drop (i-n)))else none:=by simp[aI];grind
theorem GA{H d f cs}:aI H (d+1) (.clo f cs)=(mapO (aI H d) cs).map (.clo f):=rfl
theorem DC{b a:Type}{f:b->Option a}:mapO f []=some []:=rfl
theorem ja{b a:Type}{f:b->Option a}{c r}:mapO f (c::r)=(f c).bind λx=>(mapO f r).map (x::·):=by simp[mapO];grind
theorem ae{Γ:Ctx}{f:Nat}{fn:AFn}{args rs:List PV}(b:Γ.fn f=some (.code fn))(c:args.length=fn.np)(h:Wp Γ fn.body (nA 0 (args.map .p)) [] (Ends fn.results rs)):res Γ f args=some rs:=by
 refine nM (RunP_of b c ?_);rw[ua];refine h.mono ?_;rintro⟨x,e,h⟩a;cases x;·exact⟨by simp,a⟩
 ·exact a.elim
 ·exact⟨by simp,a⟩
section


variable{Γ:Ctx}{env:Env}{H:Heap}{live:List Nat}{Q:Out->Prop}{r:List St}{dst:Option Nat}{c:Prop}[Decidable c]{op:QOp⊕XOp}{a b:Code}
theorem Mk(h:c):Az Γ (.p (.bool (decide c))) a b env H Q↔Wp Γ a env H Q:=by rw[decide_eq_true h];rfl
theorem Ln(h:¬c):Az Γ (.p (.bool (decide c))) a b env H Q↔Wp Γ b env H Q:=by rw[decide_eq_false h];rfl
theorem aP(f:c->Wp Γ a env H Q)(e:¬c->Wp Γ b env H Q):Az Γ (.p (.bool (decide c))) a b env H Q:=by
 by_cases h:c;·exact(Mk h).2 (f h)
 ·exact(Ln h).2 (e h)
theorem gd_pt(h:c):gdK Γ (.p (.bool (decide c))) true dst op r env H live Q↔WpL Γ (⟨dst,none,op⟩::r) env H live Q:=by rw[decide_eq_true h];rfl
theorem gd_nt(h:¬c):gdK Γ (.p (.bool (decide c))) true dst op r env H live Q↔WpL Γ r (put env dst .nov) H live Q:=by rw[decide_eq_false h];rfl
theorem gd_pf(h:c):gdK Γ (.p (.bool (decide c))) false dst op r env H live Q↔WpL Γ r (put env dst .nov) H live Q:=by rw[decide_eq_true h];rfl
theorem gd_nf(h:¬c):gdK Γ (.p (.bool (decide c))) false dst op r env H live Q↔WpL Γ (⟨dst,none,op⟩::r) env H live Q:=by rw[decide_eq_false h];rfl
theorem cK(e:c->WpL Γ (⟨dst,none,op⟩::r) env H live Q)(f:¬c->WpL Γ r (put env dst .nov) H live Q):gdK Γ (.p (.bool (decide c))) true dst op r env H live Q:=by
 by_cases h:c;·exact(gd_pt h).2 (e h)
 ·exact(gd_nt h).2 (f h)
theorem cM(e:¬c->WpL Γ (⟨dst,none,op⟩::r) env H live Q)(f:c->WpL Γ r (put env dst .nov) H live Q):gdK Γ (.p (.bool (decide c))) false dst op r env H live Q:=by
 by_cases h:c;·exact(gd_pf h).2 (f h)
 ·exact(gd_nf h).2 (e h)
theorem pick_pos{x y:AV}(h:c):ES (.p (.bool (decide c))) x y=some x:=by rw[decide_eq_true h];rfl
theorem pick_neg{x y:AV}(h:¬c):ES (.p (.bool (decide c))) x y=some y:=by rw[decide_eq_false h];rfl
theorem pick_t{x y:AV}:ES (.p (.bool true)) x y=some x:=rfl
theorem pick_f{x y:AV}:ES (.p (.bool false)) x y=some y:=rfl
end
attribute[go_sem]Mk Ln gd_pt gd_nt gd_pf gd_nf wrap_i64 wrap_u8
attribute[go_sem]W_seq W_ops W_cond Wp_block Wp_skip Wp_exit Wp_ret NxtC_nrm NxtC_ex NxtC_ret SL Ux OX Ju Ca zM L_nil L_guard gdK_tt gdK_ff gdK_tf gdK_ft gdK_nov opK_some opX_some lpK_some L_mov L_pick L_nilchk L_bin L_eqs L_eqk L_un L_conv L_strOf Ry L_len L_idx L_fld L_faddr L_iaddr L_iaddrA L_load L_sliceS L_slice L_build L_bslice L_ext L_mget L_mlen L_isnil L_brow L_mkmap L_mset L_msets L_minmax L_clos L_alloc L_box L_store QH L_newrow L_append L_copy Sy L_slicef L_range L_next L_call L_callf
attribute[go_sem]nA Ends_nrm Ends_ret PQ get_slot get_cell Arg.ev RF lk_t lk_f put prune norm_f Bt norm_1 List.map_cons List.map_nil pick_t pick_f pick_pos pick_neg lc not_bool Tb sf sameA extA UN callee callR DC ja HS FW GE Dw Dx GA List.append_nil List.nil_append List.cons_append TX map_add map_sub map_mul map_lss map_leq map_gtr map_geq map_eql map_neq map_seql map_sneq map_sadd sl_in sl_to sl_from aidxA fldA qg xi boxA vP Hu sP mkAgg chunks results AV.cells PV.cells AV.ok AV.one PV.one AV.isP allP pW elOk eqsA eqkA eqK aN ifB_t ifB_f flat Ud
attribute[go_sem]Nat.reduceEqDiff reduceCtorEq ite_false ite_true if_true if_false true_or or_true false_or or_false true_and and_true not_true_eq_false not_false_eq_true Option.map_some Option.map_none Option.bind_some Option.bind_none and_self Bool.false_eq_true Bool.not_true Bool.not_false Bool.true_and Bool.and_true Bool.or_true Bool.true_or Bool.false_or Bool.or_false Bool.and_false Bool.false_and ud List.all_cons List.all_nil List.flatMap_cons List.flatMap_nil List.getElem?_cons_zero List.getElem?_cons_succ List.length_cons List.length_nil List.drop_zero List.take_zero List.set_cons_zero List.set_cons_succ
attribute[go_sem]Nat.reduceBEq Nat.reduceBNe Nat.reduceLeDiff Nat.reduceAdd Nat.reduceSub Nat.reduceMul Nat.reduceLT Int.reduceLT Int.reduceLE Int.reduceEq Int.reduceNe Int.reduceAdd Int.reduceSub Int.reduceMul Int.reduceNeg Int.reduceToNat Int.toNat_zero Int.toNat_one eq_self decide_true decide_false
def ixB:List UInt8->UInt8->Int|[],_=>-1|b::l,c=>if b==c then 0 else if ixB l c==-1 then-1 else ixB l c+1
def pT:List PV->Option (List PV)|[.str s,.int .u8 c]=>some [.int .i64 (ixB s c.toNat.toUInt8)]|_=>none
def My:List PV->Option (List PV)|[.str s,.int .u8 c]=>some [.int .i64 (s.count c.toNat.toUInt8:Nat)]|_=>none
def bI(sep:List UInt8):List (List UInt8)->List UInt8|[]=>[]|[s]=>s|s::r=>s++sep++bI sep r
def xv:List PV->Option (List (List UInt8))|[]=>some []|.str s::r=>(xv r).map (s::·)|_=>none
def TW:List PV->Option (List PV)
 |[.sl _ 1 xs,.str sep]=>match xv xs with|some l=>if(bI sep l).length<=1000000000/\l.length<=1000000000 then some [.str (bI sep l)]else none|none=>none
 |_=>none
def JV:List PV:=List.replicate 256 (.bool false)
def ks256:List Nat:=List.replicate 256 1
def insB(s:List UInt8):List (List UInt8)->List (List UInt8)|[]=>[s]|t::r=>if bytesLess t s then t::insB s r else s::t::r
def nR:List (List UInt8)->List (List UInt8)|[]=>[]|s::r=>insB s (nR r)
def dH:List (PV×AV)->Option (List (List UInt8))|[]=>some []|(.str s,_)::r=>if s.length<=lim then(dH r).map (s::·)else none|_=>none
def rowS(l:List (List UInt8)):PV:=match l with|[]=>.sl .nil 1 []|s::r=>.sl .any 1 ((s::r).map .str)
def keysV(H:Heap):List AV->Option (List PV)|[.mp id]=>(mapOf H id).bind λes=>(dH es).bind λss=>if es.length<=lim then some [rowS (nR ss)]else none|[.p .nilmap]=>some [.sl .nil 1 []]|_=>none
def Pn(Ks:List Nat):List AV->Heap->Option (List PV)|[.clo k [.bx b 0]],H=>if Ks.contains k=true then(dj H b).bind (keysV H)else none|_,_=>none
def cR:List (PV×AV)->Option (List (List UInt8×Bool))|[]=>some []|(.agg [.str s,.bool b],_)::r=>if s.length<=lim then(cR r).map ((s,b)::·)else none|_=>none
def bp(cur:List UInt8):List UInt8->List (List UInt8)|[]=>[cur.reverse]|c::r=>if c=46 then cur.reverse::bp [] r else bp (c::cur) r
def aV:List (List UInt8)->List (List UInt8)->Bool|_,[]=>false|[],_::_=>true|a::x,b::y=>bytesLess a b||(a==b&&aV x y)
def ew(a b:List UInt8×Bool):Bool:=aV (bp [] a.1) (bp [] b.1)||(bp [] a.1==bp [] b.1&&(!a.2&&b.2))
def insH(s:List UInt8×Bool):List (List UInt8×Bool)->List (List UInt8×Bool)|[]=>[s]|t::r=>if ew t s then t::insH s r else s::t::r
def Cr:List (List UInt8×Bool)->List (List UInt8×Bool)|[]=>[]|s::r=>insH s (Cr r)
def rowH(l:List (List UInt8×Bool)):PV:=match l with|[]=>.sl .nil 2 []|s::r=>.sl .any 2 ((s::r).map λh=>.agg [.str h.1,.bool h.2])
def hitsV(H:Heap):List AV->Option (List PV)|[.mp id]=>(mapOf H id).bind λes=>(cR es).bind λss=>if es.length<=lim then some [rowH (Cr ss)]else none|_=>none
def hitsG(Ks:List Nat)(c:Nat):List AV->Heap->Option (List PV)|[.clo k [.bx b 0],.p (.clo k' [])],H=>if Ks.contains k=true/\k'=c then(dj H b).bind (hitsV H)else none|_,_=>none
def cmpH(a b:List UInt8×Bool):Int:=if aV (bp [] a.1) (bp [] b.1)then-1 else if aV (bp [] b.1) (bp [] a.1)then 1 else if a.2==b.2 then 0 else if a.2 then 1 else-1
def hitP(h:List UInt8×Bool):PV:=.agg [.str h.1,.bool h.2]
def SM(H:Heap):List AV->Option (List (List PV×Int))|[.mp id]=>(mapOf H id).bind λes=>(cR es).map λhs=>hs.flatMap λa=>hs.map λb=>([hitP a,hitP b],cmpH a b)|_=>none
def hitsQ:List AV->Heap->Option (List (List PV×Int))|[.clo _ [.bx b 0],_],H=>(dj H b).bind (SM H)|_,_=>none
def fK(a b:UInt8)(s:List UInt8):List UInt8:=s.map λc=>if c=a then b else c
def IJ:List PV->Option (List PV)|[.str s,.str [a],.str [b]]=>if s.length<=1000000000 then some [.str (fK a b s)]else none|_=>none
def xA:List PV->Option (List UInt8)|[]=>some []|.int .u8 n::r=>if 0<=n/\n<256 then(xA r).map (UInt8.ofNat n.toNat::·)else none|_=>none
def ao(l:List UInt8):List PV:=l.map λb=>.int .u8 b.toNat
def wQ:List PV->Option (List (List UInt8))
 |[]=>some []|.sl _ 1 xs::r=>match xA xs with|some l=>(wQ r).map (l::·)|none=>none
 |_=>none
def An:List PV->Option (List PV)
 |[.sl _ 1 xs,.sl .nil 1 []]=>match wQ xs with|some ls=>if ls.flatten.length<=1000000000/\ls.length<=1000000000/\1<=ls.length then some [.sl .any 1 (ao ls.flatten)]else none|none=>none
 |_=>none
def II:rm->List AV->Heap->Option (List AV×Heap)|_,[.mp id],H=>(mapOf H id).map λes=>([.mp H.length],H++[.box (ak es)])|_,[.p .nilmap],H=>some ([.p .nilmap],H)|_,_,_=>none
def Ed:HiFn:=⟨II,λc c' _ a H r e=>by unfold II at e⊢;split at e<;>exact e⟩
def uO(H:Heap):List (PV×AV)->Option Nat|[]=>some 0|(_,v)::r=>match jm H false v with|some n=>(uO H r).map (n+·)|none=>none
def usedV(H:Heap):List AV->Option (List PV)|[_,_,.mp m]=>(mapOf H m).bind λes=>(uO H es).bind λn=>if n<=1000000000000 then some [.int .i64 (n:Int)]else none|[_,_,.p .nilmap]=>some [.int .i64 0]|_=>none
def usedG:List AV->Heap->Option (List PV)|[.p .nilp],_=>some [.int .i64 0]|[.bx b 0],H=>(dj H b).bind (usedV H)|_,_=>none
def oW(ix tr ln:Nat)(call:rm)(b:Nat):Nat->List UInt8->Heap->Option (Int×Heap)|0,_,_=>none|n+1,s,H=>match s with|[]=>some (0,H)|c::r=>match call ix [.p (.str (c::r)),.p (.int .u8 10)] H with
   |some ([.p (.int .i64 i)],H1)=>if 0<=i/\(c::r).length<=i.toNat then none else let l:=if 0<=i then(c::r).take (i.toNat+1)else c::r;let r':=if 0<=i then(c::r).drop (i.toNat+1)else[];match call tr [.p (.str l),.p (.str [10])] H1 with
    |some ([.p (.str t)],H2)=>match t with|[]=>oW ix tr ln call b n r' H2|x::t'=>if x=35 then oW ix tr ln call b n r' H2 else match call ln [.bx b 0,.p (.str (x::t'))] H2 with|some ([.p (.int .i64 e)],H3)=>if e=0 then oW ix tr ln call b n r' H3 else some (e,H3)|_=>none
    |_=>none
   |_=>none
def Kj(b:Nat)(r:Int×Heap):Option (List AV×Heap):=if r.1=0 then match dj r.2 b with
  |some [x,y]=>match jm r.2 false x,jm r.2 false y with|some n,some m=>if n<=1000000000/\m<=1000000000 then(if 64<n\/64<m then some ([.p .nilp,.p (.int .i64 13)],r.2)else some ([.bx b 0,.p (.int .i64 0)],r.2))else none|_,_=>none
  |_=>none else some ([.p .nilp,.p (.int .i64 r.1)],r.2)
def TL(ix tr ln s1 s2:Nat)(call:rm):List AV->Heap->Option (List AV×Heap)|[.p (.str s)],H=>if s.length<=1000000000 then(oW ix tr ln call H.length (s.length+1) s (H++[.box [.p (.sl .nil s1 []),.p (.sl .nil s2 [])]])).bind (Kj H.length)else none|_,_=>none
theorem mX{k g j b:Nat}{c f:rm}(h:nL c f):∀{n:Nat}{s:List UInt8}{H:Heap}{r:Int×Heap},oW k g j c b n s H=some r->oW k g j f b n s H=some r
 |0,_,_,_,e=>by cases e|n+1,s,H,r,e=>by unfold oW at e⊢;cases s with|nil=>grind|cons x l=>
   simp  at e⊢;split at e
   ·rename_i i v p;rw[h _ _ _ _ p];simp only;split at e;·grind
    rename_i hi;rw[if_neg hi];split at e
    ·rename_i t u m;rw[h _ _ _ _ m];simp;split at e;·exact mX h e
     ·rename_i y w;split at e;·rename_i d;rw[if_pos d];exact mX h e
      ·rename_i d;rw[if_neg d];split at e
       ·rename_i A z q;rw[h _ _ _ _ q];simp;split at e;·rename_i o;rw[if_pos o];exact mX h e
        grind
       grind
    grind
   grind
def QO(ix tr ln s1 s2:Nat):HiFn:=⟨TL ix tr ln s1 s2,λc c' h a H r e=>by
 unfold TL at e⊢;split at e
 ·rename_i s;split at e;·rename_i hl;rw[if_pos hl];obtain⟨x,h1,h2⟩:=Option.bind_eq_some_iff.1 e;rw[mX h h1];exact h2
  ·cases e
 ·cases e⟩
end Ab
set_option linter.all false
namespace Ab.E
open Go (IntKind BinOp UnOp)
section


/--A decoder of code. -/def Rd(α:Type):=List Nat->α×List Nat
variable{α β γ δ ε ζ η:Type}
def bd(p:Rd α)(k:α->Rd β):Rd β:=λl=>match p l with|(a,l)=>k a l
def pu(a:α):Rd α:=λl=>(a,l)
def m1(p:Rd α)(f:α->η):Rd η:=bd p λa=>pu (f a)
def m2(p:Rd α)(q:Rd β)(f:α->β->η):Rd η:=bd p λa=>m1 q (f a)
def m3(p:Rd α)(q:Rd β)(r:Rd γ)(f:α->β->γ->η):Rd η:=bd p λa=>m2 q r (f a)
def m4(p:Rd α)(q:Rd β)(r:Rd γ)(s:Rd δ)(f:α->β->γ->δ->η):Rd η:=bd p λa=>m3 q r s (f a)
def m5(p:Rd α)(q:Rd β)(r:Rd γ)(s:Rd δ)(t:Rd ε)(f:α->β->γ->δ->ε->η):Rd η:=bd p λa=>m4 q r s t (f a)
def m6(p:Rd α)(q:Rd β)(r:Rd γ)(s:Rd δ)(t:Rd ε)(u:Rd ζ)(f:α->β->γ->δ->ε->ζ->η):Rd η:=bd p λa=>m5 q r s t u (f a)
def n:Rd Nat|a::l=>(a,l)|[]=>(0,[])
def nth(d:α):List α->Nat->α|[],_=>d|a::_,0=>a|_::r,n+1=>nth d r n
def rep(p:Rd α):Nat->Rd (List α)|0=>pu []|n+1=>m2 p (rep p n) .cons
def rl(p:Rd α):Rd (List α):=bd n (rep p)
def ch(d:α)(l:List α):Rd α:=m1 n (nth d l)
def ca(d:Rd α)(l:List (Rd α)):Rd α:=bd n (nth d l)
def b:Rd Bool:=ch false [false,true]
def big:Rd Nat:=m1 (rl n) (List.foldl (λa b=>a*90+b) 0)
abbrev Ev:=(Nat->Int)×(Nat->Int)×(Nat->UInt8)×List PV×List Nat×(Nat->PV->List PV)
def ev0:Ev:=(λn=>n,λn=>-n,.ofNat,JV,ks256,.replicate)
theorem i8(n:Nat):((no_index(@OfNat.ofNat Nat n (instOfNatNat n)):Nat):Int)=@OfNat.ofNat Int n instOfNat:=rfl
theorem u8(n:Nat):UInt8.ofNat (no_index(@OfNat.ofNat Nat n (instOfNatNat n)))=@OfNat.ofNat UInt8 n _:=rfl
variable(e:Ev)
def ri:Rd Int:=bd n λn=>if n=90 then m1 big e.2.1 else if n=89 then m1 big e.1 else pu (e.1 n)
def K:Rd IntKind:=ch .i64 [.i64,.u8,.u64,.u32,.i32,.i8,.i16,.u16]
def rv:Nat->Rd PV|0=>pu .nilp|f+1=>let v:=rl (rv f);ca (pu .nilp) [m1 (ri e) (.int .i64),pu (.bool false),pu (.bool true),m1 (rl (m1 n e.2.2.1)) .str,pu .nilp,pu .nilfn,pu .nilmap,m3 (ch .nil [.nil,.tight,.any,.mem]) n v .sl,m1 v .agg,m1 v .ptr,m2 K (ri e) .int,m2 n v .clo]
def ra(c:Nat):Rd Arg:=bd n λd=>if d=88 then m1 (rv e 9) .c else if d=89 then m1 n .f else if d=90 then m1 n .g else if d<60 then pu (.v (c-d))else if d<88 then pu (.v (d-60))else pu (.v (d-91))
def ro(a:Rd Arg):Rd (Option Arg):=bd n λn=>if n=0 then pu none else m1 a some
def D:Rd KD:=ca (pu .str) [m1 K .int,pu .bool,pu .str]
def O:Rd BinOp:=ch .add [.add,.sub,.mul,.quo,.rem,.and,.or,.xor,.shl,.shr,.andNot,.eql,.neq,.lss,.leq,.gtr,.geq]
def U:Rd UnOp:=ch .not [.neg,.xor,.not,.plus]
variable(sub:List Code)
def V:Rd (List PV):=bd n λn=>if n=300 then pu e.2.2.2.1 else if n=301 then m2 E.n (rv e 9) e.2.2.2.2.2 else rep (rv e 9) n
def rN:Rd (List Nat):=bd n λm=>if m=300 then pu e.2.2.2.2.1 else rep n m
def rq(c:Nat):Rd QOp:=let a:=ra e c;let A:=rl a;let o:=ro a;let P:=rl (m3 n n a .mk);ca (pu .bad) [m1 a .mov,m3 O a a .bin,m3 n b a .load,m2 n a .faddr,m1 a .nilchk,m3 a a a .pick,m2 b a .len,m2 a A .call,m2 a n .ext,m3 n a a .iaddr,m2 (V e) P .build,m2 U a .un,m2 a a .idx,m2 K a .conv,m5 n b n (V e) P .bslice,m3 a o o .sliceS,m4 n b a a .eqk,m4 n n a a .iaddrA,m2 b A .minmax,m4 n b a a .loadk,m4 n a o o .slice,m4 (rN e) b a a .eqs,m1 a .same,m1 a .strOf,m1 a .runeStr,m5 n b n a a .aidx,m4 n n b a .fld,m2 n A .clos,m2 a A .callr,m5 n b (V e) a a .mkt,m3 n a a .appq,m5 D (V e) b a a .mget,m1 a .mlen,m3 b a a .isnil,m2 a a .lenk,m4 n a o o .wslice,pu .bad]
def rx(c:Nat):Rd XOp:=let a:=ra e c;let A:=rl a;let o:=ro a;let P:=rl (m3 n n a .mk);let q:=rq e c;ca (pu .mkmap) [m3 n a a .store,m2 a A .callw,m2 a A .calls,m2 a A .callf,m1 (V e) .alloc,m1 a .box,m3 n a a .append,m1 q .pureq,m1 n .newrow,m4 n a o o .slicef,m5 n b n (V e) P .brow,m1 a .fbox,m5 n b (V e) a a .mkslice,m2 a a .appendS,m3 n a a .copy,m1 a .bytesOf,m1 a .range,m1 a .next,m5 n b n (V e) P .bslicef,m2 a A .callz,m1 q .treeq,pu .mkmap,m4 D a a a .mset,m4 (rN e) a a a .msets,m3 D a a .mdel,m3 n a a .popf,m3 a A A .callk,m3 a A A .callwk,m4 n a a A .storek,m3 n a a .appt,m4 n a a A .appk,m6 n b n (V e) P A .bslk,m2 a A .callwr]
def ru:Nat->Nat->Rd (List St×Nat)|0,c=>pu ([],c)|m+1,c=>bd n λh=>bd (if h<6 then pu none else m2 n b λt b=>some (t,b)) λg=>bd (let h:=h%6;if h=0\/h=2 then pu (c+1)else if 3<h then pu c else n) λd=>bd (if h%6<2\/h%6=5 then m1 (rq e d) .inl else m1 (rx e d) .inr) λo=>m1 (ru m d) λr=>(⟨if 3<h%6 then none else some d,g,o⟩::r.1,r.2)
def live:Nat->Nat->Rd (List Nat)|0,_=>pu []|m+1,p=>bd n λd=>m1 (live m (p+d)) (.cons (p+d))
def rL:Rd (List Nat):=bd n λn=>live n 0
def rc:Nat->Nat->Rd (Code×Nat)|0,c=>pu (.bad,c)|f+1,c=>let r:=rc f;ca (pu (.bad,c)) [bd (r c) λa=>m1 (r a.2) λb=>(.seq a.1 b.1,b.2),m2 rL (bd n λm=>ru e m c) λl r=>(.ops l r.1,r.2),bd (ra e c) λx=>bd (r c) λa=>m1 (r a.2) λb=>(.cond x a.1 b.1,b.2),m3 rL n (r c) λl i a=>(.block l i a.1,a.2),m3 rL n (r c) λl g a=>(.loop l (if g=0 then none else some (g-1)) a.1,a.2),pu (.skip,c),pu (.ret,c),m1 n λi=>(.exit i,c),m1 n λi=>(nth .bad sub i,c)]
def rr:Rd RV:=bd n λm=>if m=0 then m1 n .slot else m3 n n b .cell
inductive Wr|w
def tb:List (List Nat):=[[],[],[],[],[],[],[],[],[],[],[],[],[],[0,0],[],[0,1],[2,1],[1,1],[0,2,1,0,1],[0],[0,1,1],[3,1],[2,0],[6],[2],[],[],[],[],[],[],[],[2,1,1],[4,0],[1],[4],[0,0,1],[3],[0,0,1,6],[0,1,2],[1,1,1],[0,4,1,0,3],[7],[88,0,0],[2,0,0,1,1],[4,1],[0,3],[3,0],[5],[0,6],[4,1,1],[0,1,6],[1,88],[0,1,0,1,88],[3,0,0],[0,5],[8],[0,7,89],[],[],[],[],[5,1],[],[11],[1,88,0,0],[0,2],[0,1,0,0],[88],[0,1,0,1],[2,1,0,1],[10],[2,2,1],[3,0,1],[9],[0,1,1,1],[0,1,0],[13],[3,1,1],[0,1,4],[10,1],[2,0,5],[12],[88,2,1],[89],[8,0],[1,0],[88,1],[],[],[],[],[],[]]
def xs:List Char->List Nat|[]=>[]|c::r=>let n:=c.toNat-33;if n=88 then match r with|[]=>[]|a::r=>(a.toNat-45)::xs r else if n=89 then match r with|a::b::r=>((a.toNat-33)*20+(b.toNat-33)-1209)::xs r|_=>[]else nth [] tb n++xs r
def cd(s:List Char):Code:=(rc e sub 400 0 (xs s)).1.1
def fd(s:List Char):AFn:=(m3 n (rl rr) (rc e sub 400 0) (λn r b=>AFn.mk n r b.1) (xs s)).1
end
end Ab.E
namespace Ab
open E
def fm0(s:String){l:List Char}{f:Ev->AFn}{g:AFn}(_:String.ofList l=s:=by rfl)(_:(λe=>fd e [] l)=f:=by conv=>lhs;reduce)(_:f ev0=g:=by dsimp only[Ab.E.ev0,Ab.E.i8,Ab.E.u8]):Wr:=.w
instance{s l f g h i j}:CoeDep Wr (@fm0 s l f g h i j) AFn:=⟨g⟩
def fm1(A:Code)(s:String){l:List Char}{f:Ev->Code->AFn}{g:AFn}(_:String.ofList l=s:=by rfl)(_:(λe x0=>fd e [x0] l)=f:=by conv=>lhs;reduce)(_:f ev0 A=g:=by dsimp only[Ab.E.ev0,Ab.E.i8,Ab.E.u8]):Wr:=.w
instance{A s l f g h i j}:CoeDep Wr (@fm1 A s l f g h i j) AFn:=⟨g⟩
def fm2(A B:Code)(s:String){l:List Char}{f:Ev->Code->Code->AFn}{g:AFn}(_:String.ofList l=s:=by rfl)(_:(λe x0 x1=>fd e [x0,x1] l)=f:=by conv=>lhs;reduce)(_:f ev0 A B=g:=by dsimp only[Ab.E.ev0,Ab.E.i8,Ab.E.u8]):Wr:=.w
instance{A B s l f g h i j}:CoeDep Wr (@fm2 A B s l f g h i j) AFn:=⟨g⟩
def fm3(A B C:Code)(s:String){l:List Char}{f:Ev->Code->Code->Code->AFn}{g:AFn}(_:String.ofList l=s:=by rfl)(_:(λe x0 x1 x2=>fd e [x0,x1,x2] l)=f:=by conv=>lhs;reduce)(_:f ev0 A B C=g:=by dsimp only[Ab.E.ev0,Ab.E.i8,Ab.E.u8]):Wr:=.w
instance{A B C s l f g h i j}:CoeDep Wr (@fm3 A B C s l f g h i j) AFn:=⟨g⟩
def cm0(s:String){l:List Char}{f:Ev->Code}{g:Code}(_:String.ofList l=s:=by rfl)(_:(λe=>cd e [] l)=f:=by conv=>lhs;reduce)(_:f ev0=g:=by dsimp only[Ab.E.ev0,Ab.E.i8,Ab.E.u8]):Wr:=.w
instance{s l f g h i j}:CoeDep Wr (@cm0 s l f g h i j) Code:=⟨g⟩
def cm1(A:Code)(s:String){l:List Char}{f:Ev->Code->Code}{g:Code}(_:String.ofList l=s:=by rfl)(_:(λe x0=>cd e [x0] l)=f:=by conv=>lhs;reduce)(_:f ev0 A=g:=by dsimp only[Ab.E.ev0,Ab.E.i8,Ab.E.u8]):Wr:=.w
instance{A s l f g h i j}:CoeDep Wr (@cm1 A s l f g h i j) Code:=⟨g⟩
end Ab
