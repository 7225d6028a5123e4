import Derived.Test.YtgdkafbcchkplaaGreatDoorAbX4
import Derived.Test.YtgdkafbcchkplaaGreatDoorAbBase
namespace Ab
open Go (IntKind BinOp UnOp World Value Addr Obj undef maxLen Program TypeId Oper Op Operand Act Sem Next Result execOp Builtin)
section
variable {Γ : Ctx} {N : Names} {P : Program} {w : World} {S T : Nat → Prop} {μ : Nat → Value} {H : Heap}

theorem run_askRoom (b : Nat) : (Go.askRoom b).run P w = .ok () w := by
  unfold Go.askRoom
  split
  · simp [Go.mark, Sem.run]
  · simp

theorem consts_len {vs : List Value} {ps : List PV} (h : consts vs ps = true) : vs.length = ps.length := (consts_rel (ν := id) (w := default) (S := fun _ => False) h).1

theorem replicate_flat {ν : Nat → Nat} {x : PV} {cells : Array Value} {n sz : Nat} (hx : x.cells.length = sz) (h1 : ∀ c ∈ x.cells, c.one = true) (hc : cells.size = sz) (_h0 : 0 < sz)
    (hr : ∀ (j : Nat) c, x.cells[j]? = some c → RelP ν w S c (cells.getD j undef)) {us : List Value} (hu : ∀ t, t < n * sz → us.getD t undef = cells.getD (t % sz) undef) :
    FlatRel ν w S sz (List.replicate n x) us := by
  refine ⟨fun y hy => ?_, fun i y j c hy hc' => ?_⟩
  · rw [List.eq_of_mem_replicate hy]; exact ⟨hx, h1⟩
  · obtain ⟨hi, e⟩ := List.getElem?_eq_some_iff.1 hy
    simp only [List.length_replicate] at hi
    simp only [List.getElem_replicate] at e
    subst e
    have hj : j < sz := by rw [← hx]; exact (List.getElem?_eq_some_iff.1 hc').1
    have hlt : i * sz + j < n * sz := by
      calc i * sz + j < i * sz + sz := by omega
        _ = (i + 1) * sz := by rw [Nat.add_mul, Nat.one_mul]
        _ ≤ n * sz := Nat.mul_le_mul_right _ hi
    rw [hu _ hlt, Nat.add_comm, Nat.add_mul_mod_self_right, Nat.mod_eq_of_lt hj]
    exact hr j c hc'

theorem x_mkslice (hr : Rel N.fn w S μ H) {t e : TypeId} {i : Go.TypeInfo} {sz : Nat} {ag : Bool} {zero : List PV} {n c : Value} {n' c' : AV} {r : AV × Heap} (hT : slT P t = some e) (hi : P.info? e = some i) (hsz : i.size = sz) (hz : zeroT P e zero = true)
    (hzl : zero.length = sz) (h0 : 0 < sz) (hag : ag = false → sz = 1) (hb : i.bytes ≤ 65536) (hn : RelV N.fn w S μ H n' n) (hc : RelV N.fn w S μ H c' c) (hv : mksliceA H sz ag zero n' c' = some r) :
    ∃ u w' μ', (Go.Instr.makeSlice t n c).run P w = .ok u w' ∧ Step N.fn w S μ H w' S μ' r.2 ∧ RelV N.fn w' S μ' r.2 r.1 u := by
  have lim_eq : lim = 1073741824 := rfl
  unfold zeroT at hz
  split at hz
  rotate_left
  · cases hz
  rename_i z hzz
  obtain ⟨i', hi', hzi⟩ := Option.bind_eq_some_iff.1 hzz
  rw [hi] at hi'; cases hi'
  obtain ⟨z1, z2, z3⟩ := consts_rel (ν := N.fn) (w := w) (S := S) hz
  have hzs : z.cells.size = sz := by rw [← hzl, ← z1]; simp
  unfold mksliceA at hv
  split at hv
  rotate_left
  · cases hv
  rename_i k1 n k2 c
  rw [hn.int_inv, hc.int_inv]
  -- the run
  have run : ∀ m cp : Nat, m ≤ cp → cp ≤ lim → n = m → c = cp → (Go.Instr.makeSlice t (.int k1 n) (.int k2 c)).run P w =
      .ok (.slice (some ⟨w.heap.size, 0, none⟩) m cp) (w.alloc (.cells ((Array.range (cp * sz)).map (z.cells[· % z.cells.size]!)) e)) := by
    intro m cp h1 h2 e1 e2
    subst e1 e2
    have w1 : IntKind.i64.wrap (m : Int) = m := wrap_i64 (by omega) (by omega)
    have w2 : IntKind.i64.wrap (cp : Int) = cp := wrap_i64 (by omega) (by omega)
    have big : ¬ ((i.bytes : Int) * (cp : Int) > 2 ^ 48) := by
      have : i.bytes * cp ≤ 65536 * 1073741824 := Nat.mul_le_mul hb (by omega)
      have h3 : ((i.bytes * cp : Nat) : Int) ≤ (65536 * 1073741824 : Nat) := by exact_mod_cast this
      rw [Int.natCast_mul] at h3
      have h4 : ((65536 * 1073741824 : Nat) : Int) ≤ 2 ^ 48 := by decide
      omega
    have n1 : ¬ ((cp : Int) < 0) := by omega
    have n2 : ¬ ((m : Int) < 0) := by omega
    have n3 : ¬ ((m : Int) > cp) := by omega
    have cnd : (decide ((cp : Int) < 0) || decide ((i.bytes : Int) * (cp : Int) > 2 ^ 48) || decide ((m : Int) < 0) || decide ((m : Int) > cp)) = false := by
      simp only [Bool.or_eq_false_iff]
      exact ⟨⟨⟨decide_eq_false n1, decide_eq_false big⟩, decide_eq_false n2⟩, decide_eq_false n3⟩
    simp only [Go.Instr.makeSlice, Go.Sem.run_bind, Go.run_underlying (slT_spec hT), Go.Result.andThen_ok, Go.asInt, Go.asIntOf, Go.Sem.run_pure, Go.typeInfo, hi, Go.run_program, w1, w2]
    simp only [cnd, Bool.false_eq_true, if_false, Go.Sem.run_bind, run_askRoom, Go.Result.andThen_ok, Go.sizeOf, Go.typeInfo, Go.run_program, hi, Go.Sem.run_pure, hsz, Int.toNat_natCast]
    by_cases h5 : cp * sz = 0
    · have e0 : ∀ f : Nat → Value, (Array.range 0).map f = #[] := fun f => by simp
      simp only [h5, if_true, e0]
      simp [Go.newRow]
    · simp only [h5, if_false, Go.Sem.run_bind, Go.zeroValue, Go.typeInfo, Go.run_program, hi, Go.Sem.run_pure, Go.Result.andThen_ok, hzi]
      simp [Go.newRow]
  have get : ∀ cp t' : Nat, t' < cp * sz → ((Array.range (cp * sz)).map (z.cells[· % z.cells.size]!)).getD t' undef = z.cells.getD (t' % sz) undef := by
    intro cp t' ht
    have hm : t' % sz < z.cells.size := by rw [hzs]; exact Nat.mod_lt _ h0
    rw [Array.getD_eq_getD_getElem?, Array.getD_eq_getD_getElem?, Array.getElem?_map, Array.getElem?_range, if_pos ht, hzs]
    simp only [Option.map_some, Option.getD_some]
    rw [getElem!_pos z.cells _ hm, Array.getElem?_eq_getElem hm, Option.getD_some]
  have xc : (if ag = true then PV.agg zero else zero.headD .nilp).cells = zero := by
    cases ag with
    | true => rfl
    | false =>
      have := hag rfl
      match zero, hzl with
      | [q], _ => exact PV.cells_one (z2 q (by simp))
      | [], h => simp at h; omega
      | _ :: _ :: _, h => simp at h; omega
  have mk : ∀ m cp : Nat, m ≤ cp → cp ≤ lim → n = m → c = cp → ∀ xs, xs = List.replicate m (if ag = true then PV.agg zero else zero.headD .nilp) →
      ∃ u w' μ', (Go.Instr.makeSlice t (.int k1 n) (.int k2 c)).run P w = .ok u w' ∧ Step N.fn w S μ H w' S μ' (H ++ [.row false sz xs]) ∧ RelV N.fn w' S μ' (H ++ [.row false sz xs]) (.own H.length m) u := by
    intro m cp h1 h2 e1 e2 xs hxs
    have hxl : xs.length = m := by rw [hxs]; simp
    have hg := Grows.alloc w (.cells ((Array.range (cp * sz)).map (z.cells[· % z.cells.size]!)) e)
    have hle : m * sz ≤ cp * sz := Nat.mul_le_mul_right _ h1
    have hrow : RowAt (w.alloc (.cells ((Array.range (cp * sz)).map (z.cells[· % z.cells.size]!)) e)) (.slice (some ⟨w.heap.size, 0, none⟩) m cp) sz m (((Array.range (cp * sz)).map (z.cells[· % z.cells.size]!)).toList.take (m * sz)) := by
      refine ⟨by simp only [List.length_take, Array.length_toList, Array.size_map, Array.size_range]; omega, ?_⟩
      by_cases hcp : cp = 0
      · exact .inl ⟨by omega, _, by subst hcp; rw [show m = 0 by omega]⟩
      · exact .inr ⟨w.heap.size, cp, _, e, rfl, by omega, Go.heap_alloc_new w _, h1, by simp only [maxLen]; omega, by simp, rfl⟩
    have hflat : FlatRel N.fn (w.alloc (.cells ((Array.range (cp * sz)).map (z.cells[· % z.cells.size]!)) e)) S sz xs (((Array.range (cp * sz)).map (z.cells[· % z.cells.size]!)).toList.take (m * sz)) := by
      rw [hxs]
      refine (replicate_flat (by rw [xc, hzl]) (fun c hc => z2 c (by rw [xc] at hc; exact hc)) hzs h0 (fun j c hc => ?_) (fun t' ht => ?_)).keep (hr.keepS hg)
      · rw [xc] at hc
        have := z3 j c hc
        rwa [getD_toList] at this
      · rw [List.getD_eq_getElem?_getD, List.getElem?_take, if_pos ht, ← List.getD_eq_getElem?_getD, getD_toList]
        exact get cp t' (by omega)
    rw [← hxl] at hrow
    obtain ⟨μ', s1, s2⟩ := step_newrow hr hg h0 (by omega) hrow (by rw [hxl]; exact hflat) (fun g hg => by
      simp only [blkOf] at hg
      split at hg
      · cases hg
      · simp only [Option.some.injEq] at hg; omega)
    rw [hxl] at s2
    exact ⟨_, _, μ', run m cp h1 h2 e1 e2, s1, s2⟩
  split at hv
  · rename_i hc1
    obtain ⟨g1, g2, g3⟩ := hc1
    simp only [Option.some.injEq] at hv
    subst hv
    have e1 : n = (n.toNat : Int) := by omega
    exact mk n.toNat n.toNat (Nat.le_refl _) (by omega) e1 (by omega) _ rfl
  · simp only [Option.ite_none_right_eq_some, Option.some.injEq] at hv
    obtain ⟨⟨g1, g2, g3⟩, rfl⟩ := hv
    exact mk 0 c.toNat (Nat.zero_le _) (by omega) (by simpa using g1) (by omega) _ (by simp)
end
end Ab
