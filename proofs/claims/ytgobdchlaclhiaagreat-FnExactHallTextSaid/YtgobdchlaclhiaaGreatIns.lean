/- slices.Insert[SLICE]: what it leaves of a row's cells: four ways. -/
import Derived.Test.YtgobdchlaclhiaaGreatWi
import Derived.Test.YtgobdchlaclhiaaGreatProg
import Derived.Test.YtgobdchlaclhiaaGreatChecked
set_option linter.unusedVariables false
set_option linter.unusedSimpArgs false
namespace Go.Vm
open Go Go.Proofs Go.RowKit Go.Lib
theorem ins121_copy {ops : Array Oper} {rest : List Oper} {o : Oper} {a : Act} {Q : Exit → Act → World → Prop} (w : World) (hgd : o.guard = none) (d s : Operand) (t t' : TypeId)
    (ho : o.op = .call { callee := .builtin .copy, args := #[d, s], argTypes := #[t, t'] }) (v u : Value) (hd : a.eval d = v) (hs : a.eval s = u) {v' : Value} {w' : World}
    (hr : (Builtin.copy_ #[t, t'] o.type #[v, u]).run Tryz.prog w = .ok v' w') (h : wpList Tryz.prog ops Q rest (a.put o.dst v') w') : wpList Tryz.prog ops Q (o :: rest) a w := by
  refine wpList_plain hgd fun _ hK => ?_
  unfold Oper.wp execOp
  simp only [ho, resolve, invoke, builtin, Sem.run_bind, Sem.run_pure, Result.andThen_ok, List.map_toArray, List.map_cons, List.map_nil, hd, hs, hr]
  exact hK _ _ h
theorem ins121_step {ops : Array Oper} {o : Oper} {a : Act} {w : World} {K : Act → World → Prop} {Q : Exit → Act → World → Prop} {E : Prop}
    (hg : o.guard = none) (d x : Operand) (dT sT : TypeId) (hop : o.op = Op.call { callee := Callee.builtin Builtin.copy, args := #[d, x], argTypes := #[dT, sT] })
    (v u : Value) (hd : a.eval d = v) (hx : a.eval x = u) {v' : Value} {w' : World} (hr : (Builtin.copy_ #[dT, sT] o.type #[v, u]).run Tryz.prog w = .ok v' w') (hK : K (a.put o.dst v') w') :
    if Region.wanted o (yielded ops a.tmps) = true then Oper.wp Tryz.prog o a w K Q else E := by
  have hw : Region.wanted o (yielded ops a.tmps) = true := by simp [Region.wanted, hg]
  rw [if_pos hw]
  unfold Oper.wp
  simp [execOp, hop, resolve, invoke, builtin, hd, hx, hr, Result.andThen]
  exact hK
theorem ins121_info : (Tryz.prog.info? 117).map (fun i => (i.zero, i.size, i.bytes)) = some (some (Value.agg #[.int .i64 0, .int .i64 0]), 2, 16) := by kernel_rfl
theorem ins121_lenOf (w2 : World) (A : Option Addr) (n c : Nat) : (Builtin.lenOf (.slice A n c)).run Tryz.prog w2 = .ok n w2 := by simp [Builtin.lenOf]
set_option maxHeartbeats 4000000 in
set_option maxRecDepth 100000 in
/-- At the end, with room. -/
theorem ins121_end_room (w : World) (g off n c vb vo vc : Nat) (vs : List Value) (hn : n ≤ 1073741824) (hvl : vs.length = 2) (hroom : n + 1 ≤ c) (h1v : ∀ v ∈ vs, v.oneCell' = true)
    (hvs : ∀ j v, vs[j]? = some v → w.cell? ⟨vb, vo + j, none⟩ = some v) (hR : Room w g (off + c * 2)) (hf : ∀ o, w.frozen? ⟨g, o, none⟩ = false) :
    Calls Tryz.prog 121 #[.slice (some ⟨g, off, none⟩) n c, .int .i64 n, .slice (some ⟨vb, vo, none⟩) 1 vc] w fun e w' => e = .returned (.slice (some ⟨g, off, none⟩) (n + 1) c) ∧ w' = putCells g vs (off + n * 2) w := by
  have hsome : ∀ j, j < vs.length → (w.cell? ⟨g, off + n * 2 + j, none⟩).isSome = true := fun j hj => hR.cell (by omega)
  have hst : (storeCells ((⟨g, off, none⟩ : Addr).add (n * 2)) vs).run Tryz.prog w = .ok () (putCells g vs (off + n * 2) w) := by
    have := run_putCells Tryz.prog g (off + n * 2) vs 0 w (fun j hj => ⟨by rw [Nat.add_zero]; exact hsome j hj, hf _⟩) h1v
    rw [Nat.add_zero] at this
    rw [add_plain]
    exact this
  have hap : ∀ ty, (Builtin.append_ #[100, 100] ty #[.slice (some ⟨g, off, none⟩) n c, .slice (some ⟨vb, vo, none⟩) 1 vc]).run Tryz.prog w = .ok (.slice (some ⟨g, off, none⟩) (n + 1) c) (putCells g vs (off + n * 2) w) := fun ty =>
    append_in (e := 117) (size := 2) (news := vs) Tryz.underlying100 Tryz.underlying100 (fun _ h => by cases h) Tryz.sizeOf117 (fun w2 => ins121_lenOf w2 _ _ _) (run_firstCells_some w 2 1 ⟨vb, vo, none⟩ 1 vc vs (by omega) fun j v hj => by rw [add_plain]; exact hvs j v hj) hroom hst
  have hz1 : ¬ ((1 : Int) = 0) := by omega
  go_enter Tryz.func121, Tryz.ntmps121
  go_wp2_with (at_builtin; refine Lib.wpList_append_run _ rfl _ _ 100 100 rfl _ _ rfl rfl _ _ (hap _) ?_)
  go_ret
  exact ⟨rfl, rfl⟩
set_option maxHeartbeats 4000000 in
set_option maxRecDepth 100000 in
/-- At the end, without room: a new row. -/
theorem ins121_end_grow (w : World) (A : Option Addr) (n c vb vo vc : Nat) (cs vs : List Value) (hn : n ≤ 1073741824) (hvl : vs.length = 2) (hnc : n ≤ c) (hroom : c < n + 1) 
    (hold : (Builtin.firstCells 2 n (.slice A n c)).run Tryz.prog w.drew = .ok cs.toArray w.drew) (hvs : ∀ j v, vs[j]? = some v → w.cell? ⟨vb, vo + j, none⟩ = some v) :
    Calls Tryz.prog 121 #[.slice A n c, .int .i64 n, .slice (some ⟨vb, vo, none⟩) 1 vc] w fun e w' => e = .returned (.slice (some ⟨w.heap.size, 0, none⟩) (n + 1) (grownCap w (n + 1) c 117)) ∧
      w' = w.drew.alloc (.cells (cs.toArray ++ vs.toArray ++ Builtin.zeroCells (Value.agg #[.int .i64 0, .int .i64 0]).cells (grownCap w (n + 1) c 117 - (n + 1))) 117) := by
  obtain ⟨i0, hi0, hz0, hzs, hzb⟩ := info_parts ins121_info
  have hap : ∀ ty, (Builtin.append_ #[100, 100] ty #[.slice A n c, .slice (some ⟨vb, vo, none⟩) 1 vc]).run Tryz.prog w = .ok (.slice (some ⟨w.heap.size, 0, none⟩) (n + 1) (grownCap w (n + 1) c 117))
      (w.drew.alloc (.cells (cs.toArray ++ vs.toArray ++ Builtin.zeroCells (Value.agg #[.int .i64 0, .int .i64 0]).cells (grownCap w (n + 1) c 117 - (n + 1))) 117)) := fun ty =>
    append_grow (e := 117) (size := 2) (news := vs) (olds := cs) Tryz.underlying100 Tryz.underlying100 (fun _ h => by cases h) Tryz.sizeOf117 hi0 (by omega) Tryz.zeroValue117 (fun w2 => ins121_lenOf w2 _ _ _)
      (run_firstCells_some w.drew 2 1 ⟨vb, vo, none⟩ 1 vc vs (by omega) fun j v hj => by rw [add_plain]; exact hvs j v hj) hold hroom (by unfold maxRow; omega)
  obtain ⟨G, hG⟩ : ∃ G, G = grownCap w (n + 1) c 117 := ⟨_, rfl⟩
  rw [← hG] at hap ⊢
  obtain ⟨ROW, hROW⟩ : ∃ ROW : Array Value, ROW = cs.toArray ++ vs.toArray ++ Builtin.zeroCells (Value.agg #[.int .i64 0, .int .i64 0]).cells (G - (n + 1)) := ⟨_, rfl⟩
  rw [← hROW] at hap ⊢
  have hz1 : ¬ ((1 : Int) = 0) := by omega
  clear hG hROW
  go_enter Tryz.func121, Tryz.ntmps121
  go_wp2_with (at_builtin; refine Lib.wpList_append_run _ rfl _ _ 100 100 rfl _ _ rfl rfl _ _ (hap _) ?_)
  go_ret
  exact ⟨rfl, rfl⟩
set_option maxHeartbeats 4000000 in
set_option maxRecDepth 100000 in
/-- Further ahead, with room: in place. -/
theorem ins121_shift (w : World) (g off n c i vb vo vc : Nat) (cs vs : List Value) (hn : n ≤ 1073741824) (hi : i < n) (hcl : cs.length = n * 2) (hvl : vs.length = 2) (hroom : n + 1 ≤ c) (h1c : ∀ v ∈ cs, v.oneCell' = true) (h1v : ∀ v ∈ vs, v.oneCell' = true)
    (hcs : ∀ j v, cs[j]? = some v → w.cell? ⟨g, off + j, none⟩ = some v) (hvs : ∀ j v, vs[j]? = some v → w.cell? ⟨vb, vo + j, none⟩ = some v) (hvb : vb ≠ g) (hR : Room w g (off + c * 2)) (hf : ∀ o, w.frozen? ⟨g, o, none⟩ = false) :
    Calls Tryz.prog 121 #[.slice (some ⟨g, off, none⟩) n c, .int .i64 i, .slice (some ⟨vb, vo, none⟩) 1 vc] w fun e w' => e = .returned (.slice (some ⟨g, off, none⟩) (n + 1) c) ∧
      w' = putCells g vs (off + i * 2) (putCells g (cs.drop (i * 2)) (off + (i + 1) * 2) w.drew) := by
  have hcell : ∀ j, j < (n + 1) * 2 → (w.cell? ⟨g, off + j, none⟩).isSome = true := fun j hj => hR.cell (by omega)
  obtain ⟨tA, kA, hsa, hka⟩ : ∃ tA kA, w.shape? vb = some (tA, kA) ∧ kA ≠ 0 := by
    obtain ⟨v, hv⟩ : ∃ v, vs[0]? = some v := ⟨_, List.getElem?_eq_getElem (by omega)⟩
    obtain ⟨ca, e, fr, h1, h2⟩ := cell_block (hvs 0 v hv)
    exact ⟨e, ca.size, by simp [World.shape?, h1], by omega⟩
  obtain ⟨tB, kB, hsb, hkb⟩ : ∃ tB kB, w.shape? g = some (tB, kB) ∧ kB ≠ 0 := by
    obtain ⟨ca, e, fr, h1, h2⟩ := hR
    exact ⟨e, ca.size, by simp [World.shape?, h1], by omega⟩
  have hov : ∀ lb cb, (callFunc 139 #[.slice (some ⟨vb, vo, none⟩) 1 vc, .slice (some ⟨g, off + (i + 1) * 2, none⟩) lb cb]).run Tryz.prog w = .ok (.value (.bool false)) w := fun lb cb => by
    rw [run_callFunc_extern Tryz.func139 (by kernel_rfl) (by kernel_rfl) (by kernel_rfl) (e := Extern.SlicesOverlaps.overlaps #[100, 100] #[4]) (by kernel_rfl),
      run_overlaps_own w 100 4 117 Tryz.underlying100 2 Tryz.sizeOf117 ⟨vb, vo, none⟩ ⟨g, off + (i + 1) * 2, none⟩ 1 vc lb cb hvb tA tB kA kB hsa hka hsb hkb hf (hf _)]
    rfl
  have hdl : (cs.drop (i * 2)).length = (n - i) * 2 := by rw [List.length_drop, hcl]; omega
  have hcp1 : ∀ ty dc sc, (Builtin.copy_ #[100, 100] ty #[.slice (some ⟨g, off + (i + 1) * 2, none⟩) (n - i) dc, .slice (some ⟨g, off + i * 2, none⟩) (n + 1 - i) sc]).run Tryz.prog w.drew = .ok (goInt (Nat.min (n + 1 - i) (n - i))) (putCells g (cs.drop (i * 2)) (off + (i + 1) * 2) w.drew) := fun ty dc sc =>
    run_copy_k w.drew _ _ ty 117 2 g (off + (i + 1) * 2) (n - i) dc ⟨g, off + i * 2, none⟩ (n + 1 - i) sc (cs.drop (i * 2)) Tryz.underlying100 Tryz.sizeOf117 (by rw [hdl, show Nat.min (n + 1 - i) (n - i) = n - i from by simp only [Nat.min_def]; split <;> omega])
      (fun j v hj => by rw [add_plain, Nat.add_assoc]; exact hcs (i * 2 + j) v (by rwa [List.getElem?_drop] at hj))
      (fun j hj => by rw [Nat.add_assoc]; exact hcell _ (by omega)) (fun j hj => hf _) (fun v hv => h1c v (List.mem_of_mem_drop hv))
  obtain ⟨W1, hW1⟩ : ∃ W1, W1 = putCells g (cs.drop (i * 2)) (off + (i + 1) * 2) w.drew := ⟨_, rfl⟩
  have hP1 : Puts g w.drew W1 := hW1 ▸ puts_cells g _ _ _
  have hcp2 : ∀ (W : World), (∀ x, W.cell? x = W1.cell? x) → (∀ x, W.frozen? x = W1.frozen? x) → ∀ ty dc, (Builtin.copy_ #[100, 100] ty #[.slice (some ⟨g, off + i * 2, none⟩) (n + 1 - i) dc, .slice (some ⟨vb, vo, none⟩) 1 vc]).run Tryz.prog W = .ok (goInt (Nat.min 1 (n + 1 - i))) (putCells g vs (off + i * 2) W) := fun W hWc hWf ty dc =>
    run_copy_k W _ _ ty 117 2 g (off + i * 2) (n + 1 - i) dc ⟨vb, vo, none⟩ 1 vc vs Tryz.underlying100 Tryz.sizeOf117 (by rw [hvl, show Nat.min 1 (n + 1 - i) = 1 from by simp only [Nat.min_def]; split <;> omega])
      (fun j v hj => by
        rw [add_plain, hWc]
        have hb := hP1.other vb hvb
        rw [cell?_same (a := ⟨vb, vo + j, none⟩) hb]
        exact hvs j v hj)
      (fun j hj => by rw [hWc, hP1.some, Nat.add_assoc]; exact hcell _ (by omega)) (fun j hj => by rw [hWf, hP1.frozen]; exact hf _) h1v
  rw [← hW1] at hcp1
  have hz1 : ¬ ((1 : Int) = 0) := by omega
  have hz2 : ¬ ((i : Int) = (n : Int)) := by omega
  have hw1 : IntKind.i64.wrap ((i : Int) + 1) = (i : Int) + 1 := by rw [IntKind.wrap_i64]; omega
  have hw2 : IntKind.i64.wrap ((n : Int) + 1) = (n : Int) + 1 := by rw [IntKind.wrap_i64]; omega
  have hb1 : (0 : Int) ≤ (i : Int) + 1 := by omega
  have hin : i ≤ n := by omega
  have htn : ((i : Int) + 1).toNat = i + 1 := by omega
  have htn2 : ((n : Int) + 1).toNat = n + 1 := by omega
  have hb2 : ¬ (c = i + 1) := by omega
  have hb3 : (i : Int) ≤ (n : Int) + 1 := by omega
  have hb4 : ¬ (c = i) := by omega
  have hb5 : ¬ ((c : Int) < (n : Int) + 1) := by omega
  have mixed : Tryz.prog.follows .mixedOrders = true := Tryz.checked.mixed
  go_enter Tryz.func121, Tryz.ntmps121
  go_wp2_with (simp only [hov])
  go_region_law_o (refine ins121_step rfl _ _ 100 100 rfl _ _ (by simp [Act.eval, Act.put]) (by simp [Act.eval, Act.put]) (hcp1 _ _ _) ?_)
  go_wp2_with (at_builtin; refine ins121_copy _ rfl _ _ 100 100 rfl _ _ rfl rfl (hcp2 _ (fun _ => rfl) (fun _ => rfl) _ _) ?_)
  go_ret
  first | exact ⟨rfl, rfl⟩ | exact ⟨rfl, by rw [hW1]⟩
theorem ins121_zero (m : Nat) : (Builtin.zeroCells (Value.agg #[.int .i64 0, .int .i64 0]).cells m).size = m * 2 := by
  simp [Builtin.zeroCells, Value.cells]
set_option maxHeartbeats 4000000 in
set_option maxRecDepth 100000 in
/-- Further ahead, without room: a new row. -/
theorem ins121_grow (w : World) (g off n c i vb vo vc : Nat) (cs vs : List Value) (hn : n ≤ 1073741824) (hi : i < n) (hcl : cs.length = n * 2) (hvl : vs.length = 2) (hnc : n ≤ c) (hroom : c < n + 1) (h1c : ∀ v ∈ cs, v.oneCell' = true) (h1v : ∀ v ∈ vs, v.oneCell' = true)
    (hcs : ∀ j v, cs[j]? = some v → w.cell? ⟨g, off + j, none⟩ = some v) (hvs : ∀ j v, vs[j]? = some v → w.cell? ⟨vb, vo + j, none⟩ = some v) (hgw : g < w.heap.size) (hvw : vb < w.heap.size) :
    Calls Tryz.prog 121 #[.slice (some ⟨g, off, none⟩) n c, .int .i64 i, .slice (some ⟨vb, vo, none⟩) 1 vc] w fun e w' => e = .returned (.slice (some ⟨w.heap.size, 0, none⟩) (n + 1) (grownCap w (n + 1) c 117)) ∧
      w' = putCells w.heap.size (cs.drop (i * 2)) ((i + 1) * 2) ((putCells w.heap.size vs (i * 2) ((w.alloc (.cells ((cs.take (i * 2)).toArray ++ Builtin.zeroCells (Value.agg #[.int .i64 0, .int .i64 0]).cells (n + 1 - i) ++ Builtin.zeroCells (Value.agg #[.int .i64 0, .int .i64 0]).cells (grownCap w (n + 1) c 117 - (n + 1))) 117)).drew)).drew) := by
  obtain ⟨i0, hi0, hz0, hzs, hzb⟩ := info_parts ins121_info
  have hz1 : ¬ ((1 : Int) = 0) := by omega
  have hz2 : ¬ ((i : Int) = (n : Int)) := by omega
  have hz3 : (c : Int) < (n : Int) + 1 := by omega
  have hkk : (n : Int) + 1 - (i : Int) = ((n + 1 - i : Nat) : Int) := by omega
  have hik : i + (n + 1 - i) = n + 1 := by omega
  have hold : (Builtin.firstCells i0.size i (.slice (some ⟨g, off, none⟩) i c)).run Tryz.prog w.drew = .ok (cs.take (i * 2)).toArray w.drew := by
    rw [hzs]
    exact run_firstCells_some w.drew 2 i ⟨g, off, none⟩ i c (cs.take (i * 2)) (by rw [List.length_take, hcl]; omega) (fun j v hj => by
      rw [add_plain]
      rw [List.getElem?_take] at hj
      split at hj
      · exact hcs j v hj
      · cases hj)
  have hrz : ∀ ty, (Builtin.append_ #[100, 3] ty #[.slice (some ⟨g, off, none⟩) i c, .int .i64 ((n : Int) + 1 - (i : Int))]).run Tryz.prog w =
      .ok (.slice (some ⟨w.heap.size, 0, none⟩) (n + 1) (grownCap w (n + 1) c 117)) (w.drew.alloc (.cells ((cs.take (i * 2)).toArray ++ Builtin.zeroCells (Value.agg #[.int .i64 0, .int .i64 0]).cells (n + 1 - i) ++ Builtin.zeroCells (Value.agg #[.int .i64 0, .int .i64 0]).cells (grownCap w (n + 1) c 117 - (n + 1))) 117)) := fun ty => by
    have h := Lib.run_append_grow_zeros w 100 3 ty 117 i0 _ .i64 .i64 Tryz.underlying100 Tryz.underlying3 hi0 hz0 (some ⟨g, off, none⟩) i c (cs.take (i * 2)) hold (n + 1 - i) (by omega) (by omega) (by omega) (by omega) (by rw [hzb]; omega) (by rw [hzb, hik]; exact growslice_fits hroom (by omega))
    rw [hik] at h
    rw [hkk]
    exact h
  obtain ⟨G, hG⟩ : ∃ G, G = grownCap w (n + 1) c 117 := ⟨_, rfl⟩
  have hGn : n + 1 ≤ G := by rw [hG]; exact grownCap_ge w _ _ _
  have hG63 : G ≤ 9223372036854775807 := by
    have := grownCap_le_maxLen w (n + 1) c 117 (by unfold maxLen; omega)
    rw [← hG] at this
    unfold maxLen at this
    omega
  obtain ⟨ROW, hROW⟩ : ∃ ROW : Array Value, ROW = (cs.take (i * 2)).toArray ++ Builtin.zeroCells (Value.agg #[.int .i64 0, .int .i64 0]).cells (n + 1 - i) ++ Builtin.zeroCells (Value.agg #[.int .i64 0, .int .i64 0]).cells (G - (n + 1)) := ⟨_, rfl⟩
  rw [← hG] at hrz ⊢
  rw [← hROW] at hrz ⊢
  have hRl : (n + 1) * 2 ≤ ROW.size := by
    rw [hROW]
    simp only [Array.size_append, ins121_zero, List.size_toArray, List.length_take, hcl]
    omega
  obtain ⟨W1, hW1⟩ : ∃ W1, W1 = w.drew.alloc (.cells ROW 117) := ⟨_, rfl⟩
  rw [← hW1] at hrz
  have hN : ∀ j, j < (n + 1) * 2 → (W1.cell? ⟨w.heap.size, j, none⟩).isSome = true := fun j hj => by
    rw [hW1, World.cell?_alloc_at (w := w.drew) ROW _ w.heap.size j rfl, Array.getElem?_eq_getElem (by omega)]; rfl
  have hNf : ∀ j, W1.frozen? ⟨w.heap.size, j, none⟩ = false := fun j => by rw [hW1]; exact World.frozen?_alloc_at (w := w.drew) ROW _ w.heap.size j rfl
  have hOb : ∀ j v, w.cell? ⟨g, j, none⟩ = some v → W1.cell? ⟨g, j, none⟩ = some v := fun j v h => by rw [hW1, World.cell?_alloc_past (w := w.drew) _ g j hgw]; exact h
  have hOv : ∀ j v, w.cell? ⟨vb, j, none⟩ = some v → W1.cell? ⟨vb, j, none⟩ = some v := fun j v h => by rw [hW1, World.cell?_alloc_past (w := w.drew) _ vb j hvw]; exact h
  have hcpA : ∀ (W : World), (∀ x, W.cell? x = W1.cell? x) → (∀ x, W.frozen? x = W1.frozen? x) → ∀ ty dc, (Builtin.copy_ #[100, 100] ty #[.slice (some ⟨w.heap.size, i * 2, none⟩) (n + 1 - i) dc, .slice (some ⟨vb, vo, none⟩) 1 vc]).run Tryz.prog W = .ok (goInt (Nat.min 1 (n + 1 - i))) (putCells w.heap.size vs (i * 2) W) := fun W hWc hWf ty dc =>
    run_copy_k W _ _ ty 117 2 w.heap.size (i * 2) (n + 1 - i) dc ⟨vb, vo, none⟩ 1 vc vs Tryz.underlying100 Tryz.sizeOf117 (by rw [hvl, show Nat.min 1 (n + 1 - i) = 1 from by simp only [Nat.min_def]; split <;> omega])
      (fun j v hj => by rw [add_plain, hWc]; exact hOv _ v (hvs j v hj))
      (fun j hj => by rw [hWc]; exact hN _ (by omega)) (fun j hj => by rw [hWf]; exact hNf _) h1v
  have hdl : (cs.drop (i * 2)).length = (n - i) * 2 := by rw [List.length_drop, hcl]; omega
  have hcpB : ∀ (W : World), (∀ x, W.cell? x = (putCells w.heap.size vs (i * 2) W1).cell? x) → (∀ x, W.frozen? x = (putCells w.heap.size vs (i * 2) W1).frozen? x) → ∀ ty dc sc, (Builtin.copy_ #[100, 100] ty #[.slice (some ⟨w.heap.size, (i + 1) * 2, none⟩) (n - i) dc, .slice (some ⟨g, off + i * 2, none⟩) (n - i) sc]).run Tryz.prog W = .ok (goInt (Nat.min (n - i) (n - i))) (putCells w.heap.size (cs.drop (i * 2)) ((i + 1) * 2) W) := fun W hWc hWf ty dc sc =>
    run_copy_k W _ _ ty 117 2 w.heap.size ((i + 1) * 2) (n - i) dc ⟨g, off + i * 2, none⟩ (n - i) sc (cs.drop (i * 2)) Tryz.underlying100 Tryz.sizeOf117 (by rw [hdl, show Nat.min (n - i) (n - i) = n - i from by simp only [Nat.min_def]; split <;> omega])
      (fun j v hj => by
        rw [add_plain, hWc]
        have hb := (puts_cells w.heap.size vs (i * 2) W1).other g (by omega)
        rw [cell?_same (a := ⟨g, off + i * 2 + j, none⟩) hb, Nat.add_assoc]
        exact hOb _ v (hcs (i * 2 + j) v (by rwa [List.getElem?_drop] at hj)))
      (fun j hj => by rw [hWc, (puts_cells w.heap.size vs (i * 2) W1).some]; exact hN _ (by omega))
      (fun j hj => by rw [hWf, (puts_cells w.heap.size vs (i * 2) W1).frozen]; exact hNf _) (fun v hv => h1c v (List.mem_of_mem_drop hv))
  have hGi : ¬ (G = i) := by omega
  have hGim : ¬ (G = i + 1) := by omega
  have hci : ¬ (c = i) := by omega
  subst hW1
  have hdc : ∀ (vs : List Value) (g p : Nat) (W : World), (putCells g vs p W).drew = putCells g vs p W.drew := by
    intro vs
    induction vs with
    | nil => intro g p W; rfl
    | cons v r ih => intro g p W; simp only [putCells]; rw [ih]; rfl
  have hE1 : ∀ x, ((w.alloc (.cells ROW 117)).drew).cell? x = (w.drew.alloc (.cells ROW 117)).cell? x := fun x => rfl
  have hE2 : ∀ x, ((w.alloc (.cells ROW 117)).drew).frozen? x = (w.drew.alloc (.cells ROW 117)).frozen? x := fun x => rfl
  have hF1 : ∀ x, (((putCells w.heap.size vs (i * 2) ((w.alloc (.cells ROW 117)).drew))).drew).cell? x = (putCells w.heap.size vs (i * 2) (w.drew.alloc (.cells ROW 117))).cell? x := fun x => rfl
  have hF2 : ∀ x, (((putCells w.heap.size vs (i * 2) ((w.alloc (.cells ROW 117)).drew))).drew).frozen? x = (putCells w.heap.size vs (i * 2) (w.drew.alloc (.cells ROW 117))).frozen? x := fun x => rfl
  have hw1 : IntKind.i64.wrap ((i : Int) + 1) = (i : Int) + 1 := by rw [IntKind.wrap_i64]; omega
  have hw2 : IntKind.i64.wrap ((n : Int) + 1) = (n : Int) + 1 := by rw [IntKind.wrap_i64]; omega
  have hw3 : IntKind.i64.wrap ((n : Int) + 1 - (i : Int)) = (n : Int) + 1 - (i : Int) := by rw [IntKind.wrap_i64]; omega
  have hb1 : (0 : Int) ≤ (i : Int) + 1 := by omega
  have hin : i ≤ n := by omega
  have htn : ((i : Int) + 1).toNat = i + 1 := by omega
  have hb3 : (i : Int) ≤ (n : Int) := by omega
  have hb4 : (i : Int) ≤ (n : Int) + 1 := by omega
  have mixed : Tryz.prog.follows .mixedOrders = true := Tryz.checked.mixed
  clear hkk hik hold hROW hG hRl
  go_enter Tryz.func121, Tryz.ntmps121
  go_wp2_with (first
    | (at_builtin; refine Lib.wpList_append_run _ rfl _ _ _ _ rfl _ _ rfl rfl _ _ (hrz _) ?_)
    | (at_builtin; refine ins121_copy _ rfl _ _ 100 100 rfl _ _ rfl rfl (hcpA _ hE1 hE2 _ _) ?_)
    | (at_builtin; refine ins121_copy _ rfl _ _ 100 100 rfl _ _ rfl rfl (hcpB _ (fun _ => rfl) (fun _ => rfl) _ _ _) ?_))
  go_region_law_o (refine ins121_step rfl _ _ 100 100 rfl _ _ (by simp [Act.eval, Act.put]) (by simp [Act.eval, Act.put]) (hcpB _ hF1 hF2 3 (G - (i + 1)) (c - i)) ?_)
  go_wp2
  go_ret
  exact ⟨rfl, by rw [hdc]⟩
theorem ins121_walk : InsWalk Tryz.prog 121 2 := by
  intro w A g off n c i vb vo vc cs vs h
  obtain ⟨hi, hnc, hn, hcl, hvl, _, h1c, h1v, hvs, hvb, hst⟩ := h
  have hvw : vb < w.heap.size := by
    obtain ⟨v, hv⟩ : ∃ v, vs[0]? = some v := ⟨_, List.getElem?_eq_getElem (by omega)⟩
    obtain ⟨ca, e, fr, h1, h2⟩ := cell_block (hvs 0 v hv)
    rw [Array.getElem?_eq_some_iff] at h1; exact h1.1
  have atEnd : ∀ (hold : (Builtin.firstCells 2 n (.slice A n c)).run Tryz.prog w.drew = .ok cs.toArray w.drew) (hroom : c < n + 1),
      Calls Tryz.prog 121 #[.slice A n c, .int .i64 n, .slice (some ⟨vb, vo, none⟩) 1 vc] w fun e w' => ∃ B O c', e = .returned (.slice (some ⟨B, O, none⟩) (n + 1) c') ∧ n + 1 ≤ c' ∧ InsPost w w' g B O c' 2 (cs.take (n * 2) ++ vs ++ cs.drop (n * 2)) := fun hold hroom => by
    refine (ins121_end_grow w A n c vb vo vc cs vs hn hvl hnc hroom hold hvs).mono ?_
    rintro e w' ⟨rfl, rfl⟩
    refine ⟨_, _, _, rfl, grownCap_ge w _ _ _, ?_⟩
    have hG := grownCap_ge w (n + 1) c 117
    refine alloc_ins (Puts.refl _ _) (by simp only [Array.size_append, ins121_zero, List.size_toArray, hcl, hvl]; omega) fun j v hj => ?_
    rw [Nat.zero_add, World.cell?_alloc_at (w := w.drew) _ _ w.heap.size j rfl]
    have hjl := get_lt hj
    rw [List.take_of_length_le (by omega), List.drop_eq_nil_of_le (by omega), List.append_nil] at hj hjl
    rw [Array.getElem?_append_left (by simp at hjl ⊢; omega)]
    simpa using hj
  rcases hst with ⟨hc0, hg⟩ | ⟨rfl, hgw, hcs, hR, hf⟩
  · obtain rfl : n = 0 := by omega
    obtain rfl : i = 0 := by omega
    obtain rfl : c = 0 := hc0
    obtain rfl : cs = [] := List.length_eq_zero_iff.1 (by omega)
    refine atEnd ?_ (by omega)
    cases A with
    | none => exact run_firstCells_none w.drew 2 0 0 0
    | some a => exact run_firstCells_some w.drew 2 0 a 0 0 [] rfl fun j v hj => by simp at hj
  by_cases hin : i = n
  · subst hin
    by_cases hroom : i + 1 ≤ c
    · refine (ins121_end_room w g off i c vb vo vc vs hn hvl hroom h1v hvs hR hf).mono ?_
      rintro e w' ⟨rfl, rfl⟩
      refine ⟨_, _, _, rfl, hroom, (puts_cells g vs (off + i * 2) w).ins hR fun j v hj => ?_⟩
      rcases splice_at (by omega) hvl hj with ⟨q, h⟩ | ⟨q, q2, h⟩ | ⟨q, h⟩
      · rw [putCells_out g _ _ _ _ (by omega)]
        exact hcs j v h
      · exact in_at (j := j) (by omega) (by rw [show off + j - (off + i * 2) = j - i * 2 by omega]; exact h) fun t ht => hR.cell (by omega)
      · have := get_lt h
        simp at this; omega
    · refine atEnd (run_firstCells_some w.drew 2 i ⟨g, off, none⟩ i c cs (by omega) fun j v hj => by rw [add_plain]; exact hcs j v hj) (by omega)
  · by_cases hroom : n + 1 ≤ c
    · · refine (ins121_shift w g off n c i vb vo vc cs vs hn (by omega) hcl hvl hroom h1c h1v hcs hvs hvb hR hf).mono ?_
        rintro e w' ⟨rfl, rfl⟩
        have hdl : (cs.drop (i * 2)).length = (n - i) * 2 := by rw [List.length_drop, hcl]; omega
        have hP : Puts g w (putCells g vs (off + i * 2) (putCells g (cs.drop (i * 2)) (off + (i + 1) * 2) w.drew)) := (show Puts g w w.drew from ⟨rfl, rfl, rfl, rfl, fun _ _ => rfl, fun _ _ h => h, fun _ => rfl, fun _ => rfl⟩).trans ((puts_cells g _ _ _).trans (puts_cells g _ _ _))
        refine ⟨_, _, _, rfl, hroom, hP.ins hR fun j v hj => ?_⟩
        rcases splice_at (by omega) hvl hj with ⟨q, h⟩ | ⟨q, q2, h⟩ | ⟨q, h⟩
        · rw [putCells_out g _ _ _ _ (by omega), putCells_out g _ _ _ _ (by omega)]
          exact hcs j v h
        · refine in_at (j := j) (by omega) (by rw [show off + j - (off + i * 2) = j - i * 2 by omega]; exact h) fun t ht => ?_
          rw [(puts_cells g _ _ _).some]
          exact hR.cell (by omega)
        · have hjl := get_lt h
          rw [putCells_out g _ _ _ _ (by omega)]
          exact in_at (j := j) (by omega) (by rw [show off + j - (off + (i + 1) * 2) = j - (i * 2 + 2) by omega]; exact h) fun t ht => hR.cell (by omega)
    · refine (ins121_grow w g off n c i vb vo vc cs vs hn (by omega) hcl hvl hnc (by omega) h1c h1v hcs hvs hgw hvw).mono ?_
      rintro e w' ⟨rfl, rfl⟩
      have hdl : (cs.drop (i * 2)).length = (n - i) * 2 := by rw [List.length_drop, hcl]; omega
      have hG := grownCap_ge w (n + 1) c 117
      obtain ⟨ROW, hROW⟩ : ∃ ROW : Array Value, ROW = (cs.take (i * 2)).toArray ++ Builtin.zeroCells (Value.agg #[.int .i64 0, .int .i64 0]).cells (n + 1 - i) ++ Builtin.zeroCells (Value.agg #[.int .i64 0, .int .i64 0]).cells (grownCap w (n + 1) c 117 - (n + 1)) := ⟨_, rfl⟩
      have hsz : ROW.size = grownCap w (n + 1) c 117 * 2 := by
        rw [hROW]
        simp only [Array.size_append, ins121_zero, List.size_toArray, List.length_take, hcl]; omega
      have hpre : ∀ j v, j < i * 2 → cs[j]? = some v → (w.drew.alloc (.cells ROW 117)).cell? ⟨w.heap.size, j, none⟩ = some v := fun j v q h => by
        rw [World.cell?_alloc_at (w := w.drew) _ _ w.heap.size j rfl, hROW, Array.append_assoc, Array.getElem?_append_left (by simp; omega)]
        simp [q, h]
      have hall : ∀ j, j < (n + 1) * 2 → ((w.drew.alloc (.cells ROW 117)).cell? ⟨w.heap.size, j, none⟩).isSome = true := fun j hj => by
        rw [World.cell?_alloc_at (w := w.drew) _ _ w.heap.size j rfl, Array.getElem?_eq_getElem (by omega)]; rfl
      rw [← hROW]
      have hP1 : Puts w.heap.size (w.drew.alloc (.cells ROW 117)) (putCells w.heap.size vs (i * 2) ((w.alloc (.cells ROW 117)).drew)).drew :=
        (puts_cells w.heap.size vs (i * 2) ((w.alloc (.cells ROW 117)).drew)).trans ⟨rfl, rfl, rfl, rfl, fun _ _ => rfl, fun _ _ h => h, fun _ => rfl, fun _ => rfl⟩
      refine ⟨_, _, _, rfl, hG, alloc_ins (hP1.trans (puts_cells w.heap.size _ _ _)) (by omega) fun j v hj => ?_⟩
      rw [Nat.zero_add]
      rcases splice_at (by omega) hvl hj with ⟨q, h⟩ | ⟨q, q2, h⟩ | ⟨q, h⟩
      · rw [putCells_out _ _ _ _ _ (by omega)]
        show (putCells w.heap.size vs (i * 2) (w.drew.alloc (.cells ROW 117))).cell? _ = _
        rw [putCells_out _ _ _ _ _ (by omega)]
        exact hpre j v q h
      · rw [putCells_out _ _ _ _ _ (by omega)]
        show (putCells w.heap.size vs (i * 2) (w.drew.alloc (.cells ROW 117))).cell? _ = _
        exact in_at (j := j) q h fun t ht => hall _ (by omega)
      · have hjl := get_lt h
        refine in_at (j := j) (by omega) (by rw [show j - (i + 1) * 2 = j - (i * 2 + 2) by omega]; exact h) fun t ht => ?_
        rw [hP1.some]
        exact hall _ (by omega)
end Go.Vm

