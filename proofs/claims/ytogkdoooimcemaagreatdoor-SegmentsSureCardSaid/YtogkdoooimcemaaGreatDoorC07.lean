/- sha.Sum: the hash of bytes. Conditions: the text is shorter than 2^40 bytes; the listed variables hold their numbers.
  frames.mark, frames.Put. Conditions: the payload is shorter than 2^30 bytes; the listed variables hold their numbers.
  frames.cut. Conditions: the bytes lie in memory; they are fewer than 2^30; the listed variables hold their numbers.
  frames.Get. Conditions: the text is shorter than 2^30 bytes; the listed variables hold their numbers.
  Segments in memory; Count, end, none. Conditions: those of each lemma.
  One value appended to a row: 'xs = append(xs, v)', with what becomes of memory. Conditions: elements of one cell. -/
import Derived.Test.YtogkdoooimcemaaGreatDoorC06
import Derived.Test.YtogkdoooimcemaaGreatDoorC03
import Derived.Test.YtogkdoooimcemaaGreatDoorC05
/- Sha4 -/
namespace Go.Proofs.YtogkdoooimcemaaGreatDoor
open Go Go.RowKit
open Go.ChangeMaps (setBlock)
set_option maxRecDepth 20000

theorem extract_drop (X : List UInt8) (n : Nat) : (ByteArray.extract ⟨X.toArray⟩ n X.length) = ⟨(X.drop n).toArray⟩ := by
  apply toList_eq
  simp [List.extract_eq_take_drop]
  rw [List.take_of_length_le (by simp)]
theorem run_copy_str {ty : TypeId} (w : World) (g o dLen dCap : Nat) (cur : Array Value) (t : TypeId) (l : List UInt8) (hg : w.heap[g]? = some (.cells cur t (0, 0))) (hn : l.length ≤ dLen) (hfit : o + l.length ≤ cur.size) :
    (Builtin.copy_ #[61, 9] ty #[.slice (some ⟨g, o, none⟩) dLen dCap, .string ⟨l.toArray⟩]).run Tryz.prog w = .ok (goInt l.length) (w.setRow g (cur.toList.take o ++ bvs l ++ cur.toList.drop (o + l.length)).toArray) := by
  have hst := run_storeCells_at Tryz.prog g o t (bvs l) 0 cur w hg (by simpa [bvs] using hfit) (by simp [bvs, bv, Value.oneCell'])
  have hmin : Nat.min l.length dLen = l.length := Nat.min_eq_left hn
  have hl : (bvs l).length = l.length := by simp [bvs]
  have hb : l.map (fun b => Value.int .u8 b.toNat) = bvs l := rfl
  have hsz : (⟨l.toArray⟩ : ByteArray).size = l.length := by simp [ByteArray.size]
  rw [Nat.add_zero, hl] at hst
  simp [Builtin.copy_, run_underlying Tryz.underlying61, Builtin.lenOf, Builtin.firstCells, Tryz.sizeOf5, hmin, hsz]
  rw [List.take_of_length_le (by simp), hb, hst]
  simp
theorem wp_copy_run {P : Program} {w : World} {o : Oper} {a : Act} {Q : Exit → Act → World → Prop} {K : Act → World → Prop} {s x : Operand} {t u : TypeId} {v' : Value} {w' : World} (ho : o.op = .call { callee := .builtin .copy, args := #[s, x], argTypes := #[t, u] })
    (hrun : (Builtin.copy_ #[t, u] o.type #[a.eval s, a.eval x]).run P w = .ok v' w') (h : K (a.put o.dst v') w') : o.wp P a w K Q := by
  unfold Oper.wp execOp
  simp only [ho, resolve, invoke, builtin, Sem.run_bind, Sem.run_pure, Result.andThen_ok, List.map_toArray, List.map_cons, List.map_nil, hrun]
  exact h
theorem wpList_copy_run {P : Program} {w : World} {o : Oper} {a : Act} {ops : Array Oper} {rest : List Oper} {Q : Exit → Act → World → Prop} {s x : Operand} {t u : TypeId} {v' : Value} {w' : World} (hgd : o.guard = none) (ho : o.op = .call { callee := .builtin .copy, args := #[s, x], argTypes := #[t, u] })
    (hrun : (Builtin.copy_ #[t, u] o.type #[a.eval s, a.eval x]).run P w = .ok v' w') (h : wpList P ops Q rest (a.put o.dst v') w') : wpList P ops Q (o :: rest) a w :=
  wpList_plain hgd fun _ hK => by
    unfold Oper.wp execOp
    simp only [ho, resolve, invoke, builtin, Sem.run_bind, Sem.run_pure, Result.andThen_ok, List.map_toArray, List.map_cons, List.map_nil, hrun]
    exact hK _ _ h
/-- the hash's cells behind so many numbers -/
def hrow (V : List Int) (j : Nat) : List Value := bvs ((V.take j).flatMap fun n => be n.toNat 4) ++ List.replicate (32 - 4 * j) (bv 0)
theorem length_hrow (V : List Int) (j : Nat) (h : j ≤ V.length) (h8 : j ≤ 8) : (hrow V j).length = 32 := by
  unfold hrow
  rw [List.length_append, List.length_replicate, bvs, List.length_map, length_flat, List.length_take]; omega
theorem hrow_step (V : List Int) (j : Nat) (h : j < V.length) (h8 : j < 8) : (hrow V j).take (4 * j) ++ bvs (be (V.getD j 0).toNat 4) ++ (hrow V j).drop (4 * j + 4) = hrow V (j + 1) := by
  have hl : (bvs ((V.take j).flatMap fun n => be n.toNat 4)).length = 4 * j := by
    rw [bvs, List.length_map, length_flat, List.length_take]; omega
  unfold hrow
  rw [List.take_append_of_le_length (by omega), List.take_of_length_le (by omega), List.drop_append, List.drop_of_length_le (by omega), hl, List.drop_replicate, List.take_succ_eq_append_getElem h, List.flatMap_append]
  have e : V.getD j 0 = V[j] := by simp [h]
  have e2 : 32 - 4 * j - (4 * j + 4 - 4 * j) = 32 - 4 * (j + 1) := by omega
  rw [e, e2]
  simp [bvs]
theorem run_slice_hash (u : World) (g j : Nat) (h : j < 8) : (Instr.sliceAt 136 (.pointer (some ⟨g, 0, none⟩)) (some (.int .i64 (4 * (j : Int)))) none none).run Tryz.prog u = .ok (.slice (some ⟨g, 4 * j, none⟩) (32 - 4 * j) (32 - 4 * j)) u := by
  have ht : Tryz.prog.underlying 136 = some (.array 32 5) := Tryz.underlying136
  have hn : (4 * (j : Int)).toNat = 4 * j := by omega
  have h1 : ¬ (32 = 4 * j) := by omega
  have h2 : (4 * (j : Int)) ≤ 32 := by omega
  have ha : Addr.add ⟨g, 0, none⟩ (4 * j) = ⟨g, 4 * j, none⟩ := addr_add0 g (4 * j)
  have h3 : (0 : Int) ≤ 4 * (j : Int) := by omega
  have hb : (Instr.sliceBound (.int .i64 (4 * (j : Int))) 32 BoundsCode.sliceB).run Tryz.prog u = .ok (4 * j) u := by
    rw [run_sliceBound _ _ _ _ _ h3 (by simpa using h2), hn]
  simp [Instr.sliceAt, Instr.sureAddr, run_underlying ht, Instr.sliceBounds, hb, Tryz.sizeOf5, h1, ha]
def strLen : Value → Nat
  | .string s => s.size
  | _ => 0
theorem heap_setRow_other (w : World) (g i : Nat) (cs : Array Value) (h : i ≠ g) : (w.setRow g cs).heap[i]? = w.heap[i]? := by
  simp [World.setRow, Array.getElem?_modify, Ne.symm h]
theorem heap_alloc2 (w : World) (a b : Obj) : ((w.alloc a).alloc b).heap[w.heap.size]? = some a ∧ ((w.alloc a).alloc b).heap[w.heap.size + 1]? = some b := by
  have e : ((w.alloc a).alloc b).heap = (w.heap.push a).push b := rfl
  rw [e]
  refine ⟨?_, ?_⟩
  · rw [Array.getElem?_push, if_neg (by simp), Array.getElem?_push, if_pos rfl]
  · rw [Array.getElem?_push, if_pos (by simp)]

set_option maxHeartbeats 4000000 in
theorem sum_at (s : ByteArray) (hs : s.size ≤ 1099511627776) (w : World) (hG : Glob w) :
    Calls Tryz.prog 102 #[.string s] w fun e w' => e = .returned (.agg (bvs (shaSum s.data.toList)).toArray) ∧ Upd [] w w' := by
  have hfil := fun W => filled_at s hs W
  have hlt := hG.lt
  have f0 := hG.first 0 (by omega)
  have f1 := hG.first 1 (by omega)
  have f2 := hG.first 2 (by omega)
  have f3 := hG.first 3 (by omega)
  have f4 := hG.first 4 (by omega)
  have f5 := hG.first 5 (by omega)
  have f6 := hG.first 6 (by omega)
  have f7 := hG.first 7 (by omega)
  simp only [firstL, List.getD_cons_zero, List.getD_cons_succ] at f0 f1 f2 f3 f4 f5 f6 f7
  go_enter Tryz.func102, Tryz.ntmps102
  go_wp2_with (go_at_call 119; refine (hfil _).mono ?_; rintro e w' ⟨rfl, hu⟩)
  have b0 : w'.heap[w.heap.size]? = some (.cells (bvs (List.replicate 32 0)).toArray 136 (0, 0)) := hu.heap (heap_alloc2 w _ _).1 (by simp)
  have b1 : w'.heap[w.heap.size + 1]? = some (.cells (u32v (shaN firstL (padded s.data.toList) 0)).toArray 147 (0, 0)) := hu.heap (heap_alloc2 w _ _).2 (by simp)
  have hB0 : Below w.heap.size w w' := (((Below.refl _ _).alloc (Nat.le_refl _) _).alloc (by simp) _).trans (hu.below.mono (by simp; omega))
  have HS := Lib.hid (show shaSum s.data.toList = (shaN firstL (padded s.data.toList) ((padded s.data.toList).length / 64)).flatMap (fun n => be n.toNat 4) from rfl)
  obtain ⟨nb, hnb, hlen⟩ := padded_blocks s.data.toList
  have hnb2 : (padded s.data.toList).length / 64 = nb := by omega
  rw [hnb2] at HS
  clear hfil hu f0 f1 f2 f3 f4 f5 f6 f7 hnb2
  generalize padded s.data.toList = P at *
  go_loopw [4] (fun t wr => ∃ k : Nat, k ≤ nb ∧ t = .string ⟨(P.drop (64 * k)).toArray⟩ ∧ wr.heap[w.heap.size]? = some (.cells (bvs (List.replicate 32 0)).toArray 136 (0, 0)) ∧ wr.heap[w.heap.size + 1]? = some (.cells (u32v (shaN firstL P k)).toArray 147 (0, 0)) ∧
    Below w.heap.size w wr) (fun t _ => strLen t)
  case atStart => exact ⟨0, Nat.zero_le _, by simp, b0, b1, hB0⟩
  case round =>
    obtain ⟨k, hk, rfl, c0, c1, hB⟩ := hrel
    clear b0 b1 hB0
    have hok := shaN_ok P k
    by_cases hlt : k < nb
    · have HN := Lib.hid (show shaN firstL P (k + 1) = mixAll (shaN firstL P k) ((P.drop (64 * k)).take 64) from rfl)
      have hXl : (P.drop (64 * k)).length = 64 * nb - 64 * k := by rw [List.length_drop, hlen]
      have hXn : (P.drop (64 * k)).drop 64 = P.drop (64 * (k + 1)) := by rw [List.drop_drop]; rfl
      have HX := Lib.hid hXn
      clear hXn
      generalize shaN firstL P k = V at *
      generalize P.drop (64 * k) = X at *
      have hne : X.isEmpty = false := by
        cases X with
        | nil => simp at hXl; omega
        | cons a l => rfl
      have h64n : 64 ≤ X.length := by omega
      have h64 : (64 : Int) ≤ (X.length : Int) := by omega
      have HXl := Lib.hid hXl
      have HV := Lib.hid hok
      have hGw : Glob wr := hG.upd (Upd.of_below hB []) (by simp) (by simp)
      have hsz : (ByteArray.extract ⟨X.toArray⟩ 0 64).size = 64 := by simp [ByteArray.size]; omega
      have hex : (ByteArray.extract ⟨X.toArray⟩ 0 64).data.toList = X.take 64 := by simp
      have hmix := fun W hW => mix_at V hok.1 (ByteArray.extract ⟨X.toArray⟩ 0 64) hsz W hW
      rw [hex] at hmix
      obtain ⟨v0, v1, v2, v3, v4, v5, v6, v7, hV⟩ : ∃ a b c d e f g h, V = [a, b, c, d, e, f, g, h] := by
        match V, hok.1 with
        | [a, b, c, d, e, f, g, h], _ => exact ⟨a, b, c, d, e, f, g, h, rfl⟩
      have hVc : (u32v V).toArray = #[.int .u32 v0, .int .u32 v1, .int .u32 v2, .int .u32 v3, .int .u32 v4, .int .u32 v5, .int .u32 v6, .int .u32 v7] := by rw [hV]; rfl
      have hR1 : ((Tryz.prog.info? 147).map (·.size)) = some (u32v (mixAll V (X.take 64))).toArray.size := by
        have : (Tryz.prog.info? 147).map (·.size) = some 8 := by kernel_rfl
        rw [this]; simp [u32v, (hok.mix _).1]
      have hR2 : (u32v (mixAll V (X.take 64))).toArray.all (·.oneCell') = true := by simp [u32v, Value.oneCell']
      have hR3 : (u32v V).toArray.size = (u32v (mixAll V (X.take 64))).toArray.size := by simp [u32v, (hok.mix _).1, hok.1]
      rw [hVc] at c1 hmix hR3
      clear hVc hV hok hex hsz hXl
      generalize hRV : (u32v (mixAll V (X.take 64))).toArray = RV at *
      have HRV := Lib.hid hRV
      clear hRV
      have hcell : ∀ u : World, u.heap[w.heap.size + 1]? = some (.cells #[.int .u32 v0, .int .u32 v1, .int .u32 v2, .int .u32 v3, .int .u32 v4, .int .u32 v5, .int .u32 v6, .int .u32 v7] 147 (0, 0)) → ∀ j v, #[Value.int .u32 v0, .int .u32 v1, .int .u32 v2, .int .u32 v3, .int .u32 v4, .int .u32 v5, .int .u32 v6, .int .u32 v7][j]? = some v → u.cell? ⟨w.heap.size + 1, j, none⟩ = some v := fun u hu j v h => (cell_of_row u _ j _ _ _ hu).trans h
      have HC := Lib.hid hcell
      clear hcell
      go_wp2
      refine wp_region_can [(0, false), (1, false), (2, false), (3, true)] 4 (fun u => u.heap[w.heap.size + 1]? = some (.cells #[.int .u32 v0, .int .u32 v1, .int .u32 v2, .int .u32 v3, .int .u32 v4, .int .u32 v5, .int .u32 v6, .int .u32 v7] 147 (0, 0))) (by kernel_rfl) (by kernel_rfl) (fun _ _ d _ _ h => by cases d <;> exact h) c1 ?_
      simp only [canOps, List.filterMap_cons, List.filterMap_nil, Option.map_some, List.getElem?_toArray, List.getElem?_cons_succ, List.getElem?_cons_zero, List.drop_succ_cons, List.drop_zero]
      repeat (apply can_light rfl; (· intro u hu; have g0 := HC.out u hu 0 _ rfl; have g1 := HC.out u hu 1 _ rfl; have g2 := HC.out u hu 2 _ rfl; have g3 := HC.out u hu 3 _ rfl; have g4 := HC.out u hu 4 _ rfl; have g5 := HC.out u hu 5 _ rfl; have g6 := HC.out u hu 6 _ rfl; have g7 := HC.out u hu 7 _ rfl; go_simp; try rfl); simp only [Act.put, List.setIfInBounds_toArray, List.set_cons_zero, List.set_cons_succ])
      refine can_acts rfl fun K' hK' => ?_
      go_simp
      refine (hmix _ ?_).mono ?_
      · exact ⟨fun j hj => hGw.first j hj, fun j hj => hGw.rounds j hj⟩
      rintro e w' ⟨rfl, hu⟩
      have hu' : Upd [] wr w' := ⟨hu.os, hu.tape, hu.output, hu.size, hu.block⟩
      have c0' := hu'.heap c0 (by simp)
      have c1' := hu'.heap c1 (by simp)
      refine hK' _ _ c1' ?_
      clear hK' K'
      refine can_nil ?_
      go_wp2_with (refine wpList_store_row rfl 147 _ _ rfl (w.heap.size + 1) RV rfl rfl 147 _ c1' hR1 hR3 hR2 ?_)
      have hXX : (ByteArray.extract ⟨X.toArray⟩ 64 X.length) = ⟨(X.drop 64).toArray⟩ := extract_drop X 64
      have hsm : (⟨(X.drop 64).toArray⟩ : ByteArray).size < (⟨X.toArray⟩ : ByteArray).size := by simp [ByteArray.size]; omega
      go_roundw
      case rel =>
        refine ⟨k + 1, by omega, ?_, ?_, ?_, ?_⟩
        · rw [hXX, HX.out]
        · rw [heap_setRow_other _ _ _ _ (by omega)]; exact c0'
        · rw [HN.out, HRV.out]; exact setRow_heap _ _ _ _ _ _ c1'
        · exact (hB.trans (hu'.below.mono (by have := hB.size; omega))).setRow' (by omega) _
      case measure => rw [hXX]; exact hsm
    · have hke : k = nb := by omega
      subst hke
      have hnil : P.drop (64 * k) = [] := by rw [List.drop_eq_nil_iff]; omega
      have hok' := shaN_ok P k
      generalize shaN firstL P k = V at *
      have HSu := HS
      clear HS
      rw [hnil]
      have hl8 : ((Tryz.prog.info? 147).map (·.size)) = some (u32v V).toArray.size := by
        have : (Tryz.prog.info? 147).map (·.size) = some 8 := by kernel_rfl
        rw [this]; simp [u32v, hok.1]
      have hwl := lt_of_block c1
      have ca := fun o => (Below.heap_alloc wr o _ hwl).trans c1
      have HIX := Lib.hid (fun j hj W => run_index_u32 Tryz.underlying147 V hok.1 j hj W)
      have HOK := Lib.hid hok
      have HOK2 := Lib.hid hok'
      have HC1 := Lib.hid c1
      clear hok hok' c1
      generalize hUV : (u32v V).toArray = UV at *
      go_wp2_with (refine wpList_load_row rfl 147 _ rfl (w.heap.size + 1) rfl 147 UV (0, 0) _ (ca _) Tryz.underlying147 rfl hl8 ?_)
      obtain ⟨Z, eZ⟩ : ∃ Z, Z = Obj.cells (hrow V 0).toArray 136 (0, 0) := ⟨_, rfl⟩
      have hZ : (wr.alloc Z).heap[wr.heap.size]? = some (.cells (hrow V 0).toArray 136 (0, 0)) := by rw [← eZ]; exact heap_alloc_new wr _
      subst eZ
      have hZ0 := fun o => (Below.heap_alloc wr o _ (lt_of_block c0)).trans c0
      have hZ0' := hZ0 (Obj.cells (hrow V 0).toArray 136 (0, 0))
      have hwl2 := hB.size
      have hBa := hB.alloc (o := Obj.cells (hrow V 0).toArray 136 (0, 0)) (by omega)
      have hgl : w.heap.size + 1 < wr.heap.size := hwl
      generalize wr.heap.size = g at *
      go_loopw [20] (fun i wv => ∃ j : Nat, j ≤ 8 ∧ i = .int .i64 j ∧ wv.heap[w.heap.size]? = some (.cells (bvs (List.replicate 32 0)).toArray 136 (0, 0)) ∧ wv.heap[g]? = some (.cells (hrow V j).toArray 136 (0, 0)) ∧ Below w.heap.size w wv) (fun i _ => 8 - (intOf i).toNat)
      case atStart => exact ⟨0, Nat.zero_le _, rfl, hZ0', hZ, hBa⟩
      case round =>
        obtain ⟨j, hj, rfl, d0, d1, hD⟩ := hrel
        clear hZ hZ0 hZ0' hBa ca hwl
        have hVl : V.length = 8 := HOK.out.1
        by_cases hlt : j < 8
        · have hst := hrow_step V j (by omega) hlt
          have hHl := length_hrow V j (by omega) (by omega)
          have hix := fun W => HIX.out j hlt W
          have hin : 0 ≤ V.getD j 0 ∧ V.getD j 0 < 4294967296 := HOK.out.2 _ (by rw [List.getD_eq_getElem?_getD, List.getElem?_eq_getElem (by omega)]; exact List.getElem_mem _)
          have hcp := fun u hu => run_copy_str (ty := 3) u g (4 * j) (32 - 4 * j) (32 - 4 * j) (hrow V j).toArray 136 (be (V.getD j 0).toNat 4) hu (by rw [length_be]; omega) (by rw [length_be]; simp [hHl]; omega)
          simp only [length_be, hst] at hcp
          have hput := fun W => put_at (V.getD j 0).toNat 4 (by omega) (by omega) (by omega) W
          have HH := Lib.hid (And.intro hst hHl)
          have HD := Lib.hid (And.intro d0 d1)
          clear hst hHl d0 d1
          generalize V.getD j 0 = n at *
          obtain ⟨hn0, hn1⟩ := hin
          obtain ⟨m, rfl⟩ : ∃ m : Nat, n = m := ⟨n.toNat, by omega⟩
          simp only [Int.toNat_natCast] at hput hcp
          have HCP := Lib.hid hcp
          have HPUT := Lib.hid hput
          clear hcp hput
          clear hUV hl8 hnil hlen
          clear hn0
          have hn2 : m < 4294967296 := by omega
          clear hn1
          have hw4 : IntKind.i64.wrap (4 * (j : Int)) = 4 * (j : Int) := by rw [IntKind.wrap_i64]; omega
          have hl4 : 4 * (j : Int) ≤ 32 := by omega
          have hwm : IntKind.u64.wrap (m : Int) = m := by rw [IntKind.wrap_u64]; omega
          have ht4 : (4 * (j : Int)).toNat = 4 * j := by omega
          have hsl := fun u => run_slice_hash u g j hlt
          go_wp2
          refine wp_region_can [(0, false), (1, false), (2, false), (3, false), (4, false), (5, true), (6, true)] 7 (fun _ => True) (by kernel_rfl) (by kernel_rfl) (fun _ _ d _ _ h => by cases d <;> exact h) trivial ?_
          simp only [canOps, List.filterMap_cons, List.filterMap_nil, Option.map_some, List.getElem?_toArray, List.getElem?_cons_succ, List.getElem?_cons_zero, List.drop_succ_cons, List.drop_zero]
          repeat (apply can_light rfl; (· intro u hu; go_simp; try rfl); simp only [Act.put, List.setIfInBounds_toArray, List.set_cons_zero, List.set_cons_succ])
          refine can_acts rfl fun K' hK' => ?_
          go_simp
          refine (HPUT.out _).mono ?_
          rintro e w2 ⟨rfl, hu⟩
          have hu' : Upd [] wr w2 := ⟨hu.os, hu.tape, hu.output, hu.size, hu.block⟩
          refine hK' _ _ trivial ?_
          clear hK' K'
          obtain ⟨d0, d1⟩ := HD.out
          have d0' := hu'.heap d0 (by simp)
          have d1' := hu'.heap d1 (by simp)
          refine can_acts rfl fun K' hK' => ?_
          refine wp_copy_run rfl (HCP.out _ d1') (hK' _ _ trivial (can_nil ?_))
          clear hK' K'
          go_wp2
          go_roundw
          case rel =>
            refine ⟨j + 1, by omega, by go_num, ?_, ?_, ?_⟩
            · rw [heap_setRow_other _ _ _ _ (by omega)]; exact d0'
            · exact setRow_heap _ _ _ _ _ _ d1'
            · exact (hD.trans (hu'.below.mono (by have := hD.size; omega))).setRow' (by omega) _
          case measure => simp [intOf]; omega
        · have hje : j = 8 := by omega
          subst hje
          have hH : hrow V 8 = bvs (V.flatMap fun n => be n.toNat 4) := by
            unfold hrow
            rw [List.take_of_length_le (by omega)]; simp
          have hlH := length_hrow V 8 (by omega) (by omega)
          rw [hH] at d1 hlH
          have HSum := Lib.hid (show shaSum s.data.toList = V.flatMap (fun n => be n.toNat 4) from HSu.out)
          generalize V.flatMap (fun n => be n.toNat 4) = B at *
          clear hH
          have hsz : ((Tryz.prog.info? 136).map (·.size)) = some (bvs B).toArray.size := by
            have : (Tryz.prog.info? 136).map (·.size) = some 32 := by kernel_rfl
            rw [this]; simp [hlH]
          have hone : (bvs B).toArray.all (·.oneCell') = true := by simp [bvs, bv, Value.oneCell']
          have hold : (bvs (List.replicate 32 0)).toArray.size = (bvs B).toArray.size := by simp [bvs] at hlH ⊢; omega
          generalize hBV : (bvs B).toArray = BV at *
          generalize (bvs (List.replicate 32 0)).toArray = ZV at *
          have HBV := Lib.hid hBV
          have D0 := Lib.hid d0
          have D1 := Lib.hid d1
          clear hBV d0 d1 hlH c0
          go_wp2_with (first
            | refine wpList_load_row rfl 136 _ rfl g rfl 136 BV (0, 0) _ D1.out Tryz.underlying136 rfl hsz ?_
            | refine wpList_store_row rfl 136 _ _ rfl w.heap.size BV rfl rfl 136 ZV D0.out hsz hold hone ?_)
          have hg' := setRow_heap wr w.heap.size ZV BV _ _ D0.out
          simp only [Act.put, List.setIfInBounds_toArray, List.set_cons_zero, List.set_cons_succ]
          refine bodyPost_ret (v := .agg BV) ?_ rfl ⟨?_, ?_⟩
          · refine results_cell_row Tryz.results102 _ _ w.heap.size _ BV _ _ ?_ hg' Tryz.underlying136 rfl hsz
            simp only [Array.getD_eq_getD_getElem?, List.getElem?_toArray, List.getElem?_cons_succ, List.getElem?_cons_zero, Option.getD_some]
          · rw [HSum.out, HBV.out]
          · exact Upd.of_below (hD.setRow' (Nat.le_refl _) _) _
end Go.Proofs.YtogkdoooimcemaaGreatDoor

/- Frames1 -/
namespace Go.Proofs.YtogkdoooimcemaaGreatDoor
open Go Go.RowKit
open Go.ChangeMaps (setBlock)
set_option maxRecDepth 20000

def mark (l : List UInt8) : List UInt8 := be l.length 4 ++ (shaSum (be l.length 4 ++ l)).take 8
theorem length_mark (l : List UInt8) : (mark l).length = 12 := by simp [mark, length_be, length_shaSum]

/-- bytes of a row, as a text -/
theorem run_text {w : World} {g o cap : Nat} {cur : Array Value} {t : TypeId} {fr : Nat × Nat} (hg : w.heap[g]? = some (.cells cur t fr)) (l : List UInt8) (hl : (cur.toList.drop o).take l.length = bvs l) :
    (convert 61 9 (.slice (some ⟨g, o, none⟩) l.length cap)).run Tryz.prog w = .ok (.string ⟨l.toArray⟩) w := by
  refine run_convert_bytes_back w 61 9 5 ⟨g, o, none⟩ cap l Tryz.underlying61 Tryz.underlying5 Tryz.underlying9 ?_
  intro j hj
  have ha : Addr.add ⟨g, o, none⟩ j = ⟨g, o + j, none⟩ := by unfold Addr.add; split <;> simp_all
  rw [ha, cell_of_row w _ _ _ _ _ hg]
  have h1 : ((cur.toList.drop o).take l.length)[j]? = some (.int .u8 ((l[j]).toNat : Int)) := by rw [hl]; simp [bvs, bv, hj]
  rw [List.getElem?_take, if_pos hj, List.getElem?_drop] at h1
  simpa using h1

set_option maxHeartbeats 1000000 in
theorem mark_at (s : ByteArray) (hs : s.size ≤ 1073741824) (w : World) (hG : Glob w) :
    Calls Tryz.prog 90 #[.string s] w fun e w' => e = .returned (.string ⟨(mark s.data.toList).toArray⟩) ∧ Upd [] w w' := by
  have hput := fun W => put_at s.size 4 (by omega) (by omega) (by omega) W
  have hlb := length_be s.size 4
  have hsz4 : ((⟨(be s.size 4).toArray⟩ : ByteArray) ++ s).size ≤ 1099511627776 := by
    have h1 : (⟨(be s.size 4).toArray⟩ : ByteArray).size = 4 := by show (be s.size 4).toArray.size = 4; simp [length_be]
    rw [ByteArray.size_append, h1]; omega
  have hsum := fun W hW => sum_at (⟨(be s.size 4).toArray⟩ ++ s) hsz4 W hW
  have hlist : ((⟨(be s.size 4).toArray⟩ : ByteArray) ++ s).data.toList = be s.size 4 ++ s.data.toList := by simp
  rw [hlist] at hsum
  have hls := length_shaSum (be s.size 4 ++ s.data.toList)
  have HM := Lib.hid (show mark s.data.toList = be s.size 4 ++ (shaSum (be s.size 4 ++ s.data.toList)).take 8 by unfold mark; rw [show s.data.toList.length = s.size from by simp])
  generalize shaSum (be s.size 4 ++ s.data.toList) = B at *
  have hbig : ¬ 9223372036854775807 < 4 + s.size := by omega
  have hR1 : ((Tryz.prog.info? 136).map (·.size)) = some (bvs B).toArray.size := by
    have : (Tryz.prog.info? 136).map (·.size) = some 32 := by kernel_rfl
    rw [this]; simp [bvs, hls]
  have hR2 : (bvs B).toArray.all (·.oneCell') = true := by simp [bvs, bv, Value.oneCell']
  have hR3 : (bvs (List.replicate 32 0)).toArray.size = (bvs B).toArray.size := by simp [bvs, hls]
  have hl8 : (B.take 8).length = 8 := by simp [hls]
  have hconv := fun (u : World) (g : Nat) (hg : u.heap[g]? = some (.cells (bvs B).toArray 136 (0, 0))) => run_text (o := 0) (cap := 32) hg (B.take 8) (by rw [hl8]; simp [bvs, List.map_take])
  rw [hl8] at hconv
  have hlt := hG.lt
  generalize hBV : (bvs B).toArray = BV at *
  have hcv := fun (u : World) (e5 : List Value) => hconv ((u.alloc (.cells e5.toArray 136)).setRow u.heap.size BV) u.heap.size (setRow_heap _ _ _ _ _ _ (heap_alloc_new u _))
  have HP := Lib.hid (And.intro hls hlist)
  clear hconv hls hlist hBV hsz4
  go_enter Tryz.func90, Tryz.ntmps90
  go_wp2_with (first
    | (go_at_call 101; refine (hput _).mono ?_; rintro e w1 ⟨rfl, hu1⟩)
    | (go_at_call 102; refine (hsum _ (hG.upd hu1 (by simp) (by simp))).mono ?_; rintro e w2 ⟨rfl, hu2⟩)
    | refine wpList_store_row rfl 136 _ _ rfl w2.heap.size BV rfl rfl 136 (bvs (List.replicate 32 0)).toArray (heap_alloc_new w2 _) hR1 hR3 hR2 ?_)
  go_ret
  have hcell : ∀ z, Below w.heap.size w ((w2.alloc z).setRow w2.heap.size BV) := fun z =>
    (((Upd.trans hu1 hu2 (by simp)).below.alloc (by have := hu1.size; have := hu2.size; omega) z)).setRow' (by have := hu1.size; have := hu2.size; omega) _
  refine ⟨?_, Upd.of_below (hcell _) _⟩
  rw [HM.out]
  have e : (⟨(be s.size 4).toArray⟩ : ByteArray) ++ ⟨(B.take 8).toArray⟩ = ⟨(be s.size 4 ++ B.take 8).toArray⟩ := toList_eq (by simp)
  rw [← e]; rfl

set_option maxHeartbeats 1000000 in
theorem fput_at (s : ByteArray) (hs : s.size ≤ 65536) (w : World) (hG : Glob w) :
    Calls Tryz.prog 69 #[.string s] w fun e w' => e = .returned (.tuple #[.string ⟨(mark s.data.toList ++ s.data.toList).toArray⟩, .int .i64 0]) ∧ Upd [] w w' := by
  have hm := mark_at s (by omega) w hG
  have hlm := length_mark s.data.toList
  have hbig : ¬ 9223372036854775807 < 12 + s.size := by omega
  have hs' : ¬ (65536 : Int) < s.size := by omega
  have e : (⟨(mark s.data.toList).toArray⟩ : ByteArray) ++ s = ⟨(mark s.data.toList ++ s.data.toList).toArray⟩ := toList_eq (by simp)
  generalize mark s.data.toList = M at *
  clear e
  go_enter Tryz.func69, Tryz.ntmps69
  go_wp2_with (go_at_call 90; refine hm.mono ?_; rintro e w1 ⟨rfl, hu1⟩)
  go_ret2
  exact ⟨rfl, hu1⟩
end Go.Proofs.YtogkdoooimcemaaGreatDoor

/- Frames2 -/
namespace Go.Proofs.YtogkdoooimcemaaGreatDoor
open Go Go.RowKit
open Go.ChangeMaps (setBlock)
set_option maxRecDepth 20000

/-- the frame that stands ahead of bytes: how many bytes its payload has -/
def ahead (b : List UInt8) : Option Nat :=
  if b.length < 12 then none else
  if num (b.take 4) > 65536 ∨ num (b.take 4) > b.length - 12 then none else
  if mark ((b.drop 12).take (num (b.take 4))) = b.take 12 then some (num (b.take 4)) else none

def BytesAt (w : World) (g : Nat) (l : List UInt8) : Prop := ∃ cur t fr, w.heap[g]? = some (.cells cur t fr) ∧ cur.toList.take l.length = bvs l
theorem BytesAt.text {w : World} {g : Nat} {l : List UInt8} (h : BytesAt w g l) (o n : Nat) (ho : o + n ≤ l.length) (a : Addr) (ha : n = 0 ∨ a = ⟨g, o, none⟩) (cap : Nat) :
    (convert 61 9 (.slice (some a) n cap)).run Tryz.prog w = .ok (.string ⟨((l.drop o).take n).toArray⟩) w := by
  obtain ⟨cur, t, fr, hg, hl⟩ := h
  rcases Nat.eq_zero_or_pos n with rfl | hn
  · exact run_convert_bytes_back w 61 9 5 a cap [] Tryz.underlying61 Tryz.underlying5 Tryz.underlying9 (by simp)
  · obtain rfl : a = ⟨g, o, none⟩ := by rcases ha with h | h; omega; exact h
    have hlen : ((l.drop o).take n).length = n := by simp; omega
    have := run_text (o := o) (cap := cap) hg ((l.drop o).take n) (by
      rw [hlen]
      have : (cur.toList.drop o).take n = ((cur.toList.take l.length).drop o).take n := by rw [List.drop_take, List.take_take]; congr 1; omega
      rw [this, hl]
      simp [bvs, List.map_take, List.map_drop])
    rwa [hlen] at this

theorem cut_short {w : World} (g : Nat) (l : List UInt8) (cap : Nat) (hs : l.length < 12) :
    Calls Tryz.prog 94 #[.slice (some ⟨g, 0, none⟩) l.length cap] w fun e w' => (∃ v1 v2, e = .returned (.tuple #[v1, v2, .bool false])) ∧ Upd [] w w' := by
  have h1 : (l.length : Int) < 12 := by omega
  generalize l.length = n at *
  go_enter Tryz.func94, Tryz.ntmps94
  go_wp2
  go_ret3
  exact ⟨⟨_, _, rfl⟩, Upd.refl _ _⟩
set_option maxHeartbeats 1000000 in
theorem cut_no {w : World} (g : Nat) (l : List UInt8) (cap : Nat) (hb : BytesAt w g l) (hs : 12 ≤ l.length) (hc : l.length ≤ cap) (hl : l.length ≤ 1073741824) (hn : num (l.take 4) > 65536 ∨ num (l.take 4) > l.length - 12) :
    Calls Tryz.prog 94 #[.slice (some ⟨g, 0, none⟩) l.length cap] w fun e w' => (∃ v1 v2, e = .returned (.tuple #[v1, v2, .bool false])) ∧ Upd [] w w' := by
  have h1 : ¬ (l.length : Int) < 12 := by omega
  have hcv := hb.text 0 4 (by omega) ⟨g, 0, none⟩ (.inr rfl) cap
  simp only [List.drop_zero] at hcv
  have hlt := num_lt (l.take 4)
  have h44 : (l.take 4).length = 4 := by simp; omega
  have hget := fun W => get_at ⟨(l.take 4).toArray⟩ (by show (l.take 4).toArray.size ≤ 8; simp; omega) W
  simp only [List.toList_toArray] at hget
  rw [h44] at hlt
  generalize num (l.take 4) = n at *
  generalize (⟨(l.take 4).toArray⟩ : ByteArray) = t4 at *
  generalize l.length = m at *
  have h4c : (4 : Int) ≤ cap := by omega
  have hwn : IntKind.i64.wrap (n : Int) = n := by rw [IntKind.wrap_i64]; omega
  clear hb h44
  by_cases hbig : n > 65536
  · have hb2 : (65536 : Int) < n := by omega
    go_enter Tryz.func94, Tryz.ntmps94
    go_wp2_with (go_at_call 104; refine (hget _).mono ?_; rintro e w1 ⟨rfl, rfl⟩)
    go_ret3
    exact ⟨⟨_, _, rfl⟩, Upd.refl _ _⟩
  · have hb2 : ¬ (65536 : Int) < n := by omega
    have hb3 : (m : Int) - 12 < n := by omega
    go_enter Tryz.func94, Tryz.ntmps94
    go_wp2_with (go_at_call 104; refine (hget _).mono ?_; rintro e w1 ⟨rfl, rfl⟩)
    go_ret3
    exact ⟨⟨_, _, rfl⟩, Upd.refl _ _⟩

theorem slice3 (g m cap n : Nat) (h : 12 + n ≤ m) (hc : m ≤ cap) : ∃ a1 : Addr, (n = 0 ∨ a1 = ⟨g, 12, none⟩) ∧
    ∀ u, (Instr.slice 61 (.slice (some ⟨g, 0, none⟩) m cap) (some (.int .i64 12)) (some (.int .i64 (12 + (n : Int)))) (some (.int .i64 (12 + (n : Int))))).run Tryz.prog u = .ok (.slice (some a1) n n) u := by
  refine ⟨if 12 + n = 12 then ⟨g, 0, none⟩ else ⟨g, 12, none⟩, ?_, fun u => ?_⟩
  · by_cases h0 : n = 0
    · exact .inl h0
    · right; rw [if_neg (by omega)]
  · have e1 : (12 + (n : Int)).toNat = 12 + n := by omega
    have e2 : 12 + n - 12 = n := by omega
    rw [run_slice_lhm u 61 (some ⟨g, 0, none⟩) m cap Tryz.underlying61 .i64 .i64 .i64 12 (12 + n) (12 + n) (by omega) (by omega) (by omega) (by omega)]
    have e3 : Addr.add ⟨g, 0, none⟩ 12 = ⟨g, 12, none⟩ := addr_add0 g 12
    have hsz : (sizeOf (Tryz.prog.elem 61)).run Tryz.prog u = .ok 1 u := Tryz.sizeOf5 u
    rw [hsz]
    simp only [Result.andThen, sliced, e1]
    have e4 : (12 : Int).toNat = 12 := rfl
    rw [e4, e2]
    by_cases h0 : n = 0
    · subst h0; simp
    · simp [h0, e3]
theorem slice1 (g m cap n : Nat) (h : 12 + n ≤ m) (hc : m ≤ cap) : ∃ (a2 : Option Addr) (c2 : Nat),
    ∀ u, (Instr.slice 61 (.slice (some ⟨g, 0, none⟩) m cap) (some (.int .i64 (12 + (n : Int)))) none none).run Tryz.prog u = .ok (.slice a2 (m - 12 - n) c2) u := by
  refine ⟨if cap = 12 + n then some ⟨g, 0, none⟩ else some (Addr.add ⟨g, 0, none⟩ (12 + n)), cap - (12 + n), fun u => ?_⟩
  have e1 : (12 + (n : Int)).toNat = 12 + n := by omega
  rw [run_slice_l u 61 (some ⟨g, 0, none⟩) m cap Tryz.underlying61 .i64 (12 + n) (by omega) (by omega)]
  have hsz : (sizeOf (Tryz.prog.elem 61)).run Tryz.prog u = .ok 1 u := Tryz.sizeOf5 u
  rw [hsz]
  have e2 : m - (12 + n) = m - 12 - n := by omega
  simp only [Result.andThen, sliced, e1, e2, Nat.mul_one, Option.map_some]

set_option maxHeartbeats 2000000 in
theorem cut_yes {w : World} (hG : Glob w) (g : Nat) (l : List UInt8) (cap n : Nat) (hb : BytesAt w g l) (hs : 12 ≤ l.length) (hc : l.length ≤ cap) (hl : l.length ≤ 1073741824) (hn : num (l.take 4) = n) (hn1 : n ≤ 65536) (hn2 : n ≤ l.length - 12) :
    Calls Tryz.prog 94 #[.slice (some ⟨g, 0, none⟩) l.length cap] w fun e w' =>
      (∃ a1 c1 a2 c2, e = .returned (.tuple #[.slice (some a1) n c1, .slice a2 (l.length - 12 - n) c2, .bool (mark ((l.drop 12).take n) == l.take 12)]) ∧ (n = 0 ∨ a1 = ⟨g, 12, none⟩)) ∧ Upd [] w w' := by
  have h1 : ¬ (l.length : Int) < 12 := by omega
  have hcv4 := hb.text 0 4 (by omega) ⟨g, 0, none⟩ (.inr rfl) cap
  simp only [List.drop_zero] at hcv4
  have h44 : (l.take 4).length = 4 := by simp; omega
  have hget := fun W => get_at ⟨(l.take 4).toArray⟩ (by show (l.take 4).toArray.size ≤ 8; simp; omega) W
  simp only [hn] at hget
  have hpl : ((l.drop 12).take n).length = n := by simp; omega
  have hmark := fun (_ : Unit) => mark_at ⟨((l.drop 12).take n).toArray⟩ (by show ((l.drop 12).take n).toArray.size ≤ _; simp; omega) w.drew.drew ⟨fun j hj => hG.first j hj, fun j hj => hG.rounds j hj⟩
  have hwn : IntKind.i64.wrap (n : Int) = n := by rw [IntKind.wrap_i64]; omega
  have hnb : ¬ (65536 : Int) < n := by omega
  have hnm : ¬ (l.length : Int) - 12 < n := by omega
  have h12n : (12 : Int) + n ≤ cap := by omega
  have h12m : (12 : Int) + n ≤ l.length := by omega
  obtain ⟨a1, ha1, hs3⟩ := slice3 g l.length cap n (by omega) hc
  obtain ⟨a2, c2, hs1⟩ := slice1 g l.length cap n (by omega) hc
  have hb' : ∀ u : World, u.heap[g]? = w.heap[g]? → BytesAt u g l := by
    intro u hu
    obtain ⟨cur, t, fr, h1, h2⟩ := hb
    exact ⟨cur, t, fr, hu.trans h1, h2⟩
  have hcv12 := fun u hu => (hb' u hu).text 0 12 (by omega) ⟨g, 0, none⟩ (.inr rfl) cap
  have hcvp := fun u hu => (hb' u hu).text 12 n (by omega) a1 ha1 n
  simp only [List.drop_zero] at hcv12
  have h12c : (12 : Int) ≤ cap := by omega
  have HG := Lib.hid (show g < w.heap.size by obtain ⟨cur, t, fr, h1, h2⟩ := hb; exact lt_of_block h1)
  clear hb'
  have HD := Lib.hid (And.intro hb (And.intro hpl h44))
  clear hb hpl h44 hn
  generalize l.length = m at *
  go_enter Tryz.func94, Tryz.ntmps94
  go_wp2_with (go_at_call 104; refine (hget _).mono ?_; rintro e w1 ⟨rfl, rfl⟩)
  refine wp_region_can [(0, false), (1, false), (2, false), (3, false), (4, false), (5, false), (6, false), (7, false), (8, false)] 9 (fun _ => True) (by kernel_rfl) (by kernel_rfl) (fun _ _ d _ _ h => by cases d <;> exact h) trivial ?_
  simp only [canOps, List.filterMap_cons, List.filterMap_nil, Option.map_some, List.getElem?_toArray, List.getElem?_cons_succ, List.getElem?_cons_zero, List.drop_succ_cons, List.drop_zero]
  repeat (apply can_light rfl; (· intro u hu; go_simp; try rfl); simp only [Act.put, List.setIfInBounds_toArray, List.set_cons_zero, List.set_cons_succ])
  refine can_nil ?_
  go_wp2
  refine wp_region_can [(0, false), (1, false), (2, false), (3, false), (5, false), (6, false), (7, false), (4, true), (8, false), (9, false), (10, false), (11, false)] 12 (fun u => u.heap[g]? = w1.heap[g]?) (by kernel_rfl) (by kernel_rfl) (fun _ _ d _ _ h => by cases d <;> exact h) rfl ?_
  simp only [canOps, List.filterMap_cons, List.filterMap_nil, Option.map_some, List.getElem?_toArray, List.getElem?_cons_succ, List.getElem?_cons_zero, List.drop_succ_cons, List.drop_zero]
  repeat (apply can_light rfl; (· intro u hu; have q1 := hcvp u hu; have q2 := hcv12 u hu; go_simp; try rfl); simp only [Act.put, List.setIfInBounds_toArray, List.set_cons_zero, List.set_cons_succ])
  refine can_acts rfl fun K' hK' => ?_
  go_simp
  refine (hmark ()).mono ?_
  rintro e w2 ⟨rfl, hu⟩
  have hg2 : w2.heap[g]? = w1.heap[g]? := hu.block g HG.out (by simp)
  refine hK' _ _ hg2 ?_
  clear hK' K'
  repeat (apply can_light rfl; (· intro u hu; go_simp; try rfl); simp only [Act.put, List.setIfInBounds_toArray, List.set_cons_zero, List.set_cons_succ])
  refine can_nil ?_
  go_wp2
  go_ret3
  exact ⟨⟨a1, n, a2, c2, rfl, ha1⟩, ⟨hu.os, hu.tape, hu.output, hu.size, hu.block⟩⟩
end Go.Proofs.YtogkdoooimcemaaGreatDoor

/- Frames3 -/
namespace Go.Proofs.YtogkdoooimcemaaGreatDoor
open Go Go.RowKit
open Go.ChangeMaps (setBlock)
set_option maxRecDepth 20000

/-- frames.Get at a place of a text: the payload, and the place behind it -/
def frameAt (s : List UInt8) (at_ : Nat) : Option (List UInt8 × Nat) := (ahead (s.drop at_)).map fun n => (((s.drop at_).drop 12).take n, at_ + 12 + n)

theorem ahead_le {b : List UInt8} {n : Nat} (h : ahead b = some n) : 12 + n ≤ b.length ∧ num (b.take 4) = n ∧ n ≤ 65536 ∧ mark ((b.drop 12).take n) = b.take 12 := by
  unfold ahead at h
  split at h
  · cases h
  · split at h
    · cases h
    · split at h
      · rename_i h1 h2 h3
        cases h
        refine ⟨by omega, rfl, by omega, h3⟩
      · cases h

theorem bytesRow_take (s : ByteArray) (cap : Nat) : ((bytesRow s cap).toList).take s.size = bvs s.data.toList := by
  unfold bytesRow
  have h : s.size = (s.data.toList.map bv).length := by simp
  simp only [Array.toList_append]
  rw [List.take_append_of_le_length (by simp), List.take_of_length_le (by simp)]
  simp [bvs, bv]

theorem conv_bytes (w : World) (l : List UInt8) : ∃ cap W1, (convert 9 61 (.string ⟨l.toArray⟩)).run Tryz.prog w = .ok (.slice (some ⟨w.heap.size, 0, none⟩) l.length cap) W1 ∧ BytesAt W1 w.heap.size l ∧ l.length ≤ cap ∧ Upd [] w W1 := by
  have h := run_bytes_of_string w 9 61 5 ⟨l.toArray⟩ Tryz.underlying9 Tryz.underlying61 Tryz.underlying5
  have hsz : (⟨l.toArray⟩ : ByteArray).size = l.length := by show l.toArray.size = _; simp
  rw [hsz] at h
  have hge := grownCap_ge w l.length 0 5
  refine ⟨_, _, h, ?_, hge, (Upd.refl [] w).drew.alloc _⟩
  refine ⟨bytesRow ⟨l.toArray⟩ (grownCap w l.length 0 5), 5, _, (by show (w.heap.push _)[w.heap.size]? = _; exact Array.getElem?_push_size), ?_⟩
  · have := bytesRow_take ⟨l.toArray⟩ (grownCap w l.length 0 5)
    rw [hsz] at this
    exact this

set_option maxHeartbeats 2000000 in
theorem fget_at (s : ByteArray) (p : Nat) (hp : p ≤ s.size) (hs : s.size ≤ 1073741824) (w : World) (hG : Glob w) :
    Calls Tryz.prog 81 #[.string s, .int .i64 p] w fun e w' =>
      e = .returned (match frameAt s.data.toList p with | some (l, q) => .tuple #[.string ⟨l.toArray⟩, .int .i64 q, .bool true] | none => .tuple #[.string ⟨#[]⟩, .int .i64 0, .bool false]) ∧ Upd [] w w' := by
  have h1 : ¬ (s.size : Int) < p := by omega
  have hp' : (p : Int) ≤ s.size := by omega
  have hX : s.extract p s.size = ⟨(s.data.toList.drop p).toArray⟩ := toList_eq (by
    simp [List.extract_eq_take_drop]
    rw [List.take_of_length_le (by simp)])
  obtain ⟨cap, W1, hcv, hby, hcap, hu⟩ := conv_bytes w (s.data.toList.drop p)
  have hlen : (s.data.toList.drop p).length = s.size - p := by simp
  have HF := Lib.hid (show frameAt s.data.toList p = (ahead (s.data.toList.drop p)).map fun n => (((s.data.toList.drop p).drop 12).take n, p + 12 + n) from rfl)
  generalize s.data.toList.drop p = l at *
  rw [← hX] at hcv
  have hG1 : Glob W1 := hG.upd hu (by simp) (by simp)
  have hl30 : l.length ≤ 1073741824 := by omega
  rw [HF.out]
  by_cases h12 : l.length < 12
  · have hcut := cut_short (w := W1) w.heap.size l cap h12
    have ha : ahead l = none := by unfold ahead; rw [if_pos h12]
    rw [ha]
    have HH := Lib.hid (And.intro hby (And.intro hcap (And.intro hlen hX)))
    clear hX
    clear hby hcap hlen
    go_enter Tryz.func81, Tryz.ntmps81
    go_wp2_with (go_at_call 94; refine hcut.mono ?_; rintro e w2 ⟨⟨v1, v2, rfl⟩, hu2⟩)
    go_ret3
    exact ⟨rfl, Upd.trans hu hu2 (by simp)⟩
  · obtain ⟨n, hn⟩ : ∃ n, num (l.take 4) = n := ⟨_, rfl⟩
    by_cases hno : n > 65536 ∨ n > l.length - 12
    · have hcut := cut_no (w := W1) w.heap.size l cap hby (by omega) hcap hl30 (by rw [hn]; exact hno)
      have ha : ahead l = none := by unfold ahead; rw [if_neg h12, if_pos (by rw [hn]; exact hno)]
      rw [ha]
      have HH := Lib.hid (And.intro hby (And.intro hcap (And.intro hlen hX)))
      clear hX
      clear hby hcap hlen
      go_enter Tryz.func81, Tryz.ntmps81
      go_wp2_with (go_at_call 94; refine hcut.mono ?_; rintro e w2 ⟨⟨v1, v2, rfl⟩, hu2⟩)
      go_ret3
      exact ⟨rfl, Upd.trans hu hu2 (by simp)⟩
    · have hcut := cut_yes (w := W1) hG1 w.heap.size l cap n hby (by omega) hcap hl30 hn (by omega) (by omega)
      have hconv := fun (u : World) (hh : u.heap[w.heap.size]? = W1.heap[w.heap.size]?) (a1 : Addr) (ha : n = 0 ∨ a1 = ⟨w.heap.size, 12, none⟩) (c : Nat) => BytesAt.text (w := u) (g := w.heap.size) (l := l) (by obtain ⟨cur, t, fr, h1, h2⟩ := hby; exact ⟨cur, t, fr, hh.trans h1, h2⟩) 12 n (by omega) a1 ha c
      have hgl : w.heap.size < W1.heap.size := by obtain ⟨cur, t, fr, h1, h2⟩ := hby; exact lt_of_block h1
      have ha : ahead l = if mark ((l.drop 12).take n) = l.take 12 then some n else none := by unfold ahead; rw [if_neg h12, hn, if_neg hno]
      rw [ha]
      have hq : IntKind.i64.wrap ((s.size : Int) - ((l.length - 12 - n : Nat) : Int)) = ((p + 12 + n : Nat) : Int) := by rw [IntKind.wrap_i64]; omega
      by_cases hm : mark ((l.drop 12).take n) = l.take 12
      · rw [if_pos hm]
        simp only [Option.map_some]
        have hmb : (mark ((l.drop 12).take n) == l.take 12) = true := by simpa using hm
        rw [hmb] at hcut
        have HH := Lib.hid (And.intro hby (And.intro hcap (And.intro hlen hX)))
        clear hX hm hmb ha
        clear hby hcap hlen
        have HCV := Lib.hid hconv
        clear hconv
        go_enter Tryz.func81, Tryz.ntmps81
        go_wp2_with (go_at_call 94; refine hcut.mono ?_; rintro e w2 ⟨⟨a1, c1, a2, c2, rfl, ha1⟩, hu2⟩; have hcc := HCV.out w2 (hu2.block _ hgl (by simp)) a1 ha1 c1)
        go_ret3
        refine ⟨?_, Upd.trans hu hu2 (by simp)⟩
        have e : ((p : Int) + 12 + n) = ((p + 12 + n : Nat) : Int) := by omega
        rw [← e]; rfl
      · rw [if_neg hm]
        have hmb : (mark ((l.drop 12).take n) == l.take 12) = false := by simpa using hm
        rw [hmb] at hcut
        have HH := Lib.hid (And.intro hby (And.intro hcap (And.intro hlen hX)))
        clear hX hm hmb ha
        clear hby hcap hlen hconv
        go_enter Tryz.func81, Tryz.ntmps81
        go_wp2_with (go_at_call 94; refine hcut.mono ?_; rintro e w2 ⟨⟨a1, c1, a2, c2, rfl, ha1⟩, hu2⟩)
        go_ret3
        exact ⟨rfl, Upd.trans hu hu2 (by simp)⟩
end Go.Proofs.YtogkdoooimcemaaGreatDoor

/- Seg1 -/
namespace Go.Proofs.YtogkdoooimcemaaGreatDoor
open Go Go.RowKit
open Go.ChangeMaps (setBlock)
set_option maxRecDepth 20000

def svs (l : List (List UInt8)) : List Value := l.map fun s => .string ⟨s.toArray⟩
def ivs (l : List Int) : List Value := l.map (.int .i64)
/-- segments as data -/
structure Sg where
  entries : List (List UInt8)
  ends : List Int
  starts : Nat
  dead : Bool
def scells (d : Nat) (ev nv : Value) (S : Sg) : Array Value := #[.pointer (some ⟨d, 0, none⟩), ev, nv, .int .i64 S.starts, .bool S.dead]
structure SAt (w : World) (s d : Nat) (S : Sg) (ev nv : Value) : Prop where
  blk : w.heap[s]? = some (.cells (scells d ev nv S) 38 (0, 0))
  ents : RowAt w 9 ev (svs S.entries)
  ends : RowAt w 3 nv (ivs S.ends)
  few : S.entries.length ≤ 4096
  same : S.ends.length = S.entries.length
def sfoot (s : Nat) (ev nv : Value) : List Nat := s :: (ev.ownBlock.toList ++ nv.ownBlock.toList)

theorem count_none (w : World) : Calls Tryz.prog 12 #[.pointer none] w fun e w' => e = .returned (.int .i64 0) ∧ w' = w := by
  go_enter Tryz.func12, Tryz.ntmps12
  go_wp2
  go_ret
  exact ⟨rfl, rfl⟩
theorem row_len {w : World} {e : TypeId} {v : Value} {xs : List Value} (h : RowAt w e v xs) : ∃ a c, v = .slice a xs.length c := by
  rcases h with ⟨rfl, rfl⟩ | ⟨g, cap, cur, rfl, _⟩
  · exact ⟨_, _, rfl⟩
  · exact ⟨_, _, rfl⟩
theorem SAt.cells {w : World} {s d : Nat} {S : Sg} {ev nv : Value} (h : SAt w s d S ev nv) :
    w.cell? ⟨s, 0, none⟩ = some (.pointer (some ⟨d, 0, none⟩)) ∧ w.cell? ⟨s, 1, none⟩ = some ev ∧ w.cell? ⟨s, 2, none⟩ = some nv ∧ w.cell? ⟨s, 3, none⟩ = some (.int .i64 S.starts) ∧ w.cell? ⟨s, 4, none⟩ = some (.bool S.dead) ∧ ∀ i, w.frozen? ⟨s, i, none⟩ = false := by
  have hb := h.blk
  refine ⟨?_, ?_, ?_, ?_, ?_, fun i => frozen_of_row w s i _ _ hb⟩ <;> (rw [cell_of_row w s _ _ _ _ hb]; rfl)
theorem count_at {w : World} {s d : Nat} {S : Sg} {ev nv : Value} (h : SAt w s d S ev nv) :
    Calls Tryz.prog 12 #[.pointer (some ⟨s, 0, none⟩)] w fun e w' => e = .returned (.int .i64 S.entries.length) ∧ w' = w := by
  obtain ⟨-, c1, -⟩ := h.cells
  obtain ⟨a, c, rfl⟩ := row_len h.ents
  have hl : (svs S.entries).length = S.entries.length := by simp [svs]
  rw [hl] at c1
  clear h hl
  generalize S.entries.length = n at *
  go_enter Tryz.func12, Tryz.ntmps12
  go_wp2
  go_ret
  exact ⟨rfl, rfl⟩

/-- the end of a file with so many entries -/
def Sg.endOf (ends : List Int) (n : Nat) : Int := if n % 64 = 0 then 0 else ends.getD (n - 1) 0
theorem end_at {w : World} {v : Value} {ends : List Int} (h : RowAt w 3 v (ivs ends)) (n : Nat) (hn : n ≤ ends.length) (hb : n ≤ 1099511627776) :
    Calls Tryz.prog 68 #[v, .int .i64 n] w fun e w' => e = .returned (.int .i64 (Sg.endOf ends n)) ∧ w' = w := by
  obtain ⟨a, c, rfl⟩ := row_len h
  have hl : (ivs ends).length = ends.length := by simp [ivs]
  rw [hl] at *
  unfold Sg.endOf
  by_cases h0 : n % 64 = 0
  · rw [if_pos h0]
    have h1 : (n : Int) % 64 = 0 := by omega
    clear h
    generalize ends.length = m at *
    go_enter Tryz.func68, Tryz.ntmps68
    go_wp2
    go_ret
    exact ⟨rfl, rfl⟩
  · rw [if_neg h0]
    have h1 : ((n : Int) % 64 == 0) = false := by simp; omega
    have hw : IntKind.i64.wrap ((n : Int) - 1) = ((n - 1 : Nat) : Int) := by rw [IntKind.wrap_i64]; omega
    cases a with
    | none =>
      rcases h with ⟨h, h2⟩ | ⟨g, cap, cur, h, _⟩
      · simp [ivs] at h2; subst h2; simp at hn; omega
      · simp at h
    | some a =>
      obtain ⟨g, rfl⟩ : ∃ g, a = ⟨g, 0, none⟩ := by
        rcases h with ⟨h, h2⟩ | ⟨g, cap, cur, h, _⟩
        · simp at h
        · simp at h; exact ⟨g, h.1⟩
      have hc : w.cell? ⟨g, n - 1, none⟩ = some (.int .i64 (ends.getD (n - 1) 0)) := h.cell (n - 1) _ (by
        have : n - 1 < ends.length := by omega
        simp [ivs, this])
      have hlt : ((n - 1 : Nat) : Int) < ends.length := by omega
      generalize ends.getD (n - 1) 0 = x at *
      generalize hm : n - 1 = m at *
      generalize ends.length = len at *
      clear h hl hm
      go_enter Tryz.func68, Tryz.ntmps68
      go_wp2
      go_ret
      exact ⟨rfl, rfl⟩
end Go.Proofs.YtogkdoooimcemaaGreatDoor

/- SliceA -/
namespace Go.Proofs.YtogkdoooimcemaaGreatDoor
open Go Go.RowKit
open Go.ChangeMaps (setBlock)

def slLen : Value → Nat
  | .slice _ n _ => n
  | _ => 0
theorem cell_new1 (w : World) (t : TypeId) (v : Value) : (w.alloc (.cells #[v] t)).cell? ⟨w.heap.size, 0, none⟩ = some v := by
  rw [cell_of_row _ _ _ _ _ _ (heap_alloc_new w (.cells #[v] t))]; rfl
theorem readAt_new (w : World) (t : TypeId) (v : Value) (c : Nat) : ReadAt (w.alloc (.cells #[v] t)) (.slice (some ⟨w.heap.size, 0, none⟩) 1 c) [v] := by
  refine .inr ⟨_, _, rfl, fun j u hj => ?_⟩
  cases j with
  | zero =>
    simp at hj; subst hj
    rw [addr_add]
    exact cell_new1 w t v
  | succ j => simp at hj
theorem RowAt.alloc {w : World} {e : TypeId} {v : Value} {xs : List Value} (h : RowAt w e v xs) (o : Obj) : RowAt (w.alloc o) e v xs := h.keep fun g _ hl => Below.heap_alloc w o g hl
/-- what an append leaves: the longer row, in its own block or a new one -/
structure Grew (w w' : World) (e : TypeId) (v v' : Value) (xs : List Value) : Prop where
  row : RowAt w' e v' xs
  upd : Upd v.ownBlock.toList w w'
  own : v'.ownBlock = v.ownBlock ∨ ∃ g, v'.ownBlock = some g ∧ w.heap.size ≤ g
  slice : ∃ a c, v' = .slice a xs.length c
theorem Grew.ge {w w' : World} {e : TypeId} {v v' : Value} {xs : List Value} (h : Grew w w' e v v' xs) {n : Nat} (hn : n ≤ w.heap.size) (hv : ∀ g, v.ownBlock = some g → n ≤ g) : ∀ g, v'.ownBlock = some g → n ≤ g := by
  intro g hg
  rcases h.own with h | ⟨g', h, h2⟩
  · exact hv g (h ▸ hg)
  · rw [hg] at h; cases h; omega
theorem Grew.updNil {w w' w0 : World} {e : TypeId} {v v' : Value} {xs : List Value} (h : Grew w w' e v v' xs) {fp : List Nat} (hu : Upd fp w0 w) (hv : ∀ g, v.ownBlock = some g → g ∈ fp ∨ w0.heap.size ≤ g) : Upd fp w0 w' :=
  Upd.trans hu h.upd (fun x hx => hv x (by simpa using hx))
theorem Grew.other {w w' : World} {e f : TypeId} {v v' u : Value} {xs ys : List Value} (h : Grew w w' e v v' xs) (hr : RowAt w f u ys) (hn : ∀ g, v.ownBlock = some g → u.ownBlock ≠ some g) : RowAt w' f u ys :=
  hr.upd h.upd fun g hg hm => hn g (by simpa using hm) hg
/-- rows of different element types lie apart -/
theorem RowAt.apart {w : World} {e f : TypeId} {v u : Value} {xs ys : List Value} (h : RowAt w e v xs) (k : RowAt w f u ys) (hef : e ≠ f) : ∀ g, v.ownBlock = some g → u.ownBlock ≠ some g := by
  intro g hg hu
  obtain ⟨c1, h1⟩ := h.type g hg
  obtain ⟨c2, h2⟩ := k.type g hu
  rw [h1] at h2
  simp at h2
  exact hef h2.2

theorem run_append1 {w : World} {t e : TypeId} {i : TypeInfo} {z : Value} (ht : Tryz.prog.underlying t = some (.slice e)) (hi : Tryz.prog.info? e = some i) (hz : i.zero = some z) (hs1 : i.size = 1) (hzs : z.cells.size = 1) (hby : i.bytes ≤ 64)
    {v : Value} {xs : List Value} (h : RowAt w e v xs) (u : Value) (h1 : u.oneCell' = true) (hb : xs.length < 1099511627776) (ty : TypeId) (c : Nat) :
    ∃ v' w', (Builtin.append_ #[t, t] ty #[v, .slice (some ⟨w.heap.size, 0, none⟩) 1 c]).run Tryz.prog (w.alloc (.cells #[u] e)) = .ok v' w' ∧ Grew w w' e v v' (xs ++ [u]) := by
  obtain ⟨v', w', hr, hrow, hg, hown⟩ := run_append_row ht hi hz hs1 hzs hby (h.alloc (.cells #[u] e)) (readAt_new w e u c) (by simp [h1]) (by simp; omega) ty
  refine ⟨v', w', hr, hrow, ?_, ?_, ?_⟩
  · exact Upd.grown ((Upd.refl _ w).alloc _) hg (fun k hk => .inl (by rw [hk]; simp))
  · rcases hown with h | h
    · exact .inl h
    · exact .inr ⟨_, h, by simp⟩
  · exact row_len hrow
/-- a whole row appended -/
theorem run_appends {w : World} {t e : TypeId} {i : TypeInfo} {z : Value} (ht : Tryz.prog.underlying t = some (.slice e)) (hi : Tryz.prog.info? e = some i) (hz : i.zero = some z) (hs1 : i.size = 1) (hzs : z.cells.size = 1) (hby : i.bytes ≤ 64)
    {v x : Value} {xs news : List Value} (h : RowAt w e v xs) (hx : ReadAt w x news) (h1 : ∀ u ∈ news, u.oneCell' = true) (hb : xs.length + news.length ≤ 1099511627776) (ty : TypeId) :
    ∃ v' w', (Builtin.append_ #[t, t] ty #[v, x]).run Tryz.prog w = .ok v' w' ∧ Grew w w' e v v' (xs ++ news) := by
  obtain ⟨v', w', hr, hrow, hg, hown⟩ := run_append_row ht hi hz hs1 hzs hby h hx h1 hb ty
  refine ⟨v', w', hr, hrow, ?_, ?_, ?_⟩
  · exact Upd.grown (Upd.refl _ w) hg (fun k hk => .inl (by rw [hk]; simp))
  · rcases hown with h | h
    · exact .inl h
    · exact .inr ⟨_, h, Nat.le_refl _⟩
  · exact row_len hrow
/-- the rows of the types that occur -/
theorem info_string : ∃ i z, Tryz.prog.info? 9 = some i ∧ i.zero = some z ∧ i.size = 1 ∧ z.cells.size = 1 ∧ i.bytes ≤ 64 := by
  obtain ⟨i, hi, h1, h2, h3⟩ := info_parts (P := Tryz.prog) (e := 9) (z := .string ⟨#[]⟩) (size := 1) (bytes := 16) (by kernel_rfl)
  exact ⟨i, _, hi, h1, h2, rfl, by omega⟩
theorem info_int : ∃ i z, Tryz.prog.info? 3 = some i ∧ i.zero = some z ∧ i.size = 1 ∧ z.cells.size = 1 ∧ i.bytes ≤ 64 := by
  obtain ⟨i, hi, h1, h2, h3⟩ := info_parts (P := Tryz.prog) (e := 3) (z := .int .i64 0) (size := 1) (bytes := 8) (by kernel_rfl)
  exact ⟨i, _, hi, h1, h2, rfl, by omega⟩
theorem info_step : ∃ i z, Tryz.prog.info? 120 = some i ∧ i.zero = some z ∧ i.size = 1 ∧ z.cells.size = 1 ∧ i.bytes ≤ 64 := by
  obtain ⟨i, hi, h1, h2, h3⟩ := info_parts (P := Tryz.prog) (e := 120) (z := .nilFunc) (size := 1) (bytes := 8) (by kernel_rfl)
  exact ⟨i, _, hi, h1, h2, rfl, by omega⟩
theorem app1_string {w : World} {v : Value} {xs : List Value} (h : RowAt w 9 v xs) (u : Value) (h1 : u.oneCell' = true) (hb : xs.length < 1099511627776) (ty : TypeId) (c : Nat) :
    ∃ v' w', (Builtin.append_ #[22, 22] ty #[v, .slice (some ⟨w.heap.size, 0, none⟩) 1 c]).run Tryz.prog (w.alloc (.cells #[u] 9)) = .ok v' w' ∧ Grew w w' 9 v v' (xs ++ [u]) := by
  obtain ⟨i, z, hi, hz, h2, h3, h4⟩ := info_string
  exact run_append1 Tryz.underlying22 hi hz h2 h3 h4 h u h1 hb ty c
theorem app1_int {w : World} {v : Value} {xs : List Value} (h : RowAt w 3 v xs) (u : Value) (h1 : u.oneCell' = true) (hb : xs.length < 1099511627776) (ty : TypeId) (c : Nat) :
    ∃ v' w', (Builtin.append_ #[36, 36] ty #[v, .slice (some ⟨w.heap.size, 0, none⟩) 1 c]).run Tryz.prog (w.alloc (.cells #[u] 3)) = .ok v' w' ∧ Grew w w' 3 v v' (xs ++ [u]) := by
  obtain ⟨i, z, hi, hz, h2, h3, h4⟩ := info_int
  exact run_append1 Tryz.underlying36 hi hz h2 h3 h4 h u h1 hb ty c
theorem app1_step {w : World} {v : Value} {xs : List Value} (h : RowAt w 120 v xs) (u : Value) (h1 : u.oneCell' = true) (hb : xs.length < 1099511627776) (ty : TypeId) (c : Nat) :
    ∃ v' w', (Builtin.append_ #[71, 71] ty #[v, .slice (some ⟨w.heap.size, 0, none⟩) 1 c]).run Tryz.prog (w.alloc (.cells #[u] 120)) = .ok v' w' ∧ Grew w w' 120 v v' (xs ++ [u]) := by
  obtain ⟨i, z, hi, hz, h2, h3, h4⟩ := info_step
  exact run_append1 Tryz.underlying71 hi hz h2 h3 h4 h u h1 hb ty c
end Go.Proofs.YtogkdoooimcemaaGreatDoor
