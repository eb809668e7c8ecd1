/- The disk's Crash: the walk. Conditions: the disk lies in memory.
  sink, Create, Sync. Conditions: the disk lies in memory.
  Sync; a file turned; loose bytes more. Conditions: the disk lies in memory.
  Slices whose block may be larger than their capacity; what append does. Conditions: elements of one cell. -/
import Derived.Test.YtogkdoooimcemaaGreatDoorC02
/- Disk7 -/
namespace Go.Proofs.YtogkdoooimcemaaGreatDoor
open Go Go.RowKit
open Go.ChangeMaps (setBlock)
set_option maxRecDepth 20000

theorem GoneAt.keep {w w' : World} {gb : Nat} {ges : Array MapEntry} {gclk : Nat} {G : Int → Nat} (h : GoneAt w gb ges gclk G) (hk : w'.heap[gb]? = w.heap[gb]?) : GoneAt w' gb ges gclk G :=
  ⟨hk.trans h.map, h.ints, h.rest, h.keys, h.born, h.clk⟩
theorem GoneAt.congr {w : World} {gb : Nat} {ges : Array MapEntry} {gclk : Nat} {G G' : Int → Nat} (h : GoneAt w gb ges gclk G) (hg : ∀ n, G' n = G n) : GoneAt w gb ges gclk G' := by
  have : G' = G := funext hg
  rw [this]; exact h
/-- what an entry of the map gives to a number -/
def gv (n : Int) (e : MapEntry) : Nat := match e.key with | .int _ k => if k = n then (intOf e.val).toNat else 0 | _ => 0
theorem gv_all {w : World} {gb : Nat} {ges : Array MapEntry} {gclk : Nat} {G : Int → Nat} (h : GoneAt w gb ges gclk G) (n : Int) : allSum (gv n) ges.toList = G n := by
  have hz : ∀ l : List MapEntry, (∀ e ∈ l, ∃ k, e.key = .int .i64 k ∧ k ≠ n) → allSum (gv n) l = 0 := by
    intro l hl
    induction l with
    | nil => rfl
    | cons e l ih =>
      obtain ⟨k, hk, hn⟩ := hl e (by simp)
      have := ih (fun x hx => hl x (by simp [hx]))
      simp only [allSum, List.map_cons, List.sum_cons] at this ⊢
      rw [this]; simp [gv, hk, hn]
  cases e : lookE ges.toList n with
  | none =>
    rw [h.rest n e]
    refine hz _ fun x hx => ?_
    obtain ⟨k, hk⟩ := h.intKeys x hx
    exact ⟨k, hk, by rintro rfl; exact lookE_none h.intKeys e x hx hk⟩
  | some v =>
    obtain ⟨x, hx, hk, hv⟩ := lookE_mem h.intKeys e
    obtain ⟨k, y, h1, h2, h3⟩ := h.ints x hx
    rw [hk] at h1; cases h1
    have hkeys := h.keys
    have hik := h.intKeys
    rw [h3]
    clear hv e h3 h
    generalize ges.toList = l at *
    induction l with
    | nil => cases hx
    | cons z l ih =>
      simp only [List.map_cons, List.nodup_cons] at hkeys
      rcases List.mem_cons.1 hx with rfl | hx
      · have := hz l fun q hq => by
          obtain ⟨k, hk'⟩ := hik q (by simp [hq])
          exact ⟨k, hk', by rintro rfl; exact hkeys.1 (List.mem_map.2 ⟨q, hq, hk'.trans hk.symm⟩)⟩
        simp only [allSum, List.map_cons, List.sum_cons] at this ⊢
        rw [this]; simp [gv, hk, h2, intOf]
      · have := ih hx hkeys.2 (fun q hq => hik q (by simp [hq]))
        obtain ⟨k, hk'⟩ := hik z (by simp)
        have hkn : k ≠ n := by rintro rfl; exact hkeys.1 (List.mem_map.2 ⟨x, hx, hk.trans hk'.symm⟩)
        simp only [allSum, List.map_cons, List.sum_cons] at this ⊢
        rw [this]; simp [gv, hk', hkn]
/-- one round's add -/
theorem GoneAt.add {w : World} {gb : Nat} {ges : Array MapEntry} {gclk : Nat} {G G' : Int → Nat} (h : GoneAt w gb ges gclk G) (n : Int) (z : Int) (x : Nat) (hz : z = (G n : Int) + x) (hg : ∀ m, G' m = G m + if n = m then x else 0) (o : Obj) :
    ∃ ges' gclk', (Instr.mapUpdate 81 (.map (some gb)) (.int .i64 n) (.int .i64 z)).run Tryz.prog (w.alloc o) = .ok () (setBlock (w.alloc o) gb (.map ges' gclk')) ∧
      GoneAt (setBlock (w.alloc o) gb (.map ges' gclk')) gb ges' gclk' G' := by
  obtain ⟨ges', gclk', h1, h2⟩ := (h.keep (w' := w.alloc o) (Below.heap_alloc w o gb (lt_of_block h.map))).put n (G n + x)
  have e : z = ((G n + x : Nat) : Int) := by rw [hz]; simp
  rw [← e] at h1
  refine ⟨ges', gclk', h1, h2.congr fun m => ?_⟩
  rw [hg]
  by_cases hm : m = n
  · subst hm; simp
  · have : ¬ n = m := fun e => hm e.symm
    simp [hm, this]
theorem look_uniq {es : List MapEntry} {n : Int} {u : Value} (hi : IntKeys es) (hn : (es.map (·.key)).Nodup) (h : lookE es n = some u) : ∀ e ∈ es, e.key = .int .i64 n → e.val = u := by
  obtain ⟨x, hx, hk, rfl⟩ := lookE_mem hi h
  intro e he hek
  obtain ⟨i, hi', rfl⟩ := List.mem_iff_getElem.1 he
  obtain ⟨j, hj', rfl⟩ := List.mem_iff_getElem.1 hx
  have : i = j := nodup_inj hn (by simpa using hi') (by simpa using hj') (by simp [hek, hk])
  subst this; rfl
theorem putE_blocks {es : List MapEntry} {n : Int} {u v : Value} (hi : IntKeys es) (hn : (es.map (·.key)).Nodup) (h : lookE es n = some u) (hv : v.ownBlock = u.ownBlock) :
    (putE es n v).map (·.val.ownBlock) = es.map (·.val.ownBlock) := by
  have hu := look_uniq hi hn h
  unfold putE
  rw [List.map_map]
  apply List.map_congr_left
  intro e he
  obtain ⟨k, hk⟩ := hi e he
  simp only [Function.comp, hk]
  by_cases hkn : k = n
  · subst hkn; simp [hv, hu e he hk]
  · simp [hkn]
theorem ents_put {w : World} {n : Int} {v : Value} {b : List UInt8} (hv : FileAt w v b) : ∀ {es : List MapEntry} {l : List (Int × List UInt8)}, All2 (EntAt w) es l → All2 (EntAt w) (putE es n v) (Dk.setF l n b)
  | [], [], _ => trivial
  | e :: es, f :: l, h => by
    refine ⟨?_, ents_put hv h.2⟩
    obtain ⟨h1, h2⟩ := h.1
    by_cases hn : f.1 = n
    · simp only [h1, hn, if_true]; exact ⟨rfl, hv⟩
    · simp only [h1, hn, if_false]; exact ⟨h1, h2⟩
theorem crash_down {w : World} {p : Nat} {D : Dk} {fp : List Nat} (h : DiskAt w p D fp) (k : Int) (hd : D.down = true) :
    Calls Tryz.prog 15 #[.pointer (some ⟨p, 0, none⟩), .int .i64 k] w fun e w' => e = .returned (.int .i64 61) ∧ Moves w p fp D w' := by
  have hr := ready_at h
  have e0 : D.ready = 61 := by simp [Dk.ready, hd]
  rw [e0] at hr
  have H := Lib.hid h
  clear h e0 hd
  go_enter Tryz.func15, Tryz.ntmps15
  go_wp2_with (go_at_call 46; refine hr.mono ?_; rintro e w' ⟨rfl, rfl⟩)
  go_ret
  exact ⟨rfl, Moves.refl H.out⟩
set_option maxHeartbeats 1000000 in
theorem crash_up {w : World} {p : Nat} {D : Dk} {fp : List Nat} (h : DiskAt w p D fp) (K : Int) (hK : Dk.I64 K) (hd : D.down = false) :
    Calls Tryz.prog 15 #[.pointer (some ⟨p, 0, none⟩), .int .i64 K] w fun e w' => e = .returned (.int .i64 0) ∧ Moves w p fp (D.crash K) w' := by
  have hr := ready_at h
  have e0 : D.ready = 0 := by simp [Dk.ready, hd]
  rw [e0] at hr
  obtain ⟨mb, es, clk, lv, h, rfl⟩ := h
  have hap := h.apart
  have c0 := h.cells.1
  have c1 := h.cells.2.1
  have hlo := h.wf.long
  have hmm := @run_makeMap Tryz.prog
  have hloose : ∃ a cap, lv = .slice a D.loose.length cap ∧ (∀ k, k < D.loose.length → ∃ g, a = some ⟨g, 0, none⟩ ∧ w.cell? ⟨g, k * 2, none⟩ = some (.int .i64 (D.loose.getD k (0, 0)).1) ∧ w.cell? ⟨g, k * 2 + 1, none⟩ = some (.int .i64 ((D.loose.getD k (0, 0)).2 : Nat))) := by
    by_cases h0 : D.loose.length = 0
    · have hrow := h.loose
      rw [h0] at hrow ⊢
      rcases hrow.2 with ⟨h, _⟩ | ⟨g, cap, cur, h, _⟩
      · exact ⟨_, _, h, by omega⟩
      · exact ⟨_, _, h, by omega⟩
    · obtain ⟨g, cap, cur, rfl, hg, _, _, hc⟩ := loose_cells h.loose h0
      refine ⟨_, _, rfl, fun k hk => ⟨g, rfl, ?_, ?_⟩⟩
      · rw [cell_of_row w g _ _ _ _ hg]; exact (hc k hk).1
      · rw [cell_of_row w g _ _ _ _ hg]; exact (hc k hk).2
  obtain ⟨a, cap, hlv, hcell⟩ := hloose
  have hofs := h.wf.of_le
  have H := Lib.hid h
  have HAP := Lib.hid hap
  have HLV := Lib.hid hlv
  rw [hlv] at c1
  generalize hL : D.loose = L at *
  have HL := Lib.hid hL
  have hk1 := hK.1
  have hk2 := hK.2
  clear h hap hlv hL e0 hd hK
  have hG0 : GoneAt (w.alloc (.map #[] 0)) w.heap.size #[] 0 (fun n => Dk.lost (L.take 0) K n) :=
    ⟨heap_alloc_new w _, by simp, by simp [Dk.lost], by simp, by simp, by simp⟩
  have HG0 := Lib.hid hG0
  have hpl := block_lt_of_cell c1
  simp only at hpl
  have hpn : ¬ p = w.heap.size := by omega
  clear hG0
  go_enter Tryz.func15, Tryz.ntmps15
  go_wp2_with (go_at_call 46; refine hr.mono ?_; rintro e w' ⟨rfl, rfl⟩)
  go_loopw [1, 24] (fun m i wr => ∃ k : Nat, k ≤ L.length ∧ i = .int .i64 k ∧ m = .int .i64 (Dk.kl (L.take k) K) ∧ (∃ ges gclk, GoneAt wr w.heap.size ges gclk (fun n => Dk.lost (L.take k) K n)) ∧ Below w.heap.size w wr) (fun _ i _ => L.length - (intOf i).toNat)
  case atStart => exact ⟨0, Nat.zero_le _, rfl, rfl, ⟨_, _, HG0.out⟩, (Below.refl _ _).alloc (Nat.le_refl _) _⟩
  case round =>
    obtain ⟨k, hk, rfl, rfl, ⟨ges, gclk, hG⟩, hB⟩ := hrel
    by_cases hlt : k < L.length
    · obtain ⟨g, rfl, hc0, hc1⟩ := hcell k hlt
      have hc0' : wr.cell? ⟨g, k * 2, none⟩ = some (.int .i64 (L.getD k (0, 0)).1) := by
        rw [hB.cell (p := ⟨g, k * 2, none⟩) (block_lt_of_cell hc0)]; exact hc0
      have hc1' : wr.cell? ⟨g, k * 2 + 1, none⟩ = some (.int .i64 ((L.getD k (0, 0)).2 : Nat)) := by
        rw [hB.cell (p := ⟨g, k * 2 + 1, none⟩) (block_lt_of_cell hc1)]; exact hc1
      have hls := Lib.hid (Dk.lost_take_succ L k hlt K)
      have hks := Lib.hid (Dk.kl_take_succ L k hlt K)
      have hlle := fun n => Nat.le_trans (Dk.lost_take_le L (k + 1) K n) (hofs n)
      have hkle := Dk.kl_le (L.take k) K
      have HG := Lib.hid hG
      have HLE := Lib.hid hlle
      clear hc0 hc1 hG hlle hcell hofs
      generalize Dk.kl (L.take k) K = kk at *
      generalize L.getD k (0, 0) = pc at *
      obtain ⟨pn, ps⟩ := pc
      simp only at hc0' hc1'
      have hlook := (HG.out.keep (w' := wr.alloc (.cells #[.int .i64 pn, .int .i64 ps] 83)) (Below.heap_alloc wr _ _ (lt_of_block HG.out.map))).look pn
      by_cases hk0 : kk < 0
      ·
        have hadd := HG.out.add (G' := fun n => Dk.lost (L.take (k + 1)) K n) pn ((Dk.lost (L.take k) K pn : Int) + ps) ps (by omega) (fun m => by rw [hls.out m]; congr 1; split <;> omega) (.cells #[.int .i64 pn, .int .i64 ps] 83)
        obtain ⟨ges', gclk', hput, hG'⟩ := hadd
        have HG' := Lib.hid hG'
        have hl0 := HLE.out pn
        have hl1 := hls.out pn
        rw [if_pos rfl] at hl1
        have hb : Dk.lost (L.take k) K pn + ps ≤ 1048576 := by omega
        clear hG' hl0 hl1
        generalize Dk.lost (L.take k) K pn = ln at *
        go_wp2
        go_roundw
        case rel => exact ⟨k + 1, by omega, by go_num, by rw [hks.out]; go_num, ⟨_, _, HG'.out⟩, (hB.alloc hB.size _).setBlock' (Nat.le_refl _) _⟩
        case measure => simp [intOf]; omega
      by_cases hk1 : (ps : Int) < kk
      ·
        have hadd := HG.out.add (G' := fun n => Dk.lost (L.take (k + 1)) K n) pn (Dk.lost (L.take k) K pn : Int) 0 (by omega) (fun m => by rw [hls.out m]; congr 1; split <;> omega) (.cells #[.int .i64 pn, .int .i64 ps] 83)
        obtain ⟨ges', gclk', hput, hG'⟩ := hadd
        have HG' := Lib.hid hG'
        have hl0 := HLE.out pn
        have hl1 := hls.out pn
        rw [if_pos rfl] at hl1
        have hb : Dk.lost (L.take k) K pn + 0 ≤ 1048576 := by omega
        clear hG' hl0 hl1
        generalize Dk.lost (L.take k) K pn = ln at *
        go_wp2
        go_roundw
        case rel => exact ⟨k + 1, by omega, by go_num, by rw [hks.out]; go_num, ⟨_, _, HG'.out⟩, (hB.alloc hB.size _).setBlock' (Nat.le_refl _) _⟩
        case measure => simp [intOf]; omega
      ·
        have hadd := HG.out.add (G' := fun n => Dk.lost (L.take (k + 1)) K n) pn ((Dk.lost (L.take k) K pn : Int) + ((ps : Int) - kk)) (ps - kk.toNat) (by omega) (fun m => by rw [hls.out m]; congr 1; split <;> omega) (.cells #[.int .i64 pn, .int .i64 ps] 83)
        obtain ⟨ges', gclk', hput, hG'⟩ := hadd
        have HG' := Lib.hid hG'
        have hl0 := HLE.out pn
        have hl1 := hls.out pn
        rw [if_pos rfl] at hl1
        have hb : Dk.lost (L.take k) K pn + (ps - kk.toNat) ≤ 1048576 := by omega
        clear hG' hl0 hl1
        generalize Dk.lost (L.take k) K pn = ln at *
        go_wp2
        go_roundw
        case rel => exact ⟨k + 1, by omega, by go_num, by rw [hks.out]; go_num, ⟨_, _, HG'.out⟩, (hB.alloc hB.size _).setBlock' (Nat.le_refl _) _⟩
        case measure => simp [intOf]; omega
    · have hke : k = L.length := by omega
      have hG' : GoneAt wr w.heap.size ges gclk (Dk.lost L K) := hG.congr fun n => by rw [hke, List.take_length]
      have hgbl := lt_of_block hG'.map
      have hB' := hB
      obtain ⟨W1, rfl⟩ : ∃ W1 : World, W1 = wr := ⟨_, rfl⟩
      have hmb1 : W1.heap[mb]? = some (.map es clk) := (hB.block mb (lt_of_block H.out.map)).trans H.out.map
      have hrg : (Instr.range 81 (.map (some w.heap.size))).run Tryz.prog W1 = .ok (.pointer (some ⟨W1.heap.size, 0, none⟩)) (W1.alloc (.mapIter (some w.heap.size) gclk #[] gclk)) := by
        simp [Instr.range, run_underlying Tryz.underlying81, getObj, Sem.run, hG'.map, newObj]
      have HE := Lib.hid hke
      have HG := Lib.hid hG'
      have HG1 := Lib.hid (heap_alloc_new W1 (.mapIter (some w.heap.size) gclk #[] gclk))
      have HMB := Lib.hid hmb1
      have HB := Lib.hid hB
      have hW1 := hB.size
      have HC := Lib.hid hcell
      clear hke hG' hG hmb1 hB hB' hcell HG0
      go_wp2
      go_loopw [48] (fun _ wv => ∃ seen c0 es', gclk ≤ c0 ∧ wv.heap[W1.heap.size]? = some (.mapIter (some w.heap.size) gclk seen c0) ∧ wv.heap[w.heap.size]? = some (.map ges gclk) ∧ wv.heap[mb]? = some (.map es' clk) ∧
        All2 (EntAt wv) es'.toList (Dk.cutF D.files (fun n => doneSum (gv n) ges.toList seen)) ∧ es'.toList.map (·.born) = es.toList.map (·.born) ∧
        es'.toList.map (·.val.ownBlock) = es.toList.map (·.val.ownBlock) ∧ Upd [mb] w wv) (fun _ wv => rangeLeft w.heap.size W1.heap.size wv)
      case atStart =>
        refine ⟨#[], gclk, es, Nat.le_refl _, HG1.out, ?_, ?_, ?_, rfl, rfl, ?_⟩
        · rw [Below.heap_alloc _ _ _ hgbl]; exact HG.out.map
        · rw [Below.heap_alloc _ _ _ (lt_of_block HMB.out)]; exact HMB.out
        · rw [Dk.cutF_zero _ _ (fun n => doneSum_none _ _)]
          refine ents_keep H.out.ents fun e he g hg hgl => ?_
          rw [Below.heap_alloc _ _ _ (Nat.lt_of_lt_of_le hgl hW1)]
          exact HB.out.block g hgl
        · exact (Upd.of_below HB.out _).alloc _
      case round =>
        obtain ⟨seen, cz, es', hc0, hr, hgb, hmb, hents, hborn, hblk, hU⟩ := hrel
        have hrl := rangeLeft_eq hr hgb
        have hcp0 : wr.cell? ⟨p, 0, none⟩ = some (.map (some mb)) := by
          rw [hU.cell (p := ⟨p, 0, none⟩) hpl (by simp; exact HAP.out.1)]; exact c0
        rcases run_next_at (P := Tryz.prog) wr 0 W1.heap.size w.heap.size gclk cz seen ges gclk hr hgb HG.out.clk hc0 with ⟨h0, hrun⟩ | ⟨e, he, w1, hw1, hrun⟩
        · have hall : ∀ n, doneSum (gv n) ges.toList seen = Dk.lost L K n := fun n => by
            rw [doneSum_all (leftOf_none h0), gv_all HG.out]
          have HA := Lib.hid hall
          have HENT := Lib.hid hents; have HBN := Lib.hid hborn; have HBL := Lib.hid hblk; have HU := Lib.hid hU; have HM := Lib.hid hmb
          clear hall hents hborn hblk hU hmb hr hgb hrl h0
          have hfz : ∀ i, wr.frozen? ⟨p, i, none⟩ = false := fun i => by
            rw [HU.out.frozen (p := ⟨p, i, none⟩) hpl (by simp; exact HAP.out.1)]; exact H.out.cells.2.2.2.2.2.2.2.2 i
          have f1 := hfz 1
          have f3 := hfz 3
          have f5 := hfz 5
          have hs : ∀ i v, w.cell? ⟨p, i, none⟩ = some v → wr.cell? ⟨p, i, none⟩ = some v := fun i v h => by
            rw [HU.out.cell (p := ⟨p, i, none⟩) hpl (by simp; exact HAP.out.1)]; exact h
          have d1 := hs 1 _ c1
          have d3 := hs 3 _ H.out.cells.2.2.2.1
          have d5 := hs 5 _ H.out.cells.2.2.2.2.2.1
          clear hfz hs
          go_wp2
          go_ret
          have H := H.out
          have hb1 : wr.heap[p]? = some (.cells (dcells mb lv D) 46 (0, 0)) := HU.out.heap H.blk (by simp; exact HAP.out.1)
          have hb2 := heap_setCell_same _ p 5 _ _ (.bool false) (heap_setCell_same _ p 3 _ _ (.bool true) (heap_setCell_same wr p 1 _ _ (.slice none 0 0) hb1))
          have hoth : ∀ k, k ≠ p → (((wr.setCell ⟨p, 1, none⟩ (.slice none 0 0)).setCell ⟨p, 3, none⟩ (.bool true)).setCell ⟨p, 5, none⟩ (.bool false)).heap[k]? = wr.heap[k]? := fun k hk => by
            rw [heap_setCell_other _ _ _ _ (by simpa using hk), heap_setCell_other _ _ _ _ (by simpa using hk), heap_setCell_other _ _ _ _ (by simpa using hk)]
          have hfm : es'.toList.filterMap (·.val.ownBlock) = es.toList.filterMap (·.val.ownBlock) := by
            have := congrArg (List.filterMap id) HBL.out
            simpa [List.filterMap_map] using this
          refine ⟨rfl, _, ⟨mb, es', clk, .slice none 0 0, ⟨hb2, ?_, ?_, ?_, ?_, ?_, World.ownsRow_nil _ _ _ _, H.wf.crash K⟩, rfl⟩, ?_, ?_⟩
          · rw [hoth mb (Ne.symm HAP.out.1)]; exact HM.out
          · rw [Dk.crash_files, HL.out, ← funext HA.out]
            refine ents_keep HENT.out fun e he g hg _ => hoth g ?_
            have hm : g ∈ es'.toList.filterMap (·.val.ownBlock) := List.mem_filterMap.2 ⟨e, he, hg⟩
            rw [hfm] at hm
            obtain ⟨x, hx, hxg⟩ := List.mem_filterMap.1 hm
            exact (HAP.out.2.2 x hx g hxg).1
          · rw [HBN.out]; exact H.born
          · intro e he
            have hm : e.born ∈ es'.toList.map (·.born) := List.mem_map.2 ⟨e, he, rfl⟩
            rw [HBN.out] at hm
            obtain ⟨x, hx, hxe⟩ := List.mem_map.1 hm
            rw [← hxe]; exact H.clk x hx
          · rw [hfm]; exact H.blocks
          · exact (((HU.out.mono (by simp [foot])).setCell (.inl (by simp [foot])) _).setCell (.inl (by simp [foot])) _).setCell (.inl (by simp [foot])) _
          · intro b hb
            have e0 : (Value.slice none 0 0).ownBlock = none := rfl
            simp only [foot, e0, hfm] at hb ⊢
            simp only [Option.toList, List.nil_append, List.mem_cons, List.mem_append] at hb ⊢
            rcases hb with h | h | h
            · exact .inl (.inl h)
            · exact .inl (.inr (.inl h))
            · exact .inl (.inr (.inr (.inr h)))
        · obtain ⟨hee, hse⟩ := mem_leftOf he
          have hps := fun n => doneSum_push (f := gv n) HG.out.born hee hse
          have hlt := leftOf_push he
          have hr1 : (setBlock w1 W1.heap.size (.mapIter (some w.heap.size) gclk (seen.push e.born) gclk)).heap[W1.heap.size]? = some (.mapIter (some w.heap.size) gclk (seen.push e.born) gclk) := by
            refine heap_setBlock_same (o' := .mapIter (some w.heap.size) gclk seen cz) ?_
            rcases hw1 with rfl | rfl <;> exact hr
          have hgb1 : (setBlock w1 W1.heap.size (.mapIter (some w.heap.size) gclk (seen.push e.born) gclk)).heap[w.heap.size]? = some (.map ges gclk) := by
            rw [heap_setBlock_other (by omega)]
            rcases hw1 with rfl | rfl <;> exact hgb
          have hkeep : ∀ k, k ≠ W1.heap.size → (setBlock w1 W1.heap.size (.mapIter (some w.heap.size) gclk (seen.push e.born) gclk)).heap[k]? = wr.heap[k]? := fun k hk => by
            rw [heap_setBlock_other (Ne.symm hk)]
            rcases hw1 with rfl | rfl <;> rfl
          have hU1 : Upd [mb] w (setBlock w1 W1.heap.size (.mapIter (some w.heap.size) gclk (seen.push e.born) gclk)) := by
            refine Upd.setBlock ?_ (.inr hW1) _
            rcases hw1 with rfl | rfl
            · exact hU
            · exact hU.drew
          have hent := run_entry_at (P := Tryz.prog) _ W1.heap.size w.heap.size gclk seen ges gclk e hr1 hgb1 hee HG.out.born
          have hrl1 := rangeLeft_eq hr1 hgb1
          have hmbW : mb < W1.heap.size := lt_of_block HMB.out
          have hmb1 := (hkeep mb (by omega)).trans hmb
          have hents1 : All2 (EntAt (setBlock w1 W1.heap.size (.mapIter (some w.heap.size) gclk (seen.push e.born) gclk))) es'.toList (Dk.cutF D.files (fun n => doneSum (gv n) ges.toList seen)) := by
            refine ents_keep hents fun x hx g hg _ => hkeep g ?_
            have hm : g ∈ es'.toList.map (fun x => x.val.ownBlock.getD 0) := List.mem_map.2 ⟨x, hx, by simp [hg]⟩
            have e2 : es'.toList.map (fun x => x.val.ownBlock.getD 0) = es.toList.map (fun x => x.val.ownBlock.getD 0) := by
              have := congrArg (List.map (fun o : Option Nat => o.getD 0)) hblk
              simp only [List.map_map] at this
              exact this
            rw [e2] at hm
            obtain ⟨y, hy, hyg⟩ := List.mem_map.1 hm
            obtain ⟨f, _, hfr⟩ := H.out.ents.mem y hy
            obtain ⟨g', hg', cur, hcur⟩ := hfr.2.block
            rw [hg'] at hyg
            simp at hyg; subst hyg
            have := lt_of_block hcur
            omega
          have hcp1 : (setBlock w1 W1.heap.size (.mapIter (some w.heap.size) gclk (seen.push e.born) gclk)).cell? ⟨p, 0, none⟩ = some (.map (some mb)) := by
            rw [World.cell?_of_block (w := wr) (hkeep p (by omega))]; exact hcp0
          generalize setBlock w1 W1.heap.size (.mapIter (some w.heap.size) gclk (seen.push e.born) gclk) = W at *
          obtain ⟨k, x, hk, hv, hGk⟩ := HG.out.ints e hee
          rw [hk, hv] at hrun hent
          have hgve : ∀ n, gv n e = if k = n then x else 0 := fun n => by simp [gv, hk, hv, intOf]
          have hps' : ∀ n, doneSum (gv n) ges.toList (seen.push e.born) = doneSum (gv n) ges.toList seen + if k = n then x else 0 := fun n => by rw [hps n, hgve]
          have hle : doneSum (gv k) ges.toList (seen.push e.born) ≤ Dk.lost L K k := by rw [← gv_all HG.out]; exact doneSum_le _ _ _
          have HR := Lib.hid hr1; have HGB := Lib.hid hgb1; have HU := Lib.hid hU1; have HL0 := Lib.hid hrl; have HL1 := Lib.hid hrl1; have HLT := Lib.hid hlt; have HP := Lib.hid hps'
          have HENT := Lib.hid hents1; have HBN := Lib.hid hborn; have HBL := Lib.hid hblk; have HM := Lib.hid hmb1; have HLE := Lib.hid hle; have HGK := Lib.hid hGk
          clear hr1 hgb1 hU1 hrl hrl1 hlt hps' hps hents1 hborn hblk hmb1 hle hGk hents hU hmb hr hgb hcp0 hkeep hgve hk hv hw1 he hee hse
          by_cases hx0 : x = 0
          · subst hx0
            go_wp2
            go_roundw
            case rel =>
              refine ⟨_, _, es', Nat.le_refl _, HR.out, HGB.out, HM.out, ?_, HBN.out, HBL.out, HU.out⟩
              have : (fun n => doneSum (gv n) ges.toList (seen.push e.born)) = fun n => doneSum (gv n) ges.toList seen := funext fun n => by rw [HP.out]; simp
              rw [this]; exact HENT.out
            case measure => rw [HL0.out, HL1.out]; exact HLT.out
          · have hx1 : ((x : Int) == 0) = false := by simpa using hx0
            have HX := Lib.hid hx0
            clear hx0
            have hpk := HP.out k
            rw [if_pos rfl] at hpk
            have hlo1 := Dk.lost_le_of L K k
            have hof1 := H.out.wf.offs k
            rw [HL.out] at hof1
            obtain ⟨b0, hb0⟩ : ∃ b0, Dk.getF D.files k = some b0 := by
              cases e0 : Dk.getF D.files k with
              | none => exfalso; rw [e0] at hof1; simp at hof1; have := HLE.out; have := HX.out; omega
              | some b => exact ⟨b, rfl⟩
            rw [hb0] at hof1
            simp only [Option.getD_some] at hof1
            rcases ents_look k HENT.out with ⟨v, b, hv1, hv2, hv3⟩ | ⟨_, hv2⟩
            · rw [Dk.getF_cutF, hb0] at hv2
              simp only [Option.map_some, Option.some.injEq] at hv2
              have hbl : b.length = b0.length - doneSum (gv k) ges.toList seen := by
                rw [← hv2]; simp
              obtain ⟨g, fc, cur, rfl, hg, hc1, hc2, hc3, hct⟩ := hv3
              have hlk := (run_look_yes Tryz.underlying43 Tryz.underlying3 HM.out (ents_keys HENT.out) k _ hv1).1
              have hle3 := HLE.out
              have hxb : x ≤ b.length := by omega
              have hb48 : b.length ≤ 1048576 := by
                have := H.out.wf.len (n := k) (b := b0) hb0
                omega
              have hbfc : (b.length : Int) - x ≤ fc := by omega
              have hnn : (0 : Int) ≤ (b.length : Int) - x := by omega
              have hwr : IntKind.i64.wrap ((b.length : Int) - x) = (b.length : Int) - x := IntWalk.i64_in _ (by omega)
              have HPK := Lib.hid hpk; have HB0 := Lib.hid hb0; have HBL0 := Lib.hid hbl; have HV1 := Lib.hid hv1; have HV2 := Lib.hid hv2; have HGG := Lib.hid hg; have HCT := Lib.hid hct
              clear hpk hb0 hbl hv1 hv2 hg hct hlo1 hof1 hle3
              go_wp2_with fail
              refine wp_region_can [(0, false), (1, false), (2, false), (3, false), (4, false), (5, false), (6, false), (7, false), (8, false), (9, false), (10, false)] 11 (fun u => u.cell? ⟨p, 0, none⟩ = some (.map (some mb))) (by kernel_rfl) (by kernel_rfl) (fun _ _ d _ _ h => by cases d <;> exact h) (by simpa using hcp1) ?_
              simp only [canOps, List.filterMap_cons, List.filterMap_nil, Option.map_some, List.getElem?_toArray, List.getElem?_cons_succ, List.getElem?_cons_zero, List.drop_succ_cons, List.drop_zero]
              repeat (apply can_light rfl; (· intro u hu; go_simp; try rfl); simp only [Act.put, List.setIfInBounds_toArray, List.set_cons_zero, List.set_cons_succ])
              refine can_nil ?_
              have hup := fun v => run_mapUpdate_yes (P := Tryz.prog) (w := W.drew) Tryz.underlying43 Tryz.underlying3 HM.out (ents_keys HENT.out) (ents_nodup HENT.out (by rw [Dk.keys_cutF]; exact H.out.wf.keys)) k _ v HV1.out
              go_wp2
              go_roundw
              case rel =>
                have hgm : g ≠ mb := by rintro rfl; have := HGG.out; rw [HM.out] at this; cases this
                have hnd := ents_nodup HENT.out (by rw [Dk.keys_cutF]; exact H.out.wf.keys)
                have hk2 : ∀ j, j ≠ mb → ∀ o, (setBlock W.drew mb o).heap[j]? = W.heap[j]? := fun j hj o => heap_setBlock_other (Ne.symm hj)
                have hfile : FileAt (setBlock W.drew mb (.map (putE es'.toList k (.slice (some ⟨g, 0, none⟩) (b.length - x) fc)).toArray clk)) (.slice (some ⟨g, 0, none⟩) (b.length - x) fc) (b.take (b.length - x)) := by
                  refine ⟨g, fc, cur, by simp, (hk2 g hgm _).trans HGG.out, by simp; omega, hc2, hc3, ?_⟩
                  have : (b.take (b.length - x)).length = b.length - x := by simp
                  rw [this]
                  have hct := congrArg (List.take (b.length - x)) HCT.out
                  rw [List.take_take, Nat.min_eq_left (by omega)] at hct
                  rw [hct]; simp [bvs]
                refine ⟨seen.push e.born, _, (putE es'.toList k (.slice (some ⟨g, 0, none⟩) (b.length - x) fc)).toArray, Nat.le_refl _, ?_, ?_, heap_setBlock_same (o' := .map es' clk) HM.out, ?_, ?_, ?_, ?_⟩
                · exact (hk2 _ (by omega) _).trans HR.out
                · exact (hk2 _ (by have := lt_of_block H.out.map; omega) _).trans HGB.out
                · have e1 := ents_put (n := k) hfile (ents_keep (w' := setBlock W.drew mb (.map (putE es'.toList k (.slice (some ⟨g, 0, none⟩) (b.length - x) fc)).toArray clk)) HENT.out fun y hy j hj _ => hk2 j (by
                    rintro rfl
                    obtain ⟨f, _, hfr⟩ := HENT.out.mem y hy
                    obtain ⟨g', hg', cur', hcur'⟩ := hfr.2.block
                    rw [hj] at hg'; cases hg'
                    rw [HM.out] at hcur'; cases hcur') _)
                  have e2 : b.take (b.length - x) = b0.take (b0.length - doneSum (gv k) ges.toList (seen.push e.born)) := by
                    rw [HP.out k, if_pos rfl, ← HV2.out, List.take_take]
                    congr 1
                    simp; omega
                  rw [e2, Dk.setF_cutF D.files _ (fun n => doneSum (gv n) ges.toList (seen.push e.born)) k b0 HB0.out H.out.wf.keys (fun m hm => by
                    have : ¬ k = m := fun e => hm e.symm
                    simp only [HP.out m, if_neg this, Nat.add_zero])] at e1
                  exact e1
                · show (putE _ _ _).map (·.born) = _
                  rw [(putE_keys _ _ _).2]; exact HBN.out
                · show (putE _ _ _).map (·.val.ownBlock) = _
                  exact (putE_blocks (v := .slice (some ⟨g, 0, none⟩) (b.length - x) fc) (ents_keys HENT.out) hnd HV1.out rfl).trans HBL.out
                · exact HU.out.drew.setBlock (.inl (by simp)) _
              case measure =>
                have hgm : g ≠ mb := by rintro rfl; have := HGG.out; rw [HM.out] at this; cases this
                have hm1 : ∀ o, rangeLeft w.heap.size W1.heap.size (setBlock W.drew mb o) = rangeLeft w.heap.size W1.heap.size W := fun o => by
                  unfold rangeLeft
                  rw [heap_setBlock_other (by omega), heap_setBlock_other (by have := lt_of_block H.out.map; omega)]
                  rfl
                rw [hm1, HL0.out, HL1.out]; exact HLT.out
            · exfalso; rw [Dk.getF_cutF, hb0] at hv2; cases hv2
end Go.Proofs.YtogkdoooimcemaaGreatDoor

/- Disk8 -/
namespace Go.Proofs.YtogkdoooimcemaaGreatDoor
open Go Go.RowKit
open Go.ChangeMaps (setBlock)
set_option maxRecDepth 20000

theorem Moves.at {w w' : World} {p : Nat} {fp : List Nat} {D : Dk} (h : Moves w p fp D w') : ∃ fp', DiskAt w' p D fp' ∧ Upd fp w w' ∧ ∀ b ∈ fp', b ∈ fp ∨ w.heap.size ≤ b := h
theorem sink_at {w : World} {p : Nat} {D : Dk} {fp : List Nat} (h : DiskAt w p D fp) (hd : D.down = false) :
    Calls Tryz.prog 49 #[.pointer (some ⟨p, 0, none⟩)] w fun e w' => e = .returned (.int .i64 61) ∧ Moves w p fp (D.crash D.keep) w' := by
  have hc := crash_up h D.keep h.wf.keep hd
  obtain ⟨mb, es, clk, lv, h, rfl⟩ := h
  have c7 := h.cells.2.2.2.2.2.2.2.1
  have HC := Lib.hid hc
  clear h hc hd
  go_enter Tryz.func49, Tryz.ntmps49
  go_wp2_with (go_at_call 15; refine HC.out.mono ?_; rintro e w' ⟨rfl, hm⟩)
  go_ret
  exact ⟨rfl, hm⟩
theorem tick_files (D : Dk) : D.tick.files = D.files ∧ D.tick.loose = D.loose ∧ D.tick.down = D.down ∧ D.tick.keep = D.keep ∧ D.tick.cap = D.cap := by unfold Dk.tick; split <;> simp
theorem tick_get (D : Dk) (n : Int) : D.tick.get n = D.get n := by unfold Dk.get; rw [(tick_files D).1]
/-- behind the count: the disk sinks -/
theorem sunk_at {w w1 : World} {p : Nat} {D : Dk} {fp : List Nat} (hm : Moves w p fp D.tick w1) (hd : D.down = false) :
    Calls Tryz.prog 49 #[.pointer (some ⟨p, 0, none⟩)] w1 fun e w' => e = .returned (.int .i64 61) ∧ Moves w p fp (D.tick.crash D.keep) w' := by
  obtain ⟨fp1, h1, h2, h3⟩ := hm
  refine (sink_at h1 (by rw [(tick_files D).2.2.1]; exact hd)).mono ?_
  rintro e w' ⟨rfl, hm⟩
  rw [(tick_files D).2.2.2.1] at hm
  exact ⟨rfl, Moves.trans h2 h3 hm⟩

theorem run_len_files {w : World} {mb clk : Nat} {es : Array MapEntry} (hm : w.heap[mb]? = some (.map es clk)) (ty : TypeId) :
    (Builtin.len_ #[43] ty #[.map (some mb)]).run Tryz.prog w = .ok (.int .i64 es.size) w := by
  simp [Builtin.len_, run_underlying Tryz.underlying43, getObj, Sem.run, hm, goInt]

/-- a new file -/
theorem DAt.push {w w' : World} {p : Nat} {D : Dk} {mb : Nat} {es : Array MapEntry} {clk : Nat} {lv : Value} (h : DAt w p D mb es clk lv) {n : Int} {v : Value} {b : List UInt8}
    (hw : ({ D with files := D.files ++ [(n, b)] } : Dk).WF) (hv : FileAt w' v b) (hvb : ∀ g, v.ownBlock = some g → w.heap.size ≤ g)
    (hk : ∀ k, k < w.heap.size → k ≠ mb → w'.heap[k]? = w.heap[k]?) (hm : w'.heap[mb]? = some (.map (es.push { key := .int .i64 n, val := v, born := clk }) (clk + 1))) :
    DAt w' p { D with files := D.files ++ [(n, b)] } mb (es.push { key := .int .i64 n, val := v, born := clk }) (clk + 1) lv := by
  have ha := h.apart
  obtain ⟨g, hg, _⟩ := hv.block
  refine ⟨(hk p (lt_of_block h.blk) ha.1).trans h.blk, hm, ?_, ?_, ?_, ?_, row_keep h.loose fun g hg hl => hk g hl (ha.2.1 g hg).2.1, hw⟩
  · rw [Array.toList_push]
    exact All2.append (ents_keep h.ents fun e he g hg hl => hk g hl (ha.2.2 e he g hg).2.1) ⟨⟨rfl, hv⟩, trivial⟩
  · rw [Array.toList_push, List.map_append, List.nodup_append]
    refine ⟨h.born, by simp, ?_⟩
    intro a ha b hb
    obtain ⟨y, hy, rfl⟩ := List.mem_map.1 ha
    simp at hb
    subst hb
    have := h.clk y hy
    omega
  · intro y hy
    rcases List.mem_append.1 (show y ∈ es.toList ++ [_] by rw [← Array.toList_push]; exact hy) with hy | hy
    · have := h.clk y hy; omega
    · obtain rfl := List.mem_singleton.1 hy
      show clk < clk + 1
      omega
  · rw [Array.toList_push, List.filterMap_append, List.nodup_append]
    refine ⟨h.blocks, by simp [hg], ?_⟩
    intro a ha' b hb
    obtain ⟨y, hy, hya⟩ := List.mem_filterMap.1 ha'
    simp [hg] at hb
    subst hb
    have h1 := (ha.2.2 y hy a hya).2.2.1
    have h2 := hvb _ hg
    omega
theorem wf_push {D : Dk} (h : D.WF) {n : Int} (hi : Dk.I64 n) (hg : D.get n = none) (hl : D.files.length < 100) : ({ D with files := D.files ++ [(n, [])] } : Dk).WF := by
  have hn := Dk.getF_none.1 hg
  refine ⟨?_, ?_, h.cap, fun m => ?_, h.long, by simp; omega, h.left, h.keep, h.fails, h.starts, ?_⟩
  · simp only [List.map_append, List.map_cons, List.map_nil]
    rw [List.nodup_append]
    refine ⟨h.keys, by simp, ?_⟩
    intro a ha b hb
    simp at hb
    subst hb
    rintro rfl
    exact hn ha
  · have := h.size
    simp [Dk.total] at this ⊢; exact this
  · refine Nat.le_trans (h.offs m) ?_
    cases e : Dk.getF D.files m with
    | none => simp
    | some b =>
      have : Dk.getF (D.files ++ [(n, [])]) m = some b := by
        simp only [Dk.getF, List.find?_append, Option.map_eq_some_iff] at e ⊢
        obtain ⟨a, ha, hb⟩ := e
        exact ⟨a, by simp [ha], hb⟩
      rw [this]; simp
  · intro f hf
    simp only [List.map_append, List.map_cons, List.map_nil, List.mem_append, List.mem_singleton] at hf
    rcases hf with hf | rfl
    · exact h.ints f hf
    · exact hi

theorem new_file {w : World} {p mb clk : Nat} {D : Dk} {es : Array MapEntry} {lv : Value} (h : DAt w p D mb es clk lv) {n : Int} (hg : D.get n = none) :
    lookE es.toList n = none ∧ (Instr.mapUpdate 43 (.map (some mb)) (.int .i64 n) (.slice (some ⟨w.heap.size, 0, none⟩) 0 0)).run Tryz.prog (w.alloc (.cells #[] 5)) =
      .ok () (setBlock (w.alloc (.cells #[] 5)) mb (.map (es.push { key := .int .i64 n, val := .slice (some ⟨w.heap.size, 0, none⟩) 0 0, born := clk }) (clk + 1))) := by
  rcases ents_look n h.ents with ⟨v, b, _, h2, _⟩ | ⟨h1, _⟩
  · unfold Dk.get at hg; rw [hg] at h2; cases h2
  · exact ⟨h1, run_mapUpdate_no Tryz.underlying43 Tryz.underlying3 ((Below.heap_alloc w _ _ (lt_of_block h.map)).trans h.map) (ents_keys h.ents) n _ h1⟩
set_option maxHeartbeats 1000000 in
theorem create_at {w : World} {p : Nat} {D : Dk} {fp : List Nat} (h : DiskAt w p D fp) (ho : D.Ok) (n : Int) (hi : Dk.I64 n) :
    Calls Tryz.prog 17 #[.pointer (some ⟨p, 0, none⟩), .int .i64 n] w fun e w' => e = .returned (.int .i64 (D.create n).2) ∧ Moves w p fp (D.create n).1 w' := by
  have hh := has_at h n
  have H0 := Lib.hid h
  unfold Dk.create
  by_cases hd : D.down = true
  · rw [if_pos hd]
    have e0 : D.has n = 61 := by simp [Dk.has, hd]
    rw [e0] at hh
    clear e0 hd ho h
    go_enter Tryz.func17, Tryz.ntmps17
    go_wp2_with (go_at_call 47; refine hh.mono ?_; rintro e w' ⟨rfl, rfl⟩)
    go_ret
    exact ⟨rfl, Moves.refl H0.out⟩
  have hd' : D.down = false := by simpa using hd
  rw [if_neg hd]
  cases hg : D.get n with
  | some b =>
    have e0 : D.has n = 0 := by simp [Dk.has, hd', hg]
    rw [e0] at hh
    by_cases hn : n < 0
    · rw [if_pos hn]
      clear e0 hd hd' ho h hg
      go_enter Tryz.func17, Tryz.ntmps17
      go_wp2_with (go_at_call 47; refine hh.mono ?_; rintro e w' ⟨rfl, rfl⟩)
      go_ret
      exact ⟨rfl, Moves.refl H0.out⟩
    · rw [if_neg hn, if_pos (show (some b).isSome = true from rfl)]
      clear e0 hd hd' ho h hg
      go_enter Tryz.func17, Tryz.ntmps17
      go_wp2_with (go_at_call 47; refine hh.mono ?_; rintro e w' ⟨rfl, rfl⟩)
      go_ret
      exact ⟨rfl, Moves.refl H0.out⟩
  | none =>
    have e0 : D.has n = 4 := by simp [Dk.has, hd', hg]
    rw [e0] at hh
    by_cases hn : n < 0
    · rw [if_pos hn]
      clear e0 hd hd' ho h hg
      go_enter Tryz.func17, Tryz.ntmps17
      go_wp2_with (go_at_call 47; refine hh.mono ?_; rintro e w' ⟨rfl, rfl⟩)
      go_ret
      exact ⟨rfl, Moves.refl H0.out⟩
    · rw [if_neg hn, if_neg (show ¬ (none : Option (List UInt8)).isSome = true by simp)]
      obtain ⟨mb, es, clk, lv, h, hfp⟩ := h
      have c0 := h.cells.1
      have hlen := run_len_files h.map 3
      have hsz : es.size = D.files.length := by rw [← Array.length_toList]; exact h.ents.length
      rw [hsz] at hlen
      by_cases hl : 100 ≤ D.files.length
      · rw [if_pos hl]
        clear e0 hd hd' ho h hg hsz hfp
        go_enter Tryz.func17, Tryz.ntmps17
        go_wp2_with (go_at_call 47; refine hh.mono ?_; rintro e w' ⟨rfl, rfl⟩)
        go_ret
        exact ⟨rfl, Moves.refl H0.out⟩
      · rw [if_neg hl]
        unfold Dk.step
        by_cases hs : D.sinks = true
        · rw [if_pos hs]
          have hy := sinks_yes H0.out ho hs
          have HS := Lib.hid hd'
          clear e0 hd hd' ho h hg hsz hfp hs
          go_enter Tryz.func17, Tryz.ntmps17
          go_wp2_with (first | (go_at_call 47; refine hh.mono ?_; rintro e w' ⟨rfl, rfl⟩) | (go_at_call 48; refine hy.mono ?_; rintro e w1 ⟨rfl, hm⟩) | (go_at_call 49; refine (sunk_at hm HS.out).mono ?_; clear hm; rintro e w2 ⟨rfl, hm2⟩))
          go_ret
          exact ⟨rfl, hm2⟩
        · rw [if_neg hs]
          have hs' : D.sinks = false := by simpa using hs
          have hy := sinks_no H0.out hs'
          have HG := Lib.hid hg
          clear e0 hd hd' ho h hg hsz hfp hs hs'
          go_enter Tryz.func17, Tryz.ntmps17
          go_wp2_with (first | (go_at_call 47; refine hh.mono ?_; rintro e w' ⟨rfl, rfl⟩) | (go_at_call 48; refine hy.mono ?_; rintro e w1 ⟨rfl, hm⟩; obtain ⟨fp1, ⟨mb1, es1, clk1, lv1, h1, hfp1⟩, hu1, hf1⟩ := hm; have d0 := h1.cells.1; obtain ⟨hln, hmu⟩ := new_file h1 ((tick_get D n).trans HG.out); have H1 := Lib.hid h1; have HF1 := Lib.hid hfp1; have HU1 := Lib.hid hu1; have HLN := Lib.hid hln; clear h1 hfp1 hu1 hln))
          go_ret
          refine ⟨rfl, Moves.trans HU1.out hf1 ?_⟩
          have H1 := H1.out
          have hgt : D.tick.get n = none := (tick_get D n).trans HG.out
          have hml := lt_of_block H1.map
          refine ⟨_, ⟨mb1, _, _, lv1, H1.push (v := .slice (some ⟨w1.heap.size, 0, none⟩) 0 0) (wf_push H1.wf hi hgt (by rw [(tick_files D).1]; omega)) ?_ ?_ ?_ (heap_setBlock_same (o' := .map es1 clk1) ((Below.heap_alloc w1 _ _ hml).trans H1.map)), rfl⟩, ?_, ?_⟩
          · exact ⟨w1.heap.size, 0, #[], rfl, (heap_setBlock_other (by omega)).trans (heap_alloc_new w1 _), Nat.le_refl _, Nat.le_refl _, by simp, rfl⟩
          · intro g hg; simp [Value.ownBlock] at hg; omega
          · intro k hk hne
            rw [heap_setBlock_other (Ne.symm hne), Below.heap_alloc w1 _ _ hk]
          · exact ((Upd.refl _ w1).alloc _).setBlock (.inl (by rw [HF1.out]; simp [foot])) _
          · intro b hb
            rw [HF1.out]
            simp only [foot, Array.toList_push, List.filterMap_append, List.mem_cons, List.mem_append] at hb ⊢
            rcases hb with h | h | h | h | h
            · exact .inl (.inl h)
            · exact .inl (.inr (.inl h))
            · exact .inl (.inr (.inr (.inl h)))
            · exact .inl (.inr (.inr (.inr h)))
            · right; simp [Value.ownBlock] at h; omega
end Go.Proofs.YtogkdoooimcemaaGreatDoor

/- Disk9 -/
namespace Go.Proofs.YtogkdoooimcemaaGreatDoor
open Go Go.RowKit
open Go.ChangeMaps (setBlock)
set_option maxRecDepth 20000

section
variable {w w' : World} {p : Nat} {D : Dk} {mb : Nat} {es : Array MapEntry} {clk : Nat} {lv : Value}
/-- the loose list is turned, and the struct's field with it -/
theorem DAt.looseTo (h : DAt w p D mb es clk lv) {L : List (Int × Nat)} {lv' : Value} (hp : w'.heap[p]? = some (.cells (dcells mb lv' D) 46 (0, 0)))
    (hk : ∀ k, k < w.heap.size → k ≠ p → lv.ownBlock ≠ some k → w'.heap[k]? = w.heap[k]?) (hl : w'.ownsRow 0 83 2 lv' L.length (lcells L)) (hw : ({ D with loose := L } : Dk).WF) :
    DAt w' p { D with loose := L } mb es clk lv' := by
  have ha := h.apart
  refine ⟨hp, (hk mb (lt_of_block h.map) (Ne.symm ha.1) (fun e => (ha.2.1 mb e).2.1 rfl)).trans h.map, ents_keep h.ents fun e he g hg hgl => hk g hgl (ha.2.2 e he g hg).1 (ha.2.2 e he g hg).2.2.2, h.born, h.clk, h.blocks, hl, hw⟩
theorem DAt.loose_slice (h : DAt w p D mb es clk lv) : ∃ a n c, lv = .slice a n c := by
  rcases h.loose.2 with ⟨h, _⟩ | ⟨g, cap, cur, h, _⟩ <;> exact ⟨_, _, _, h⟩
theorem nodup_swap {es : List MapEntry} {n : Int} {u v : Value} {g : Nat} (hi : IntKeys es) (hn : (es.map (·.key)).Nodup) (h : lookE es n = some u) (hv : v.ownBlock = some g) (hg : ∀ e ∈ es, e.val.ownBlock ≠ some g)
    (hnd : (es.filterMap (·.val.ownBlock)).Nodup) : ((putE es n v).filterMap (·.val.ownBlock)).Nodup := by
  clear h
  induction es with
  | nil => simp [putE]
  | cons e es ih =>
    obtain ⟨k, hk⟩ := hi e (by simp)
    simp only [List.map_cons, List.nodup_cons] at hn
    have hi' : IntKeys es := fun x hx => hi x (by simp [hx])
    have hg' : ∀ e ∈ es, e.val.ownBlock ≠ some g := fun x hx => hg x (by simp [hx])
    have hnd' : (es.filterMap (·.val.ownBlock)).Nodup := by
      simp only [List.filterMap_cons] at hnd
      split at hnd
      · exact hnd
      · exact (List.nodup_cons.1 hnd).2
    have e1 : putE (e :: es) n v = (if k = n then { e with val := v } else e) :: putE es n v := by simp [putE, hk]
    by_cases hkn : k = n
    · subst hkn
      have e2 : putE es k v = es := by
        unfold putE
        conv => rhs; rw [← List.map_id es]
        apply List.map_congr_left
        intro x hx
        obtain ⟨q, hq⟩ := hi' x hx
        have : q ≠ k := by rintro rfl; exact hn.1 (List.mem_map.2 ⟨x, hx, hq.trans hk.symm⟩)
        simp [hq, this]
      rw [e1, e2, if_pos rfl, List.filterMap_cons]
      simp only [hv]
      refine List.nodup_cons.2 ⟨?_, hnd'⟩
      intro hm
      obtain ⟨x, hx, hxg⟩ := List.mem_filterMap.1 hm
      exact hg' x hx hxg
    · rw [e1, if_neg hkn, List.filterMap_cons]
      have ih' := ih hi' hn.2 hg' hnd'
      split
      · exact ih'
      · rename_i b hb
        refine List.nodup_cons.2 ⟨?_, ih'⟩
        intro hm
        obtain ⟨x, hx, hxg⟩ := List.mem_filterMap.1 hm
        obtain ⟨z, hz, q, hq, _, _, h3⟩ := putE_mem hi' hx
        rcases h3 with ⟨rfl, h3⟩ | ⟨_, rfl⟩
        · rw [h3, hv] at hxg
          exact hg e (by simp) (by rw [hb]; exact hxg.symm)
        · simp only [List.filterMap_cons, hb] at hnd
          exact (List.nodup_cons.1 hnd).1 (List.mem_filterMap.2 ⟨x, hz, hxg⟩)
theorem block_uniq {l : List MapEntry} {e x : MapEntry} {g : Nat} (hbl : (l.filterMap (·.val.ownBlock)).Nodup) (he : e ∈ l) (hx : x ∈ l) (hg : e.val.ownBlock = some g) (hug : x.val.ownBlock = some g) : e = x := by
  induction l with
  | nil => cases he
  | cons z l ih =>
    simp only [List.filterMap_cons] at hbl
    rcases List.mem_cons.1 he with rfl | h1
    · rcases List.mem_cons.1 hx with rfl | h2
      · rfl
      · rw [hg] at hbl
        exact absurd (List.mem_filterMap.2 ⟨x, h2, hug⟩) (List.nodup_cons.1 hbl).1
    · rcases List.mem_cons.1 hx with rfl | h2
      · rw [hug] at hbl
        exact absurd (List.mem_filterMap.2 ⟨e, h1, hg⟩) (List.nodup_cons.1 hbl).1
      · refine ih ?_ h1 h2
        split at hbl
        · exact hbl
        · exact (List.nodup_cons.1 hbl).2
/-- a file is turned -/
theorem DAt.put (h : DAt w p D mb es clk lv) {n : Int} {u v : Value} {b : List UInt8} (hu : lookE es.toList n = some u) (hv : FileAt w' v b)
    (hvb : v.ownBlock = u.ownBlock ∨ ∃ g, v.ownBlock = some g ∧ w.heap.size ≤ g)
    (hk : ∀ k, k < w.heap.size → k ≠ mb → u.ownBlock ≠ some k → w'.heap[k]? = w.heap[k]?) (hm : w'.heap[mb]? = some (.map (putE es.toList n v).toArray clk))
    (hw : ({ D with files := Dk.setF D.files n b } : Dk).WF) :
    DAt w' p { D with files := Dk.setF D.files n b } mb (putE es.toList n v).toArray clk lv := by
  have ha := h.apart
  have hi := ents_keys h.ents
  have hnd := ents_nodup h.ents h.wf.keys
  obtain ⟨x, hx, hxk, hxu⟩ := lookE_mem hi hu
  have hub : ∀ g, u.ownBlock = some g → g ≠ p ∧ g ≠ mb ∧ g < w.heap.size ∧ lv.ownBlock ≠ some g := fun g hg => ha.2.2 x hx g (by rw [hxu]; exact hg)
  refine ⟨(hk p (lt_of_block h.blk) ha.1 (fun e => (hub p e).1 rfl)).trans h.blk, hm, ?_, ?_, ?_, ?_, row_keep h.loose fun g hg hl => hk g hl (ha.2.1 g hg).2.1 (fun e => (hub g e).2.2.2 hg), hw⟩
  · -- the other files lie as they lay
    have key : ∀ (es' : List MapEntry) (l : List (Int × List UInt8)), All2 (EntAt w) es' l → (∀ e ∈ es', e ∈ es.toList) → All2 (EntAt w') (putE es' n v) (Dk.setF l n b) := by
      intro es' l
      induction es' generalizing l with
      | nil => cases l <;> intro hh _ <;> first | trivial | exact hh.elim
      | cons e es' ih =>
        cases l with
        | nil => intro hh _; exact hh.elim
        | cons f l =>
          intro hh hs
          refine ⟨?_, ih l hh.2 (fun y hy => hs y (by simp [hy]))⟩
          obtain ⟨h1, h2⟩ := hh.1
          by_cases hn : f.1 = n
          · simp only [h1, hn, if_true]; exact ⟨rfl, hv⟩
          · simp only [h1, hn, if_false]
            refine ⟨h1, h2.keep fun g hg hgl => hk g hgl (ha.2.2 e (hs e (by simp)) g hg).2.1 ?_⟩
            intro hug
            -- one block, two entries
            have hee := hs e (by simp)
            have : e = x := block_uniq h.blocks hee hx hg (by rw [hxu]; exact hug)
            rw [this, hxk] at h1
            simp at h1; exact hn h1.symm
    exact key _ _ h.ents (fun _ h => h)
  · rw [(putE_keys _ _ _).2]; exact h.born
  · intro y hy
    obtain ⟨z, hz, _, _, _, h2, _⟩ := putE_mem hi hy
    rw [h2]; exact h.clk z hz
  · rcases hvb with hvb | ⟨g, hg, hgw⟩
    · have e1 := congrArg (List.filterMap id) (putE_blocks hi hnd hu hvb)
      simp only [List.filterMap_map] at e1
      have e2 : (putE es.toList n v).filterMap (·.val.ownBlock) = es.toList.filterMap (·.val.ownBlock) := e1
      show ((putE es.toList n v).filterMap (·.val.ownBlock)).Nodup
      rw [e2]; exact h.blocks
    · exact nodup_swap hi hnd hu hg (fun e he heg => by have := (ha.2.2 e he g heg).2.2.1; omega) h.blocks
end
theorem take_left_len {α : Type} {A C : List α} {n : Nat} (h : A.length = n) : (A ++ C).take n = A := by subst h; exact List.take_left
theorem bvs_append (a b : List UInt8) : bvs (a ++ b) = bvs a ++ bvs b := by simp [bvs]
/-- a string's bytes behind a file's -/
theorem run_append_file {w : World} {v : Value} {l : List UInt8} (h : FileAt w v l) (s : ByteArray) (hb : l.length + s.size ≤ 1099511627776) (ty : TypeId) :
    ∃ v' w', (Builtin.append_ #[61, 9] ty #[v, .string s]).run Tryz.prog w = .ok v' w' ∧ FileAt w' v' (l ++ s.data.toList) ∧ w.grownBy w' v.ownBlock ∧
      (v'.ownBlock = v.ownBlock ∨ v'.ownBlock = some w.heap.size) := by
  obtain ⟨i0, hi, hz0, hz1, hz2⟩ := info_parts (P := Tryz.prog) (e := 5) (z := .int .u8 0) (size := 1) (bytes := 1) (by kernel_rfl)
  obtain ⟨g, cap, cur, rfl, hg, h1, h2, h3, h4⟩ := h
  have hlen : (l ++ s.data.toList).length = l.length + s.size := by rw [List.length_append, Array.length_toList]; rfl
  have hsc : Lib.strCells s = bvs s.data.toList := rfl
  by_cases hroom : l.length + s.size ≤ cap
  · refine ⟨_, _, Lib.run_append_room_string w 61 9 ty 5 i0 Tryz.underlying61 Tryz.underlying9 hi hz1 g l.length cap cur hg s hroom (by omega), ?_, ?_, .inl rfl⟩
    · refine ⟨g, cap, _, by rw [hlen], setRow_heap w g cur _ _ _ hg, by omega, ?_, ?_, ?_⟩
      · simp [Lib.strCells_length]; omega
      · simp [Lib.strCells_length]; omega
      · rw [hlen, h4, hsc]
        have e1 : (bvs l ++ bvs s.data.toList).length = l.length + s.size := by rw [List.length_append]; simp only [bvs, List.length_map, Array.length_toList]; rfl
        rw [take_left_len e1, bvs_append]
    · exact ⟨rfl, rfl, rfl, by simp, fun k hk hne => setRow_other w g k _ (by rintro rfl; exact hne rfl)⟩
  · have hcap : cap < l.length + s.size := by omega
    have hcell : ∀ j v, (bvs l)[j]? = some v → w.cell? ((⟨g, 0, none⟩ : Addr).add j) = some v := by
      intro j v hj
      have hjl : j < l.length := by
        have := (List.getElem?_eq_some_iff.1 hj).1
        simpa [bvs] using this
      rw [addr_add, Nat.zero_add, FileAt.cell hg h4 j hjl]
      simp [bvs, hjl] at hj
      rw [← hj]
    have hrun := Lib.run_append_grow_string w 61 9 ty 5 i0 _ Tryz.underlying61 Tryz.underlying9 hi hz0 ⟨g, 0, none⟩ l.length cap (bvs l) (by simp [bvs, hz1]) hcell s hcap (by omega)
      (growslice_fits hcap (by rw [hz2]; omega))
    have hge := grownCap_ge w (l.length + s.size) cap 5
    have hle := grownCap_le_maxLen w (l.length + s.size) cap 5 (by unfold maxLen; omega)
    refine ⟨_, _, hrun, ?_, ?_, .inr rfl⟩
    · refine ⟨w.heap.size, _, _, by rw [hlen], heap_alloc_new w.drew _, by omega, ?_, ?_, ?_⟩
      · simp [Lib.strCells_length, size_zeroCells, bvs, Value.cells]; omega
      · simp [Lib.strCells_length, size_zeroCells, bvs, Value.cells]; omega
      · rw [hlen, hsc]
        have e1 : (bvs l ++ bvs s.data.toList).length = l.length + s.size := by rw [List.length_append]; simp only [bvs, List.length_map, Array.length_toList]; rfl
        simp only [Array.toList_append]
        rw [take_left_len e1, bvs_append]
    · exact ⟨rfl, rfl, rfl, by simp, fun k hk _ => Below.heap_alloc w.drew _ k hk⟩
end Go.Proofs.YtogkdoooimcemaaGreatDoor

/- Slice -/
namespace Go.Proofs.YtogkdoooimcemaaGreatDoor
open Go Go.RowKit
open Go.ChangeMaps (setBlock)

/-- v is a slice of just these cells, from the front of a block on -/
def RowAt (w : World) (e : TypeId) (v : Value) (xs : List Value) : Prop :=
  (v = .slice none 0 0 ∧ xs = []) ∨ ∃ g cap cur, v = .slice (some ⟨g, 0, none⟩) xs.length cap ∧ w.heap[g]? = some (.cells cur e (0, 0)) ∧ xs.length ≤ cap ∧ cap ≤ cur.size ∧ cap ≤ maxLen ∧ cur.toList.take xs.length = xs
theorem RowAt.nil (w : World) (e : TypeId) : RowAt w e (.slice none 0 0) [] := .inl ⟨rfl, rfl⟩
theorem RowAt.keep {w w' : World} {e : TypeId} {v : Value} {xs : List Value} (h : RowAt w e v xs) (hk : ∀ g, v.ownBlock = some g → g < w.heap.size → w'.heap[g]? = w.heap[g]?) : RowAt w' e v xs := by
  rcases h with h | ⟨g, cap, cur, rfl, hg, h⟩
  · exact .inl h
  · exact .inr ⟨g, cap, cur, rfl, (hk g rfl (lt_of_block hg)).trans hg, h⟩
theorem RowAt.upd {w w' : World} {e : TypeId} {v : Value} {xs : List Value} {fp : List Nat} (h : RowAt w e v xs) (hu : Upd fp w w') (hn : ∀ g, v.ownBlock = some g → g ∉ fp) : RowAt w' e v xs :=
  h.keep fun g hg hl => hu.block g hl (hn g hg)
theorem RowAt.lt {w : World} {e : TypeId} {v : Value} {xs : List Value} (h : RowAt w e v xs) : ∀ g, v.ownBlock = some g → g < w.heap.size := by
  intro g hg
  rcases h with ⟨rfl, _⟩ | ⟨g', cap, cur, rfl, h1, _⟩
  · simp [Value.ownBlock] at hg
  · simp [Value.ownBlock] at hg; subst hg; exact lt_of_block h1
theorem RowAt.type {w : World} {e : TypeId} {v : Value} {xs : List Value} (h : RowAt w e v xs) : ∀ g, v.ownBlock = some g → ∃ cur, w.heap[g]? = some (.cells cur e (0, 0)) := by
  intro g hg
  rcases h with ⟨rfl, _⟩ | ⟨g', cap, cur, rfl, h1, _⟩
  · simp [Value.ownBlock] at hg
  · simp [Value.ownBlock] at hg; subst hg; exact ⟨cur, h1⟩
theorem RowAt.of_owns {w : World} {base : Nat} {e : TypeId} {v : Value} {n : Nat} {xs : List Value} (h : w.ownsRow base e 1 v n xs) : RowAt w e v xs := by
  have hl : xs.length = n := by have := h.1; omega
  rcases h.2 with ⟨rfl, h0⟩ | ⟨g, cap, cur, rfl, _, hg, h1, h2, h3, h4⟩
  · exact .inl ⟨rfl, List.eq_nil_of_length_eq_zero (by omega)⟩
  · refine .inr ⟨g, cap, cur, by rw [hl], hg, by omega, by omega, h2, ?_⟩
    rw [hl]; simpa using h4
theorem RowAt.cell {w : World} {e : TypeId} {g len cap : Nat} {xs : List Value} (h : RowAt w e (.slice (some ⟨g, 0, none⟩) len cap) xs) (j : Nat) (u : Value) (hj : xs[j]? = some u) : w.cell? ⟨g, j, none⟩ = some u := by
  rcases h with ⟨h, _⟩ | ⟨g', cap', cur, hv, hg, h1, h2, h3, h4⟩
  · simp at h
  · simp at hv
    obtain ⟨rfl, rfl, rfl⟩ := hv
    rw [cell_of_row w _ _ _ _ _ hg]
    have hl : j < xs.length := (List.getElem?_eq_some_iff.1 hj).1
    have : (cur.toList.take xs.length)[j]? = some u := by rw [h4]; exact hj
    rw [List.getElem?_take, if_pos hl] at this
    simpa using this
/-- what is appended: cells that can be read -/
def ReadAt (w : World) (x : Value) (news : List Value) : Prop :=
  (∃ a c, x = .slice a 0 c ∧ news = []) ∨ ∃ a c, x = .slice (some a) news.length c ∧ ∀ j u, news[j]? = some u → w.cell? (a.add j) = some u
theorem RowAt.reads {w : World} {e : TypeId} {v : Value} {xs : List Value} (h : RowAt w e v xs) : ReadAt w v xs := by
  rcases h with ⟨rfl, rfl⟩ | ⟨g, cap, cur, rfl, h⟩
  · exact .inl ⟨_, _, rfl, rfl⟩
  · refine .inr ⟨_, _, rfl, fun j u hj => ?_⟩
    have ha : Addr.add ⟨g, 0, none⟩ j = ⟨g, j, none⟩ := by unfold Addr.add; split <;> simp_all
    rw [ha]
    exact RowAt.cell (.inr ⟨g, cap, cur, rfl, h⟩) j u hj

theorem run_append_row {w : World} {t e : TypeId} {i : TypeInfo} {z : Value} (ht : Tryz.prog.underlying t = some (.slice e)) (hi : Tryz.prog.info? e = some i) (hz : i.zero = some z) (hs1 : i.size = 1) (hzs : z.cells.size = 1) (hby : i.bytes ≤ 64)
    {v x : Value} {xs news : List Value} (h : RowAt w e v xs) (hx : ReadAt w x news) (h1 : ∀ u ∈ news, u.oneCell' = true) (hb : xs.length + news.length ≤ 1099511627776) (ty : TypeId) :
    ∃ v' w', (Builtin.append_ #[t, t] ty #[v, x]).run Tryz.prog w = .ok v' w' ∧ RowAt w' e v' (xs ++ news) ∧ w.grownBy w' v.ownBlock ∧ (v'.ownBlock = v.ownBlock ∨ v'.ownBlock = some w.heap.size) := by
  have hbytes : (xs.length + news.length) * i.bytes ≤ 140737488355328 := Nat.le_trans (Nat.mul_le_mul hb hby) (by omega)
  have hlen : (xs ++ news).length = xs.length + news.length := by simp
  rcases Nat.eq_zero_or_pos news.length with h0 | h0
  · have hn : news = [] := List.eq_nil_of_length_eq_zero h0
    subst hn
    obtain ⟨a, c, rfl⟩ : ∃ a c, x = .slice a 0 c := by
      rcases hx with ⟨a, c, rfl, _⟩ | ⟨a, c, rfl, _⟩
      · exact ⟨_, _, rfl⟩
      · exact ⟨_, _, rfl⟩
    refine ⟨v, w, ?_, by simpa using h, ⟨rfl, rfl, rfl, Nat.le_refl _, fun _ _ _ => rfl⟩, .inl rfl⟩
    rcases h with ⟨rfl, rfl⟩ | ⟨g, cap, cur, rfl, hg, h2, h3, h4, h5⟩
    · cases a <;> simp [Builtin.append_, run_underlying ht, sizeOf, typeInfo, hi, Builtin.lenOf, Builtin.firstCells, loadCells, loadCellsFrom]
    · have hl : xs.length ≤ cap := h2
      cases a with
      | none => simp [Builtin.append_, run_underlying ht, sizeOf, typeInfo, hi, Builtin.lenOf, Builtin.firstCells, loadCells, loadCellsFrom, hl, storeCells]
      | some a => simp [Builtin.append_, run_underlying ht, sizeOf, typeInfo, hi, Builtin.lenOf, Builtin.firstCells, loadCells, loadCellsFrom, hl, storeCells]
  · obtain ⟨a, c, rfl, hcell⟩ : ∃ a c, x = .slice (some a) news.length c ∧ ∀ j u, news[j]? = some u → w.cell? (a.add j) = some u := by
      rcases hx with ⟨a, c, rfl, rfl⟩ | h
      · simp at h0
      · exact h
    have grown : ∀ (old : Nat), old < xs.length + news.length →
        RowAt (w.drew.alloc (.cells (xs.toArray ++ news.toArray ++ Builtin.zeroCells z.cells (grownCap w (xs.length + news.length) old e - (xs.length + news.length))) e)) e
          (.slice (some ⟨w.heap.size, 0, none⟩) (xs.length + news.length) (grownCap w (xs.length + news.length) old e)) (xs ++ news) ∧
        ∀ row, w.grownBy (w.drew.alloc (.cells (xs.toArray ++ news.toArray ++ Builtin.zeroCells z.cells (grownCap w (xs.length + news.length) old e - (xs.length + news.length))) e)) row := by
      intro old ho
      have hge := grownCap_ge w (xs.length + news.length) old e
      have hcm : grownCap w (xs.length + news.length) old e ≤ maxLen := grownCap_le_maxLen w _ old e (by unfold maxLen; omega)
      refine ⟨.inr ⟨w.heap.size, _, _, by rw [hlen], heap_alloc_new w.drew _, by omega, ?_, hcm, ?_⟩, fun row => ⟨rfl, rfl, rfl, by simp, fun k hk _ => Below.heap_alloc w.drew _ k hk⟩⟩
      · simp only [Array.size_append, List.size_toArray, size_zeroCells, hzs]
        omega
      · simp only [Array.toList_append, List.append_assoc]
        rw [← List.append_assoc]
        exact List.take_left
    rcases h with ⟨rfl, rfl⟩ | ⟨g, cap, cur, rfl, hg, h2, h3, h4, h5⟩
    · have hr := run_append_nil (P := Tryz.prog) w t ty e i z ht hi hz a news.length c news (by rw [hs1]; omega) hcell h0 (by simp at hb; omega) (by simp at hbytes; omega)
      have hgr := grown 0 (by omega)
      simp only [List.length_nil, Nat.zero_add, List.nil_append, Array.empty_append] at hgr ⊢
      exact ⟨_, _, hr, hgr.1, hgr.2 _, .inr rfl⟩
    · by_cases hroom : xs.length + news.length ≤ cap
      · have hr := run_append_room (P := Tryz.prog) w t ty e i ht hi g xs.length cap cur hg a news.length c news (by rw [hs1]; omega) hcell h1 hroom (by rw [hs1]; omega)
        refine ⟨_, _, hr, .inr ⟨g, cap, _, by rw [hlen], setRow_heap w g cur _ e _ hg, by omega, ?_, h4, ?_⟩, ⟨rfl, rfl, rfl, by simp, fun k _ hk => setRow_other w g k _ (fun e => hk (by simp [Value.ownBlock, e]))⟩, .inl rfl⟩
        · simp only [List.size_toArray, List.length_append, List.length_take, List.length_drop, Array.length_toList, hs1]
          omega
        · rw [hs1, Nat.mul_one, h5]
          exact List.take_left
      · have holds : ∀ j u, xs[j]? = some u → w.cell? ((⟨g, 0, none⟩ : Addr).add j) = some u := by
          intro j u hj
          have ha : Addr.add ⟨g, 0, none⟩ j = ⟨g, j, none⟩ := by unfold Addr.add; split <;> simp_all
          rw [ha]
          exact RowAt.cell (.inr ⟨g, cap, cur, rfl, hg, h2, h3, h4, h5⟩) j u hj
        have hr := run_append_grow (P := Tryz.prog) w t ty e i z ht hi hz ⟨g, 0, none⟩ xs.length cap xs (by rw [hs1]; omega) holds a news.length c news (by rw [hs1]; omega) hcell (by omega) (by omega) (growslice_fits (by omega) hbytes)
        have hgr := grown cap (by omega)
        exact ⟨_, _, hr, hgr.1, hgr.2 _, .inr rfl⟩
end Go.Proofs.YtogkdoooimcemaaGreatDoor
