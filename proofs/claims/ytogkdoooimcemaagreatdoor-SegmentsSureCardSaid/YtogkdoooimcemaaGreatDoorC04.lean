/- The disk's Append. Conditions: the disk lies in memory.
  The disk's Sync and Delete. Conditions: the disk lies in memory.
  The disk's Truncate. Conditions: the disk lies in memory. -/
import Derived.Test.YtogkdoooimcemaaGreatDoorC03
import Derived.Maps.AppendAt
/- Disk10 -/
namespace Go.Proofs.YtogkdoooimcemaaGreatDoor
open Go Go.RowKit
open Go.ChangeMaps (setBlock)
set_option maxRecDepth 20000

theorem keys_setF (l : List (Int × List UInt8)) (n : Int) (b : List UInt8) : (Dk.setF l n b).map (·.1) = l.map (·.1) := by
  unfold Dk.setF
  rw [List.map_map]
  apply List.map_congr_left
  intro f _
  simp only [Function.comp]
  split <;> rfl
theorem getF_setF (l : List (Int × List UInt8)) (n m : Int) (b : List UInt8) : Dk.getF (Dk.setF l n b) m = if m = n then (Dk.getF l n).map (fun _ => b) else Dk.getF l m := by
  induction l with
  | nil => simp [Dk.setF, Dk.getF]
  | cons f l ih =>
    have e : Dk.setF (f :: l) n b = (if f.1 = n then (f.1, b) else f) :: Dk.setF l n b := rfl
    rw [e, getF_cons, getF_cons, getF_cons, ih]
    by_cases h1 : f.1 = n
    · by_cases h2 : m = n
      · subst h2; simp [h1]
      · have : ¬ n = m := fun e => h2 e.symm
        simp [h1, h2, this]
    · by_cases h2 : m = n
      · subst h2; simp [h1]
      · simp [h1, h2]
theorem total_setF (l : List (Int × List UInt8)) (n : Int) (b b0 : List UInt8) (hn : (l.map (·.1)).Nodup) (h : Dk.getF l n = some b0) : Dk.total (Dk.setF l n b) + b0.length = Dk.total l + b.length := by
  induction l with
  | nil => simp [Dk.getF] at h
  | cons f l ih =>
    simp only [List.map_cons, List.nodup_cons] at hn
    rw [getF_cons] at h
    have e : Dk.setF (f :: l) n b = (if f.1 = n then (f.1, b) else f) :: Dk.setF l n b := rfl
    by_cases h1 : f.1 = n
    · rw [if_pos h1] at h; cases h
      have e2 : Dk.setF l n b = l := by
        unfold Dk.setF
        conv => rhs; rw [← List.map_id l]
        apply List.map_congr_left
        intro x hx
        have : x.1 ≠ n := by rintro h2; exact hn.1 (List.mem_map.2 ⟨x, hx, h2.trans h1.symm⟩)
        simp [this]
      rw [e, e2]
      simp [Dk.total, h1]; omega
    · rw [if_neg h1] at h
      have := ih hn.2 h
      rw [e]
      simp [Dk.total, h1] at this ⊢; omega
theorem wf_grow {D : Dk} (h : D.WF) {n : Int} {b s : List UInt8} (hb : D.get n = some b) (hf : (s.length : Int) ≤ D.free) : ({ D with files := Dk.setF D.files n (b ++ s) } : Dk).WF := by
  have ht := total_setF D.files n (b ++ s) b h.keys hb
  have hcap := h.cap
  refine ⟨by show ((Dk.setF _ _ _).map _).Nodup; rw [keys_setF]; exact h.keys, ?_, h.cap, fun m => ?_, h.long, by simp [Dk.setF]; exact h.many, h.left, h.keep, h.fails, h.starts, by show ∀ f ∈ (Dk.setF _ _ _).map _, _; rw [keys_setF]; exact h.ints⟩
  · unfold Dk.free at hf
    simp at ht
    show Dk.total (Dk.setF D.files n (b ++ s)) ≤ D.cap
    omega
  · refine Nat.le_trans (h.offs m) ?_
    show _ ≤ ((Dk.getF (Dk.setF D.files n (b ++ s)) m).getD []).length
    rw [getF_setF]
    split
    · rename_i e; subst e
      unfold Dk.get at hb
      rw [hb]; simp
    · exact Nat.le_refl _
theorem wf_put {D : Dk} (h : D.WF) {n : Int} {b s : List UInt8} (hb : D.get n = some b) (hf : (s.length : Int) ≤ D.free) (hl : D.loose.length < 1000000) : (D.put n s).WF := by
  have h1 := wf_grow h hb hf
  unfold Dk.put
  rw [hb]
  refine ⟨h1.keys, h1.size, h1.cap, fun m => ?_, by simp; omega, h1.many, h1.left, h1.keep, h1.fails, h1.starts, h1.ints⟩
  show Dk.of (D.loose ++ [(n, s.length)]) m ≤ ((Dk.getF (Dk.setF D.files n (b ++ s)) m).getD []).length
  rw [Dk.of_append, getF_setF]
  have := h.offs m
  by_cases e : m = n
  · subst e
    unfold Dk.get at hb
    rw [hb] at this ⊢
    simp [Dk.of] at this ⊢; omega
  · have e' : ¬ n = m := fun h => e h.symm
    simp [Dk.of, e, e'] at this ⊢; exact this

theorem append_no {w : World} {p : Nat} {D : Dk} {fp : List Nat} (h : DiskAt w p D fp) (n : Int) (s : ByteArray) (hn : D.has n ≠ 0) :
    Calls Tryz.prog 19 #[.pointer (some ⟨p, 0, none⟩), .int .i64 n, .string s] w fun e w' => e = .returned (.int .i64 (D.has n)) ∧ w = w' := by
  have hr := has_at h n
  generalize D.has n = x at *
  clear h
  have hx : (x != 0) = true := by simpa using hn
  clear hn
  go_enter Tryz.func19, Tryz.ntmps19
  go_wp2_with (go_at_call 47; refine hr.mono ?_; rintro e w' ⟨rfl, rfl⟩)
  go_ret
  exact ⟨rfl, rfl⟩
theorem append_full {w : World} {p : Nat} {D : Dk} {fp : List Nat} (h : DiskAt w p D fp) (n : Int) (s : ByteArray) (hn : D.has n = 0) (hs : (s.size : Int) > D.free) :
    Calls Tryz.prog 19 #[.pointer (some ⟨p, 0, none⟩), .int .i64 n, .string s] w fun e w' => e = .returned (.int .i64 60) ∧ Moves w p fp D w' := by
  have hr := has_at h n
  have hf := free_at h
  have H := Lib.hid h
  rw [hn] at hr
  generalize D.free = x at *
  have hs' : x < (s.size : Int) := hs
  clear h hn hs
  go_enter Tryz.func19, Tryz.ntmps19
  go_wp2_with (first | (go_at_call 47; refine hr.mono ?_; rintro e w' ⟨rfl, rfl⟩) | (go_at_call 35; refine hf.mono ?_; rintro e w' ⟨rfl, hu⟩))
  go_ret
  exact ⟨rfl, Moves.below hu (Moves.refl (H.out.upd hu (by simp)))⟩
set_option maxHeartbeats 1000000 in
theorem append_yes {w : World} {p : Nat} {D : Dk} {fp : List Nat} (h : DiskAt w p D fp) (ho : D.Ok) (n : Int) (s : ByteArray) (hn : D.has n = 0) (hs : (s.size : Int) ≤ D.free) (hl : D.loose.length < 1000000) :
    Calls Tryz.prog 19 #[.pointer (some ⟨p, 0, none⟩), .int .i64 n, .string s] w fun e w' => e = .returned (.int .i64 ((D.put n s.data.toList).step id).2) ∧ Moves w p fp ((D.put n s.data.toList).step id).1 w' := by
  have hr := has_at h n
  have hf := free_at h
  rw [hn] at hr
  have hfp := h
  obtain ⟨b, hb, hd⟩ : ∃ b, D.get n = some b ∧ D.down = false := by
    unfold Dk.has at hn
    split at hn
    · cases hn
    · rename_i hd
      cases e : D.get n with
      | none => rw [e] at hn; cases hn
      | some b => exact ⟨b, rfl, by simpa using hd⟩
  have hs' : (s.data.toList.length : Int) ≤ D.free := hs
  have hwf := h.wf
  have hw1 := wf_grow hwf hb hs'
  have hw2 := wf_put hwf hb hs' hl
  have hbl := hwf.len hb
  have hfr : D.free ≤ 1048576 := by unfold Dk.free; have := hwf.cap; omega
  have HW1 := Lib.hid hw1; have HW2 := Lib.hid hw2; have HB := Lib.hid hb; have HD := Lib.hid hd; have HO := Lib.hid ho; have H := Lib.hid h
  clear hw1 hw2 hb hd h hn hs' hwf ho hfp
  go_enter Tryz.func19, Tryz.ntmps19
  go_wp2_with (first | (go_at_call 47; refine hr.mono ?_; rintro e w' ⟨rfl, rfl⟩) | (go_at_call 35; refine hf.mono ?_; rintro e w1 ⟨rfl, hu⟩))
  -- the bytes behind the file's
  have H1 : DiskAt w1 p D fp := H.out.upd hu (by simp)
  obtain ⟨mb, es, clk, lv, h1, hfp⟩ := H1
  have c0 := h1.cells.1
  rcases look_at h1 n with ⟨v, b', hb', hlk, hfile, hlook, -⟩ | ⟨hb', -⟩
  · rw [HB.out] at hb'
    cases hb'
    have hmap := h1.map
    obtain ⟨v2, w2, hrun, hf2, hg2, hv2⟩ := run_append_file (w := w1.drew) (v := v) (l := b) hfile s (by omega) 61
    have hap := h1.apart
    obtain ⟨gv0, hgv0, _⟩ := hfile.block
    obtain ⟨xe, hxe, _, hxv⟩ := lookE_mem (ents_keys h1.ents) hlk
    have hgvx := hap.2.2 xe hxe gv0 (by rw [hxv]; exact hgv0)
    have hmap2 : w2.heap[mb]? = some (.map es clk) := by
      rw [hg2.block mb (lt_of_block hmap) (by rw [hgv0]; simp; exact Ne.symm hgvx.2.1)]; exact hmap
    have hpl := lt_of_block h1.blk
    have hc2 : w2.cell? ⟨p, 0, none⟩ = some (.map (some mb)) := by
      refine hg2.cell (a := ⟨p, 0, none⟩) (by simpa using c0) ?_
      rw [hgv0]; simp; exact Ne.symm hgvx.1
    have hmu := run_mapUpdate_yes (P := Tryz.prog) (w := w2) Tryz.underlying43 Tryz.underlying3 hmap2 (ents_keys h1.ents) (ents_nodup h1.ents h1.wf.keys) n v v2 hlk
    -- the disk with the file turned
    have hk2 : ∀ k, k < w1.heap.size → k ≠ mb → v.ownBlock ≠ some k → (setBlock w2 mb (.map (putE es.toList n v2).toArray clk)).heap[k]? = w1.heap[k]? := fun k hk hne hno => by
      rw [heap_setBlock_other (Ne.symm hne)]
      exact hg2.block k hk (fun e => hno e.symm)
    have hv2g : ∃ g, v2.ownBlock = some g ∧ g ≠ mb := by
      obtain ⟨g, hg, cur, hcur⟩ := hf2.block
      refine ⟨g, hg, ?_⟩
      rintro rfl; rw [hmap2] at hcur; cases hcur
    have hD2 : DAt (setBlock w2 mb (.map (putE es.toList n v2).toArray clk)) p { D with files := Dk.setF D.files n (b ++ s.data.toList) } mb (putE es.toList n v2).toArray clk lv := by
      refine h1.put hlk (hf2.keep fun g hg hgl => ?_) ?_ hk2 (heap_setBlock_same (o' := .map es clk) hmap2) HW1.out
      · obtain ⟨g', hg', hne⟩ := hv2g
        rw [hg] at hg'; cases hg'
        exact heap_setBlock_other (Ne.symm hne)
      · rcases hv2 with e | e
        · exact .inl e
        · exact .inr ⟨_, e, Nat.le_refl _⟩
    have hu2 : Upd fp w1 (setBlock w2 mb (.map (putE es.toList n v2).toArray clk)) := by
      refine Upd.setBlock ((Upd.refl fp w1).drew.grown hg2 fun k hk => ?_) (.inl (by rw [hfp]; simp [foot])) _
      rw [hgv0] at hk; cases hk
      left; rw [hfp]
      simp only [foot, List.mem_cons, List.mem_append, List.mem_filterMap]
      exact .inr (.inr (.inr ⟨xe, hxe, by rw [hxv]; exact hgv0⟩))
    have hf2' : ∀ b ∈ foot p mb lv (putE es.toList n v2), b ∈ fp ∨ w1.heap.size ≤ b := by
      intro b hb
      rw [hfp]
      simp only [foot, List.mem_cons, List.mem_append, List.mem_filterMap] at hb ⊢
      rcases hb with h | h | h | ⟨y, hy, hyb⟩
      · exact .inl (.inl h)
      · exact .inl (.inr (.inl h))
      · exact .inl (.inr (.inr (.inl h)))
      · obtain ⟨z, hz, k, _, _, _, h3⟩ := putE_mem (ents_keys h1.ents) hy
        rcases h3 with ⟨_, h3⟩ | ⟨_, rfl⟩
        · rw [h3] at hyb
          rcases hv2 with e | e
          · left; right; right; right
            exact ⟨xe, hxe, by rw [hxv, ← e]; exact hyb⟩
          · rw [e] at hyb; cases hyb; exact .inr (Nat.le_refl _)
        · exact .inl (.inr (.inr (.inr ⟨y, hz, hyb⟩)))
    generalize setBlock w2 mb (.map (putE es.toList n v2).toArray clk) = W2 at *
    -- the loose list, one longer
    have e1 := hD2.cells.2.1
    have e1f := hD2.cells.2.2.2.2.2.2.2.2 1
    have hrow := hD2.loose
    obtain ⟨i0, hi, hz0, hz1, hz2⟩ := info_parts (P := Tryz.prog) (e := 83) (z := .agg #[.int .i64 0, .int .i64 0]) (size := 2) (bytes := 16) (by kernel_rfl)
    have hnew : (W2.alloc (.cells #[.int .i64 n, .int .i64 s.size] 83)).heap[W2.heap.size]? = some (.cells #[.int .i64 n, .int .i64 s.size] 83 (0, 0)) := heap_alloc_new W2 _
    obtain ⟨lv2, W3, hrun3, hown3, hgr3, -, hat3⟩ := run_append_own_at (P := Tryz.prog) (w := W2.alloc (.cells #[.int .i64 n, .int .i64 s.size] 83)) 0 44 44 83 i0 _ 2 16 Tryz.underlying44 hi hz0 hz1 hz2 rfl (by decide)
      lv D.loose.length (lcells D.loose) (hrow.alloc _) ⟨W2.heap.size, 0, none⟩ 1 1 [.int .i64 n, .int .i64 s.size] rfl (fun j u hj => by rw [addr_add, cell_of_row _ _ _ _ _ _ hnew]; simpa using hj)
      (by intro u hu; simp at hu; rcases hu with rfl | rfl <;> rfl) (by unfold maxLen; omega) (by omega) (Nat.zero_le _)
    obtain ⟨lg, lc, rfl⟩ : ∃ g c, lv2 = .slice (some ⟨g, 0, none⟩) (D.loose.length + 1) c := by
      rcases hown3.2 with ⟨_, h⟩ | ⟨g', cap', cur', h, _⟩
      · omega
      · exact ⟨_, _, h⟩
    have hp2 := lt_of_block hD2.blk
    have hap2 := hD2.apart
    have hlvp : lv.ownBlock ≠ some p := fun e => (hap2.2.1 p e).1 rfl
    have hb3 : W3.heap[p]? = some (.cells (dcells mb lv D) 46 (0, 0)) := by
      rw [hgr3.block p (by simp; omega) (fun e => hlvp e.symm), Below.heap_alloc W2 _ _ hp2]; exact hD2.blk
    have e3 : W3.cell? ⟨p, 1, none⟩ = some lv := by rw [cell_of_row W3 p _ _ _ _ hb3]; rfl
    have e3f := frozen_of_row W3 p 1 _ _ hb3
    have hlv2p : ∀ g, (Value.slice (some ⟨lg, 0, none⟩) (D.loose.length + 1) lc).ownBlock = some g → g ≠ p := by
      intro g hg
      rcases hown3.2 with ⟨h, _⟩ | ⟨g', cap', cur', h, _, h2, _⟩
      · rw [h] at hg; cases hg
      · rw [h] at hg; cases hg
        rintro rfl; rw [hb3] at h2; cases h2
    have hD4 : DAt (W3.setCell ⟨p, 1, none⟩ (.slice (some ⟨lg, 0, none⟩) (D.loose.length + 1) lc)) p (D.put n s.data.toList) mb (putE es.toList n v2).toArray clk (.slice (some ⟨lg, 0, none⟩) (D.loose.length + 1) lc) := by
      have hwf2 := HW2.out
      unfold Dk.put at hwf2 ⊢
      rw [HB.out] at hwf2 ⊢
      refine hD2.looseTo (L := D.loose ++ [(n, s.data.toList.length)]) (heap_setCell_same W3 p 1 _ _ _ hb3) ?_ ?_ hwf2
      · intro k hk hkp hno
        rw [heap_setCell_other _ _ _ _ (by simpa using hkp), hgr3.block k (by simp; omega) (fun e => hno e.symm), Below.heap_alloc W2 _ _ hk]
      · have e4 : lcells (D.loose ++ [(n, s.data.toList.length)]) = lcells D.loose ++ [.int .i64 n, .int .i64 s.size] := by simp [lcells]
        rw [e4]
        have := row_keep (w' := W3.setCell ⟨p, 1, none⟩ (.slice (some ⟨lg, 0, none⟩) (D.loose.length + 1) lc)) hown3 fun g hg _ => heap_setCell_other _ _ _ _ (by simpa using hlv2p g hg)
        simpa using this
    have hu4 : Upd fp w1 (W3.setCell ⟨p, 1, none⟩ (.slice (some ⟨lg, 0, none⟩) (D.loose.length + 1) lc)) := by
      refine Upd.setCell ((hu2.alloc _).grown hgr3 fun k hk => ?_) (.inl (by rw [hfp]; simp [foot])) _
      left; rw [hfp]; simp only [foot, List.mem_cons, List.mem_append, Option.mem_toList]; exact .inr (.inr (.inl hk))
    have hf4 : ∀ b ∈ foot p mb (.slice (some ⟨lg, 0, none⟩) (D.loose.length + 1) lc) (putE es.toList n v2), b ∈ fp ∨ w1.heap.size ≤ b := by
      intro b hb
      have hb0 := hf2' b
      simp only [foot, List.mem_cons, List.mem_append, Option.mem_toList] at hb hb0
      rcases hb with h | h | h | h
      · exact hb0 (.inl h)
      · exact hb0 (.inr (.inl h))
      · rcases hat3 with e | e
        · exact hb0 (.inr (.inr (.inl (e ▸ h))))
        · rw [e] at h
          simp at h
          right; have := hu2.size; omega
      · exact hb0 (.inr (.inr (.inr h)))
    have HFP := Lib.hid hfp; have HU2 := Lib.hid hu2; have HF2 := Lib.hid hf2'; have HD2 := Lib.hid hD2
    clear hfp hu2 hf2' hD2 hk2 hv2 hv2g hgvx hxv hxe hap hfile hf2 hlk
    have HMU := Lib.hid hmu; have HG2 := Lib.hid hg2; have HM2 := Lib.hid hmap2; have HRUN := Lib.hid hrun; have HRUN3 := Lib.hid hrun3; have HD4 := Lib.hid hD4; have HU4 := Lib.hid hu4; have HF4 := Lib.hid hf4; have HC2 := Lib.hid hc2
    clear hmu hg2 hmap2 hrun hc2 hr hf hrun3 hD4 hu4 hf4 hown3 hgr3 hat3 hnew hi hz0 hz1 hz2 hrow hap2 hlvp hlv2p hb3 h1
    refine wp_region_can [(0, false), (1, false), (2, false), (3, false), (4, false), (5, false), (6, false), (7, false), (8, false), (9, false), (10, false), (11, false), (12, true)] 13
      (fun u => u.cell? ⟨p, 0, none⟩ = some (.map (some mb)) ∧ u.heap[mb]? = some (.map es clk)) (by kernel_rfl) (by kernel_rfl) (fun _ _ d _ _ h => by cases d <;> exact h) ⟨by simpa using c0, hmap⟩ ?_
    simp only [canOps, List.filterMap_cons, List.filterMap_nil, Option.map_some, List.getElem?_toArray, List.getElem?_cons_succ, List.getElem?_cons_zero, List.drop_succ_cons, List.drop_zero]
    repeat (apply can_light rfl; (· intro u hu; obtain ⟨hu0, hu1⟩ := hu; have hlu := hlook u hu1; go_simp; try rfl); simp only [Act.put, List.setIfInBounds_toArray, List.set_cons_zero, List.set_cons_succ])
    refine can_acts rfl fun K' hK' => ?_
    refine wp_append_run rfl HRUN.out (hK' _ _ ⟨HC2.out, HM2.out⟩ (can_nil ?_))
    clear hK' K'
    simp only [Act.put, List.setIfInBounds_toArray, List.set_cons_zero, List.set_cons_succ]
    have hmu := HMU.out
    clear hlook hmap c0
    go_wp2_with (at_builtin; refine Stop.here ?_)
    unfold Stop
    refine wpList_append_run rfl rfl HRUN3.out ?_
    have hD5 : DiskAt (W3.setCell ⟨p, 1, none⟩ (.slice (some ⟨lg, 0, none⟩) (D.loose.length + 1) lc)) p (D.put n s.data.toList) (foot p mb (.slice (some ⟨lg, 0, none⟩) (D.loose.length + 1) lc) (putE es.toList n v2)) := ⟨mb, _, clk, _, HD4.out, rfl⟩
    have HD5 := Lib.hid hD5
    have hd5 : (D.put n s.data.toList).down = false := HD.out
    have ho5 : (D.put n s.data.toList).Ok := HO.out
    have HDD := Lib.hid hd5
    clear hD5 hd5
    by_cases hsk : (D.put n s.data.toList).sinks = true
    · have HST := Lib.hid (show (D.put n s.data.toList).step id = _ from if_pos hsk)
      have hy := sinks_yes HD5.out ho5 hsk
      clear hsk ho5
      go_wp2_with (first | (go_at_call 48; refine hy.mono ?_; rintro e w1 ⟨rfl, hm⟩) | (go_at_call 49; refine (sunk_at hm HDD.out).mono ?_; clear hm; rintro e w2 ⟨rfl, hm2⟩))
      go_ret
      rw [HST.out]
      exact ⟨rfl, Moves.below hu (Moves.trans HU4.out HF4.out hm2)⟩
    · have HST := Lib.hid (show (D.put n s.data.toList).step id = _ from if_neg hsk)
      have hy := sinks_no HD5.out (by simpa using hsk)
      clear hsk ho5
      go_wp2_with (go_at_call 48; refine hy.mono ?_; rintro e w1 ⟨rfl, hm⟩)
      go_ret
      rw [HST.out]
      exact ⟨rfl, Moves.below hu (Moves.trans HU4.out HF4.out hm)⟩
  · rw [HB.out] at hb'; cases hb'
end Go.Proofs.YtogkdoooimcemaaGreatDoor

/- Disk11 -/
namespace Go.Proofs.YtogkdoooimcemaaGreatDoor
open Go Go.RowKit
open Go.ChangeMaps (setBlock)
set_option maxRecDepth 20000

theorem sync_at {w : World} {p : Nat} {D : Dk} {fp : List Nat} (h : DiskAt w p D fp) (ho : D.Ok) :
    Calls Tryz.prog 45 #[.pointer (some ⟨p, 0, none⟩)] w fun e w' => e = .returned (.int .i64 D.sync.2) ∧ Moves w p fp D.sync.1 w' := by
  have hr := ready_at h
  have H0 := Lib.hid h
  unfold Dk.sync
  by_cases hd : D.down = true
  · rw [if_pos hd]
    have e0 : D.ready = 61 := by simp [Dk.ready, hd]
    rw [e0] at hr
    clear e0 hd ho h
    go_enter Tryz.func45, Tryz.ntmps45
    go_wp2_with (go_at_call 46; refine hr.mono ?_; rintro e w' ⟨rfl, rfl⟩)
    go_ret
    exact ⟨rfl, Moves.refl H0.out⟩
  have hd' : D.down = false := by simpa using hd
  rw [if_neg hd]
  have e0 : D.ready = 0 := by simp [Dk.ready, hd']
  rw [e0] at hr
  unfold Dk.step
  by_cases hs : D.sinks = true
  · rw [if_pos hs]
    have hy := sinks_yes h ho hs
    have HS := Lib.hid hd'
    clear e0 hd hd' ho h hs
    go_enter Tryz.func45, Tryz.ntmps45
    go_wp2_with (first | (go_at_call 46; refine hr.mono ?_; rintro e w' ⟨rfl, rfl⟩) | (go_at_call 48; refine hy.mono ?_; rintro e w1 ⟨rfl, hm⟩) | (go_at_call 49; refine (sunk_at hm HS.out).mono ?_; clear hm; rintro e w2 ⟨rfl, hm2⟩))
    go_ret
    exact ⟨rfl, hm2⟩
  · rw [if_neg hs]
    have hy := sinks_no h (by simpa using hs)
    clear e0 hd hd' ho h hs
    go_enter Tryz.func45, Tryz.ntmps45
    go_wp2_with (first | (go_at_call 46; refine hr.mono ?_; rintro e w' ⟨rfl, rfl⟩) | (go_at_call 48; refine hy.mono ?_; rintro e w1 ⟨rfl, hm⟩; obtain ⟨fp1, ⟨mb1, es1, clk1, lv1, h1, hfp1⟩, hu1, hf1⟩ := hm; have d1 := h1.cells.2.1; have f1 := h1.cells.2.2.2.2.2.2.2.2 1; obtain ⟨la, ln, lc, rfl⟩ := h1.loose_slice; have H1 := Lib.hid h1; have HF1 := Lib.hid hfp1; have HU1 := Lib.hid hu1; clear h1 hfp1 hu1))
    go_ret
    have H1 := H1.out
    refine ⟨rfl, Moves.trans HU1.out hf1 ?_⟩
    refine ⟨_, ⟨mb1, es1, clk1, .slice none 0 0, H1.looseTo (L := []) (heap_setCell_same _ p 1 _ _ _ H1.blk) (fun k _ hkp _ => heap_setCell_other _ _ _ _ (by simpa using hkp)) (World.ownsRow_nil _ _ _ _) ?_, rfl⟩, ?_, ?_⟩
    · have hw := H1.wf
      exact ⟨hw.keys, hw.size, hw.cap, fun n => by simp [Dk.of], by simp, hw.many, hw.left, hw.keep, hw.fails, hw.starts, hw.ints⟩
    · exact (Upd.refl _ _).setCell (.inl (by rw [HF1.out]; simp [foot])) _
    · intro b hb
      have e0 : (Value.slice none 0 0).ownBlock = none := rfl
      rw [HF1.out]
      simp only [foot, e0, Option.toList, List.nil_append, List.mem_cons, List.mem_append] at hb ⊢
      rcases hb with h | h | h
      · exact .inl (.inl h)
      · exact .inl (.inr (.inl h))
      · exact .inl (.inr (.inr (.inr h)))

/-! ### Delete -/
def delE (es : List MapEntry) (n : Int) : List MapEntry := es.filter fun e => match e.key with | .int _ k => k != n | _ => true
theorem eraseIdx_filter {α : Type} {p : α → Bool} : ∀ (l : List α) (j : Nat) (x : α), l[j]? = some x → p x = false → (∀ i y, l[i]? = some y → i ≠ j → p y = true) → l.eraseIdx j = l.filter p
  | [], _, _, h, _, _ => by simp at h
  | a :: l, 0, x, h, hx, ho => by
    simp at h; subst h
    rw [List.filter_cons, if_neg (by simp [hx])]
    simp only [List.eraseIdx_zero, List.tail_cons]
    exact (List.filter_eq_self.2 fun y hy => by
      obtain ⟨i, hi⟩ := List.mem_iff_getElem?.1 hy
      exact ho (i + 1) y (by simpa using hi) (by omega)).symm
  | a :: l, j + 1, x, h, hx, ho => by
    rw [List.filter_cons, if_pos (ho 0 a rfl (by omega)), List.eraseIdx_cons_succ, eraseIdx_filter l j x (by simpa using h) hx fun i y hy hne => ho (i + 1) y (by simpa using hy) (by omega)]
theorem run_delete_yes {w : World} {mb clk : Nat} {es : Array MapEntry} (hm : w.heap[mb]? = some (.map es clk)) (hi : IntKeys es.toList) (hn : (es.toList.map (·.key)).Nodup) (n : Int) (v : Value) (hv : lookE es.toList n = some v) (ty : TypeId) :
    (Builtin.delete_ #[43, 3] ty #[.map (some mb), .int .i64 n]).run Tryz.prog w = .ok (.tuple #[]) (setBlock w mb (.map (delE es.toList n).toArray clk)) := by
  rcases findNow_int n es.toList 0 hi with ⟨j, u', h1, h2, _, x, h4, h5, h6, h7⟩ | ⟨_, h2, _⟩
  · simp only [Nat.sub_zero] at h4 h7
    have hjl : j < es.toList.length := (List.getElem?_eq_some_iff.1 h4).1
    have e1 : es.eraseIdxIfInBounds j = (delE es.toList n).toArray := by
      apply Array.ext'
      rw [Array.toList_eraseIdxIfInBounds]
      refine eraseIdx_filter _ j x h4 (by simp [h5]) fun i y hy hne => ?_
      obtain ⟨q, hq⟩ := hi y (List.mem_of_getElem? hy)
      have hil : i < es.toList.length := (List.getElem?_eq_some_iff.1 hy).1
      have hqn : q ≠ n := by
        rintro rfl
        have a1 := (List.getElem?_eq_some_iff.1 h4).2
        have a2 := (List.getElem?_eq_some_iff.1 hy).2
        exact hne (nodup_inj hn (i := i) (j := j) (by simpa using hil) (by simpa using hjl) (by simp [a1, a2, h5, hq]))
      simp [hq, hqn]
    simp [Builtin.delete_, run_underlying Tryz.underlying43, run_underlying Tryz.underlying3, getObj, Sem.run, hm, run_checkKey_int Tryz.underlying3, Instr.findKey, h1, setObj, ← e1, ChangeMaps.setBlock]
  · rw [h2] at hv; cases hv
theorem getF_delF (l : List (Int × List UInt8)) (n m : Int) : Dk.getF (Dk.delF l n) m = if m = n then none else Dk.getF l m := by
  induction l with
  | nil => simp [Dk.delF, Dk.getF]
  | cons f l ih =>
    have e : Dk.delF (f :: l) n = if f.1 = n then Dk.delF l n else f :: Dk.delF l n := by
      unfold Dk.delF; rw [List.filter_cons]; by_cases h : f.1 = n <;> simp [h]
    rw [e, getF_cons]
    by_cases h1 : f.1 = n
    · rw [if_pos h1, ih]
      by_cases h2 : m = n
      · simp [h2]
      · have : ¬ n = m := fun e => h2 e.symm
        simp [h1, h2, this]
    · rw [if_neg h1, getF_cons, ih]
      by_cases h2 : m = n
      · subst h2; simp [h1]
      · simp [h2]
theorem of_drop_zero : ∀ (l : List (Int × Nat)) (n : Int), Dk.of (Dk.drop l n 0) n = 0
  | [], _ => rfl
  | (m, s) :: r, n => by
    simp only [Dk.drop]
    split
    · rw [Dk.of_cons]; simp [of_drop_zero r n]
    · rename_i h; rw [Dk.of_cons]; simp [h, of_drop_zero r n]
theorem wf_del {D : Dk} (h : D.WF) (n : Int) (ho : Dk.of D.loose n = 0) : ({ D with files := Dk.delF D.files n } : Dk).WF := by
  refine ⟨?_, ?_, h.cap, fun m => ?_, h.long, ?_, h.left, h.keep, h.fails, h.starts, fun f hf => h.ints f (List.Sublist.mem hf (List.Sublist.map _ List.filter_sublist))⟩
  · exact List.Nodup.sublist (List.Sublist.map _ List.filter_sublist) h.keys
  · refine Nat.le_trans ?_ h.size
    show Dk.total (Dk.delF D.files n) ≤ Dk.total D.files
    unfold Dk.total Dk.delF
    generalize D.files = l
    induction l with
    | nil => simp
    | cons f l ih => rw [List.filter_cons]; split <;> simp <;> omega
  · show Dk.of D.loose m ≤ ((Dk.getF (Dk.delF D.files n) m).getD []).length
    rw [getF_delF]
    split
    · rename_i e; subst e; rw [ho]; simp
    · exact h.offs m
  · exact Nat.le_trans (List.length_filter_le _ _) h.many
theorem DAt.del {w w' : World} {p : Nat} {D : Dk} {mb : Nat} {es : Array MapEntry} {clk : Nat} {lv : Value} (h : DAt w p D mb es clk lv) (n : Int)
    (hk : ∀ k, k ≠ mb → w'.heap[k]? = w.heap[k]?) (hm : w'.heap[mb]? = some (.map (delE es.toList n).toArray clk)) (hw : ({ D with files := Dk.delF D.files n } : Dk).WF) :
    DAt w' p { D with files := Dk.delF D.files n } mb (delE es.toList n).toArray clk lv := by
  have ha := h.apart
  have hsub : (delE es.toList n).Sublist es.toList := List.filter_sublist
  refine ⟨(hk p ha.1).trans h.blk, hm, ?_, List.Nodup.sublist (hsub.map _) h.born, fun e he => h.clk e (hsub.subset he), List.Nodup.sublist (hsub.filterMap _) h.blocks, row_keep h.loose fun g hg _ => hk g (ha.2.1 g hg).2.1, hw⟩
  have h0 : All2 (EntAt w') es.toList D.files := ents_keep h.ents fun e he g hg _ => hk g (ha.2.2 e he g hg).2.1
  show All2 (EntAt w') (delE es.toList n) (Dk.delF D.files n)
  clear hm hsub ha hk hw h
  generalize es.toList = l at *
  generalize D.files = m at *
  induction l generalizing m with
  | nil => cases m <;> first | trivial | exact h0.elim
  | cons e l ih =>
    cases m with
    | nil => exact h0.elim
    | cons f m =>
      have hk : e.key = .int .i64 f.1 := h0.1.1
      have := ih m h0.2
      unfold delE Dk.delF at this ⊢
      rw [List.filter_cons, List.filter_cons]
      by_cases hn : f.1 = n
      · simp only [hk, hn, bne_self_eq_false, Bool.false_eq_true, if_false]; exact this
      · have : (f.1 != n) = true := by simpa using hn
        simp only [hk, this, if_true]
        exact ⟨h0.1, ih m h0.2⟩
theorem delete_at {w : World} {p : Nat} {D : Dk} {fp : List Nat} (h : DiskAt w p D fp) (ho : D.Ok) (n : Int) :
    Calls Tryz.prog 78 #[.pointer (some ⟨p, 0, none⟩), .int .i64 n] w fun e w' => e = .returned (.int .i64 (D.delete n).2) ∧ Moves w p fp (D.delete n).1 w' := by
  have hr := has_at h n
  have H0 := Lib.hid h
  unfold Dk.delete
  by_cases hn : D.has n = 0
  · rw [if_neg (by simp [hn])]
    rw [hn] at hr
    obtain ⟨b, hb, hd⟩ : ∃ b, D.get n = some b ∧ D.down = false := by
      unfold Dk.has at hn
      split at hn
      · cases hn
      · rename_i hd
        cases e : D.get n with
        | none => rw [e] at hn; cases hn
        | some b => exact ⟨b, rfl, by simpa using hd⟩
    unfold Dk.step
    by_cases hs : D.sinks = true
    · rw [if_pos hs]
      have hy := sinks_yes h ho hs
      have HS := Lib.hid hd
      clear hd hb ho h hs hn
      go_enter Tryz.func78, Tryz.ntmps78
      go_wp2_with (first | (go_at_call 47; refine hr.mono ?_; rintro e w' ⟨rfl, rfl⟩) | (go_at_call 48; refine hy.mono ?_; rintro e w1 ⟨rfl, hm⟩) | (go_at_call 49; refine (sunk_at hm HS.out).mono ?_; clear hm; rintro e w2 ⟨rfl, hm2⟩))
      go_ret
      exact ⟨rfl, hm2⟩
    · rw [if_neg hs]
      have hy := sinks_no h (by simpa using hs)
      have HB := Lib.hid hb
      clear hd hb ho h hs hn
      go_enter Tryz.func78, Tryz.ntmps78
      go_wp2_with (first | (go_at_call 47; refine hr.mono ?_; rintro e w' ⟨rfl, rfl⟩) | (go_at_call 48; refine hy.mono ?_; rintro e w1 ⟨rfl, hm⟩; obtain ⟨fp1, hd1, hu1, hf1⟩ := hm; have HD1 := Lib.hid hd1; have HU1 := Lib.hid hu1; clear hd1 hu1) | (go_at_call 80; refine (drop_at HD1.out n 0 (by omega)).mono ?_; rintro e w2 ⟨rfl, hm2⟩; obtain ⟨fp2, ⟨mb, es, clk, lv, h2, hfp2⟩, hu2, hf2⟩ := hm2; have d0 := h2.cells.1; have H2 := Lib.hid h2; have HF2 := Lib.hid hfp2; have HU2 := Lib.hid hu2; clear h2 hfp2 hu2) | (at_delete; refine Stop.here ?_))
      unfold Stop
      have hgt : Dk.getF D.tick.files n = some b := by rw [(tick_files D).1]; exact HB.out
      have h2 := H2.out
      rcases ents_look n h2.ents with ⟨v, b', hv1, _, _⟩ | ⟨_, hv2⟩
      · refine wpList_delete_run rfl rfl (run_delete_yes h2.map (ents_keys h2.ents) (ents_nodup h2.ents h2.wf.keys) n v hv1 _) ?_
        clear h2 hgt hv1
        go_wp2
        go_ret
        have h2 := H2.out
        have hwf := wf_del h2.wf n (of_drop_zero _ _)
        refine ⟨rfl, Moves.trans HU1.out hf1 (Moves.trans HU2.out hf2 ⟨_, ⟨mb, _, clk, lv, h2.del n (fun k hk => heap_setBlock_other (Ne.symm hk)) (heap_setBlock_same h2.map) hwf, rfl⟩, (Upd.refl _ _).setBlock (.inl (by rw [HF2.out]; simp [foot])) _, fun b hb => ?_⟩)⟩
        left
        rw [HF2.out]
        simp only [foot, List.mem_cons, List.mem_append, List.mem_filterMap] at hb ⊢
        rcases hb with h | h | h | ⟨y, hy, hyb⟩
        · exact .inl h
        · exact .inr (.inl h)
        · exact .inr (.inr (.inl h))
        · exact .inr (.inr (.inr ⟨y, (List.filter_sublist.subset hy : y ∈ es.toList), hyb⟩))
      · exfalso
        have hv2' : Dk.getF D.tick.files n = none := hv2
        rw [hgt] at hv2'; cases hv2'
  · rw [if_pos hn]
    have hx : (D.has n != 0) = true := by simpa using hn
    generalize D.has n = x at *
    clear hn ho h
    go_enter Tryz.func78, Tryz.ntmps78
    go_wp2_with (go_at_call 47; refine hr.mono ?_; rintro e w' ⟨rfl, rfl⟩)
    go_ret
    exact ⟨rfl, Moves.refl H0.out⟩
end Go.Proofs.YtogkdoooimcemaaGreatDoor

/- Disk12 -/
namespace Go.Proofs.YtogkdoooimcemaaGreatDoor
open Go Go.RowKit
open Go.ChangeMaps (setBlock)
set_option maxRecDepth 20000

theorem total_shrink (l : List (Int × List UInt8)) (n : Int) (b b0 : List UInt8) (hn : (l.map (·.1)).Nodup) (h : Dk.getF l n = some b0) (hb : b.length ≤ b0.length) : Dk.total (Dk.setF l n b) ≤ Dk.total l := by
  have := total_setF l n b b0 hn h
  omega
theorem of_drop_self : ∀ (l : List (Int × Nat)) (n : Int) (k : Nat), Dk.of (Dk.drop l n k) n ≤ k
  | [], _, _ => Nat.zero_le _
  | (m, s) :: r, n, k => by
    simp only [Dk.drop]
    split
    · rw [Dk.of_cons]
      have := of_drop_self r n (k - min s k)
      rename_i h; simp only [h, if_true]; omega
    · rename_i h
      rw [Dk.of_cons]
      have := of_drop_self r n k
      simp only [h, if_false]; omega
theorem wf_drop {D : Dk} (h : D.WF) (n : Int) (k : Nat) : ({ D with loose := Dk.drop D.loose n k } : Dk).WF :=
  ⟨h.keys, h.size, h.cap, fun m => Nat.le_trans (Dk.of_drop_le _ _ _ _) (h.offs m), by show (Dk.drop _ _ _).length ≤ _; rw [Dk.length_drop]; exact h.long, h.many, h.left, h.keep, h.fails, h.starts, h.ints⟩
theorem wf_cut {D : Dk} (h : D.WF) {n : Int} {b : List UInt8} (hb : D.get n = some b) (k : Nat) (hk : k ≤ b.length) :
    ({ D with loose := Dk.drop D.loose n (k - (b.length - Dk.of D.loose n)), files := Dk.setF D.files n (b.take k) } : Dk).WF := by
  have h1 := wf_drop h n (k - (b.length - Dk.of D.loose n))
  refine ⟨by show ((Dk.setF _ _ _).map _).Nodup; rw [keys_setF]; exact h.keys, Nat.le_trans (total_shrink _ _ _ b h.keys hb (by simp; omega)) h.size, h.cap, fun m => ?_, h1.long, by simp [Dk.setF]; exact h.many, h.left, h.keep, h.fails, h.starts, by show ∀ f ∈ (Dk.setF _ _ _).map _, _; rw [keys_setF]; exact h.ints⟩
  show Dk.of (Dk.drop D.loose n _) m ≤ ((Dk.getF (Dk.setF D.files n (b.take k)) m).getD []).length
  rw [getF_setF]
  by_cases e : m = n
  · subst e
    unfold Dk.get at hb
    have h2 := of_drop_self D.loose m (k - (b.length - Dk.of D.loose m))
    have h3 := h.offs m
    rw [hb] at h3 ⊢
    simp at h3 ⊢; omega
  · rw [if_neg e]; exact h1.offs m
theorem drop_any {w : World} {p : Nat} {D : Dk} {fp : List Nat} (h : DiskAt w p D fp) (n : Int) (s : Nat) (hs : s ≤ 1048576) (z : Int) (hz : z = s) :
    Calls Tryz.prog 80 #[.pointer (some ⟨p, 0, none⟩), .int .i64 n, .int .i64 z] w fun e w' => e = .returned (.tuple #[]) ∧ Moves w p fp { D with loose := Dk.drop D.loose n s } w' := by
  subst hz; exact drop_at h n s hs
theorem truncate_no {w : World} {p : Nat} {D : Dk} {fp : List Nat} (h : DiskAt w p D fp) (n k : Int) (hn : D.has n ≠ 0) :
    Calls Tryz.prog 39 #[.pointer (some ⟨p, 0, none⟩), .int .i64 n, .int .i64 k] w fun e w' => e = .returned (.int .i64 (D.truncate n k).2) ∧ Moves w p fp (D.truncate n k).1 w' := by
  have hr := has_at h n
  have H0 := Lib.hid h
  unfold Dk.truncate
  rw [if_pos hn]
  have hx : (D.has n != 0) = true := by simpa using hn
  generalize D.has n = x at *
  clear hn h
  go_enter Tryz.func39, Tryz.ntmps39
  go_wp2_with (go_at_call 47; refine hr.mono ?_; rintro e w' ⟨rfl, rfl⟩)
  go_ret
  exact ⟨rfl, Moves.refl H0.out⟩
set_option maxHeartbeats 1000000 in
theorem truncate_yes {w : World} {p : Nat} {D : Dk} {fp : List Nat} (h : DiskAt w p D fp) (ho : D.Ok) (n : Int) (k : Nat) (b : List UInt8) (hb : D.get n = some b) (hd : D.down = false) (hk : k ≤ b.length) :
    Calls Tryz.prog 39 #[.pointer (some ⟨p, 0, none⟩), .int .i64 n, .int .i64 k] w fun e w' => e = .returned (.int .i64 (D.truncate n k).2) ∧ Moves w p fp (D.truncate n k).1 w' := by
  have hr := has_at h n
  have e0 : D.has n = 0 := by simp [Dk.has, hd, hb]
  rw [e0] at hr
  have hbl := h.wf.len hb
  have htr : D.truncate n k = D.step fun D => D.cut n k := by
    unfold Dk.truncate
    rw [if_neg (by simp [e0]), if_neg (by rw [hb]; simp; omega)]
    rfl
  rw [htr]
  have H0 := Lib.hid h
  obtain ⟨mb, es, clk, lv, h, hfp⟩ := h
  have c0 := h.cells.1
  rcases look_at h n with ⟨v, b', hb', hlk, ⟨g, fc, cur, rfl, hg, hc1, hc2, hc3, hct⟩, hlook, -⟩ | ⟨hb', -⟩
  · rw [hb] at hb'
    cases hb'
    have hl1 := hlook w h.map
    have HB := Lib.hid hb; have HD := Lib.hid hd
    unfold Dk.step
    by_cases hs : D.sinks = true
    · rw [if_pos hs]
      have hy := sinks_yes H0.out ho hs
      clear hd hb ho h hs e0 htr hlook hlk hg hct hfp
      go_enter Tryz.func39, Tryz.ntmps39
      go_wp2_with (first | (go_at_call 47; refine hr.mono ?_; rintro e w' ⟨rfl, rfl⟩) | (go_at_call 48; refine hy.mono ?_; rintro e w1 ⟨rfl, hm⟩) | (go_at_call 49; refine (sunk_at hm HD.out).mono ?_; clear hm; rintro e w2 ⟨rfl, hm2⟩))
      go_ret
      exact ⟨rfl, hm2⟩
    · rw [if_neg hs]
      have hy := sinks_no H0.out (by simpa using hs)
      clear hd hb ho h hs e0 htr hlook hlk hg hct hfp
      go_enter Tryz.func39, Tryz.ntmps39
      go_wp2_with (first | (go_at_call 47; refine hr.mono ?_; rintro e w' ⟨rfl, rfl⟩) | (go_at_call 48; refine hy.mono ?_; rintro e w1 ⟨rfl, hm⟩))
      -- behind the count
      clear c0 hl1 hr hy hc1 hc2 hc3
      obtain ⟨fp1, hd1, hu1, hf1⟩ := hm
      have hof := of_at (w := w1.drew) (hd1.keep (w' := w1.drew) fun _ _ => rfl) n
      have HD1 := Lib.hid hd1
      obtain ⟨mb1, es1, clk1, lv1, h1, hfp1⟩ := hd1
      have d0 := h1.cells.1
      have hm1 := h1.map
      have hgt : D.tick.get n = some b := by rw [tick_get]; exact HB.out
      have hofle := h1.wf.offs n
      have hgtF : Dk.getF D.tick.files n = some b := hgt
      rw [hgtF] at hofle
      simp only [Option.getD_some] at hofle
      rcases look_at h1 n with ⟨v, b', hb', hlk, ⟨g, fc, cur, rfl, hg, hc1, hc2, hc3, hct⟩, hlook, -⟩ | ⟨hb', -⟩
      · rw [hgt] at hb'
        cases hb'
        have HH1 := Lib.hid h1; have HFP1 := Lib.hid hfp1; have HU1 := Lib.hid hu1; have HGT := Lib.hid hgt
        have hwr : IntKind.i64.wrap ((b.length : Int) - (Dk.of D.tick.loose n : Nat)) = (b.length : Int) - (Dk.of D.tick.loose n : Nat) := IntWalk.i64_in _ (by omega)
        clear h1 hfp1 hu1 hgt hgtF hlk hg hct
        refine wp_region_can [(0, false), (1, false), (2, false), (3, false), (4, false), (5, false), (6, false), (7, false), (8, false), (9, true), (10, false)] 11
          (fun u => u.cell? ⟨p, 0, none⟩ = some (.map (some mb1)) ∧ u.heap[mb1]? = some (.map es1 clk1)) (by kernel_rfl) (by kernel_rfl) (fun _ _ d _ _ h => by cases d <;> exact h) ⟨by simpa using d0, hm1⟩ ?_
        simp only [canOps, List.filterMap_cons, List.filterMap_nil, Option.map_some, List.getElem?_toArray, List.getElem?_cons_succ, List.getElem?_cons_zero, List.drop_succ_cons, List.drop_zero]
        repeat (apply can_light rfl; (· intro u hu; obtain ⟨hu0, hu1⟩ := hu; have hlu := hlook u hu1; go_simp; try rfl); simp only [Act.put, List.setIfInBounds_toArray, List.set_cons_zero, List.set_cons_succ])
        refine can_acts rfl fun K' hK' => ?_
        go_simp
        refine hof.mono ?_
        rintro e w2 ⟨rfl, hu2⟩
        have hu2' : Upd [] w1 w2 := ⟨hu2.os, hu2.tape, hu2.output, hu2.size, hu2.block⟩
        refine hK' _ _ ⟨(hu2'.cell (p := ⟨p, 0, none⟩) (block_lt_of_cell d0) (by simp)).trans d0, hu2'.heap hm1 (by simp)⟩ ?_
        clear hK' K'
        repeat (apply can_light rfl; (· intro u hu; obtain ⟨hu0, hu1⟩ := hu; go_simp; try rfl); simp only [Act.put, List.setIfInBounds_toArray, List.set_cons_zero, List.set_cons_succ])
        refine can_nil ?_
        have hd2 : DiskAt w2 p D.tick fp1 := HD1.out.upd hu2' (by simp)
        have HD2 := Lib.hid hd2
        have HU2 := Lib.hid hu2'
        clear hd2 hlook hm1 d0 hof hwr hu2 hu2'
        generalize hofd : Dk.of D.tick.loose n = od at *
        have HOF := Lib.hid hofd
        clear hofd
        have hdrop := fun z hz => drop_any HD2.out n (k - (b.length - od)) (by omega) z hz
        have HDR := Lib.hid hdrop
        clear hdrop
        by_cases hneg : (k : Int) - ((b.length : Int) - od) < 0
        all_goals
          go_wp2_with (go_at_call 80; refine (HDR.out _ (by omega)).mono ?_; rintro e w3 ⟨rfl, hm3⟩)
          obtain ⟨fp3, ⟨mb3, es3, clk3, lv3, h3, hfp3⟩, hu3, hf3⟩ := hm3
          have d3 := h3.cells.1
          have hm3 := h3.map
          have hgt : Dk.getF D.tick.files n = some b := HGT.out
          rcases look_at h3 n with ⟨v, b', hb', hlk, hfile, hlook, -⟩ | ⟨hb', -⟩
          · have hb'' : Dk.getF D.tick.files n = some b' := hb'
            rw [hgt] at hb''
            cases hb''
            obtain ⟨g, fc, cur, rfl, hg, hc1, hc2, hc3, hct⟩ := hfile
            have hkfc : k ≤ fc := by omega
            have hmu := run_mapUpdate_yes (P := Tryz.prog) (w := w3.drew) Tryz.underlying43 Tryz.underlying3 hm3 (ents_keys h3.ents) (ents_nodup h3.ents h3.wf.keys) n _ (.slice (some ⟨g, 0, none⟩) k k) hlk
            have H3 := Lib.hid h3; have HFP3 := Lib.hid hfp3; have HU3 := Lib.hid hu3; have HLK := Lib.hid hlk; have HGG := Lib.hid hg; have HCT := Lib.hid hct; have HMU := Lib.hid hmu
            clear h3 hfp3 hu3 hlk hg hct hmu hb' hgt
            refine wp_region_can [(0, false), (1, false), (2, false), (3, false), (4, false), (5, false), (6, false), (7, false), (8, false), (9, false), (10, false), (11, false), (12, false), (13, false)] 14
              (fun u => u.cell? ⟨p, 0, none⟩ = some (.map (some mb3)) ∧ u.heap[mb3]? = some (.map es3 clk3)) (by kernel_rfl) (by kernel_rfl) (fun _ _ d _ _ h => by cases d <;> exact h) ⟨by simpa using d3, hm3⟩ ?_
            simp only [canOps, List.filterMap_cons, List.filterMap_nil, Option.map_some, List.getElem?_toArray, List.getElem?_cons_succ, List.getElem?_cons_zero, List.drop_succ_cons, List.drop_zero]
            repeat (apply can_light rfl; (· intro u hu; obtain ⟨hu0, hu1⟩ := hu; have hlu := hlook u hu1; go_simp; try rfl); simp only [Act.put, List.setIfInBounds_toArray, List.set_cons_zero, List.set_cons_succ])
            refine can_nil ?_
            have hmu := HMU.out
            clear hlook
            go_wp2
            go_ret
            have h3 := H3.out
            have hwc : ({ D.tick with loose := Dk.drop D.tick.loose n (k - (b.length - od)), files := Dk.setF D.tick.files n (b.take k) } : Dk).WF := by
              have := wf_cut HD2.out.wf HGT.out k hk
              rw [HOF.out] at this; exact this
            have hgm : g ≠ mb3 := by rintro rfl; have := HGG.out; rw [hm3] at this; cases this
            have hcut : D.tick.cut n k = { D.tick with loose := Dk.drop D.tick.loose n (k - (b.length - od)), files := Dk.setF D.tick.files n (b.take k) } := by
              unfold Dk.cut
              have h1 : D.tick.get n = some b := HGT.out
              rw [h1, ← HOF.out]; rfl
            rw [hcut]
            have hres := h3.put (n := n) (v := .slice (some ⟨g, 0, none⟩) k k) (b := b.take k) HLK.out (w' := setBlock w3.drew mb3 (.map (putE es3.toList n (.slice (some ⟨g, 0, none⟩) k k)).toArray clk3))
              ⟨g, k, cur, by simp; omega, (heap_setBlock_other (Ne.symm hgm)).trans HGG.out, by simp; omega, by omega, hc3, by
                have e1 : (b.take k).length = k := by simp; omega
                rw [e1]
                have e2 := congrArg (List.take k) HCT.out
                rw [List.take_take, Nat.min_eq_left (by omega)] at e2
                rw [e2]; simp [bvs]⟩ (.inl rfl) (fun j _ hj _ => heap_setBlock_other (Ne.symm hj)) (heap_setBlock_same (o' := .map es3 clk3) hm3) hwc
            refine ⟨rfl, Moves.trans HU1.out hf1 (Moves.below HU2.out (Moves.trans HU3.out hf3 ⟨_, ⟨mb3, _, clk3, lv3, hres, rfl⟩, (Upd.refl _ _).drew.setBlock (.inl (by rw [HFP3.out]; simp [foot])) _, fun x hx => ?_⟩))⟩
            left
            rw [HFP3.out]
            have e3 := congrArg (List.filterMap id) (putE_blocks (v := .slice (some ⟨g, 0, none⟩) k k) (ents_keys h3.ents) (ents_nodup h3.ents h3.wf.keys) HLK.out rfl)
            simp only [List.filterMap_map] at e3
            have e4 : (putE es3.toList n (.slice (some ⟨g, 0, none⟩) k k)).filterMap (·.val.ownBlock) = es3.toList.filterMap (·.val.ownBlock) := e3
            simp only [foot, e4] at hx ⊢
            exact hx
          · exfalso
            have hb'' : Dk.getF D.tick.files n = none := hb'
            rw [hgt] at hb''; cases hb''
      · rw [hgt] at hb'; cases hb'
  · rw [hb] at hb'; cases hb'
end Go.Proofs.YtogkdoooimcemaaGreatDoor
