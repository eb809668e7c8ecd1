/- The statements' fixed example: laid. Conditions: the laid variables.
  SegmentsNone: the walk. Conditions: the laid variables, and what a reading gives.
  What the rows ask besides the walks: the laid variables as cells; strings that came in. Conditions: those of each lemma.
  A disk that holds entries, perhaps with a part of a frame behind them, and empty files: what Open makes of it, also where the disk sinks. Plain.
  Open of a disk that holds entries, also where it sinks: what is there stays. Plain.
  A crash while pieces are loose: a beginning of the entries stays, and a part of one frame. Plain. -/
import Derived.Test.YtogkdoooimcemaaGreatDoorC16
import Derived.Test.YtogkdoooimcemaaGreatDoorRows
import Derived.ProofKit
import Derived.LaidMore
import Derived.OpenShut
import Derived.SliceStrings
import Derived.ChangeOld
import Derived.Below
import Derived.Carry
/- Law4 -/
namespace Go.Proofs.YtogkdoooimcemaaGreatDoor
open Go Go.RowKit
open Go.ChangeMaps (setBlock)
set_option maxRecDepth 20000

theorem flat_length : ∀ (l : List (List UInt8)), (flat l).length = 12 * l.length + (l.map List.length).sum
  | [] => rfl
  | x :: l => by
    have := flat_length l
    rw [flat_cons, List.length_append, length_frameOf, this]
    simp; omega
theorem strs_alloc (w : World) (t : TypeId) (L : List (List UInt8)) (hl : L.length ≤ maxLen) : StrsAt (w.alloc (.cells (svs L).toArray t)) (.slice (some ⟨w.heap.size, 0, none⟩) L.length L.length) L := by
  refine .inr ⟨w.heap.size, 0, L.length, rfl, Nat.le_refl _, hl, fun j hj => ?_⟩
  rw [cell_of_row _ _ _ _ _ _ (heap_alloc_new w (.cells (svs L).toArray t))]
  simp [svs, hj]
theorem ints_alloc (w : World) (t : TypeId) (L : List Int) : IntsAt (w.alloc (.cells (ivs L).toArray t)) (.slice (some ⟨w.heap.size, 0, none⟩) L.length L.length) L := by
  refine ⟨_, _, rfl, fun j hj => ⟨w.heap.size, 0, rfl, ?_⟩⟩
  rw [cell_of_row _ _ _ _ _ _ (heap_alloc_new w (.cells (ivs L).toArray t))]
  simp [ivs, hj]
theorem many_strs {w' : World} {v : Value} {n : Nat} {l : List UInt8} (h : RowAt w' 9 v (List.replicate n (.string ⟨l.toArray⟩))) : StrsAt w' v (List.replicate n l) := by
  refine RowAt.strs ?_
  unfold svs
  rw [List.map_replicate]
  exact h
def twoL : List (List UInt8) := [[97], [98]]
def manyL : List (List UInt8) := List.replicate 65 [120]
def oneL : List (List UInt8) := List.replicate 1 (List.replicate 201 0)
theorem two_short : ∀ x ∈ twoL, x.length ≤ 200 := by decide
theorem many_short : ∀ x ∈ manyL, x.length ≤ 200 := by intro x hx; rw [List.eq_of_mem_replicate hx]; decide
theorem two_flat : (flat twoL).length = 26 := by rw [flat_length]; rfl
theorem many_flat : (flat manyL).length = 845 := by rw [flat_length]; unfold manyL; simp
theorem many_len : manyL.length = 65 := by unfold manyL; simp
theorem e5_len : (([] : List (List UInt8)) ++ twoL ++ manyL).length = 67 := by rw [List.length_append, many_len]; rfl
theorem e5_get : ((([] : List (List UInt8)) ++ twoL ++ manyL).drop 1).take 2 = [[98], [120]] := by rfl
theorem e9_len : ((([] : List (List UInt8)) ++ twoL ++ manyL).take 64).length = 64 := by rw [List.length_take, e5_len]; rfl
theorem mk201 (w : World) : (Instr.makeSlice 61 (.int .i64 201) (.int .i64 201)).run Tryz.prog w = .ok (.slice (some ⟨w.heap.size, 0, none⟩) 201 201) (w.alloc (.cells (List.replicate 201 (bv 0)).toArray 5)) := mk_eq (by kernel_rfl)
theorem cv201 (w : World) {s : ByteArray} (hs : s = ⟨(List.replicate 201 0).toArray⟩) : (convert 61 9 (.slice (some ⟨w.heap.size, 0, none⟩) 201 201)).run Tryz.prog (w.alloc (.cells (List.replicate 201 (bv 0)).toArray 5)) = .ok (.string s) (w.alloc (.cells (List.replicate 201 (bv 0)).toArray 5)) := by
  subst hs
  have := run_text (o := 0) (cap := 201) (heap_alloc_new w (.cells (List.replicate 201 (bv 0)).toArray 5)) (List.replicate 201 0) (by simp [bvs])
  rwa [List.length_replicate] at this
theorem good_long {S : Sg} {D : Dk} {E : List (List UInt8)} {B : Nat} (h : Good S D E B) {L : List (List UInt8)} (h0 : L.length ≠ 0) (hl : L.any (fun s => decide (200 < s.length)) = true) : S.append D L = (S, D, 3) := by
  unfold Sg.append
  rw [if_neg (by simp [h.ready]), if_neg h0, if_pos hl]
theorem one_at {w' : World} {a : Option Addr} {c : Nat} {s : ByteArray} (hs : s = ⟨(List.replicate 201 0).toArray⟩) (h : RowAt w' 9 (.slice a 1 c) (List.replicate 1 (.string s))) : StrsAt w' (.slice a 1 c) oneL := by
  subst hs
  exact many_strs (n := 1) (l := List.replicate 201 0) h
theorem one_long : oneL.any (fun s => decide (200 < s.length)) = true := by unfold oneL; rw [List.any_eq_true]; exact ⟨List.replicate 201 0, by simp, by simp⟩
theorem two_at (w : World) : StrsAt (w.alloc (.cells #[.string ⟨#[97]⟩, .string ⟨#[98]⟩] 9)) (.slice (some ⟨w.heap.size, 0, none⟩) 2 2) twoL := strs_alloc w 9 twoL (by decide)
theorem many_at_ {w' : World} {a : Option Addr} {c : Nat} (h : RowAt w' 9 (.slice a 65 c) (List.replicate 65 (.string ⟨#[120]⟩))) : StrsAt w' (.slice a 65 c) manyL := many_strs (n := 65) (l := [120]) h
set_option maxHeartbeats 400000 in
theorem laid_at {w : World} (hG : Glob w) : Calls Tryz.prog 8 #[] w fun e w' => e = .returned (.bool true) ∧ Upd [] w w' := by
  go_enter Tryz.func8, Tryz.ntmps8
  go_wp2_with (first
    | (go_at_call 13; refine (on_new (Upd.refl [] w) 3000 (by omega)).mono ?_; rintro e w1 ⟨d, rfl, hd1⟩)
    | (go_at_call 14; refine (on_open_good hd1 (rep_new 3000 (by omega)) rfl (by simp) (GlobP.old hG)).mono ?_; rintro e w2 ⟨s, S2, D2, rfl, h2, g2, c2⟩)
    | (go_at_call 10; refine Stop.here ?_))
  unfold Stop
  have p2 := on_append_good (L := twoL) h2 g2 ((Upd.refl [] w2).alloc (.cells #[.string ⟨#[97]⟩, .string ⟨#[98]⟩] 9)) (GlobP.old hG) (.inl (two_at w2)) (fun _ g hg => .inl (by simp [Value.ownBlock] at hg; omega)) two_short (by decide) (by rw [two_flat, c2.1]; decide)
  refine p2.mono ?_
  rintro e w3 ⟨S3, D3, rfl, h3, g3, c3⟩
  clear p2
  go_wp2_with (first
    | (go_at_call 30; refine (many_at w3 65 (by omega) ⟨#[120]⟩).mono ?_; rintro e w4 ⟨_, rfl, hr4, hu4, hg4, a4, k4, e4⟩; rw [List.length_replicate] at e4; subst e4)
    | (go_at_call 10; refine Stop.here ?_))
  unfold Stop
  have p4 := on_append_good (L := manyL) h3 g3 hu4 (GlobP.old hG) (.inl (many_at_ hr4)) (fun _ g hg => .inl (hg4 g hg)) many_short (by rw [many_len]; decide) (by rw [many_flat, two_flat, c3.1, c2.1]; decide)
  refine p4.mono ?_
  rintro e w5 ⟨S5, D5, rfl, h5, g5, c5⟩
  clear p4
  have n5 : Calls Tryz.prog 12 #[.pointer (some ⟨s, 0, none⟩)] w5 fun e w' => e = .returned (.int .i64 67) ∧ w5 = w' := by
    have := on_count h5
    rw [g5.ents, e5_len] at this
    exact this.mono (fun _ _ h => ⟨h.1, h.2.symm⟩)
  have i5 : IntsAt (w5.alloc (.cells #[.int .i64 1000, .int .i64 1001] 3)) (.slice (some ⟨w5.heap.size, 0, none⟩) 2 2) [1000, 1001] := ints_alloc w5 3 [1000, 1001]
  have f5 := on_files (h5.disk.upd ((Upd.refl [] w5).alloc (.cells #[.int .i64 1000, .int .i64 1001] 3))) i5 (by decide)
  rw [g5.rep.keys, e5_len, show decide (names (nfiles 67) = [1000, 1001]) = true by decide] at f5
  go_wp2_with (first
    | (go_at_call 12; refine n5.mono ?_; rintro e _ ⟨rfl, rfl⟩)
    | (go_at_call 31; refine f5.mono ?_; rintro e w6 ⟨rfl, hu6⟩)
    | (go_at_call 9; refine Stop.here ?_))
  unfold Stop
  have u6 : Upd [] w5 w6 := ((Upd.refl [] w5).alloc (.cells #[.int .i64 1000, .int .i64 1001] 3)).trans hu6 (by simp)
  have h6 := h5.upd u6
  have he6 := g5.ents
  have gt6 : Calls Tryz.prog 9 #[.pointer (some ⟨s, 0, none⟩), .int .i64 1, .int .i64 2] w6 (GetO w6 [[98], [120]]) := by
    have := on_get h6 1 2 (by rw [he6, e5_len]; decide)
    rw [he6, e5_get] at this
    exact this
  clear n5 f5 i5 hu6
  refine gt6.mono ?_
  rintro e w7 ⟨a7, k7, rfl, hs7, hu7, -⟩
  clear gt6
  have h7 := h6.upd hu7
  have gt7 : Calls Tryz.prog 9 #[.pointer (some ⟨s, 0, none⟩), .int .i64 66, .int .i64 2] w7 fun e w' => e = .returned (.tuple #[.slice none 0 0, .int .i64 82]) ∧ w7 = w' := on_get_bad h7 66 2 (by rw [he6, e5_len]; decide)
  have u8 := (Upd.refl [] w7).alloc (.cells #[.string ⟨#[98]⟩, .string ⟨#[120]⟩] 9)
  have t8 := texts_at (.inl (hs7.upd u8)) (.inl (strs_alloc w7 9 [[98], [120]] (by decide))) (by decide)
  rw [show decide (([[98], [120]] : List (List UInt8)) = [[98], [120]]) = true by decide] at t8
  go_wp2_with (first
    | (go_at_call 9; refine gt7.mono ?_; rintro e w8 ⟨rfl, rfl⟩)
    | (go_at_call 26; refine t8.mono ?_; rintro e w8 ⟨rfl, hu8⟩)
    | (go_at_call 11; refine Stop.here ?_))
  unfold Stop
  have h8 := h7.upd (u8.trans hu8 (by simp))
  clear gt7 t8 hs7
  have cu8 := on_cut_good h8 g5 64 (by rw [e5_len]; decide)
  refine cu8.mono ?_
  rintro e w9 ⟨S9, D9, rfl, h9, g9, c9⟩
  clear cu8
  have n9 : ∀ u, Upd [] w9 u → Calls Tryz.prog 12 #[.pointer (some ⟨s, 0, none⟩)] u fun e w' => e = .returned (.int .i64 64) ∧ u = w' := by
    intro u hu
    have := on_count (h9.upd hu)
    rw [g9.ents, e9_len] at this
    exact this.mono (fun _ _ h => ⟨h.1, h.2.symm⟩)
  have i9 : IntsAt (w9.alloc (.cells #[.int .i64 1000] 3)) (.slice (some ⟨w9.heap.size, 0, none⟩) 1 1) [1000] := ints_alloc w9 3 [1000]
  have f9 := on_files (h9.disk.upd ((Upd.refl [] w9).alloc (.cells #[.int .i64 1000] 3))) i9 (by decide)
  rw [g9.rep.keys, e9_len, show decide (names (nfiles 64) = [1000]) = true by decide] at f9
  obtain ⟨s201, e201⟩ : ∃ s : ByteArray, s = ⟨(List.replicate 201 0).toArray⟩ := ⟨_, rfl⟩
  obtain ⟨z201, ez⟩ : ∃ z : Array Value, z = (List.replicate 201 (bv 0)).toArray := ⟨_, rfl⟩
  have hmk := mk201
  have hcv := fun w => cv201 w e201
  simp only [← ez] at hmk hcv
  have EZ := Lib.hid (And.intro ez e201)
  clear ez e201
  go_wp2_with (first
    | (go_at_call 12; refine (n9 _ u10).mono ?_; rintro e _ ⟨rfl, rfl⟩)
    | (go_at_call 31; refine f9.mono ?_; rintro e w10 ⟨rfl, hu10⟩; have u10 : Upd [] w9 w10 := ((Upd.refl [] w9).alloc (.cells #[.int .i64 1000] 3)).trans hu10 (by simp))
    | (go_at_call 30; refine (many_at _ 1 (by omega) s201).mono ?_; rintro e w12 ⟨_, rfl, hr12, hu12, hg12, a12, k12, e12⟩; rw [List.length_replicate] at e12; subst e12)
    | (go_at_call 10; refine Stop.here ?_))
  unfold Stop
  have u12 : Upd [] w9 w12 := (u10.alloc _).trans hu12 (by simp)
  have hgl : S9.append D9 oneL = (S9, D9, 3) := good_long g9 (by decide) one_long
  have a12' := on_append h9 u12 g9.ok (GlobP.old hG) (.inl (one_at EZ.out.2 hr12)) (fun _ g hg => .inl (by have h1 := hg12 g hg; have h2 := (u10.alloc (.cells z201 5)).size; omega)) (by decide) (by intro x hx; rw [List.eq_of_mem_replicate hx]; simp) g9.ends_bd (by rw [g9.swept]; decide)
  refine a12'.mono ?_
  rintro e w13 ⟨rfl, h13⟩
  rw [hgl] at h13 ⊢
  clear a12' hgl hr12 hu12 hg12 u12
  go_wp2
  refine bodyPost_ret (v := .bool true) (by simp [results, Tryz.results8, go_sem]) rfl ?_
  exact ⟨rfl, h13.base⟩
end Go.Proofs.YtogkdoooimcemaaGreatDoor

/- Law5 -/
namespace Go.Proofs.YtogkdoooimcemaaGreatDoor
open Go Go.RowKit
open Go.ChangeMaps (setBlock)
set_option maxRecDepth 20000

/-- segments that are none, or that no Open made -/
def VoidAt (w : World) (p : Value) : Prop := p = .pointer none ∨ ∃ b, p = .pointer (some ⟨b, 0, none⟩) ∧ w.cell? ⟨b, 0, none⟩ = some (.pointer none) ∧ w.cell? ⟨b, 1, none⟩ = some (.slice none 0 0)
theorem count_void (w : World) (s : Nat) (h : w.cell? ⟨s, 1, none⟩ = some (.slice none 0 0)) : Calls Tryz.prog 12 #[.pointer (some ⟨s, 0, none⟩)] w fun e w' => e = .returned (.int .i64 0) ∧ w' = w := by
  go_enter Tryz.func12, Tryz.ntmps12
  go_wp2
  go_ret
  exact ⟨rfl, rfl⟩
theorem VoidAt.upd {w w' : World} {p : Value} (h : VoidAt w p) (hu : Upd [] w w') : VoidAt w' p := by
  rcases h with rfl | ⟨b, rfl, h1, h2⟩
  · exact .inl rfl
  · exact .inr ⟨b, rfl, (hu.cell (block_lt_of_cell h1) (by simp)).trans h1, (hu.cell (block_lt_of_cell h2) (by simp)).trans h2⟩
theorem VoidAt.get {w : World} {p : Value} (h : VoidAt w p) (f n : Int) : Calls Tryz.prog 9 #[p, .int .i64 f, .int .i64 n] w fun e w' => e = .returned (.tuple #[.slice none 0 0, .int .i64 1]) ∧ w = w' := by
  rcases h with rfl | ⟨b, rfl, h1, h2⟩
  · exact get_nil w f n
  · exact get_void w b f n h1
theorem VoidAt.append {w : World} {p : Value} (h : VoidAt w p) (v : Value) : Calls Tryz.prog 10 #[p, v] w fun e w' => e = .returned (.int .i64 1) ∧ w = w' := by
  rcases h with rfl | ⟨b, rfl, h1, h2⟩
  · exact sapp_nil w v
  · exact sapp_void w b v h1
theorem VoidAt.cut {w : World} {p : Value} (h : VoidAt w p) (n : Int) : Calls Tryz.prog 11 #[p, .int .i64 n] w fun e w' => e = .returned (.int .i64 1) ∧ Upd [] w w' := by
  rcases h with rfl | ⟨b, rfl, h1, h2⟩
  · exact cut_nil w n
  · exact cut_void w b n h1
theorem VoidAt.count {w : World} {p : Value} (h : VoidAt w p) : Calls Tryz.prog 12 #[p] w fun e w' => e = .returned (.int .i64 0) ∧ w = w' := by
  rcases h with rfl | ⟨b, rfl, h1, h2⟩
  · exact (count_none w).mono (fun _ _ h => ⟨h.1, h.2.symm⟩)
  · exact (count_void w b h2).mono (fun _ _ h => ⟨h.1, h.2.symm⟩)
def segZero : Array Value := #[.pointer none, .slice none 0 0, .slice none 0 0, .int .i64 0, .bool false]
theorem VoidAt.new (w : World) : VoidAt (w.alloc (.cells segZero 38)) (.pointer (some ⟨w.heap.size, 0, none⟩)) := by
  refine .inr ⟨_, rfl, ?_, ?_⟩ <;> (rw [cell_of_row _ _ _ _ _ _ (heap_alloc_new w _)]; rfl)
def actCells (lv : Value) : Array Value := #[.int .u8 0, lv, .int .i64 0, .int .i64 0]
theorem acts_one {w : World} {lv : Value} {L : List (List UInt8)} (h : StrsIn w lv L) (t : TypeId) : ActsAt (w.alloc (.cells (actCells lv) t)) (.slice (some ⟨w.heap.size, 0, none⟩) 1 1) [⟨0, L, 0, 0⟩] := by
  have hb := heap_alloc_new w (.cells (actCells lv) t)
  refine ⟨_, _, rfl, fun j hj => ?_⟩
  obtain rfl : j = 0 := by simp at hj; omega
  refine ⟨w.heap.size, 0, lv, rfl, ?_, ?_, h.upd ((Upd.refl _ _).alloc _), ?_, ?_⟩ <;> (rw [cell_of_row _ _ _ _ _ _ hb]; rfl)
theorem great_one {w : World} {lv : Value} {L : List (List UInt8)} (h : StrsIn w lv L) (hL : L.length ≤ 9223372036854775807) (hs : ∀ s ∈ L, s.length ≤ 9223372036854775807) (t : TypeId) :
    Calls Tryz.prog 7 #[.slice (some ⟨w.heap.size, 0, none⟩) 1 1, .int .i64 1] (w.alloc (.cells (actCells lv) t)) fun e w' => e = .returned (.bool (bigAct ⟨0, L, 0, 0⟩)) ∧ w.alloc (.cells (actCells lv) t) = w' := by
  have := great_at (acts_one h t) (by simp) 1 (by decide) (by simp only [List.mem_singleton, forall_eq]; exact ⟨hL, hs⟩)
  refine this.mono ?_
  rintro e w' ⟨rfl, rfl⟩
  refine ⟨?_, rfl⟩
  simp [greatA]
theorem void_disk (w : World) (t : TypeId) (r : List Value) : (w.alloc (.cells (.map none :: r).toArray t)).cell? ⟨w.heap.size, 0, none⟩ = some (.map none) := by
  rw [cell_of_row _ _ _ _ _ _ (heap_alloc_new w _)]; rfl
set_option maxHeartbeats 1000000 in
theorem segmentsNone_at {w : World} (hG : Glob w) {lv : Value} {L : List (List UInt8)} (h : StrsIn w lv L) (hL : L.length ≤ 9223372036854775807) (hs : ∀ s ∈ L, s.length ≤ 9223372036854775807) (n : Int) :
    Calls Tryz.prog 3 #[lv, .int .i64 n] w fun e w' => e = .returned (.bool true) ∧ Upd [] w w' := by
  obtain ⟨la, lc, rfl⟩ := h.slice
  have hgr := great_one h hL hs 25
  unfold actCells at hgr
  have hlaid := fun (u : World) (hu : Upd [] w u) => laid_at (hG.upd hu (by simp) (by simp))
  have u1 : Upd [] w (w.alloc (.cells #[.int .u8 0, .slice la L.length lc, .int .i64 0, .int .i64 0] 25)) := (Upd.refl _ _).alloc _
  have HX := Lib.hid (And.intro h (And.intro hL (And.intro hs hG)))
  clear h hL hs hG
  generalize bigAct ⟨0, L, 0, 0⟩ = big at *
  cases big with
  | true =>
    go_enter Tryz.func3, Tryz.ntmps3
    go_wp2_with (first
      | (go_at_call 7; refine hgr.mono ?_; rintro e _ ⟨rfl, rfl⟩)
      | (go_at_call 8; refine (hlaid _ u1).mono ?_; rintro e w2 ⟨rfl, hu2⟩))
    refine bodyPost_ret (v := .bool true) (by simp [results, Tryz.results3, go_sem]) rfl ?_
    exact ⟨rfl, u1.trans hu2 (by simp)⟩
  | false =>
    go_enter Tryz.func3, Tryz.ntmps3
    go_wp2_with (go_at_call 7; refine hgr.mono ?_; rintro e _ ⟨rfl, rfl⟩)
    go_loopw [5, 6] (fun p i wr => ∃ j : Nat, j ≤ 2 ∧ i = .int .i64 j ∧ VoidAt wr p ∧ Upd [] w wr) (fun _ i _ => 2 - (intOf i).toNat)
    case atStart => exact ⟨0, by omega, rfl, .inl rfl, u1⟩
    case round =>
      obtain ⟨j, hj, rfl, hv, hu⟩ := hrel
      by_cases hlt : j < 2
      · have hji : (j : Int) < 2 := by omega
        have v1 := hv.get n n
        have v2 := hv.append (.slice la L.length lc)
        have v3 := hv.cut n
        have v4 := fun (u : World) (hu' : Upd [] wr u) => (hv.upd hu').count
        clear hv
        go_wp2_with (first
          | (go_at_call 9; refine v1.mono ?_; rintro e _ ⟨rfl, rfl⟩)
          | (go_at_call 10; refine v2.mono ?_; rintro e _ ⟨rfl, rfl⟩)
          | (go_at_call 11; refine v3.mono ?_; rintro e w3 ⟨rfl, hu3⟩)
          | (go_at_call 12; refine (v4 _ hu3).mono ?_; rintro e _ ⟨rfl, rfl⟩))
        go_roundw
        case rel => exact ⟨j + 1, by omega, by go_num, VoidAt.new w3, (hu.trans hu3 (by simp)).alloc _⟩
        case measure => simp [intOf]; omega
      · obtain rfl : j = 2 := by omega
        obtain ⟨h, hL, hs, hG⟩ := HX.out
        have hD := fun (u : World) (hu : Upd [] w u) => on_new hu 100 (by omega)
        have hO1 := open_nil
        go_wp2_with (first
          | (go_at_call 13; refine (hD _ hu).mono ?_; rintro e w1 ⟨d, rfl, hd1⟩)
          | (go_at_call 14; refine Stop.here ?_))
        unfold Stop
        refine (hO1 w1).mono ?_
        rintro e w2 ⟨rfl, hu2⟩
        go_wp2_with (go_at_call 14; refine Stop.here ?_)
        unfold Stop
        refine (open_void _ _ (void_disk w2 _ _)).mono ?_
        rintro e w3 ⟨rfl, hu3⟩
        have hu23 : Upd [] w2 w3 := ((Upd.refl [] w2).alloc _).trans hu3 (by simp)
        have hd3 := hd1.upd (hu2.trans hu23 (by simp))
        have hcr := don_crash hd3 rfl 0 (by unfold Dk.I64; omega)
        go_wp2_with (first
          | (go_at_call 15; refine hcr.mono ?_; rintro e w4 ⟨rfl, hd4⟩)
          | (go_at_call 14; refine Stop.here ?_))
        unfold Stop
        have hb4 := hd4.base
        obtain ⟨df4, k1, k2, k3⟩ := hd4
        refine (open_down k1 rfl).mono ?_
        rintro e w5 ⟨rfl, hu5⟩
        have hb5 := hb4.trans hu5 (by simp)
        go_wp2_with (go_at_call 8; refine (hlaid _ hb5).mono ?_; rintro e w6 ⟨rfl, hu6⟩)
        refine bodyPost_ret (v := .bool true) (by simp [results, Tryz.results3, go_sem]) rfl ?_
        exact ⟨rfl, hb5.trans hu6 (by simp)⟩
end Go.Proofs.YtogkdoooimcemaaGreatDoor

/- Row0 -/
namespace Go.Proofs.YtogkdoooimcemaaGreatDoor
open Go Go.ChangeShapes Go.WideShapes Go.ChangeAt Go.RowKit
open Go.ChangeMaps (setBlock)

theorem rowOwn : ownKnob Tryz.prog.godebug = none := by kernel_rfl
theorem rowLaidOut : laidOutB Tryz.prog = true := by kernel_rfl
def laid2 : List (String × DataW Unit) := [("speculum/sha.first", Rows.laid_speculum_sha_first), ("speculum/sha.rounds", Rows.laid_speculum_sha_rounds)]
theorem door_met (os : Os) (args : Array Value) : laidMetH Tryz.prog laid2 ((World.doorLaid Tryz.prog 400 os).forCall (fun _ _ => 0) ⟨#[], args, []⟩).memory :=
  laidMetH_of_parts3 (fuel := 8) (laidMet_of_run' 8 (by kernel_rfl) (by kernel_rfl)) (by kernel_rfl) (by kernel_rfl)

theorem arr_cells {H : Type} {enc : TypeId × Value → H} {P : Program} {w : World} {base : Nat} {sp : Nat → Bool} {held : Bool} {t e : TypeId} {n fuel : Nat} {k : IntKind} {cs : List Value} {L : List Int} {ps : List MemPlace} (ht : P.underlying t = some (.array n e)) (he : P.underlying e = some (.int k)) (hc : P.cellsOf e = 1)
    (h : DataW.trod enc P w base sp held fuel t cs = some (.agg (L.map fun z => .lit (.int k z)), ps)) : ∀ j, j < n → cs[j]? = some (.int k (L.getD j 0)) := by
  obtain ⟨xs, m, rfl, hx, hlen, hn, hel⟩ := DataW.trod_array ht h
  intro j hj
  have hl := hel j hj
  rw [hc, Nat.mul_one, List.getElem?_eq_getElem (by omega)] at hl
  obtain ⟨q, e1, e2, _⟩ := DataW.trod_int he hl
  simp only [Prod.mk.injEq, DataW.agg.injEq] at hx
  have h1 : (L.map fun z => (DataW.lit (.int k z) : DataW H))[j]? = (xs.map (·.1))[j]? := by rw [hx.1]
  rw [List.getElem?_map, List.getElem?_map, List.getElem?_eq_getElem (l := xs) (by omega), e2] at h1
  cases hL : L[j]? with
  | none => rw [hL] at h1; simp at h1
  | some z =>
    rw [hL] at h1
    simp only [Option.map_some, Option.some.injEq, DataW.lit.injEq, Lit.int.injEq, true_and] at h1
    rw [List.getD_eq_getElem?_getD, hL, Option.getD_some, h1]
    have h2 : ((cs.drop j).take 1)[0]? = some (.int k q) := by rw [e1]; rfl
    rw [List.getElem?_take, if_pos (by omega), List.getElem?_drop] at h2
    simpa using h2
theorem gFirst : Tryz.prog.globalNamed "speculum/sha.first" = some 0 := by kernel_rfl
theorem gRounds : Tryz.prog.globalNamed "speculum/sha.rounds" = some 1 := by kernel_rfl
theorem tFirst : (Tryz.prog.globals[0]?).map (·.type) = some 147 := by kernel_rfl
theorem tRounds : (Tryz.prog.globals[1]?).map (·.type) = some 146 := by kernel_rfl
theorem glob_of_laid {W : World} (h : laidMetH Tryz.prog laid2 W) : Glob W := by
  rw [MakeChecks.laidMetH_plain _ _ _ (by kernel_rfl)] at h
  obtain ⟨ps, ⟨g0, t0, cs0, f0, p0, q0, hg0, ht0, hv0, hd0, ⟨g1, t1, cs1, f1, p1, q1, hg1, ht1, hv1, hd1, _, _⟩, _⟩, _, _⟩ := h
  obtain rfl := Option.some.inj (gFirst.symm.trans hg0)
  obtain rfl := Option.some.inj (gRounds.symm.trans hg1)
  obtain rfl := Option.some.inj (tFirst.symm.trans ht0)
  obtain rfl := Option.some.inj (tRounds.symm.trans ht1)
  refine ⟨fun j hj => ?_, fun j hj => ?_⟩
  · rw [World.var?_cell hg0 hv0 j, ← Array.getElem?_toList]
    exact arr_cells (L := firstL) Tryz.underlying147 Tryz.underlying145 (by kernel_rfl) hd0 j hj
  · rw [World.var?_cell hg1 hv1 j, ← Array.getElem?_toList]
    exact arr_cells (L := roundsL) Tryz.underlying146 Tryz.underlying145 (by kernel_rfl) hd1 j hj

/-- strings that came in -/
theorem strs_in {H : Type} {enc : TypeId × Value → H} {w : World} {base : Nat} {sp : Nat → Bool} {held : Bool} {a0 : Option Addr} {len cap fuel : Nat} {x : DataW H × List MemPlace}
    (h : DataW.trod enc Tryz.prog w base sp held fuel 22 [.slice a0 len cap] = some x) : ∃ L : List (List UInt8), StrsIn w (.slice a0 len cap) L ∧ L.length ≤ 9223372036854775807 ∧ ∀ s ∈ L, s.length ≤ 9223372036854775807 := by
  rcases open_strings Tryz.underlying22 Tryz.underlying9 (by kernel_rfl) h with ⟨hcs, _⟩ | ⟨a, l, c, ss, hcs, _, hl, hm, hz, _, hcell, hws⟩
  · simp at hcs
    obtain ⟨rfl, rfl, rfl⟩ := hcs
    exact ⟨[], .inr ⟨none, 0, rfl, rfl⟩, by simp, by simp⟩
  · simp at hcs
    obtain ⟨rfl, rfl, rfl⟩ := hcs
    have hsl : len ≤ ss.length := by rw [hz]; split <;> omega
    have hlen : ((ss.take len).map fun s => s.data.toList).length = len := by simp; omega
    unfold maxLen at hm hws
    refine ⟨(ss.take len).map fun s => s.data.toList, ?_, by rw [hlen]; omega, fun s hs => ?_⟩
    · by_cases h0 : len = 0
      · subst h0
        exact .inr ⟨_, _, rfl, rfl⟩
      · obtain ⟨b, off, spot⟩ := a
        have hspot : spot = none := by simpa [Addr.add] using World.cell?_spot (hcell 0 (by omega))
        subst hspot
        refine .inl (.inr ⟨b, off, cap, by rw [hlen], by rw [hlen]; exact hl, hm, fun j hj => ?_⟩)
        rw [hlen] at hj
        have := hcell j (by omega)
        rw [addr_add] at this
        rw [this, List.getElem_map, List.getElem_take, List.getD_eq_getElem?_getD, List.getElem?_eq_getElem (by omega)]
        rfl
    · obtain ⟨y, hy, rfl⟩ := List.mem_map.1 hs
      have := hws y (List.mem_of_mem_take hy)
      simpa using this
end Go.Proofs.YtogkdoooimcemaaGreatDoor

/- SegU1 -/
namespace Go.Proofs.YtogkdoooimcemaaGreatDoor
open Go

structure Holds (D : Dk) (T : List (List UInt8)) (c : Nat) (r : List UInt8) (B : Nat) : Prop where
  get : ∀ k : Nat, D.get ((1000 + k : Nat) : Int) = if k < c then some (flat (chunk T k) ++ (if k = T.length / 64 then r else [])) else none
  low : ∀ n : Int, n < 1000 → D.get n = none
  files : nfiles T.length ≤ c
  stop : ahead r = none
  total : Dk.total D.files ≤ B
  short : ∀ x ∈ T, x.length ≤ 200
  keys : (D.files.map (·.1)).Nodup
theorem Holds.of_files {D D' : Dk} {T : List (List UInt8)} {c : Nat} {r : List UInt8} {B : Nat} (h : Holds D T c r B) (e : D'.files = D.files) : Holds D' T c r B := by
  have hg : ∀ n, D'.get n = D.get n := fun n => by unfold Dk.get; rw [e]
  exact ⟨fun k => (hg _).trans (h.get k), fun n hn => (hg n).trans (h.low n hn), h.files, h.stop, by rw [e]; exact h.total, h.short, by rw [e]; exact h.keys⟩
theorem keys_names {D : Dk} {c : Nat} (hn : (D.files.map (·.1)).Nodup) (hs : ∀ n, (D.get n).isSome = true ↔ ∃ k : Nat, k < c ∧ n = ((1000 + k : Nat) : Int)) : D.keys = names c := by
  have tr : ∀ a b c : Int, decide (a ≤ b) = true → decide (b ≤ c) = true → decide (a ≤ c) = true := by intro a b c; simp; omega
  have tt : ∀ a b : Int, (decide (a ≤ b) || decide (b ≤ a)) = true := by intro a b; simp; omega
  have s1 := List.pairwise_mergeSort tr tt (D.files.map (·.1))
  have s2 : (names c).Pairwise (fun a b => decide (a ≤ b) = true) := by
    unfold names
    rw [List.pairwise_map]
    exact List.Pairwise.imp (fun h => by simp; omega) (List.pairwise_lt_range (n := c))
  have hp : D.keys.Perm (names c) := by
    refine (List.mergeSort_perm _ _).trans ?_
    rw [List.perm_ext_iff_of_nodup hn (names_nodup _)]
    intro n
    rw [get_mem, hs]
    unfold names
    simp only [List.mem_map, List.mem_range]
    constructor
    · rintro ⟨k, hk, rfl⟩; exact ⟨k, hk, rfl⟩
    · rintro ⟨k, hk, rfl⟩; exact ⟨k, hk, rfl⟩
  exact List.Perm.eq_of_pairwise (fun a b _ _ h1 h2 => by simp at h1 h2; omega) s1 s2 hp
section
variable {D : Dk} {T : List (List UInt8)} {c : Nat} {r : List UInt8} {B : Nat}
theorem Holds.has_ (h : Holds D T c r B) (n : Int) : (D.get n).isSome = true ↔ ∃ k : Nat, k < c ∧ n = ((1000 + k : Nat) : Int) := by
  by_cases hn : n < 1000
  · rw [h.low n hn]
    constructor
    · intro h; simp at h
    · rintro ⟨k, _, e⟩; omega
  · obtain ⟨k, rfl⟩ : ∃ k : Nat, n = ((1000 + k : Nat) : Int) := ⟨(n - 1000).toNat, by omega⟩
    rw [h.get]
    by_cases hk : k < c
    · rw [if_pos hk]; exact ⟨fun _ => ⟨k, hk, rfl⟩, fun _ => rfl⟩
    · rw [if_neg hk]
      constructor
      · intro h; simp at h
      · rintro ⟨j, hj, e⟩; omega
theorem Holds.keyList (h : Holds D T c r B) : D.keys = names c := keys_names h.keys h.has_
theorem Holds.count (h : Holds D T c r B) : D.files.length = c := by
  rw [← keys_len, h.keyList]; simp [names]
def rAt (T : List (List UInt8)) (r : List UInt8) (j : Nat) : List (List UInt8 × Nat) × Nat := (posFrom 0 (chunk T j), (flat (chunk T j) ++ (if j = T.length / 64 then r else [])).length)
theorem gather_holds (h : Holds D T c r B) : ∀ (f k : Nat), k ≤ T.length / 64 → T.length < 64 * (k + f) →
    gather D f k = (List.range' k (min c (T.length / 64 + 1) - k)).map (rAt T r)
  | 0, k, hk, hf => by omega
  | f + 1, k, hk, hf => by
    unfold gather
    rw [h.get k]
    by_cases hkc : k < c
    · rw [if_pos hkc]
      simp only
      have hcl := chunk_len T k
      have hfe : fileEnts (flat (chunk T k) ++ (if k = T.length / 64 then r else [])) = posFrom 0 (chunk T k) := by
        refine fileEnts_flat (chunk T k) _ (by rw [hcl]; omega) (fun x hx => h.short x (List.mem_of_mem_drop (List.mem_of_mem_take hx))) (.inr ?_)
        split
        · exact h.stop
        · exact ahead_nil
      have hn : min c (T.length / 64 + 1) - k = (min c (T.length / 64 + 1) - (k + 1)) + 1 := by omega
      rw [hfe, posFrom_len, hcl, hn, List.range'_succ, List.map_cons]
      congr 1
      by_cases hfull : min 64 (T.length - 64 * k) = 64
      · rw [if_pos hfull]
        exact gather_holds h f (k + 1) (by omega) (by omega)
      · rw [if_neg hfull]
        have : min c (T.length / 64 + 1) - (k + 1) = 0 := by omega
        rw [this]; rfl
    · rw [if_neg hkc]
      have : min c (T.length / 64 + 1) - k = 0 := by omega
      rw [this]; rfl
theorem rAt_fst (m k : Nat) : ((List.range' k m).map (rAt T r)).flatMap (fun x => x.1.map (·.1)) = ((List.range' k m).map fun j => (posFrom 0 (chunk T j), (flat (chunk T j)).length)).flatMap (fun x => x.1.map (·.1)) := by
  rw [List.flatMap_map, List.flatMap_map]; rfl
theorem rAt_snd (m k : Nat) : ((List.range' k m).map (rAt T r)).flatMap (fun x => x.1.map fun e => ((e.2 : Nat) : Int)) = ((List.range' k m).map fun j => (posFrom 0 (chunk T j), (flat (chunk T j)).length)).flatMap (fun x => x.1.map fun e => ((e.2 : Nat) : Int)) := by
  rw [List.flatMap_map, List.flatMap_map]; rfl
theorem torn_holds : ∀ (m k : Nat), tornOf k ((List.range' k m).map (rAt T r)) = if k ≤ T.length / 64 ∧ T.length / 64 < k + m ∧ r ≠ [] then [Step.trunc ((1000 + T.length / 64 : Nat) : Int) (flat (chunk T (T.length / 64))).length] else []
  | 0, k => by rw [if_neg (by omega)]; rfl
  | m + 1, k => by
    rw [List.range'_succ, List.map_cons, tornOf, torn_holds m (k + 1)]
    unfold rAt
    simp only
    rw [lastEnd_flat]
    by_cases hk : k = T.length / 64
    · rw [if_pos hk, List.length_append]
      have h2 : ¬ (k + 1 ≤ T.length / 64 ∧ T.length / 64 < k + 1 + m ∧ r ≠ []) := by omega
      rw [if_neg h2, List.append_nil]
      by_cases hr : r = []
      · subst hr
        rw [if_neg (by simp), if_neg (by simp)]
      · have : 0 < r.length := List.length_pos_iff.2 hr
        rw [if_pos (by omega), if_pos ⟨by omega, by omega, hr⟩, ← hk]
    · rw [if_neg hk, List.append_nil, if_neg (by omega), List.nil_append]
      by_cases hc : k ≤ T.length / 64 ∧ T.length / 64 < k + (m + 1) ∧ r ≠ []
      · rw [if_pos hc, if_pos ⟨by omega, by omega, hc.2.2⟩]
      · rw [if_neg hc, if_neg (by rintro ⟨h1, h2, h3⟩; exact hc ⟨by omega, by omega, h3⟩)]
theorem holds_opened (h : Holds D T c r B) (hT : T.length ≤ 4000) : (opened D).entries = T ∧ (opened D).ends = endsAll T ∧ (gather D 64 0).length = min c (T.length / 64 + 1) := by
  have hg := gather_holds h 64 0 (by omega) (by omega)
  rw [Nat.sub_zero] at hg
  have hf := h.files
  have hle : T.length ≤ 64 * (0 + min c (T.length / 64 + 1)) := by unfold nfiles at hf; omega
  refine ⟨?_, ?_, by rw [hg]; simp⟩
  · show entsOf (gather D 64 0) = T
    unfold entsOf
    rw [hg, rAt_fst, ents_range T _ 0 hle]; rfl
  · show endsOf (gather D 64 0) = endsAll T
    unfold endsOf
    rw [hg, rAt_snd, ends_range T _ 0 hle]; rfl
def dropList : Nat → Nat → List Step
  | 0, _ => []
  | c + 1, G => if c < G then [] else Step.delete ((1000 + c : Nat) : Int) :: dropList c G
theorem dropList_nil {c G : Nat} (h : c ≤ G) : dropList c G = [] := by
  cases c with
  | zero => rfl
  | succ c => unfold dropList; rw [if_pos (by omega)]
theorem drop_names (G : Nat) : ∀ c, ((names c).reverse.filter (fun m => decide (((1000 + G : Nat) : Int) ≤ m))).map Step.delete = dropList c G
  | 0 => rfl
  | c + 1 => by
    have ih := drop_names G c
    have e : names (c + 1) = names c ++ [((1000 + c : Nat) : Int)] := by unfold names; rw [List.range_succ, List.map_append]; rfl
    rw [e, List.reverse_append, List.reverse_singleton, List.singleton_append, List.filter_cons]
    unfold dropList
    by_cases hc : c < G
    · rw [if_pos hc, if_neg (by simp; omega), ih, dropList_nil (by omega)]
    · rw [if_neg hc, if_pos (by simp; omega), List.map_cons, ih]
theorem holds_steps (h : Holds D T c r B) (hT : T.length ≤ 4000) : openSteps D = dropList c (min c (T.length / 64 + 1)) ++ ((if T.length / 64 < c ∧ r ≠ [] then [Step.trunc ((1000 + T.length / 64 : Nat) : Int) (flat (chunk T (T.length / 64))).length] else []) ++ [Step.sync]) := by
  have hg := gather_holds h 64 0 (by omega) (by omega)
  rw [Nat.sub_zero] at hg
  unfold openSteps dropSteps
  rw [(holds_opened h hT).2.2, h.keyList, drop_names, hg, torn_holds, List.append_assoc]
  congr 2
  by_cases hc : T.length / 64 < c ∧ r ≠ []
  · rw [if_pos hc, if_pos ⟨by omega, by omega, hc.2⟩]
  · rw [if_neg hc, if_neg (by rintro ⟨h1, h2, h3⟩; exact hc ⟨by omega, h3⟩)]
end

/-! ### steps of a disk that may sink; nothing is loose -/
structure Sunk (D0 D : Dk) : Prop where
  was : D0.fails = true
  down : D.down = true
  swept : D.loose = []
  fails : D.fails = false
  cap : D.cap = D0.cap
  starts : D.starts = D0.starts
structure Live (D0 D : Dk) : Prop where
  up : D.down = false
  swept : D.loose = []
  ok : D.Ok
  calm : D0.fails = false → D.fails = false
  cap : D.cap = D0.cap
  starts : D.starts = D0.starts
theorem Live.trans {D0 D1 D2 : Dk} (h : Live D0 D1) (k : Live D1 D2) : Live D0 D2 := ⟨k.up, k.swept, k.ok, fun e => k.calm (h.calm e), k.cap.trans h.cap, k.starts.trans h.starts⟩
theorem Live.sunk {D0 D1 D2 : Dk} (h : Live D0 D1) (k : Sunk D1 D2) : Sunk D0 D2 := by
  refine ⟨?_, k.down, k.swept, k.fails, k.cap.trans h.cap, k.starts.trans h.starts⟩
  cases hf : D0.fails with
  | true => rfl
  | false => have h1 := h.calm hf; have h2 := k.was; rw [h1] at h2; exact absurd h2 (by simp)
def Ends (D0 : Dk) (R : Dk × Int) (P Q : Dk → Prop) : Prop := (R.2 = 61 ∧ Sunk D0 R.1 ∧ Q R.1) ∨ (R.2 = 0 ∧ Live D0 R.1 ∧ P R.1)
theorem Ends.seq {D0 : Dk} {l m : List Step} {P P' Q : Dk → Prop} (h : Ends D0 (Step.all l D0) P Q) (k : ∀ D1, Live D0 D1 → P D1 → Ends D1 (Step.all m D1) P' Q) : Ends D0 (Step.all (l ++ m) D0) P' Q := by
  rw [all_append]
  rcases h with ⟨h1, h2, h3⟩ | ⟨h1, h2, h3⟩
  · rw [if_neg (by omega)]
    exact .inl ⟨h1, h2, h3⟩
  · rw [if_pos h1]
    rcases k _ h2 h3 with ⟨k1, k2, k3⟩ | ⟨k1, k2, k3⟩
    · exact .inl ⟨k1, h2.sunk k2, k3⟩
    · exact .inr ⟨k1, h2.trans k2, k3⟩
theorem tick_starts (D : Dk) : D.tick.starts = D.starts ∧ (D.fails = false → D.tick.fails = false) := by unfold Dk.tick; split <;> simp
theorem step_cases {D : Dk} (f : Dk → Dk) (hu : D.down = false) (hl : D.loose = []) (ho : D.Ok) (hf : ∀ E : Dk, (f E).down = E.down ∧ (f E).cap = E.cap ∧ (f E).starts = E.starts ∧ (f E).fails = E.fails ∧ (f E).left = E.left) (hl' : ∀ E : Dk, E.loose = [] → (f E).loose = []) {P Q : Dk → Prop}
    (hP : P (f D.tick)) (hQ : Q { D.tick with down := true, fails := false }) : Ends D (D.step f) P Q := by
  obtain ⟨t1, t2, t3, t4, t5⟩ := tick_files D
  unfold Dk.step
  by_cases hs : D.sinks = true
  · rw [if_pos hs, crash_swept (t2.trans hl)]
    unfold Dk.sinks at hs
    rw [Bool.and_eq_true] at hs
    exact .inl ⟨rfl, ⟨hs.1, rfl, t2.trans hl, rfl, t5, (tick_starts D).1⟩, hQ⟩
  · rw [if_neg hs]
    obtain ⟨f1, f2, f3, f4, f5⟩ := hf D.tick
    refine .inr ⟨rfl, ⟨f1.trans (t3.trans hu), hl' _ (t2.trans hl), ?_, fun h => f4.trans ((tick_starts D).2 h), f2.trans t5, f3.trans (tick_starts D).1⟩, hP⟩
    intro h
    show 0 ≤ (f D.tick).left
    rw [f5]
    rw [show (f D.tick).fails = D.tick.fails from f4] at h
    have hD : D.fails = true := by
      cases hd : D.fails with
      | true => rfl
      | false => rw [(tick_starts D).2 hd] at h; exact absurd h (by simp)
    unfold Dk.sinks at hs
    rw [hD] at hs
    simp at hs
    unfold Dk.tick
    rw [if_pos hD]
    show 0 ≤ D.left - 1
    omega
theorem Ends.one {D : Dk} {s : Step} {P Q : Dk → Prop} (h : Ends D (s.run D) P Q) : Ends D (Step.all [s] D) P Q := by
  simp only [Step.all]
  rcases h with ⟨h1, h2, h3⟩ | ⟨h1, h2, h3⟩
  · rw [if_neg (by omega)]; exact .inl ⟨h1, h2, h3⟩
  · rw [if_pos h1]; exact .inr ⟨rfl, h2, h3⟩
theorem Ends.nil {D : Dk} {P Q : Dk → Prop} (hu : D.down = false) (hl : D.loose = []) (ho : D.Ok) (hP : P D) : Ends D (Step.all [] D) P Q := .inr ⟨rfl, ⟨hu, hl, ho, id, rfl, rfl⟩, hP⟩
end Go.Proofs.YtogkdoooimcemaaGreatDoor

/- SegU2 -/
namespace Go.Proofs.YtogkdoooimcemaaGreatDoor
open Go

theorem delF_ne (l : List (Int × List UInt8)) (n : Int) : (Dk.delF l n).map (·.1) = (l.map (·.1)).filter (· != n) := by
  unfold Dk.delF
  induction l with
  | nil => rfl
  | cons a l ih => rw [List.filter_cons, List.map_cons, List.filter_cons]; split <;> simp [ih]
section
variable {D : Dk} {T : List (List UInt8)} {c : Nat} {r : List UInt8} {B : Nat}
/-- the last file is deleted -/
theorem Holds.del (h : Holds D T (c + 1) r B) (hc : nfiles T.length ≤ c) {D' : Dk} (e : D'.files = Dk.delF D.files ((1000 + c : Nat) : Int)) : Holds D' T c r B := by
  have hg : ∀ n, D'.get n = if n = ((1000 + c : Nat) : Int) then none else D.get n := by
    intro n; unfold Dk.get; rw [e, getF_delF]
  refine ⟨fun k => ?_, fun n hn => ?_, hc, h.stop, ?_, h.short, ?_⟩
  · rw [hg, h.get]
    by_cases hk : k = c
    · rw [if_pos (by omega), if_neg (by omega)]
    · rw [if_neg (by omega)]
      by_cases hk2 : k < c
      · rw [if_pos (by omega), if_pos hk2]
      · rw [if_neg (by omega), if_neg hk2]
  · rw [hg, if_neg (by omega)]; exact h.low n hn
  · rw [e]; exact Nat.le_trans (total_del _ _) h.total
  · rw [e, delF_ne]; exact List.Nodup.sublist List.filter_sublist h.keys
theorem drop_run : ∀ (c : Nat) (D : Dk) (G : Nat), Holds D T c r B → D.down = false → D.loose = [] → D.Ok → nfiles T.length ≤ G → G ≤ c →
    Ends D (Step.all (dropList c G) D) (fun D' => Holds D' T G r B) (fun D' => ∃ c', Holds D' T c' r B)
  | 0, D, G, h, hu, hl, ho, _, hG => by
    obtain rfl : G = 0 := by omega
    exact Ends.nil hu hl ho h
  | c + 1, D, G, h, hu, hl, ho, hn, hG => by
    unfold dropList
    by_cases hc : c < G
    · rw [if_pos hc]
      obtain rfl : G = c + 1 := by omega
      exact Ends.nil hu hl ho h
    · rw [if_neg hc]
      have hsome : (D.get ((1000 + c : Nat) : Int)).isSome = true := (h.has_ _).2 ⟨c, by omega, rfl⟩
      have hhas : D.has ((1000 + c : Nat) : Int) = 0 := by
        unfold Dk.has
        rw [if_neg (by simp [hu])]
        rw [if_neg (by rw [Option.isNone_iff_eq_none]; intro e; rw [e] at hsome; simp at hsome)]
      have h1 : Ends D (Step.all [Step.delete ((1000 + c : Nat) : Int)] D) (fun D' => Holds D' T c r B) (fun D' => ∃ c', Holds D' T c' r B) := by
        refine Ends.one ?_
        show Ends D (D.delete _) _ _
        unfold Dk.delete
        rw [if_neg (by rw [hhas]; simp)]
        exact step_cases (P := fun D' => Holds D' T c r B) (Q := fun D' => ∃ c', Holds D' T c' r B) (fun D => { D with files := Dk.delF D.files ((1000 + c : Nat) : Int), loose := Dk.drop D.loose ((1000 + c : Nat) : Int) 0 }) hu hl ho (fun E => ⟨rfl, rfl, rfl, rfl, rfl⟩) (fun E he => by show Dk.drop E.loose _ 0 = []; rw [he]; rfl)
          (h.del (by omega) (by show Dk.delF D.tick.files _ = _; rw [(tick_files D).1])) ⟨c + 1, h.of_files (tick_files D).1⟩
      exact Ends.seq (l := [Step.delete ((1000 + c : Nat) : Int)]) h1 (fun D1 hl1 hh => drop_run c D1 G hh hl1.up hl1.swept hl1.ok hn (by omega))
theorem Holds.cutEnd (h : Holds D T c r B) {D' : Dk} (hq : T.length / 64 < c) (e : D'.files = Dk.setF D.files ((1000 + T.length / 64 : Nat) : Int) (flat (chunk T (T.length / 64)))) : Holds D' T c [] B := by
  have hb : D.get ((1000 + T.length / 64 : Nat) : Int) = some (flat (chunk T (T.length / 64)) ++ r) := by rw [h.get, if_pos hq, if_pos rfl]
  have hg : ∀ n, D'.get n = if n = ((1000 + T.length / 64 : Nat) : Int) then some (flat (chunk T (T.length / 64))) else D.get n := by
    intro n
    show Dk.getF D'.files n = _
    rw [e, getF_setF]
    split
    · show Option.map _ (D.get _) = _
      rw [hb]; rfl
    · rfl
  refine ⟨fun k => ?_, fun n hn => ?_, h.files, ahead_nil, ?_, h.short, by rw [e, keys_setF]; exact h.keys⟩
  · rw [hg, h.get]
    by_cases hk : k = T.length / 64
    · rw [if_pos (by omega), if_pos (by omega), if_pos hk, hk, List.append_nil]
    · rw [if_neg (by omega), if_neg hk, if_neg hk]
  · rw [hg, if_neg (by omega)]; exact h.low n hn
  · rw [e]
    exact Nat.le_trans (total_shrink D.files _ _ _ h.keys hb (by simp)) h.total
/-- Open -/
theorem open_run (h : Holds D T c r B) (hu : D.down = false) (hl : D.loose = []) (ho : D.Ok) (hT : T.length ≤ 4000) :
    Ends D (Step.all (openSteps D) D) (fun D' => ∃ c', c' ≤ T.length / 64 + 1 ∧ Holds D' T c' [] B) (fun D' => ∃ c' r', Holds D' T c' r' B) := by
  rw [holds_steps h hT]
  have hf := h.files
  have hG : nfiles T.length ≤ min c (T.length / 64 + 1) := by unfold nfiles at *; omega
  have wk : ∀ {l : List Step} {D : Dk} {P Q Q' : Dk → Prop}, Ends D (Step.all l D) P Q → (∀ D', Q D' → Q' D') → Ends D (Step.all l D) P Q' := by
    intro l D P Q Q' h hq
    rcases h with ⟨h1, h2, h3⟩ | h
    · exact .inl ⟨h1, h2, hq _ h3⟩
    · exact .inr h
  refine Ends.seq (wk (drop_run c D _ h hu hl ho hG (by omega)) (fun D' ⟨c', h'⟩ => ⟨c', r, h'⟩)) ?_
  intro D1 l1 h1
  have hsync : ∀ D2 : Dk, D2.down = false → D2.loose = [] → D2.Ok → Holds D2 T (min c (T.length / 64 + 1)) [] B →
      Ends D2 (Step.all [Step.sync] D2) (fun D' => ∃ c', c' ≤ T.length / 64 + 1 ∧ Holds D' T c' [] B) (fun D' => ∃ c' r', Holds D' T c' r' B) := by
    intro D2 hu2 hl2 ho2 h2
    refine Ends.one ?_
    show Ends D2 D2.sync _ _
    unfold Dk.sync
    rw [if_neg (by simp [hu2])]
    exact step_cases (P := fun D' => ∃ c', c' ≤ T.length / 64 + 1 ∧ Holds D' T c' [] B) (Q := fun D' => ∃ c' r', Holds D' T c' r' B) (fun D => { D with loose := [] }) hu2 hl2 ho2 (fun E => ⟨rfl, rfl, rfl, rfl, rfl⟩) (fun E _ => rfl) ⟨_, by omega, h2.of_files (tick_files D2).1⟩ ⟨_, _, h2.of_files (tick_files D2).1⟩
  by_cases hc : T.length / 64 < c ∧ r ≠ []
  · rw [if_pos hc]
    have hq : T.length / 64 < min c (T.length / 64 + 1) := by omega
    have hb : D1.get ((1000 + T.length / 64 : Nat) : Int) = some (flat (chunk T (T.length / 64)) ++ r) := by rw [h1.get, if_pos hq, if_pos rfl]
    have h2 : Ends D1 (Step.all [Step.trunc ((1000 + T.length / 64 : Nat) : Int) (flat (chunk T (T.length / 64))).length] D1) (fun D' => Holds D' T (min c (T.length / 64 + 1)) [] B) (fun D' => ∃ c' r', Holds D' T c' r' B) := by
      refine Ends.one ?_
      show Ends D1 (D1.truncate _ _) _ _
      unfold Dk.truncate
      have hhas : D1.has ((1000 + T.length / 64 : Nat) : Int) = 0 := by
        unfold Dk.has
        rw [if_neg (by simp [l1.up]), if_neg (by rw [hb]; simp)]
      rw [if_neg (by rw [hhas]; simp), hb, if_neg (by simp; omega)]
      refine step_cases (P := fun D' => Holds D' T (min c (T.length / 64 + 1)) [] B) (Q := fun D' => ∃ c' r', Holds D' T c' r' B) (fun D => D.cut ((1000 + T.length / 64 : Nat) : Int) (((flat (chunk T (T.length / 64))).length : Nat) : Int).toNat) l1.up l1.swept l1.ok (fun E => ⟨rfl, rfl, rfl, rfl, rfl⟩) (fun E he => by show Dk.drop E.loose _ _ = []; rw [he]; rfl) ?_ ⟨_, _, h1.of_files (tick_files D1).1⟩
      refine h1.cutEnd hq ?_
      show Dk.setF D1.tick.files _ (((D1.tick.get _).getD []).take _) = _
      rw [tick_get, (tick_files D1).1, hb, Int.toNat_natCast, Option.getD_some, List.take_left']
      rfl
    exact Ends.seq h2 (fun D2 l2 h2 => hsync D2 l2.up l2.swept l2.ok h2)
  · rw [if_neg hc, List.nil_append]
    refine hsync D1 l1.up l1.swept l1.ok ?_
    by_cases hr : r = []
    · subst hr; exact h1
    · -- the part stands in no file
      have hcq : c ≤ T.length / 64 := by
        rcases Nat.lt_or_ge (T.length / 64) c with k | k
        · exact absurd ⟨k, hr⟩ hc
        · exact k
      refine ⟨fun k => ?_, h1.low, h1.files, ahead_nil, h1.total, h1.short, h1.keys⟩
      rw [h1.get]
      by_cases hk : k < min c (T.length / 64 + 1)
      · rw [if_pos hk, if_pos hk, if_neg (by omega), if_neg (by omega)]
      · rw [if_neg hk, if_neg hk]
end
end Go.Proofs.YtogkdoooimcemaaGreatDoor

/- SegU3 -/
namespace Go.Proofs.YtogkdoooimcemaaGreatDoor
open Go

inductive LooseP (E : List (List UInt8)) : List (List UInt8) → List (Int × Nat) → Prop
  | nil : LooseP E [] []
  | snoc (M p : List (List UInt8)) (l : List (Int × Nat)) : LooseP E M l → 0 < p.length → (E ++ M).length % 64 + p.length ≤ 64 → LooseP E (M ++ p) (l ++ [(((1000 + (E ++ M).length / 64 : Nat) : Int), (flat p).length)])
def sumL (l : List (Int × Nat)) : Nat := (l.map (·.2)).sum
theorem lost_snoc : ∀ (l : List (Int × Nat)) (m : Int) (s : Nat) (K n : Int), Dk.lost (l ++ [(m, s)]) K n = Dk.lost l K n + (if m = n then s - min (max (K - sumL l) 0).toNat s else 0)
  | [], m, s, K, n => by simp [Dk.lost, sumL]
  | (m1, s1) :: l, m, s, K, n => by
    have ih := lost_snoc l m s (K - min (max K 0).toNat s1) n
    simp only [List.cons_append, Dk.lost] at ih ⊢
    rw [ih]
    have e : min (max (K - min (max K 0).toNat s1 - sumL l) 0).toNat s = min (max (K - sumL ((m1, s1) :: l)) 0).toNat s := by
      unfold sumL
      simp only [List.map_cons, List.sum_cons]
      omega
    rw [e]; omega
theorem lost_full : ∀ (l : List (Int × Nat)) (K n : Int), (sumL l : Int) ≤ K → Dk.lost l K n = 0
  | [], _, _, _ => rfl
  | (m1, s1) :: l, K, n, h => by
    unfold sumL at h
    simp only [List.map_cons, List.sum_cons] at h
    simp only [Dk.lost]
    rw [lost_full l _ n (by unfold sumL; omega)]
    split <;> omega
theorem sum_loose {E M : List (List UInt8)} {l : List (Int × Nat)} (h : LooseP E M l) : sumL l = (flat M).length := by
  induction h with
  | nil => rfl
  | snoc M p l h1 h2 h3 ih =>
    unfold sumL at ih ⊢
    rw [List.map_append, List.sum_append, ih, flat_append, List.length_append]
    simp
theorem chunk_other (E M : List (List UInt8)) (k : Nat) (h : E.length % 64 + M.length ≤ 64) (hk : k ≠ E.length / 64) : chunk (E ++ M) k = chunk E k := by
  unfold chunk
  rcases Nat.lt_or_ge k (E.length / 64) with h1 | h1
  · rw [List.drop_append_of_le_length (by omega), List.take_append_of_le_length (by simp; omega)]
  · rw [List.drop_of_length_le (by simp; omega), List.drop_of_length_le (by omega)]
theorem frame_pos (x : List UInt8) : 0 < (frameOf x).length := by rw [length_frameOf]; omega
theorem keep_ex : ∀ (M : List (List UInt8)) (K : Nat), (∀ x ∈ M, x.length ≤ 200) → ∃ j r, j ≤ M.length ∧ (flat M).take K = flat (M.take j) ++ r ∧ (r ≠ [] → ∃ x y, M.drop j = x :: y ∧ r.length < (frameOf x).length) ∧ ahead r = none
  | [], K, _ => ⟨0, [], Nat.le_refl _, by simp [flat], by simp, ahead_nil⟩
  | x :: M, K, h => by
    by_cases hk : K < (frameOf x).length
    · refine ⟨0, (frameOf x).take K, Nat.zero_le _, ?_, fun _ => ⟨x, M, rfl, by rw [List.length_take]; omega⟩, ahead_part x K (by have := h x (by simp); omega) hk⟩
      rw [flat_cons, List.take_append_of_le_length (by omega)]; rfl
    · obtain ⟨j, r, h1, h2, h3, h4⟩ := keep_ex M (K - (frameOf x).length) (fun y hy => h y (by simp [hy]))
      refine ⟨j + 1, r, by simp; omega, ?_, fun hr => ?_, h4⟩
      · rw [flat_cons, List.take_append, List.take_of_length_le (by omega), h2, List.take_succ_cons, flat_cons, List.append_assoc]
      · obtain ⟨x', y, e, hl⟩ := h3 hr
        exact ⟨x', y, by simpa using e, hl⟩
theorem flat_take_lt (M : List (List UInt8)) (j : Nat) (x : List UInt8) (y : List (List UInt8)) (e : M.drop j = x :: y) : (flat (M.take j)).length + (frameOf x).length ≤ (flat M).length := by
  conv => rhs; rw [← List.take_append_drop j M]
  rw [flat_append, List.length_append, e, flat_cons, List.length_append]
  omega
/-- what a crash leaves of each file -/
theorem crash_part {E M : List (List UInt8)} {l : List (Int × Nat)} (h : LooseP E M l) : ∀ (K : Int) (j : Nat) (r : List UInt8), (flat M).take K.toNat = flat (M.take j) ++ r → j ≤ M.length → (r ≠ [] → ∃ x y, M.drop j = x :: y ∧ r.length < (frameOf x).length) →
    ∀ k : Nat, (flat (chunk (E ++ M) k)).take ((flat (chunk (E ++ M) k)).length - Dk.lost l K ((1000 + k : Nat) : Int)) = flat (chunk (E ++ M.take j) k) ++ (if k = (E ++ M.take j).length / 64 then r else []) := by
  induction h with
  | nil =>
    intro K j r e _ _ k
    have hr : r = [] := by
      have := congrArg List.length e
      simp [flat] at this
      exact List.eq_nil_of_length_eq_zero (by omega)
    subst hr
    simp [Dk.lost]
  | snoc M p l hl hp hm ih =>
    intro K j r e hj hr k
    have hsum := sum_loose hl
    have hlen : (E ++ M).length = E.length + M.length := List.length_append
    have hkey : ∀ P : List (List UInt8), (E ++ M).length % 64 + P.length ≤ 64 → flat (chunk (E ++ (M ++ P)) k) = if k = (E ++ M).length / 64 then flat (chunk (E ++ M) k) ++ flat P else flat (chunk (E ++ M) k) := by
      intro P hP
      rw [← List.append_assoc]
      by_cases hk : k = (E ++ M).length / 64
      · rw [if_pos hk, hk, chunk_more (E ++ M) P hP]
      · rw [if_neg hk, chunk_other (E ++ M) P k hP hk]
    rw [hkey p hm, lost_snoc]
    by_cases hK : K < (sumL l : Int)
    · -- the new piece is lost
      have hjM : j ≤ M.length := by
        rcases Nat.lt_or_ge M.length j with h | h
        · exfalso
          have ht2 : (M ++ p).take j = M ++ p.take (j - M.length) := by rw [List.take_append, List.take_of_length_le (by omega)]
          have h1 := congrArg List.length e
          have h2 : 0 < (flat (p.take (j - M.length))).length := by
            rw [List.length_append] at hj
            cases hpt : p.take (j - M.length) with
            | nil => have := congrArg List.length hpt; rw [List.length_take, List.length_nil] at this; omega
            | cons a b => rw [flat_cons, List.length_append]; have := frame_pos a; omega
          rw [ht2] at h1
          simp only [List.length_take, List.length_append, flat_append] at h1
          omega
        · exact h
      have ht : (M ++ p).take j = M.take j := List.take_append_of_le_length (by omega)
      have hd : (M ++ p).drop j = M.drop j ++ p := List.drop_append_of_le_length (by omega)
      rw [ht] at e ⊢
      have hih := ih K j r (by
        rw [← e, flat_append, List.take_append_of_le_length (by omega)]) (by omega) (fun h0 => by
          obtain ⟨x, y, e1, e2⟩ := hr h0
          rw [hd] at e1
          cases hdm : M.drop j with
          | nil =>
            exfalso
            have h1 := congrArg List.length hdm
            simp at h1
            have h2 := congrArg List.length e
            rw [List.take_of_length_le (l := M) (by omega)] at h2
            simp only [List.length_take, List.length_append, flat_append] at h2
            exact h0 (List.eq_nil_of_length_eq_zero (by omega))
          | cons a b => rw [hdm] at e1; simp at e1; exact ⟨a, b, rfl, by rw [e1.1]; exact e2⟩) k
      have hz : min (max (K - (sumL l : Int)) 0).toNat (flat p).length = 0 := by omega
      rw [hz]
      by_cases hk : k = (E ++ M).length / 64
      · rw [if_pos hk, if_pos (by omega), List.length_append, List.take_append_of_le_length (by omega), ← hih]
        congr 1; omega
      · rw [if_neg hk, if_neg (by omega), Nat.add_zero]
        exact hih
    · -- all of the older pieces stay
      rw [lost_full l K _ (by omega)]
      have hjM : M.length ≤ j := by
        rcases Nat.lt_or_ge j M.length with h | h
        · exfalso
          have h1 := congrArg List.length e
          have ht : (M ++ p).take j = M.take j := List.take_append_of_le_length (by omega)
          have hd : (M ++ p).drop j = M.drop j ++ p := List.drop_append_of_le_length (by omega)
          rw [ht, flat_append, List.length_take, List.length_append, List.length_append] at h1
          cases hdm : M.drop j with
          | nil => have := congrArg List.length hdm; simp at this; omega
          | cons a b =>
            have h2 := flat_take_lt M j a b hdm
            have h3 : r.length < (frameOf a).length := by
              by_cases h0 : r = []
              · rw [h0]; exact frame_pos a
              · obtain ⟨x, y, e1, e2⟩ := hr h0
                rw [hd, hdm] at e1
                simp at e1
                rw [e1.1]; exact e2
            omega
        · exact h
      obtain ⟨i, rfl⟩ : ∃ i, j = M.length + i := ⟨j - M.length, by omega⟩
      have ht : (M ++ p).take (M.length + i) = M ++ p.take i := by rw [List.take_append, List.take_of_length_le (by omega)]; congr 2; omega
      rw [List.length_append] at hj
      have hpi : (p.take i).length = i := by rw [List.length_take]; omega
      rw [ht] at e ⊢
      have ep : (flat p).take (K.toNat - (flat M).length) = flat (p.take i) ++ r := by
        rw [flat_append, List.take_append, List.take_of_length_le (by omega), flat_append, List.append_assoc] at e
        exact List.append_cancel_left e
      have hrl : i = p.length → r = [] := by
        intro hi
        by_cases h0 : r = []
        · exact h0
        · obtain ⟨x, y, e1, e2⟩ := hr h0
          rw [List.drop_of_length_le (by rw [List.length_append]; omega)] at e1
          simp at e1
      rw [hkey (p.take i) (by rw [hpi]; omega)]
      have hlen2 : (E ++ (M ++ p.take i)).length = (E ++ M).length + i := by rw [← List.append_assoc, List.length_append, hpi]
      rw [hlen2]
      have hmin : (max (K - (sumL l : Int)) 0).toNat = K.toNat - (flat M).length := by omega
      rw [hmin]
      by_cases hk : k = (E ++ M).length / 64
      · rw [if_pos hk, if_pos (by omega), if_pos hk, Nat.zero_add, List.length_append]
        have hcut : (flat (chunk (E ++ M) k)).length + (flat p).length - ((flat p).length - min (K.toNat - (flat M).length) (flat p).length) = (flat (chunk (E ++ M) k)).length + min (K.toNat - (flat M).length) (flat p).length := by omega
        rw [hcut, List.take_append, List.take_of_length_le (by omega), Nat.add_sub_cancel_left]
        have htk : (flat p).take (min (K.toNat - (flat M).length) (flat p).length) = (flat p).take (K.toNat - (flat M).length) := by
          rcases Nat.le_total (K.toNat - (flat M).length) (flat p).length with h | h
          · rw [Nat.min_eq_left h]
          · rw [Nat.min_eq_right h, List.take_of_length_le (Nat.le_refl _), List.take_of_length_le h]
        rw [htk, ep, List.append_assoc]
        by_cases hi : k = ((E ++ M).length + i) / 64
        · rw [if_pos hi]
        · rw [if_neg hi, hrl (by omega)]
      · rw [if_neg hk, if_neg (by omega), if_neg hk, Nat.add_zero, Nat.sub_zero, List.take_length]
        by_cases hi : k = ((E ++ M).length + i) / 64
        · rw [hrl (by omega)]; simp
        · rw [if_neg hi, List.append_nil]
theorem crash_holds {D : Dk} {E M : List (List UInt8)} {c : Nat} {B : Nat} (h : Holds D (E ++ M) c [] B) (hl : LooseP E M D.loose) (K : Int) : ∃ j r, j ≤ M.length ∧ Holds (D.crash K) (E ++ M.take j) c r B := by
  obtain ⟨j, r, h1, h2, h3, h4⟩ := keep_ex M K.toNat (fun x hx => h.short x (by simp [hx]))
  have hp := crash_part hl K j r h2 h1 h3
  have hg : ∀ n, (D.crash K).get n = (D.get n).map fun b => b.take (b.length - Dk.lost D.loose K n) := fun n => Dk.getF_cutF D.files (fun m => Dk.lost D.loose K m) n
  refine ⟨j, r, h1, fun k => ?_, fun n hn => ?_, ?_, h4, ?_, fun x hx => h.short x ?_, ?_⟩
  · rw [hg, h.get]
    by_cases hk : k < c
    · rw [if_pos hk, if_pos hk, Option.map_some]
      have : (if k = (E ++ M).length / 64 then ([] : List UInt8) else []) = [] := by split <;> rfl
      rw [this, List.append_nil, hp k]
    · rw [if_neg hk, if_neg hk]; rfl
  · rw [hg, h.low n hn]; rfl
  · have := h.files
    rw [List.length_append] at this ⊢
    rw [List.length_take]
    unfold nfiles at *
    omega
  · exact Nat.le_trans (Dk.total_cutF D.files (fun m => Dk.lost D.loose K m)) h.total
  · rcases List.mem_append.1 hx with hx | hx
    · exact List.mem_append.2 (.inl hx)
    · exact List.mem_append.2 (.inr (List.mem_of_mem_take hx))
  · show ((D.files.map fun f => (f.1, f.2.take (f.2.length - Dk.lost D.loose K f.1))).map (·.1)).Nodup
    rw [List.map_map]
    exact h.keys
end Go.Proofs.YtogkdoooimcemaaGreatDoor
