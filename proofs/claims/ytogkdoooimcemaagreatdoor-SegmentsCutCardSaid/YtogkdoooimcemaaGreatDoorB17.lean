/- The statements' fixed example: laid. Conditions: the laid variables.
  SegmentsNone: the walk. Conditions: the laid variables, and what a reading gives.
  What the rows ask besides the walks: the laid variables as cells; strings that came in. Conditions: those of each lemma.
  SegmentsCut: what the walk needs. Conditions: those of each lemma.
  SegmentsCut: the walk. Conditions: the laid variables, and what a reading gives.
  SegmentsCut: the row and its tied card: whatever the input, the law is true, and the input reads as it did. Conditions: none but the row's own. -/
import Derived.Test.YtogkdoooimcemaaGreatDoorB16
import Derived.Test.YtogkdoooimcemaaGreatDoorRows
import Derived.ProofKit
import Derived.LaidMore
import Derived.OpenShut
import Derived.SliceStrings
import Derived.ChangeOld
import Derived.Below
import Derived.Carry
import Derived.Test.YtogkdoooimcemaaGreatDoorCards
import Derived.Test.YtogkdoooimcemaaGreatDoorTie
import Derived.SevenTiedAt
/- Law4 -/
namespace Go.Proofs.YtogkdoooimcemaaGreatDoor
open Go Go.RowKit
open Go.ChangeMaps (setBlock)
set_option maxRecDepth 20000

theorem flat_length : ∀ (l : List (List UInt8)), (flat l).length = 12 * l.length + (l.map List.length).sum
  | [] => rfl
  | x :: l => by
    have := flat_length l
    rw [flat_cons, List.length_append, length_frameOf, this]
    simp; omega
theorem strs_alloc (w : World) (t : TypeId) (L : List (List UInt8)) (hl : L.length ≤ maxLen) : StrsAt (w.alloc (.cells (svs L).toArray t)) (.slice (some ⟨w.heap.size, 0, none⟩) L.length L.length) L := by
  refine .inr ⟨w.heap.size, 0, L.length, rfl, Nat.le_refl _, hl, fun j hj => ?_⟩
  rw [cell_of_row _ _ _ _ _ _ (heap_alloc_new w (.cells (svs L).toArray t))]
  simp [svs, hj]
theorem ints_alloc (w : World) (t : TypeId) (L : List Int) : IntsAt (w.alloc (.cells (ivs L).toArray t)) (.slice (some ⟨w.heap.size, 0, none⟩) L.length L.length) L := by
  refine ⟨_, _, rfl, fun j hj => ⟨w.heap.size, 0, rfl, ?_⟩⟩
  rw [cell_of_row _ _ _ _ _ _ (heap_alloc_new w (.cells (ivs L).toArray t))]
  simp [ivs, hj]
theorem many_strs {w' : World} {v : Value} {n : Nat} {l : List UInt8} (h : RowAt w' 9 v (List.replicate n (.string ⟨l.toArray⟩))) : StrsAt w' v (List.replicate n l) := by
  refine RowAt.strs ?_
  unfold svs
  rw [List.map_replicate]
  exact h
def twoL : List (List UInt8) := [[97], [98]]
def manyL : List (List UInt8) := List.replicate 65 [120]
def oneL : List (List UInt8) := List.replicate 1 (List.replicate 201 0)
theorem two_short : ∀ x ∈ twoL, x.length ≤ 200 := by decide
theorem many_short : ∀ x ∈ manyL, x.length ≤ 200 := by intro x hx; rw [List.eq_of_mem_replicate hx]; decide
theorem two_flat : (flat twoL).length = 26 := by rw [flat_length]; rfl
theorem many_flat : (flat manyL).length = 845 := by rw [flat_length]; unfold manyL; simp
theorem many_len : manyL.length = 65 := by unfold manyL; simp
theorem e5_len : (([] : List (List UInt8)) ++ twoL ++ manyL).length = 67 := by rw [List.length_append, many_len]; rfl
theorem e5_get : ((([] : List (List UInt8)) ++ twoL ++ manyL).drop 1).take 2 = [[98], [120]] := by rfl
theorem e9_len : ((([] : List (List UInt8)) ++ twoL ++ manyL).take 64).length = 64 := by rw [List.length_take, e5_len]; rfl
theorem mk201 (w : World) : (Instr.makeSlice 61 (.int .i64 201) (.int .i64 201)).run Tryz.prog w = .ok (.slice (some ⟨w.heap.size, 0, none⟩) 201 201) (w.alloc (.cells (List.replicate 201 (bv 0)).toArray 5)) := mk_eq (by kernel_rfl)
theorem cv201 (w : World) {s : ByteArray} (hs : s = ⟨(List.replicate 201 0).toArray⟩) : (convert 61 9 (.slice (some ⟨w.heap.size, 0, none⟩) 201 201)).run Tryz.prog (w.alloc (.cells (List.replicate 201 (bv 0)).toArray 5)) = .ok (.string s) (w.alloc (.cells (List.replicate 201 (bv 0)).toArray 5)) := by
  subst hs
  have := run_text (o := 0) (cap := 201) (heap_alloc_new w (.cells (List.replicate 201 (bv 0)).toArray 5)) (List.replicate 201 0) (by simp [bvs])
  rwa [List.length_replicate] at this
theorem good_long {S : Sg} {D : Dk} {E : List (List UInt8)} {B : Nat} (h : Good S D E B) {L : List (List UInt8)} (h0 : L.length ≠ 0) (hl : L.any (fun s => decide (200 < s.length)) = true) : S.append D L = (S, D, 3) := by
  unfold Sg.append
  rw [if_neg (by simp [h.ready]), if_neg h0, if_pos hl]
theorem one_at {w' : World} {a : Option Addr} {c : Nat} {s : ByteArray} (hs : s = ⟨(List.replicate 201 0).toArray⟩) (h : RowAt w' 9 (.slice a 1 c) (List.replicate 1 (.string s))) : StrsAt w' (.slice a 1 c) oneL := by
  subst hs
  exact many_strs (n := 1) (l := List.replicate 201 0) h
theorem one_long : oneL.any (fun s => decide (200 < s.length)) = true := by unfold oneL; rw [List.any_eq_true]; exact ⟨List.replicate 201 0, by simp, by simp⟩
theorem two_at (w : World) : StrsAt (w.alloc (.cells #[.string ⟨#[97]⟩, .string ⟨#[98]⟩] 9)) (.slice (some ⟨w.heap.size, 0, none⟩) 2 2) twoL := strs_alloc w 9 twoL (by decide)
theorem many_at_ {w' : World} {a : Option Addr} {c : Nat} (h : RowAt w' 9 (.slice a 65 c) (List.replicate 65 (.string ⟨#[120]⟩))) : StrsAt w' (.slice a 65 c) manyL := many_strs (n := 65) (l := [120]) h
set_option maxHeartbeats 400000 in
theorem laid_at {w : World} (hG : Glob w) : Calls Tryz.prog 8 #[] w fun e w' => e = .returned (.bool true) ∧ Upd [] w w' := by
  go_enter Tryz.func8, Tryz.ntmps8
  go_wp2_with (first
    | (go_at_call 13; refine (on_new (Upd.refl [] w) 3000 (by omega)).mono ?_; rintro e w1 ⟨d, rfl, hd1⟩)
    | (go_at_call 14; refine (on_open_good hd1 (rep_new 3000 (by omega)) rfl (by simp) (GlobP.old hG)).mono ?_; rintro e w2 ⟨s, S2, D2, rfl, h2, g2, c2⟩)
    | (go_at_call 10; refine Stop.here ?_))
  unfold Stop
  have p2 := on_append_good (L := twoL) h2 g2 ((Upd.refl [] w2).alloc (.cells #[.string ⟨#[97]⟩, .string ⟨#[98]⟩] 9)) (GlobP.old hG) (.inl (two_at w2)) (fun _ g hg => .inl (by simp [Value.ownBlock] at hg; omega)) two_short (by decide) (by rw [two_flat, c2.1]; decide)
  refine p2.mono ?_
  rintro e w3 ⟨S3, D3, rfl, h3, g3, c3⟩
  clear p2
  go_wp2_with (first
    | (go_at_call 30; refine (many_at w3 65 (by omega) ⟨#[120]⟩).mono ?_; rintro e w4 ⟨_, rfl, hr4, hu4, hg4, a4, k4, e4⟩; rw [List.length_replicate] at e4; subst e4)
    | (go_at_call 10; refine Stop.here ?_))
  unfold Stop
  have p4 := on_append_good (L := manyL) h3 g3 hu4 (GlobP.old hG) (.inl (many_at_ hr4)) (fun _ g hg => .inl (hg4 g hg)) many_short (by rw [many_len]; decide) (by rw [many_flat, two_flat, c3.1, c2.1]; decide)
  refine p4.mono ?_
  rintro e w5 ⟨S5, D5, rfl, h5, g5, c5⟩
  clear p4
  have n5 : Calls Tryz.prog 12 #[.pointer (some ⟨s, 0, none⟩)] w5 fun e w' => e = .returned (.int .i64 67) ∧ w5 = w' := by
    have := on_count h5
    rw [g5.ents, e5_len] at this
    exact this.mono (fun _ _ h => ⟨h.1, h.2.symm⟩)
  have i5 : IntsAt (w5.alloc (.cells #[.int .i64 1000, .int .i64 1001] 3)) (.slice (some ⟨w5.heap.size, 0, none⟩) 2 2) [1000, 1001] := ints_alloc w5 3 [1000, 1001]
  have f5 := on_files (h5.disk.upd ((Upd.refl [] w5).alloc (.cells #[.int .i64 1000, .int .i64 1001] 3))) i5 (by decide)
  rw [g5.rep.keys, e5_len, show decide (names (nfiles 67) = [1000, 1001]) = true by decide] at f5
  go_wp2_with (first
    | (go_at_call 12; refine n5.mono ?_; rintro e _ ⟨rfl, rfl⟩)
    | (go_at_call 31; refine f5.mono ?_; rintro e w6 ⟨rfl, hu6⟩)
    | (go_at_call 9; refine Stop.here ?_))
  unfold Stop
  have u6 : Upd [] w5 w6 := ((Upd.refl [] w5).alloc (.cells #[.int .i64 1000, .int .i64 1001] 3)).trans hu6 (by simp)
  have h6 := h5.upd u6
  have he6 := g5.ents
  have gt6 : Calls Tryz.prog 9 #[.pointer (some ⟨s, 0, none⟩), .int .i64 1, .int .i64 2] w6 (GetO w6 [[98], [120]]) := by
    have := on_get h6 1 2 (by rw [he6, e5_len]; decide)
    rw [he6, e5_get] at this
    exact this
  clear n5 f5 i5 hu6
  refine gt6.mono ?_
  rintro e w7 ⟨a7, k7, rfl, hs7, hu7, -⟩
  clear gt6
  have h7 := h6.upd hu7
  have gt7 : Calls Tryz.prog 9 #[.pointer (some ⟨s, 0, none⟩), .int .i64 66, .int .i64 2] w7 fun e w' => e = .returned (.tuple #[.slice none 0 0, .int .i64 82]) ∧ w7 = w' := on_get_bad h7 66 2 (by rw [he6, e5_len]; decide)
  have u8 := (Upd.refl [] w7).alloc (.cells #[.string ⟨#[98]⟩, .string ⟨#[120]⟩] 9)
  have t8 := texts_at (.inl (hs7.upd u8)) (.inl (strs_alloc w7 9 [[98], [120]] (by decide))) (by decide)
  rw [show decide (([[98], [120]] : List (List UInt8)) = [[98], [120]]) = true by decide] at t8
  go_wp2_with (first
    | (go_at_call 9; refine gt7.mono ?_; rintro e w8 ⟨rfl, rfl⟩)
    | (go_at_call 26; refine t8.mono ?_; rintro e w8 ⟨rfl, hu8⟩)
    | (go_at_call 11; refine Stop.here ?_))
  unfold Stop
  have h8 := h7.upd (u8.trans hu8 (by simp))
  clear gt7 t8 hs7
  have cu8 := on_cut_good h8 g5 64 (by rw [e5_len]; decide)
  refine cu8.mono ?_
  rintro e w9 ⟨S9, D9, rfl, h9, g9, c9⟩
  clear cu8
  have n9 : ∀ u, Upd [] w9 u → Calls Tryz.prog 12 #[.pointer (some ⟨s, 0, none⟩)] u fun e w' => e = .returned (.int .i64 64) ∧ u = w' := by
    intro u hu
    have := on_count (h9.upd hu)
    rw [g9.ents, e9_len] at this
    exact this.mono (fun _ _ h => ⟨h.1, h.2.symm⟩)
  have i9 : IntsAt (w9.alloc (.cells #[.int .i64 1000] 3)) (.slice (some ⟨w9.heap.size, 0, none⟩) 1 1) [1000] := ints_alloc w9 3 [1000]
  have f9 := on_files (h9.disk.upd ((Upd.refl [] w9).alloc (.cells #[.int .i64 1000] 3))) i9 (by decide)
  rw [g9.rep.keys, e9_len, show decide (names (nfiles 64) = [1000]) = true by decide] at f9
  obtain ⟨s201, e201⟩ : ∃ s : ByteArray, s = ⟨(List.replicate 201 0).toArray⟩ := ⟨_, rfl⟩
  obtain ⟨z201, ez⟩ : ∃ z : Array Value, z = (List.replicate 201 (bv 0)).toArray := ⟨_, rfl⟩
  have hmk := mk201
  have hcv := fun w => cv201 w e201
  simp only [← ez] at hmk hcv
  have EZ := Lib.hid (And.intro ez e201)
  clear ez e201
  go_wp2_with (first
    | (go_at_call 12; refine (n9 _ u10).mono ?_; rintro e _ ⟨rfl, rfl⟩)
    | (go_at_call 31; refine f9.mono ?_; rintro e w10 ⟨rfl, hu10⟩; have u10 : Upd [] w9 w10 := ((Upd.refl [] w9).alloc (.cells #[.int .i64 1000] 3)).trans hu10 (by simp))
    | (go_at_call 30; refine (many_at _ 1 (by omega) s201).mono ?_; rintro e w12 ⟨_, rfl, hr12, hu12, hg12, a12, k12, e12⟩; rw [List.length_replicate] at e12; subst e12)
    | (go_at_call 10; refine Stop.here ?_))
  unfold Stop
  have u12 : Upd [] w9 w12 := (u10.alloc _).trans hu12 (by simp)
  have hgl : S9.append D9 oneL = (S9, D9, 3) := good_long g9 (by decide) one_long
  have a12' := on_append h9 u12 g9.ok (GlobP.old hG) (.inl (one_at EZ.out.2 hr12)) (fun _ g hg => .inl (by have h1 := hg12 g hg; have h2 := (u10.alloc (.cells z201 5)).size; omega)) (by decide) (by intro x hx; rw [List.eq_of_mem_replicate hx]; simp) g9.ends_bd (by rw [g9.swept]; decide)
  refine a12'.mono ?_
  rintro e w13 ⟨rfl, h13⟩
  rw [hgl] at h13 ⊢
  clear a12' hgl hr12 hu12 hg12 u12
  go_wp2
  refine bodyPost_ret (v := .bool true) (by simp [results, Tryz.results8, go_sem]) rfl ?_
  exact ⟨rfl, h13.base⟩
end Go.Proofs.YtogkdoooimcemaaGreatDoor

/- Law5 -/
namespace Go.Proofs.YtogkdoooimcemaaGreatDoor
open Go Go.RowKit
open Go.ChangeMaps (setBlock)
set_option maxRecDepth 20000

/-- segments that are none, or that no Open made -/
def VoidAt (w : World) (p : Value) : Prop := p = .pointer none ∨ ∃ b, p = .pointer (some ⟨b, 0, none⟩) ∧ w.cell? ⟨b, 0, none⟩ = some (.pointer none) ∧ w.cell? ⟨b, 1, none⟩ = some (.slice none 0 0)
theorem count_void (w : World) (s : Nat) (h : w.cell? ⟨s, 1, none⟩ = some (.slice none 0 0)) : Calls Tryz.prog 12 #[.pointer (some ⟨s, 0, none⟩)] w fun e w' => e = .returned (.int .i64 0) ∧ w' = w := by
  go_enter Tryz.func12, Tryz.ntmps12
  go_wp2
  go_ret
  exact ⟨rfl, rfl⟩
theorem VoidAt.upd {w w' : World} {p : Value} (h : VoidAt w p) (hu : Upd [] w w') : VoidAt w' p := by
  rcases h with rfl | ⟨b, rfl, h1, h2⟩
  · exact .inl rfl
  · exact .inr ⟨b, rfl, (hu.cell (block_lt_of_cell h1) (by simp)).trans h1, (hu.cell (block_lt_of_cell h2) (by simp)).trans h2⟩
theorem VoidAt.get {w : World} {p : Value} (h : VoidAt w p) (f n : Int) : Calls Tryz.prog 9 #[p, .int .i64 f, .int .i64 n] w fun e w' => e = .returned (.tuple #[.slice none 0 0, .int .i64 1]) ∧ w = w' := by
  rcases h with rfl | ⟨b, rfl, h1, h2⟩
  · exact get_nil w f n
  · exact get_void w b f n h1
theorem VoidAt.append {w : World} {p : Value} (h : VoidAt w p) (v : Value) : Calls Tryz.prog 10 #[p, v] w fun e w' => e = .returned (.int .i64 1) ∧ w = w' := by
  rcases h with rfl | ⟨b, rfl, h1, h2⟩
  · exact sapp_nil w v
  · exact sapp_void w b v h1
theorem VoidAt.cut {w : World} {p : Value} (h : VoidAt w p) (n : Int) : Calls Tryz.prog 11 #[p, .int .i64 n] w fun e w' => e = .returned (.int .i64 1) ∧ Upd [] w w' := by
  rcases h with rfl | ⟨b, rfl, h1, h2⟩
  · exact cut_nil w n
  · exact cut_void w b n h1
theorem VoidAt.count {w : World} {p : Value} (h : VoidAt w p) : Calls Tryz.prog 12 #[p] w fun e w' => e = .returned (.int .i64 0) ∧ w = w' := by
  rcases h with rfl | ⟨b, rfl, h1, h2⟩
  · exact (count_none w).mono (fun _ _ h => ⟨h.1, h.2.symm⟩)
  · exact (count_void w b h2).mono (fun _ _ h => ⟨h.1, h.2.symm⟩)
def segZero : Array Value := #[.pointer none, .slice none 0 0, .slice none 0 0, .int .i64 0, .bool false]
theorem VoidAt.new (w : World) : VoidAt (w.alloc (.cells segZero 38)) (.pointer (some ⟨w.heap.size, 0, none⟩)) := by
  refine .inr ⟨_, rfl, ?_, ?_⟩ <;> (rw [cell_of_row _ _ _ _ _ _ (heap_alloc_new w _)]; rfl)
def actCells (lv : Value) : Array Value := #[.int .u8 0, lv, .int .i64 0, .int .i64 0]
theorem acts_one {w : World} {lv : Value} {L : List (List UInt8)} (h : StrsIn w lv L) (t : TypeId) : ActsAt (w.alloc (.cells (actCells lv) t)) (.slice (some ⟨w.heap.size, 0, none⟩) 1 1) [⟨0, L, 0, 0⟩] := by
  have hb := heap_alloc_new w (.cells (actCells lv) t)
  refine ⟨_, _, rfl, fun j hj => ?_⟩
  obtain rfl : j = 0 := by simp at hj; omega
  refine ⟨w.heap.size, 0, lv, rfl, ?_, ?_, h.upd ((Upd.refl _ _).alloc _), ?_, ?_⟩ <;> (rw [cell_of_row _ _ _ _ _ _ hb]; rfl)
theorem great_one {w : World} {lv : Value} {L : List (List UInt8)} (h : StrsIn w lv L) (hL : L.length ≤ 9223372036854775807) (hs : ∀ s ∈ L, s.length ≤ 9223372036854775807) (t : TypeId) :
    Calls Tryz.prog 7 #[.slice (some ⟨w.heap.size, 0, none⟩) 1 1, .int .i64 1] (w.alloc (.cells (actCells lv) t)) fun e w' => e = .returned (.bool (bigAct ⟨0, L, 0, 0⟩)) ∧ w.alloc (.cells (actCells lv) t) = w' := by
  have := great_at (acts_one h t) (by simp) 1 (by decide) (by simp only [List.mem_singleton, forall_eq]; exact ⟨hL, hs⟩)
  refine this.mono ?_
  rintro e w' ⟨rfl, rfl⟩
  refine ⟨?_, rfl⟩
  simp [greatA]
theorem void_disk (w : World) (t : TypeId) (r : List Value) : (w.alloc (.cells (.map none :: r).toArray t)).cell? ⟨w.heap.size, 0, none⟩ = some (.map none) := by
  rw [cell_of_row _ _ _ _ _ _ (heap_alloc_new w _)]; rfl
set_option maxHeartbeats 1000000 in
theorem segmentsNone_at {w : World} (hG : Glob w) {lv : Value} {L : List (List UInt8)} (h : StrsIn w lv L) (hL : L.length ≤ 9223372036854775807) (hs : ∀ s ∈ L, s.length ≤ 9223372036854775807) (n : Int) :
    Calls Tryz.prog 3 #[lv, .int .i64 n] w fun e w' => e = .returned (.bool true) ∧ Upd [] w w' := by
  obtain ⟨la, lc, rfl⟩ := h.slice
  have hgr := great_one h hL hs 25
  unfold actCells at hgr
  have hlaid := fun (u : World) (hu : Upd [] w u) => laid_at (hG.upd hu (by simp) (by simp))
  have u1 : Upd [] w (w.alloc (.cells #[.int .u8 0, .slice la L.length lc, .int .i64 0, .int .i64 0] 25)) := (Upd.refl _ _).alloc _
  have HX := Lib.hid (And.intro h (And.intro hL (And.intro hs hG)))
  clear h hL hs hG
  generalize bigAct ⟨0, L, 0, 0⟩ = big at *
  cases big with
  | true =>
    go_enter Tryz.func3, Tryz.ntmps3
    go_wp2_with (first
      | (go_at_call 7; refine hgr.mono ?_; rintro e _ ⟨rfl, rfl⟩)
      | (go_at_call 8; refine (hlaid _ u1).mono ?_; rintro e w2 ⟨rfl, hu2⟩))
    refine bodyPost_ret (v := .bool true) (by simp [results, Tryz.results3, go_sem]) rfl ?_
    exact ⟨rfl, u1.trans hu2 (by simp)⟩
  | false =>
    go_enter Tryz.func3, Tryz.ntmps3
    go_wp2_with (go_at_call 7; refine hgr.mono ?_; rintro e _ ⟨rfl, rfl⟩)
    go_loopw [5, 6] (fun p i wr => ∃ j : Nat, j ≤ 2 ∧ i = .int .i64 j ∧ VoidAt wr p ∧ Upd [] w wr) (fun _ i _ => 2 - (intOf i).toNat)
    case atStart => exact ⟨0, by omega, rfl, .inl rfl, u1⟩
    case round =>
      obtain ⟨j, hj, rfl, hv, hu⟩ := hrel
      by_cases hlt : j < 2
      · have hji : (j : Int) < 2 := by omega
        have v1 := hv.get n n
        have v2 := hv.append (.slice la L.length lc)
        have v3 := hv.cut n
        have v4 := fun (u : World) (hu' : Upd [] wr u) => (hv.upd hu').count
        clear hv
        go_wp2_with (first
          | (go_at_call 9; refine v1.mono ?_; rintro e _ ⟨rfl, rfl⟩)
          | (go_at_call 10; refine v2.mono ?_; rintro e _ ⟨rfl, rfl⟩)
          | (go_at_call 11; refine v3.mono ?_; rintro e w3 ⟨rfl, hu3⟩)
          | (go_at_call 12; refine (v4 _ hu3).mono ?_; rintro e _ ⟨rfl, rfl⟩))
        go_roundw
        case rel => exact ⟨j + 1, by omega, by go_num, VoidAt.new w3, (hu.trans hu3 (by simp)).alloc _⟩
        case measure => simp [intOf]; omega
      · obtain rfl : j = 2 := by omega
        obtain ⟨h, hL, hs, hG⟩ := HX.out
        have hD := fun (u : World) (hu : Upd [] w u) => on_new hu 100 (by omega)
        have hO1 := open_nil
        go_wp2_with (first
          | (go_at_call 13; refine (hD _ hu).mono ?_; rintro e w1 ⟨d, rfl, hd1⟩)
          | (go_at_call 14; refine Stop.here ?_))
        unfold Stop
        refine (hO1 w1).mono ?_
        rintro e w2 ⟨rfl, hu2⟩
        go_wp2_with (go_at_call 14; refine Stop.here ?_)
        unfold Stop
        refine (open_void _ _ (void_disk w2 _ _)).mono ?_
        rintro e w3 ⟨rfl, hu3⟩
        have hu23 : Upd [] w2 w3 := ((Upd.refl [] w2).alloc _).trans hu3 (by simp)
        have hd3 := hd1.upd (hu2.trans hu23 (by simp))
        have hcr := don_crash hd3 rfl 0 (by unfold Dk.I64; omega)
        go_wp2_with (first
          | (go_at_call 15; refine hcr.mono ?_; rintro e w4 ⟨rfl, hd4⟩)
          | (go_at_call 14; refine Stop.here ?_))
        unfold Stop
        have hb4 := hd4.base
        obtain ⟨df4, k1, k2, k3⟩ := hd4
        refine (open_down k1 rfl).mono ?_
        rintro e w5 ⟨rfl, hu5⟩
        have hb5 := hb4.trans hu5 (by simp)
        go_wp2_with (go_at_call 8; refine (hlaid _ hb5).mono ?_; rintro e w6 ⟨rfl, hu6⟩)
        refine bodyPost_ret (v := .bool true) (by simp [results, Tryz.results3, go_sem]) rfl ?_
        exact ⟨rfl, hb5.trans hu6 (by simp)⟩
end Go.Proofs.YtogkdoooimcemaaGreatDoor

/- Row0 -/
namespace Go.Proofs.YtogkdoooimcemaaGreatDoor
open Go Go.ChangeShapes Go.WideShapes Go.ChangeAt Go.RowKit
open Go.ChangeMaps (setBlock)

theorem rowOwn : ownKnob Tryz.prog.godebug = none := by kernel_rfl
theorem rowLaidOut : laidOutB Tryz.prog = true := by kernel_rfl
def laid2 : List (String × DataW Unit) := [("speculum/sha.first", Rows.laid_speculum_sha_first), ("speculum/sha.rounds", Rows.laid_speculum_sha_rounds)]
theorem door_met (os : Os) (args : Array Value) : laidMetH Tryz.prog laid2 ((World.doorLaid Tryz.prog 400 os).forCall (fun _ _ => 0) ⟨#[], args, []⟩).memory :=
  laidMetH_of_parts3 (fuel := 8) (laidMet_of_run' 8 (by kernel_rfl) (by kernel_rfl)) (by kernel_rfl) (by kernel_rfl)

theorem arr_cells {H : Type} {enc : TypeId × Value → H} {P : Program} {w : World} {base : Nat} {sp : Nat → Bool} {held : Bool} {t e : TypeId} {n fuel : Nat} {k : IntKind} {cs : List Value} {L : List Int} {ps : List MemPlace} (ht : P.underlying t = some (.array n e)) (he : P.underlying e = some (.int k)) (hc : P.cellsOf e = 1)
    (h : DataW.trod enc P w base sp held fuel t cs = some (.agg (L.map fun z => .lit (.int k z)), ps)) : ∀ j, j < n → cs[j]? = some (.int k (L.getD j 0)) := by
  obtain ⟨xs, m, rfl, hx, hlen, hn, hel⟩ := DataW.trod_array ht h
  intro j hj
  have hl := hel j hj
  rw [hc, Nat.mul_one, List.getElem?_eq_getElem (by omega)] at hl
  obtain ⟨q, e1, e2, _⟩ := DataW.trod_int he hl
  simp only [Prod.mk.injEq, DataW.agg.injEq] at hx
  have h1 : (L.map fun z => (DataW.lit (.int k z) : DataW H))[j]? = (xs.map (·.1))[j]? := by rw [hx.1]
  rw [List.getElem?_map, List.getElem?_map, List.getElem?_eq_getElem (l := xs) (by omega), e2] at h1
  cases hL : L[j]? with
  | none => rw [hL] at h1; simp at h1
  | some z =>
    rw [hL] at h1
    simp only [Option.map_some, Option.some.injEq, DataW.lit.injEq, Lit.int.injEq, true_and] at h1
    rw [List.getD_eq_getElem?_getD, hL, Option.getD_some, h1]
    have h2 : ((cs.drop j).take 1)[0]? = some (.int k q) := by rw [e1]; rfl
    rw [List.getElem?_take, if_pos (by omega), List.getElem?_drop] at h2
    simpa using h2
theorem gFirst : Tryz.prog.globalNamed "speculum/sha.first" = some 0 := by kernel_rfl
theorem gRounds : Tryz.prog.globalNamed "speculum/sha.rounds" = some 1 := by kernel_rfl
theorem tFirst : (Tryz.prog.globals[0]?).map (·.type) = some 147 := by kernel_rfl
theorem tRounds : (Tryz.prog.globals[1]?).map (·.type) = some 146 := by kernel_rfl
theorem glob_of_laid {W : World} (h : laidMetH Tryz.prog laid2 W) : Glob W := by
  rw [MakeChecks.laidMetH_plain _ _ _ (by kernel_rfl)] at h
  obtain ⟨ps, ⟨g0, t0, cs0, f0, p0, q0, hg0, ht0, hv0, hd0, ⟨g1, t1, cs1, f1, p1, q1, hg1, ht1, hv1, hd1, _, _⟩, _⟩, _, _⟩ := h
  obtain rfl := Option.some.inj (gFirst.symm.trans hg0)
  obtain rfl := Option.some.inj (gRounds.symm.trans hg1)
  obtain rfl := Option.some.inj (tFirst.symm.trans ht0)
  obtain rfl := Option.some.inj (tRounds.symm.trans ht1)
  refine ⟨fun j hj => ?_, fun j hj => ?_⟩
  · rw [World.var?_cell hg0 hv0 j, ← Array.getElem?_toList]
    exact arr_cells (L := firstL) Tryz.underlying147 Tryz.underlying145 (by kernel_rfl) hd0 j hj
  · rw [World.var?_cell hg1 hv1 j, ← Array.getElem?_toList]
    exact arr_cells (L := roundsL) Tryz.underlying146 Tryz.underlying145 (by kernel_rfl) hd1 j hj

/-- strings that came in -/
theorem strs_in {H : Type} {enc : TypeId × Value → H} {w : World} {base : Nat} {sp : Nat → Bool} {held : Bool} {a0 : Option Addr} {len cap fuel : Nat} {x : DataW H × List MemPlace}
    (h : DataW.trod enc Tryz.prog w base sp held fuel 22 [.slice a0 len cap] = some x) : ∃ L : List (List UInt8), StrsIn w (.slice a0 len cap) L ∧ L.length ≤ 9223372036854775807 ∧ ∀ s ∈ L, s.length ≤ 9223372036854775807 := by
  rcases open_strings Tryz.underlying22 Tryz.underlying9 (by kernel_rfl) h with ⟨hcs, _⟩ | ⟨a, l, c, ss, hcs, _, hl, hm, hz, _, hcell, hws⟩
  · simp at hcs
    obtain ⟨rfl, rfl, rfl⟩ := hcs
    exact ⟨[], .inr ⟨none, 0, rfl, rfl⟩, by simp, by simp⟩
  · simp at hcs
    obtain ⟨rfl, rfl, rfl⟩ := hcs
    have hsl : len ≤ ss.length := by rw [hz]; split <;> omega
    have hlen : ((ss.take len).map fun s => s.data.toList).length = len := by simp; omega
    unfold maxLen at hm hws
    refine ⟨(ss.take len).map fun s => s.data.toList, ?_, by rw [hlen]; omega, fun s hs => ?_⟩
    · by_cases h0 : len = 0
      · subst h0
        exact .inr ⟨_, _, rfl, rfl⟩
      · obtain ⟨b, off, spot⟩ := a
        have hspot : spot = none := by simpa [Addr.add] using World.cell?_spot (hcell 0 (by omega))
        subst hspot
        refine .inl (.inr ⟨b, off, cap, by rw [hlen], by rw [hlen]; exact hl, hm, fun j hj => ?_⟩)
        rw [hlen] at hj
        have := hcell j (by omega)
        rw [addr_add] at this
        rw [this, List.getElem_map, List.getElem_take, List.getD_eq_getElem?_getD, List.getElem?_eq_getElem (by omega)]
        rfl
    · obtain ⟨y, hy, rfl⟩ := List.mem_map.1 hs
      have := hws y (List.mem_of_mem_take hy)
      simpa using this
end Go.Proofs.YtogkdoooimcemaaGreatDoor

/- Cut1 -/
namespace Go.Proofs.YtogkdoooimcemaaGreatDoor
open Go Go.RowKit
open Go.ChangeMaps (setBlock)
set_option maxRecDepth 20000

/-- the entries: two bytes each -/
def pairL (k j : Nat) : List (List UInt8) := (List.range j).map fun i => [UInt8.ofNat i, UInt8.ofNat k]
theorem pairL_len (k j : Nat) : (pairL k j).length = j := by simp [pairL]
theorem pairL_short (k j : Nat) : ∀ x ∈ pairL k j, x.length ≤ 200 := by
  intro x hx
  obtain ⟨i, _, rfl⟩ := List.mem_map.1 hx
  simp
theorem pairL_flat (k : Nat) : ∀ j, (flat (pairL k j)).length = 14 * j
  | 0 => rfl
  | j + 1 => by
    have := pairL_flat k j
    unfold pairL at this ⊢
    rw [List.range_succ, List.map_append, flat_append, List.length_append, this, List.map_singleton, flat_cons, List.length_append, length_frameOf]
    simp [flat]; omega
theorem pairL_succ (k j : Nat) : pairL k (j + 1) = pairL k j ++ [[UInt8.ofNat j, UInt8.ofNat k]] := by simp [pairL, List.range_succ]
theorem u8_of (j : Nat) (h : j < 256) : bv (UInt8.ofNat j) = .int .u8 j := by
  simp [bv]; omega
theorem cv_pair (w : World) (j k : Nat) (hj : j < 256) (hk : k < 256) : (convert 61 9 (.slice (some ⟨w.heap.size, 0, none⟩) 2 2)).run Tryz.prog (w.alloc (.cells #[.int .u8 j, .int .u8 k] 5)) = .ok (.string ⟨#[UInt8.ofNat j, UInt8.ofNat k]⟩) (w.alloc (.cells #[.int .u8 j, .int .u8 k] 5)) := by
  have := run_text (o := 0) (cap := 2) (heap_alloc_new w (.cells #[.int .u8 j, .int .u8 k] 5)) [UInt8.ofNat j, UInt8.ofNat k] (by
    rw [← u8_of j hj, ← u8_of k hk]; rfl)
  exact this
def PairR (k : Nat) (w : World) (l i : Value) (wr : World) : Prop := ∃ (j : Nat) (a : Option Addr) (c : Nat), j ≤ k ∧ l = .slice a j c ∧ i = .int .i64 j ∧ RowAt wr 9 l (svs (pairL k j)) ∧ Upd [] w wr ∧ (∀ g, l.ownBlock = some g → w.heap.size ≤ g)
theorem off_append {S : Sg} {D : Dk} (L : List (List UInt8)) (h : D.starts ≠ S.starts) : S.append D L = ({ S with dead := true }, D, 61) := by
  unfold Sg.append
  rw [if_pos (by unfold Sg.ready; simp [h])]
theorem StrsIn.own {w : World} {v : Value} {L : List (List UInt8)} (h : StrsIn w v L) (h0 : L.length ≠ 0) : ∀ g, v.ownBlock = some g → g < w.heap.size := by
  intro g hg
  rcases h.at_ h0 with ⟨_, h1⟩ | ⟨g', off, cap, rfl, h1, h2, h3⟩
  · rw [h1] at h0; exact absurd rfl h0
  · have := h3 0 (by omega)
    simp [Value.ownBlock] at hg
    subst hg
    exact block_lt_of_cell this
end Go.Proofs.YtogkdoooimcemaaGreatDoor

/- Cut2 -/
namespace Go.Proofs.YtogkdoooimcemaaGreatDoor
open Go Go.RowKit
open Go.ChangeMaps (setBlock)
set_option maxRecDepth 20000

set_option maxHeartbeats 1000000 in
theorem segmentsCut_at {w : World} (hG : Glob w) {lv : Value} {L : List (List UInt8)} (h : StrsIn w lv L) (hL : L.length ≤ 9223372036854775807) (hs : ∀ s ∈ L, s.length ≤ 9223372036854775807) (n stay : Nat) (hn : n < 256) (hst : stay < 256) :
    Calls Tryz.prog 5 #[.int .u8 n, .int .u8 stay, lv] w fun e w' => e = .returned (.bool true) ∧ Upd [] w w' := by
  obtain ⟨la, lc, rfl⟩ := h.slice
  have hgr := great_one h hL hs 25
  unfold actCells at hgr
  have hlaid := fun (u : World) (hu : Upd [] w u) => laid_at (hG.upd hu (by simp) (by simp))
  have u1 : Upd [] w (w.alloc (.cells #[.int .u8 0, .slice la L.length lc, .int .i64 0, .int .i64 0] 25)) := (Upd.refl _ _).alloc _
  have HX := Lib.hid (And.intro h (And.intro hL (And.intro hs hG)))
  clear h hL hs hG
  obtain ⟨k, hk, hk2⟩ : ∃ k : Nat, (n : Int) % 201 = k ∧ k ≤ 200 := ⟨n % 201, by omega, by omega⟩
  obtain ⟨m, hm, hm2⟩ : ∃ m : Nat, (stay : Int) % ((k : Int) + 1) = m ∧ m ≤ k := by
    refine ⟨stay % (k + 1), by rw [show ((k : Int) + 1) = ((k + 1 : Nat) : Int) by omega]; exact (Int.natCast_emod stay (k + 1)).symm, ?_⟩
    have := Nat.mod_lt stay (show 0 < k + 1 by omega)
    omega
  by_cases hbig : bigAct ⟨0, L, 0, 0⟩ = true
  · rw [hbig] at hgr
    go_enter Tryz.func5, Tryz.ntmps5
    go_wp2_with (first
      | (go_at_call 7; refine hgr.mono ?_; rintro e _ ⟨rfl, rfl⟩)
      | (go_at_call 8; refine (hlaid _ u1).mono ?_; rintro e w2 ⟨rfl, hu2⟩))
    refine bodyPost_ret (v := .bool true) (by simp [results, Tryz.results5, go_sem]) rfl ?_
    exact ⟨rfl, u1.trans hu2 (by simp)⟩
  · rw [Bool.not_eq_true] at hbig
    rw [hbig] at hgr
    by_cases hten : 10 < L.length
    · have hti : (10 : Int) < L.length := by omega
      go_enter Tryz.func5, Tryz.ntmps5
      go_wp2_with (first
        | (go_at_call 7; refine hgr.mono ?_; rintro e _ ⟨rfl, rfl⟩)
        | (go_at_call 8; refine (hlaid _ u1).mono ?_; rintro e w2 ⟨rfl, hu2⟩))
      refine bodyPost_ret (v := .bool true) (by simp [results, Tryz.results5, go_sem]) rfl ?_
      exact ⟨rfl, u1.trans hu2 (by simp)⟩
    · have hti : ¬ (10 : Int) < L.length := by omega
      have hlc : ∃ a c, (Value.slice la L.length lc) = .slice a L.length c ∧ (∀ j (hj : j < L.length), ∃ g off, a = some ⟨g, off, none⟩ ∧ w.cell? ⟨g, off + j, none⟩ = some (.string ⟨L[j].toArray⟩)) := HX.out.1.cell
      obtain ⟨_, _, e0, hcell⟩ := hlc
      cases e0
      have HC := Lib.hid hcell
      clear hcell
      go_enter Tryz.func5, Tryz.ntmps5
      go_wp2_with (go_at_call 7; refine hgr.mono ?_; rintro e _ ⟨rfl, rfl⟩)
      go_loop [7] (fun i => ∃ j : Nat, j ≤ L.length ∧ i = .int .i64 j ∧ ∀ q (hq : q < L.length), q < j → L[q].length ≤ 200) (fun i => L.length - (intOf i).toNat)
      case atStart => exact ⟨0, Nat.zero_le _, rfl, fun k _ hk => by omega⟩
      case round =>
        obtain ⟨j, hj, rfl, hok⟩ := hrel
        have HK := Lib.hid hok
        clear hok
        by_cases hlt : j < L.length
        · have hji : (j : Int) < L.length := by omega
          obtain ⟨g, off, rfl, c1⟩ := HC.out j hlt
          have c2 : (w.alloc (.cells #[.int .u8 0, .slice (some ⟨g, off, none⟩) L.length lc, .int .i64 0, .int .i64 0] 25)).cell? ⟨g, off + j, none⟩ = some (.string ⟨L[j].toArray⟩) := (u1.cell (block_lt_of_cell c1) (by simp)).trans c1
          have hsl : (⟨L[j].toArray⟩ : ByteArray).size = L[j].length := by show L[j].toArray.size = _; simp
          by_cases h3 : 200 < L[j].length
          · have h3i : (200 : Int) < L[j].length := by omega
            go_wp2_with (go_at_call 8; refine (hlaid _ u1).mono ?_; rintro e w2 ⟨rfl, hu2⟩)
            refine bodyPost_ret (v := .bool true) (by simp [results, Tryz.results5, go_sem]) rfl ?_
            exact ⟨rfl, u1.trans hu2 (by simp)⟩
          · have h3i : ¬ (200 : Int) < L[j].length := by omega
            have H3 := Lib.hid h3
            go_wp2
            go_round
            case rel =>
              refine ⟨j + 1, by omega, by go_num, fun q hq hqk => ?_⟩
              by_cases e : q = j
              · subst e; have := H3.out; omega
              · exact HK.out q hq (by omega)
            case measure => simp [intOf]; omega
        · obtain rfl : j = L.length := by omega
          have hji : ¬ (L.length : Int) < L.length := by omega
          have hshort : ∀ x ∈ L, x.length ≤ 200 := by
            intro x hx
            obtain ⟨i, hi, rfl⟩ := List.mem_iff_getElem.1 hx
            exact HK.out i hi hi
          have hG := HX.out.2.2.2
          have HS := Lib.hid hshort
          clear hshort hgr HC
          have hD := on_new u1 60000 (by omega)
          go_wp2_with (first
            | (go_at_call 13; refine hD.mono ?_; rintro e w1 ⟨d, rfl, hd1⟩)
            | (go_at_call 14; refine (on_open_good hd1 (rep_new 60000 (by omega)) rfl (by simp) (GlobP.old hG)).mono ?_; rintro e w2 ⟨s, S2, D2, rfl, h2, g2, c2⟩))
          rw [hk]
          go_loopw [13, 14] (fun l i wr => PairR k w2 l i wr) (fun l _ _ => k - slLen l)
          case atStart => exact ⟨0, none, 0, Nat.zero_le _, rfl, rfl, RowAt.nil _ _, Upd.refl _ _, by simp [Value.ownBlock]⟩
          case round =>
            obtain ⟨j, a, c, hj, rfl, rfl, hr, hu, hg⟩ := hrel
            by_cases hlt : j < k
            · have hji2 : (j : Int) < k := by omega
              have hj8 : (j : Int) % 256 = j := by omega
              have hk8 : (k : Int) % 256 = k := by omega
              have ub := ((Upd.refl [] wr).alloc (.cells #[.int .u8 j, .int .u8 k] 5))
              have hcv := cv_pair wr j k (by omega) (by omega)
              obtain ⟨v3, w3, hrun3, g3⟩ := app1_string (hr.upd ub (by simp)) (.string ⟨#[UInt8.ofNat j, UInt8.ofNat k]⟩) rfl (by simp [svs, pairL_len]; omega) 22 1
              have hu3 := g3.updNil (hu.trans ub (by simp)) (fun g hg' => .inr (hg g hg'))
              have hge3 := g3.ge (hu.trans ub (by simp)).size hg
              obtain ⟨a3, c3, e3⟩ := g3.slice
              have hr3 := g3.row
              have hl3 : (svs (pairL k j) ++ [Value.string ⟨#[UInt8.ofNat j, UInt8.ofNat k]⟩]).length = j + 1 := by simp [svs, pairL_len]
              rw [hl3] at e3
              rw [World.size_alloc] at hrun3
              have HR := Lib.hid (And.intro hu3 (And.intro hge3 hr3))
              clear hr hu hg hu3 hge3 hr3 g3 hl3 ub
              subst e3
              go_wp2_with (at_builtin; refine Stop.here ?_)
              unfold Stop
              refine wpList_append_run rfl rfl hrun3 ?_
              clear hrun3
              go_wp2
              go_roundw
              case rel =>
                obtain ⟨hu3, hge3, hr3⟩ := HR.out
                refine ⟨j + 1, a3, c3, by omega, rfl, by go_num, ?_, hu3, hge3⟩
                rw [pairL_succ]
                simpa [svs] using hr3
              case measure => simp [slLen]; omega
            · obtain rfl : j = k := by omega
              have hjk : ¬ (j : Int) < j := by omega
              have HR := Lib.hid (And.intro hr (And.intro hu hg))
              clear hr hu hg
              go_wp2_with (go_at_call 10; refine Stop.here ?_)
              unfold Stop
              obtain ⟨hr, hu, hg⟩ := HR.out
              obtain ⟨Q, hQ⟩ : ∃ Q : Nat → Prop, Q = fun b => b < w.heap.size ∨ (w2.heap.size ≤ b ∧ b < wr.heap.size) := ⟨_, rfl⟩
              have hb2 := h2.base
              have hbr := hb2.trans hu (by simp)
              have h2' : OnP wr Q wr s d S2 D2 := h2.rebase hu (by
                intro b hb; rw [hQ] at hb
                rcases hb with hb | hb
                · exact .inl ⟨hb, hb⟩
                · exact .inr hb.1)
              have hGQ : GlobP wr Q := ⟨hG.upd hbr (by simp) (by simp), by rw [hQ]; exact .inl hG.lt.1, by rw [hQ]; exact .inl hG.lt.2⟩
              have hfin : ∀ u, KeptP Q wr u → Upd [] w u := fun u hk => (((KeptP.refl (Old w) w).trans hbr (by simp)).comp (hk.mono (fun b hb => by rw [hQ]; exact .inl hb)) : KeptP (Old w) w u).upd
              have hQg : ∀ g, (Value.slice a j c).ownBlock = some g → Q g ∧ g < wr.heap.size := by
                intro g hg'
                have h1 := hg g hg'
                have h2 := hr.lt g hg'
                exact ⟨by rw [hQ]; exact .inr ⟨h1, h2⟩, h2⟩
              have hrow : ∀ u, KeptP Q wr u → StrsAt u (.slice a j c) (pairL j j) := fun u hk => RowAt.strs (hr.keep fun g hg' hl => hk.block g hl (hQg g hg').1)
              have hlv : ∀ u, Upd [] w u → StrsIn u (.slice la L.length lc) L := fun u hu => HX.out.1.upd hu
              have hlo : L.length ≠ 0 → ∀ g, (Value.slice la L.length lc).ownBlock = some g → Q g ∧ g < wr.heap.size := by
                intro h0 g hg'
                have h1 := HX.out.1.own h0 g hg'
                exact ⟨by rw [hQ]; exact .inl h1, Nat.lt_of_lt_of_le h1 hbr.size⟩
              have hfl := flat_len_le L HS.out
              have p2 := on_append_good (L := pairL j j) h2' g2 (Upd.refl [] wr) hGQ (.inl (hrow wr (KeptP.refl _ _))) (fun _ g hg' => .inr (hQg g hg')) (pairL_short _ _) (by rw [pairL_len]; simp; omega) (by rw [pairL_flat, c2.1]; show 0 + 14 * j ≤ 60000; omega)
              rw [List.nil_append, pairL_flat, Nat.zero_add] at p2
              refine p2.mono ?_
              rintro e w3 ⟨S3, D3, rfl, h3, g3, c3⟩
              clear p2 h2' hr hu hg
              have p3 := on_cut_good h3 g3 m (by rw [pairL_len]; omega)
              go_wp2_with (go_at_call 11; refine Stop.here ?_)
              unfold Stop
              refine p3.mono ?_
              rintro e w4 ⟨S4, D4, rfl, h4, g4, c4⟩
              clear p3
              have l4 : ((pairL j j).take m).length = m := by rw [List.length_take, pairL_len]; omega
              have n4 : Calls Tryz.prog 12 #[.pointer (some ⟨s, 0, none⟩)] w4 fun e w' => e = .returned (.int .i64 m) ∧ w4 = w' := by
                have := on_count h4
                rw [g4.ents, l4] at this
                exact this.mono (fun _ _ h => ⟨h.1, h.2.symm⟩)
              have cap4 : D4.cap = 60000 := c4.1.trans (c3.1.trans c2.1)
              have st4 : D4.starts = 0 := c4.2.trans (c3.2.trans c2.2)
              have p4 := on_append_good (L := L) h4 g4 (Upd.refl [] w4) hGQ (hlv w4 (hfin w4 h4.kept)) (fun h0 g hg' => .inr (hlo h0 g hg')) HS.out (by rw [l4]; omega) (by rw [cap4]; omega)
              go_wp2_with (first
                | (go_at_call 12; refine n4.mono ?_; rintro e _ ⟨rfl, rfl⟩)
                | (go_at_call 10; refine Stop.here ?_))
              unfold Stop
              refine p4.mono ?_
              rintro e w5 ⟨S5, D5, rfl, h5, g5, c5⟩
              clear p4 n4
              obtain ⟨E, hE⟩ : ∃ E, E = (pairL j j).take m ++ L := ⟨_, rfl⟩
              obtain ⟨q, hq⟩ : ∃ q, q = m + L.length := ⟨_, rfl⟩
              have lE : E.length = q := by rw [hE, List.length_append, l4, hq]
              rw [← hE] at g5
              have st5 : D5.starts = 0 := c5.2.trans st4
              have p5 := on_crash h5 g5.rep.up 0 (by unfold Dk.I64; omega)
              go_wp2_with (go_at_call 15; refine Stop.here ?_)
              unfold Stop
              refine p5.mono ?_
              rintro e w6 ⟨rfl, h6⟩
              clear p5
              have p6 := on_start h6 (by show D5.starts < _; omega)
              have hst0 : (D5.crash 0).start = ({ D5 with down := false, fails := false, starts := D5.starts + 1 }, 0) := by
                unfold Dk.start
                rw [crash_swept g5.swept]; rfl
              rw [hst0] at p6
              go_wp2_with (go_at_call 25; refine Stop.here ?_)
              unfold Stop
              refine p6.mono ?_
              rintro e w7 ⟨rfl, h7⟩
              clear p6
              have hrep := (good_crash g5 0 (by rw [hst0]; exact h7.wf)).2
              rw [hst0] at hrep
              have p7 := on_append (L := L) h7 (Upd.refl [] w7) (by intro hf; cases hf) hGQ (hlv w7 (hfin w7 h7.kept)) (fun h0 g hg' => .inr (hlo h0 g hg')) (by omega) (fun x hx => by have := HS.out x hx; omega) g5.ends_bd (by show D5.loose.length ≤ _; rw [g5.swept]; simp)
              unfold AppO at p7
              rw [off_append L (by show D5.starts + 1 ≠ S5.starts; rw [← g5.starts]; omega)] at p7
              go_wp2_with (go_at_call 10; refine Stop.here ?_)
              unfold Stop
              refine p7.mono ?_
              rintro e w8 ⟨rfl, h8⟩
              clear p7 hst0 h7 h6 h5 h4 h3
              obtain ⟨v', hto, hst', a', c', e'⟩ := (hrow w8 h8.kept).to m (by rw [pairL_len]; omega)
              obtain ⟨iS, zS, z1, z2, z3, z4, z5⟩ := info_string
              have hone : ∀ M : List (List UInt8), ∀ u ∈ svs M, u.oneCell' = true := by
                intro M u hu; unfold svs at hu; obtain ⟨x, _, rfl⟩ := List.mem_map.1 hu; rfl
              obtain ⟨v9, w9, hrun9, g9⟩ := run_appends Tryz.underlying22 z1 z2 z3 z4 z5 (RowAt.nil w8 9) hst'.reads (hone _) (by simp [svs, pairL_len]; omega) 22
              have u9 : Upd [] w8 w9 := by have := g9.upd; simpa [Value.ownBlock] using this
              obtain ⟨v10, w10, hrun10, g10⟩ := run_appends Tryz.underlying22 z1 z2 z3 z4 z5 g9.row (hlv w9 ((hfin w8 h8.kept).trans u9 (by simp))).reads (hone _) (by simp [svs, pairL_len]; omega) 22
              have hg9 : ∀ g, v9.ownBlock = some g → w8.heap.size ≤ g := by
                intro g hg'
                rcases g9.own with h | ⟨g', h, h'⟩
                · rw [h] at hg'; simp [Value.ownBlock] at hg'
                · rw [h] at hg'; cases hg'; exact h'
              have u10 : Upd [] w8 w10 := g10.updNil u9 (fun g hg' => .inr (hg9 g hg'))
              have hg10 := g10.ge u9.size hg9
              obtain ⟨a9, c9, e9⟩ := g9.slice
              obtain ⟨a10, c10, e10⟩ := g10.slice
              have l9 : (([] : List Value) ++ svs ((pairL j j).take m)).length = m := by simp [svs, pairL_len]; omega
              have l10 : (([] : List Value) ++ svs ((pairL j j).take m) ++ svs L).length = q := by rw [List.length_append, l9, hq]; simp [svs]
              rw [l9] at e9
              rw [l10] at e10
              subst e' e9 e10
              have hwant : ∀ u, Upd [] w10 u → StrsAt u (.slice a10 q c10) E := by
                intro u hu
                have h1 := (g10.row).upd hu (by simp)
                rw [List.nil_append, show svs ((pairL j j).take m) ++ svs L = svs E by rw [hE]; simp [svs]] at h1
                exact RowAt.strs h1
              have hq2 : q ≤ 300 := by omega
              clear hE hq
              go_wp2_with (at_builtin; refine Stop.here ?_)
              unfold Stop
              refine wpList_append_run rfl rfl hrun9 ?_
              go_wp2_with (at_builtin; refine Stop.here ?_)
              unfold Stop
              refine wpList_append_run rfl rfl hrun10 ?_
              obtain ⟨Q2, hQ2⟩ : ∃ Q2 : Nat → Prop, Q2 = fun b => (Q b ∧ b < wr.heap.size) ∨ (w8.heap.size ≤ b ∧ b < w10.heap.size) := ⟨_, rfl⟩
              have h10 : OnP w10 Q2 w10 s d _ _ := h8.rebase u10 (by
                intro b hb; rw [hQ2] at hb
                rcases hb with hb | hb
                · exact .inl hb
                · exact .inr hb.1)
              have hw10 := (hfin w8 h8.kept).trans u10 (by simp)
              have hGQ2 : GlobP w10 Q2 := ⟨hGQ.at_ (h8.kept.trans u10 (by simp)), by rw [hQ2]; exact .inl ⟨hGQ.first, hGQ.glob.lt.1⟩, by rw [hQ2]; exact .inl ⟨hGQ.rounds, hGQ.glob.lt.2⟩⟩
              have hfin2 : ∀ u, KeptP Q2 w10 u → Upd [] w u := fun u hk => (((KeptP.refl (Old w) w).trans hw10 (by simp)).comp (hk.mono (fun b hb => by
                have h1 : b < w.heap.size := hb
                have h2 := hbr.size
                rw [hQ2, hQ]; exact .inl ⟨.inl h1, by omega⟩)) : KeptP (Old w) w u).upd
              have hwant2 : ∀ u, KeptP Q2 w10 u → StrsAt u (.slice a10 q c10) E := by
                intro u hk
                refine (hwant w10 (Upd.refl _ _)).block fun g hg' hl => hk.block g hl ?_
                rw [hQ2]
                exact .inr ⟨hg10 g hg', hl⟩
              have p10 := on_open_good h10.disk hrep rfl (by omega) hGQ2
              go_wp2_with (go_at_call 14; refine Stop.here ?_)
              unfold Stop
              refine p10.mono ?_
              rintro e w11 ⟨s2, S11, D11, rfl, h11, g11, c11⟩
              clear p10 h10 h8
              have n11 : Calls Tryz.prog 12 #[.pointer (some ⟨s2, 0, none⟩)] w11 fun e w' => e = .returned (.int .i64 q) ∧ w11 = w' := by
                have := on_count h11
                rw [g11.ents, lE] at this
                exact this.mono (fun _ _ h => ⟨h.1, h.2.symm⟩)
              have p11 : Calls Tryz.prog 9 #[.pointer (some ⟨s2, 0, none⟩), .int .i64 0, .int .i64 q] w11 (GetO w11 E) := by
                have := on_get h11 0 q (by rw [g11.ents, lE]; omega)
                rw [g11.ents, List.drop_zero, ← lE, List.take_length] at this
                rw [← lE]
                exact this
              have hqq : ((q : Int) != q) = false := by simp
              go_wp2_with (first
                | (go_at_call 12; refine n11.mono ?_; rintro e _ ⟨rfl, rfl⟩)
                | (go_at_call 9; refine Stop.here ?_))
              unfold Stop
              refine p11.mono ?_
              rintro e w12 ⟨a12, c12, rfl, hs12, u12, -⟩
              clear p11 n11
              have t12 := texts_at (.inl hs12) (.inl ((hwant2 w11 h11.kept).upd u12)) (by omega)
              rw [show decide (E = E) = true by simp, lE] at t12
              obtain ⟨nf, hnf, hnf2⟩ : ∃ nf : Nat, nf = nfiles q ∧ nf ≤ 100 := ⟨nfiles q, rfl, by unfold nfiles; omega⟩
              have f12 : ∀ u, Upd [] w12 u → Calls Tryz.prog 27 #[.pointer (some ⟨d, 0, none⟩)] u fun e w' => ∃ a c, e = .returned (.slice a nf c) ∧ Upd [] u w' := by
                intro u hu
                have := on_filelist (h11.disk.upd (u12.trans hu (by simp)))
                rw [g11.rep.files, lE, ← hnf] at this
                exact this
              have hz1 : (((q : Int) + 64 - 1) / 64) = nf := by rw [hnf]; unfold nfiles; omega
              have hz2 : ((q : Int) + 64 - 1).tdiv 64 = nf := by rw [Int.tdiv_eq_ediv_of_nonneg (by omega)]; exact hz1
              rw [lE]
              go_wp2_with (first
                | (go_at_call 26; refine t12.mono ?_; rintro e w13 ⟨rfl, u13⟩)
                | (go_at_call 27; refine (f12 _ u13).mono ?_; rintro e w14 ⟨a14, c14, rfl, u14⟩)
                | (go_at_call 8; refine Stop.here ?_))
              unfold Stop
              have hend := ((hfin2 w11 h11.kept).trans u12 (by simp)).trans (u13.trans u14 (by simp)) (by simp)
              refine (hlaid _ hend).mono ?_
              rintro e w15 ⟨rfl, u15⟩
              go_wp2
              refine bodyPost_ret (v := .bool true) (by simp [results, Tryz.results5, go_sem]) rfl ?_
              exact ⟨rfl, hend.trans u15 (by simp)⟩
end Go.Proofs.YtogkdoooimcemaaGreatDoor

/- RowCut -/
namespace Go.Proofs.YtogkdoooimcemaaGreatDoor
open Go Go.ChangeShapes Go.WideShapes Go.ChangeAt Go.RowKit
set_option maxRecDepth 100000 in
theorem cut_lifted (os : Os) (started : os.Started) (H : Type) (enc : TypeId × Value → H) :
    ReturnsInHanded {} Tryz.checked os 5 .any (fun w args => (Rows.segmentsCutSpec.pre enc Tryz.prog Tryz.f5 [] false w args ∧ laidMetH Tryz.prog laid2 w) ∧ sizedMet enc Tryz.prog Tryz.f5 (OpenSpec.ofChange Rows.segmentsCutSpec) false w args)
      (Rows.segmentsCutSpec.post enc Tryz.prog Tryz.f5 false true false false) := by
  refine returnsInHanded_of_change_and (C := Tryz.checked) (X := fun w _ => laidMetH Tryz.prog laid2 w) (fun _ _ _ hh h => h.of_heap hh) rowOwn started (by kernel_rfl) Tryz.func5
    (ChangeSpec.witness_shaped (enc := enc) (C := Tryz.checked) (os := os) (X := fun w _ => laidMetH Tryz.prog laid2 w) false (World.doorLaid Tryz.prog 400 os) #[.int .u8 0, .int .u8 0, .slice none 0 0] 8 rfl (World.shaped_of_RefB (by kernel_rfl) (by kernel_rfl)) (by kernel_rfl) (by kernel_rfl) (by kernel_rfl) (door_met os _)) ?_
  intro W base args ds gs before hval0 hW _ _ hL _
  have hval : ∀ (j : Nat) t v, Tryz.f5.params[j]? = some t → args[j]? = some v → Value.okWide Tryz.prog W .any base t v := hval0
  have hW' := hW
  obtain ⟨p, q, hA0, hV, rfl, hfz, hnd⟩ := hW
  have hA : DataW.TrodAll enc Tryz.prog W 0 (fun _ => true) true Tryz.f5.params.toList args.toList ds p := hA0
  rw [Tryz.params5] at hA hval
  obtain ⟨v0, vs0, d0, ds0, p0, q0, hargs, rfl, rfl, h0, r0⟩ := trodAll_cons hA
  obtain ⟨v1, vs1, d1, ds1, p1, q1, rfl, rfl, rfl, h1, r1⟩ := trodAll_cons r0
  obtain ⟨v2, vs2, d2, ds2, p2, q2, rfl, rfl, rfl, h2, r2⟩ := trodAll_cons r1
  obtain ⟨rfl, rfl, rfl⟩ := trodAll_nil r2
  obtain rfl : args = #[v0, v1, v2] := by cases args; simp_all
  obtain ⟨rfl, rfl⟩ := trodVars_none hV
  obtain ⟨a0, rfl, rfl, rfl, w0⟩ := open_int Tryz.underlying5 (hval 0 5 v0 rfl rfl) h0
  obtain ⟨a1, rfl, rfl, rfl, w1⟩ := open_int Tryz.underlying5 (hval 1 5 v1 rfl rfl) h1
  obtain ⟨n0, rfl, hn0⟩ : ∃ n : Nat, a0 = n ∧ n < 256 := by have := bounds_u8 w0; exact ⟨a0.toNat, by omega, by omega⟩
  obtain ⟨n1, rfl, hn1⟩ : ∃ n : Nat, a1 = n ∧ n < 256 := by have := bounds_u8 w1; exact ⟨a1.toNat, by omega, by omega⟩
  obtain ⟨s0, len0, cap0, rfl⟩ := okWide_slice Tryz.underlying22 (hval 2 22 v2 rfl rfl)
  have k2 := h2
  have lt2 : ∀ x ∈ p2, x.block < W.heap.size := by obtain ⟨m, hm⟩ := k2; exact DataW.trod_lt m _ _ _ hm
  obtain ⟨L, hs, hl1, hl2⟩ : ∃ L : List (List UInt8), StrsIn W (.slice s0 len0 cap0) L ∧ L.length ≤ 9223372036854775807 ∧ ∀ s ∈ L, s.length ≤ 9223372036854775807 := by
    obtain ⟨fuel, hf⟩ := h2
    exact strs_in hf
  clear hA0 hval0
  refine (segmentsCut_at (glob_of_laid hL) hs hl1 hl2 n0 n1 hn0 hn1).mono fun e W' ⟨he, hu⟩ => ?_
  subst he
  have bel := hu.below
  exact ⟨_, rfl, _, _, _, [], _, [], hW', trodAll_mk1 (shut_bool Tryz.underlying4 _), (trodAll_cons_mk (shut_int Tryz.underlying5 w0) (trodAll_cons_mk (shut_int Tryz.underlying5 w1) (trodAll_cons_mk (Below.trod rowLaidOut (by kernel_rfl) (of_decide_eq_true (by kernel_rfl)) k2 bel lt2) trodAll_mk0))), rfl, bel.frame _, fun h => by cases h⟩

theorem segmentsCut_holds : Rows.SegmentsCutSaid :=
  OpenClaim.holds_of_wide 5 Tryz.f5 rfl rfl rfl rfl rfl rfl rfl ⟨rfl, rfl, rfl, rfl, rfl⟩ rfl rfl rfl rfl rfl (by kernel_rfl) Tryz.func5 (by kernel_rfl)
    (of_decide_eq_true (by kernel_rfl)) (by unfold Func.isWrapper; first | (rw [if_pos (by decide +kernel)]; kernel_rfl) | (rw [if_neg (by decide +kernel)]; exact ⟨rfl, rfl⟩))
    (fun os started H enc _ => cut_lifted os started H enc)

theorem segmentsCut_proved : Rows.SegmentsCutCardSaid :=
  Claim7.holds_tied_plain_at .later [] [.data, .data] true (true, "cf38ee7f59704056a7cbd310c164ce7835a297e8b81f7fb64b18e6352d3b7c00") false
    segmentsCut_holds (fun _ h => by cases h) (by kernel_rfl) (fun _ h => by cases h) segmentsCut_row_tie rfl ⟨rfl, rfl⟩ (by kernel_rfl) rfl
    (fun f fn hf hfn => by
      obtain rfl : f = 5 := Option.some.inj ((show Tryz.prog.funcNamed "speculum/speculumlaw13.SegmentsCut" = some 5 by kernel_rfl).symm.trans hf) |>.symm
      obtain rfl : fn = Tryz.f5 := (Option.some.inj (Tryz.func5.symm.trans hfn)).symm
      exact ⟨by kernel_rfl, fun j t ht => by
        rw [Tryz.params5] at ht
        have h3 : t = 5 ∨ t = 22 := by
          rcases j with _ | _ | _ | j
          · left; simpa using ht.symm
          · left; simpa using ht.symm
          · right; simpa using ht.symm
          · simp at ht
        rcases h3 with rfl | rfl
        · exact (show Tryz.prog.wantsStandIn 5 = false by kernel_rfl)
        · exact (show Tryz.prog.wantsStandIn 22 = false by kernel_rfl)⟩)
    (by kernel_rfl)
#print axioms segmentsCut_proved
end Go.Proofs.YtogkdoooimcemaaGreatDoor
