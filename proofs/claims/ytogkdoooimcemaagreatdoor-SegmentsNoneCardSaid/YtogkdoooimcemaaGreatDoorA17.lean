/- The statements' fixed example: laid. Conditions: the laid variables.
  SegmentsNone: the walk. Conditions: the laid variables, and what a reading gives.
  What the rows ask besides the walks: the laid variables as cells; strings that came in. Conditions: those of each lemma.
  SegmentsNone: the row and its tied card: whatever the input, the law is true, and the input reads as it did. Conditions: none but the row's own. -/
import Derived.Test.YtogkdoooimcemaaGreatDoorA16
import Derived.Test.YtogkdoooimcemaaGreatDoorRows
import Derived.ProofKit
import Derived.LaidMore
import Derived.OpenShut
import Derived.SliceStrings
import Derived.ChangeOld
import Derived.Below
import Derived.Carry
import Derived.Test.YtogkdoooimcemaaGreatDoorCards
import Derived.Test.YtogkdoooimcemaaGreatDoorTie
import Derived.SevenTiedAt
/- Law4 -/
namespace Go.Proofs.YtogkdoooimcemaaGreatDoor
open Go Go.RowKit
open Go.ChangeMaps (setBlock)
set_option maxRecDepth 20000

theorem flat_length : ∀ (l : List (List UInt8)), (flat l).length = 12 * l.length + (l.map List.length).sum
  | [] => rfl
  | x :: l => by
    have := flat_length l
    rw [flat_cons, List.length_append, length_frameOf, this]
    simp; omega
theorem strs_alloc (w : World) (t : TypeId) (L : List (List UInt8)) (hl : L.length ≤ maxLen) : StrsAt (w.alloc (.cells (svs L).toArray t)) (.slice (some ⟨w.heap.size, 0, none⟩) L.length L.length) L := by
  refine .inr ⟨w.heap.size, 0, L.length, rfl, Nat.le_refl _, hl, fun j hj => ?_⟩
  rw [cell_of_row _ _ _ _ _ _ (heap_alloc_new w (.cells (svs L).toArray t))]
  simp [svs, hj]
theorem ints_alloc (w : World) (t : TypeId) (L : List Int) : IntsAt (w.alloc (.cells (ivs L).toArray t)) (.slice (some ⟨w.heap.size, 0, none⟩) L.length L.length) L := by
  refine ⟨_, _, rfl, fun j hj => ⟨w.heap.size, 0, rfl, ?_⟩⟩
  rw [cell_of_row _ _ _ _ _ _ (heap_alloc_new w (.cells (ivs L).toArray t))]
  simp [ivs, hj]
theorem many_strs {w' : World} {v : Value} {n : Nat} {l : List UInt8} (h : RowAt w' 9 v (List.replicate n (.string ⟨l.toArray⟩))) : StrsAt w' v (List.replicate n l) := by
  refine RowAt.strs ?_
  unfold svs
  rw [List.map_replicate]
  exact h
def twoL : List (List UInt8) := [[97], [98]]
def manyL : List (List UInt8) := List.replicate 65 [120]
def oneL : List (List UInt8) := List.replicate 1 (List.replicate 201 0)
theorem two_short : ∀ x ∈ twoL, x.length ≤ 200 := by decide
theorem many_short : ∀ x ∈ manyL, x.length ≤ 200 := by intro x hx; rw [List.eq_of_mem_replicate hx]; decide
theorem two_flat : (flat twoL).length = 26 := by rw [flat_length]; rfl
theorem many_flat : (flat manyL).length = 845 := by rw [flat_length]; unfold manyL; simp
theorem many_len : manyL.length = 65 := by unfold manyL; simp
theorem e5_len : (([] : List (List UInt8)) ++ twoL ++ manyL).length = 67 := by rw [List.length_append, many_len]; rfl
theorem e5_get : ((([] : List (List UInt8)) ++ twoL ++ manyL).drop 1).take 2 = [[98], [120]] := by rfl
theorem e9_len : ((([] : List (List UInt8)) ++ twoL ++ manyL).take 64).length = 64 := by rw [List.length_take, e5_len]; rfl
theorem mk201 (w : World) : (Instr.makeSlice 61 (.int .i64 201) (.int .i64 201)).run Tryz.prog w = .ok (.slice (some ⟨w.heap.size, 0, none⟩) 201 201) (w.alloc (.cells (List.replicate 201 (bv 0)).toArray 5)) := mk_eq (by kernel_rfl)
theorem cv201 (w : World) {s : ByteArray} (hs : s = ⟨(List.replicate 201 0).toArray⟩) : (convert 61 9 (.slice (some ⟨w.heap.size, 0, none⟩) 201 201)).run Tryz.prog (w.alloc (.cells (List.replicate 201 (bv 0)).toArray 5)) = .ok (.string s) (w.alloc (.cells (List.replicate 201 (bv 0)).toArray 5)) := by
  subst hs
  have := run_text (o := 0) (cap := 201) (heap_alloc_new w (.cells (List.replicate 201 (bv 0)).toArray 5)) (List.replicate 201 0) (by simp [bvs])
  rwa [List.length_replicate] at this
theorem good_long {S : Sg} {D : Dk} {E : List (List UInt8)} {B : Nat} (h : Good S D E B) {L : List (List UInt8)} (h0 : L.length ≠ 0) (hl : L.any (fun s => decide (200 < s.length)) = true) : S.append D L = (S, D, 3) := by
  unfold Sg.append
  rw [if_neg (by simp [h.ready]), if_neg h0, if_pos hl]
theorem one_at {w' : World} {a : Option Addr} {c : Nat} {s : ByteArray} (hs : s = ⟨(List.replicate 201 0).toArray⟩) (h : RowAt w' 9 (.slice a 1 c) (List.replicate 1 (.string s))) : StrsAt w' (.slice a 1 c) oneL := by
  subst hs
  exact many_strs (n := 1) (l := List.replicate 201 0) h
theorem one_long : oneL.any (fun s => decide (200 < s.length)) = true := by unfold oneL; rw [List.any_eq_true]; exact ⟨List.replicate 201 0, by simp, by simp⟩
theorem two_at (w : World) : StrsAt (w.alloc (.cells #[.string ⟨#[97]⟩, .string ⟨#[98]⟩] 9)) (.slice (some ⟨w.heap.size, 0, none⟩) 2 2) twoL := strs_alloc w 9 twoL (by decide)
theorem many_at_ {w' : World} {a : Option Addr} {c : Nat} (h : RowAt w' 9 (.slice a 65 c) (List.replicate 65 (.string ⟨#[120]⟩))) : StrsAt w' (.slice a 65 c) manyL := many_strs (n := 65) (l := [120]) h
set_option maxHeartbeats 400000 in
theorem laid_at {w : World} (hG : Glob w) : Calls Tryz.prog 8 #[] w fun e w' => e = .returned (.bool true) ∧ Upd [] w w' := by
  go_enter Tryz.func8, Tryz.ntmps8
  go_wp2_with (first
    | (go_at_call 13; refine (on_new (Upd.refl [] w) 3000 (by omega)).mono ?_; rintro e w1 ⟨d, rfl, hd1⟩)
    | (go_at_call 14; refine (on_open_good hd1 (rep_new 3000 (by omega)) rfl (by simp) hG).mono ?_; rintro e w2 ⟨s, S2, D2, rfl, h2, g2, c2⟩)
    | (go_at_call 10; refine Stop.here ?_))
  unfold Stop
  have p2 := on_append_good (L := twoL) h2 g2 ((Upd.refl [] w2).alloc (.cells #[.string ⟨#[97]⟩, .string ⟨#[98]⟩] 9)) hG (.inl (two_at w2)) (fun g hg => .inl (by simp [Value.ownBlock] at hg; omega)) two_short (by decide) (by rw [two_flat, c2]; decide)
  refine p2.mono ?_
  rintro e w3 ⟨S3, D3, rfl, h3, g3, c3⟩
  clear p2
  go_wp2_with (first
    | (go_at_call 30; refine (many_at w3 65 (by omega) ⟨#[120]⟩).mono ?_; rintro e w4 ⟨_, rfl, hr4, hu4, hg4, a4, k4, e4⟩; rw [List.length_replicate] at e4; subst e4)
    | (go_at_call 10; refine Stop.here ?_))
  unfold Stop
  have p4 := on_append_good (L := manyL) h3 g3 hu4 hG (.inl (many_at_ hr4)) (fun g hg => .inl (hg4 g hg)) many_short (by rw [many_len]; decide) (by rw [many_flat, two_flat, c3, c2]; decide)
  refine p4.mono ?_
  rintro e w5 ⟨S5, D5, rfl, h5, g5, c5⟩
  clear p4
  have n5 : Calls Tryz.prog 12 #[.pointer (some ⟨s, 0, none⟩)] w5 fun e w' => e = .returned (.int .i64 67) ∧ w5 = w' := by
    have := on_count h5
    rw [g5.ents, e5_len] at this
    exact this.mono (fun _ _ h => ⟨h.1, h.2.symm⟩)
  have i5 : IntsAt (w5.alloc (.cells #[.int .i64 1000, .int .i64 1001] 3)) (.slice (some ⟨w5.heap.size, 0, none⟩) 2 2) [1000, 1001] := ints_alloc w5 3 [1000, 1001]
  have f5 := on_files (h5.disk.upd ((Upd.refl [] w5).alloc (.cells #[.int .i64 1000, .int .i64 1001] 3))) i5 (by decide)
  rw [g5.rep.keys, e5_len, show decide (names (nfiles 67) = [1000, 1001]) = true by decide] at f5
  go_wp2_with (first
    | (go_at_call 12; refine n5.mono ?_; rintro e _ ⟨rfl, rfl⟩)
    | (go_at_call 31; refine f5.mono ?_; rintro e w6 ⟨rfl, hu6⟩)
    | (go_at_call 9; refine Stop.here ?_))
  unfold Stop
  have u6 : Upd [] w5 w6 := ((Upd.refl [] w5).alloc (.cells #[.int .i64 1000, .int .i64 1001] 3)).trans hu6 (by simp)
  have h6 := h5.upd u6
  have he6 := g5.ents
  have gt6 : Calls Tryz.prog 9 #[.pointer (some ⟨s, 0, none⟩), .int .i64 1, .int .i64 2] w6 (GetO w6 [[98], [120]]) := by
    have := on_get h6 1 2 (by rw [he6, e5_len]; decide)
    rw [he6, e5_get] at this
    exact this
  clear n5 f5 i5 hu6
  refine gt6.mono ?_
  rintro e w7 ⟨a7, k7, rfl, hs7, hu7, -⟩
  clear gt6
  have h7 := h6.upd hu7
  have gt7 : Calls Tryz.prog 9 #[.pointer (some ⟨s, 0, none⟩), .int .i64 66, .int .i64 2] w7 fun e w' => e = .returned (.tuple #[.slice none 0 0, .int .i64 82]) ∧ w7 = w' := on_get_bad h7 66 2 (by rw [he6, e5_len]; decide)
  have u8 := (Upd.refl [] w7).alloc (.cells #[.string ⟨#[98]⟩, .string ⟨#[120]⟩] 9)
  have t8 := texts_at (.inl (hs7.upd u8)) (.inl (strs_alloc w7 9 [[98], [120]] (by decide))) (by decide)
  rw [show decide (([[98], [120]] : List (List UInt8)) = [[98], [120]]) = true by decide] at t8
  go_wp2_with (first
    | (go_at_call 9; refine gt7.mono ?_; rintro e w8 ⟨rfl, rfl⟩)
    | (go_at_call 26; refine t8.mono ?_; rintro e w8 ⟨rfl, hu8⟩)
    | (go_at_call 11; refine Stop.here ?_))
  unfold Stop
  have h8 := h7.upd (u8.trans hu8 (by simp))
  clear gt7 t8 hs7
  have cu8 := on_cut_good h8 g5 64 (by rw [e5_len]; decide)
  refine cu8.mono ?_
  rintro e w9 ⟨S9, D9, rfl, h9, g9, c9⟩
  clear cu8
  have n9 : ∀ u, Upd [] w9 u → Calls Tryz.prog 12 #[.pointer (some ⟨s, 0, none⟩)] u fun e w' => e = .returned (.int .i64 64) ∧ u = w' := by
    intro u hu
    have := on_count (h9.upd hu)
    rw [g9.ents, e9_len] at this
    exact this.mono (fun _ _ h => ⟨h.1, h.2.symm⟩)
  have i9 : IntsAt (w9.alloc (.cells #[.int .i64 1000] 3)) (.slice (some ⟨w9.heap.size, 0, none⟩) 1 1) [1000] := ints_alloc w9 3 [1000]
  have f9 := on_files (h9.disk.upd ((Upd.refl [] w9).alloc (.cells #[.int .i64 1000] 3))) i9 (by decide)
  rw [g9.rep.keys, e9_len, show decide (names (nfiles 64) = [1000]) = true by decide] at f9
  obtain ⟨s201, e201⟩ : ∃ s : ByteArray, s = ⟨(List.replicate 201 0).toArray⟩ := ⟨_, rfl⟩
  obtain ⟨z201, ez⟩ : ∃ z : Array Value, z = (List.replicate 201 (bv 0)).toArray := ⟨_, rfl⟩
  have hmk := mk201
  have hcv := fun w => cv201 w e201
  simp only [← ez] at hmk hcv
  have EZ := Lib.hid (And.intro ez e201)
  clear ez e201
  go_wp2_with (first
    | (go_at_call 12; refine (n9 _ u10).mono ?_; rintro e _ ⟨rfl, rfl⟩)
    | (go_at_call 31; refine f9.mono ?_; rintro e w10 ⟨rfl, hu10⟩; have u10 : Upd [] w9 w10 := ((Upd.refl [] w9).alloc (.cells #[.int .i64 1000] 3)).trans hu10 (by simp))
    | (go_at_call 30; refine (many_at _ 1 (by omega) s201).mono ?_; rintro e w12 ⟨_, rfl, hr12, hu12, hg12, a12, k12, e12⟩; rw [List.length_replicate] at e12; subst e12)
    | (go_at_call 10; refine Stop.here ?_))
  unfold Stop
  have u12 : Upd [] w9 w12 := (u10.alloc _).trans hu12 (by simp)
  have hgl : S9.append D9 oneL = (S9, D9, 3) := good_long g9 (by decide) one_long
  have a12' := on_append h9 u12 g9.ok hG (.inl (one_at EZ.out.2 hr12)) (fun g hg => .inl (by have h1 := hg12 g hg; have h2 := (u10.alloc (.cells z201 5)).size; omega)) (by decide) (by intro x hx; rw [List.eq_of_mem_replicate hx]; simp) g9.ends_bd (by rw [g9.swept]; decide)
  refine a12'.mono ?_
  rintro e w13 ⟨rfl, h13⟩
  rw [hgl] at h13 ⊢
  clear a12' hgl hr12 hu12 hg12 u12
  go_wp2
  refine bodyPost_ret (v := .bool true) (by simp [results, Tryz.results8, go_sem]) rfl ?_
  exact ⟨rfl, h13.base⟩
end Go.Proofs.YtogkdoooimcemaaGreatDoor

/- Law5 -/
namespace Go.Proofs.YtogkdoooimcemaaGreatDoor
open Go Go.RowKit
open Go.ChangeMaps (setBlock)
set_option maxRecDepth 20000

/-- segments that are none, or that no Open made -/
def VoidAt (w : World) (p : Value) : Prop := p = .pointer none ∨ ∃ b, p = .pointer (some ⟨b, 0, none⟩) ∧ w.cell? ⟨b, 0, none⟩ = some (.pointer none) ∧ w.cell? ⟨b, 1, none⟩ = some (.slice none 0 0)
theorem count_void (w : World) (s : Nat) (h : w.cell? ⟨s, 1, none⟩ = some (.slice none 0 0)) : Calls Tryz.prog 12 #[.pointer (some ⟨s, 0, none⟩)] w fun e w' => e = .returned (.int .i64 0) ∧ w' = w := by
  go_enter Tryz.func12, Tryz.ntmps12
  go_wp2
  go_ret
  exact ⟨rfl, rfl⟩
theorem VoidAt.upd {w w' : World} {p : Value} (h : VoidAt w p) (hu : Upd [] w w') : VoidAt w' p := by
  rcases h with rfl | ⟨b, rfl, h1, h2⟩
  · exact .inl rfl
  · exact .inr ⟨b, rfl, (hu.cell (block_lt_of_cell h1) (by simp)).trans h1, (hu.cell (block_lt_of_cell h2) (by simp)).trans h2⟩
theorem VoidAt.get {w : World} {p : Value} (h : VoidAt w p) (f n : Int) : Calls Tryz.prog 9 #[p, .int .i64 f, .int .i64 n] w fun e w' => e = .returned (.tuple #[.slice none 0 0, .int .i64 1]) ∧ w = w' := by
  rcases h with rfl | ⟨b, rfl, h1, h2⟩
  · exact get_nil w f n
  · exact get_void w b f n h1
theorem VoidAt.append {w : World} {p : Value} (h : VoidAt w p) (v : Value) : Calls Tryz.prog 10 #[p, v] w fun e w' => e = .returned (.int .i64 1) ∧ w = w' := by
  rcases h with rfl | ⟨b, rfl, h1, h2⟩
  · exact sapp_nil w v
  · exact sapp_void w b v h1
theorem VoidAt.cut {w : World} {p : Value} (h : VoidAt w p) (n : Int) : Calls Tryz.prog 11 #[p, .int .i64 n] w fun e w' => e = .returned (.int .i64 1) ∧ Upd [] w w' := by
  rcases h with rfl | ⟨b, rfl, h1, h2⟩
  · exact cut_nil w n
  · exact cut_void w b n h1
theorem VoidAt.count {w : World} {p : Value} (h : VoidAt w p) : Calls Tryz.prog 12 #[p] w fun e w' => e = .returned (.int .i64 0) ∧ w = w' := by
  rcases h with rfl | ⟨b, rfl, h1, h2⟩
  · exact (count_none w).mono (fun _ _ h => ⟨h.1, h.2.symm⟩)
  · exact (count_void w b h2).mono (fun _ _ h => ⟨h.1, h.2.symm⟩)
def segZero : Array Value := #[.pointer none, .slice none 0 0, .slice none 0 0, .int .i64 0, .bool false]
theorem VoidAt.new (w : World) : VoidAt (w.alloc (.cells segZero 38)) (.pointer (some ⟨w.heap.size, 0, none⟩)) := by
  refine .inr ⟨_, rfl, ?_, ?_⟩ <;> (rw [cell_of_row _ _ _ _ _ _ (heap_alloc_new w _)]; rfl)
def actCells (lv : Value) : Array Value := #[.int .u8 0, lv, .int .i64 0, .int .i64 0]
theorem acts_one {w : World} {lv : Value} {L : List (List UInt8)} (h : StrsIn w lv L) (t : TypeId) : ActsAt (w.alloc (.cells (actCells lv) t)) (.slice (some ⟨w.heap.size, 0, none⟩) 1 1) [⟨0, L, 0, 0⟩] := by
  have hb := heap_alloc_new w (.cells (actCells lv) t)
  refine ⟨_, _, rfl, fun j hj => ?_⟩
  obtain rfl : j = 0 := by simp at hj; omega
  refine ⟨w.heap.size, 0, lv, rfl, ?_, ?_, h.upd ((Upd.refl _ _).alloc _), ?_, ?_⟩ <;> (rw [cell_of_row _ _ _ _ _ _ hb]; rfl)
theorem great_one {w : World} {lv : Value} {L : List (List UInt8)} (h : StrsIn w lv L) (hL : L.length ≤ 9223372036854775807) (hs : ∀ s ∈ L, s.length ≤ 9223372036854775807) (t : TypeId) :
    Calls Tryz.prog 7 #[.slice (some ⟨w.heap.size, 0, none⟩) 1 1, .int .i64 1] (w.alloc (.cells (actCells lv) t)) fun e w' => e = .returned (.bool (bigAct ⟨0, L, 0, 0⟩)) ∧ w.alloc (.cells (actCells lv) t) = w' := by
  have := great_at (acts_one h t) (by simp) 1 (by decide) (by simp only [List.mem_singleton, forall_eq]; exact ⟨hL, hs⟩)
  refine this.mono ?_
  rintro e w' ⟨rfl, rfl⟩
  refine ⟨?_, rfl⟩
  simp [greatA]
theorem void_disk (w : World) (t : TypeId) (r : List Value) : (w.alloc (.cells (.map none :: r).toArray t)).cell? ⟨w.heap.size, 0, none⟩ = some (.map none) := by
  rw [cell_of_row _ _ _ _ _ _ (heap_alloc_new w _)]; rfl
set_option maxHeartbeats 1000000 in
theorem segmentsNone_at {w : World} (hG : Glob w) {lv : Value} {L : List (List UInt8)} (h : StrsIn w lv L) (hL : L.length ≤ 9223372036854775807) (hs : ∀ s ∈ L, s.length ≤ 9223372036854775807) (n : Int) :
    Calls Tryz.prog 3 #[lv, .int .i64 n] w fun e w' => e = .returned (.bool true) ∧ Upd [] w w' := by
  obtain ⟨la, lc, rfl⟩ := h.slice
  have hgr := great_one h hL hs 25
  unfold actCells at hgr
  have hlaid := fun (u : World) (hu : Upd [] w u) => laid_at (hG.upd hu (by simp) (by simp))
  have u1 : Upd [] w (w.alloc (.cells #[.int .u8 0, .slice la L.length lc, .int .i64 0, .int .i64 0] 25)) := (Upd.refl _ _).alloc _
  have HX := Lib.hid (And.intro h (And.intro hL (And.intro hs hG)))
  clear h hL hs hG
  generalize bigAct ⟨0, L, 0, 0⟩ = big at *
  cases big with
  | true =>
    go_enter Tryz.func3, Tryz.ntmps3
    go_wp2_with (first
      | (go_at_call 7; refine hgr.mono ?_; rintro e _ ⟨rfl, rfl⟩)
      | (go_at_call 8; refine (hlaid _ u1).mono ?_; rintro e w2 ⟨rfl, hu2⟩))
    refine bodyPost_ret (v := .bool true) (by simp [results, Tryz.results3, go_sem]) rfl ?_
    exact ⟨rfl, u1.trans hu2 (by simp)⟩
  | false =>
    go_enter Tryz.func3, Tryz.ntmps3
    go_wp2_with (go_at_call 7; refine hgr.mono ?_; rintro e _ ⟨rfl, rfl⟩)
    go_loopw [5, 6] (fun p i wr => ∃ j : Nat, j ≤ 2 ∧ i = .int .i64 j ∧ VoidAt wr p ∧ Upd [] w wr) (fun _ i _ => 2 - (intOf i).toNat)
    case atStart => exact ⟨0, by omega, rfl, .inl rfl, u1⟩
    case round =>
      obtain ⟨j, hj, rfl, hv, hu⟩ := hrel
      by_cases hlt : j < 2
      · have hji : (j : Int) < 2 := by omega
        have v1 := hv.get n n
        have v2 := hv.append (.slice la L.length lc)
        have v3 := hv.cut n
        have v4 := fun (u : World) (hu' : Upd [] wr u) => (hv.upd hu').count
        clear hv
        go_wp2_with (first
          | (go_at_call 9; refine v1.mono ?_; rintro e _ ⟨rfl, rfl⟩)
          | (go_at_call 10; refine v2.mono ?_; rintro e _ ⟨rfl, rfl⟩)
          | (go_at_call 11; refine v3.mono ?_; rintro e w3 ⟨rfl, hu3⟩)
          | (go_at_call 12; refine (v4 _ hu3).mono ?_; rintro e _ ⟨rfl, rfl⟩))
        go_roundw
        case rel => exact ⟨j + 1, by omega, by go_num, VoidAt.new w3, (hu.trans hu3 (by simp)).alloc _⟩
        case measure => simp [intOf]; omega
      · obtain rfl : j = 2 := by omega
        obtain ⟨h, hL, hs, hG⟩ := HX.out
        have hD := fun (u : World) (hu : Upd [] w u) => on_new hu 100 (by omega)
        have hO1 := open_nil
        go_wp2_with (first
          | (go_at_call 13; refine (hD _ hu).mono ?_; rintro e w1 ⟨d, rfl, hd1⟩)
          | (go_at_call 14; refine Stop.here ?_))
        unfold Stop
        refine (hO1 w1).mono ?_
        rintro e w2 ⟨rfl, hu2⟩
        go_wp2_with (go_at_call 14; refine Stop.here ?_)
        unfold Stop
        refine (open_void _ _ (void_disk w2 _ _)).mono ?_
        rintro e w3 ⟨rfl, hu3⟩
        have hu23 : Upd [] w2 w3 := ((Upd.refl [] w2).alloc _).trans hu3 (by simp)
        have hd3 := hd1.upd (hu2.trans hu23 (by simp))
        have hcr : Calls Tryz.prog 15 #[.pointer (some ⟨d, 0, none⟩), .int .i64 0] w3 fun e w' => e = .returned (.int .i64 0) ∧ DOn w w' d ((Dk.new 100).crash 0) := by
          obtain ⟨df, k1, k2, k3⟩ := hd3
          exact (crash_up k1 0 (by unfold Dk.I64; omega) rfl).mono (fun _ _ h => ⟨h.1, DOn.moves k2 k3 h.2⟩)
        go_wp2_with (first
          | (go_at_call 15; refine hcr.mono ?_; rintro e w4 ⟨rfl, hd4⟩)
          | (go_at_call 14; refine Stop.here ?_))
        unfold Stop
        have hb4 := hd4.base
        obtain ⟨df4, k1, k2, k3⟩ := hd4
        refine (open_down k1 rfl).mono ?_
        rintro e w5 ⟨rfl, hu5⟩
        have hb5 := hb4.trans hu5 (by simp)
        go_wp2_with (go_at_call 8; refine (hlaid _ hb5).mono ?_; rintro e w6 ⟨rfl, hu6⟩)
        refine bodyPost_ret (v := .bool true) (by simp [results, Tryz.results3, go_sem]) rfl ?_
        exact ⟨rfl, hb5.trans hu6 (by simp)⟩
end Go.Proofs.YtogkdoooimcemaaGreatDoor

/- Row0 -/
namespace Go.Proofs.YtogkdoooimcemaaGreatDoor
open Go Go.ChangeShapes Go.WideShapes Go.ChangeAt Go.RowKit
open Go.ChangeMaps (setBlock)

theorem rowOwn : ownKnob Tryz.prog.godebug = none := by kernel_rfl
theorem rowLaidOut : laidOutB Tryz.prog = true := by kernel_rfl
def laid2 : List (String × DataW Unit) := [("speculum/sha.first", Rows.laid_speculum_sha_first), ("speculum/sha.rounds", Rows.laid_speculum_sha_rounds)]
theorem door_met (os : Os) (args : Array Value) : laidMetH Tryz.prog laid2 ((World.doorLaid Tryz.prog 400 os).forCall (fun _ _ => 0) ⟨#[], args, []⟩).memory :=
  laidMetH_of_parts3 (fuel := 8) (laidMet_of_run' 8 (by kernel_rfl) (by kernel_rfl)) (by kernel_rfl) (by kernel_rfl)

theorem arr_cells {H : Type} {enc : TypeId × Value → H} {P : Program} {w : World} {base : Nat} {sp : Nat → Bool} {held : Bool} {t e : TypeId} {n fuel : Nat} {k : IntKind} {cs : List Value} {L : List Int} {ps : List MemPlace} (ht : P.underlying t = some (.array n e)) (he : P.underlying e = some (.int k)) (hc : P.cellsOf e = 1)
    (h : DataW.trod enc P w base sp held fuel t cs = some (.agg (L.map fun z => .lit (.int k z)), ps)) : ∀ j, j < n → cs[j]? = some (.int k (L.getD j 0)) := by
  obtain ⟨xs, m, rfl, hx, hlen, hn, hel⟩ := DataW.trod_array ht h
  intro j hj
  have hl := hel j hj
  rw [hc, Nat.mul_one, List.getElem?_eq_getElem (by omega)] at hl
  obtain ⟨q, e1, e2, _⟩ := DataW.trod_int he hl
  simp only [Prod.mk.injEq, DataW.agg.injEq] at hx
  have h1 : (L.map fun z => (DataW.lit (.int k z) : DataW H))[j]? = (xs.map (·.1))[j]? := by rw [hx.1]
  rw [List.getElem?_map, List.getElem?_map, List.getElem?_eq_getElem (l := xs) (by omega), e2] at h1
  cases hL : L[j]? with
  | none => rw [hL] at h1; simp at h1
  | some z =>
    rw [hL] at h1
    simp only [Option.map_some, Option.some.injEq, DataW.lit.injEq, Lit.int.injEq, true_and] at h1
    rw [List.getD_eq_getElem?_getD, hL, Option.getD_some, h1]
    have h2 : ((cs.drop j).take 1)[0]? = some (.int k q) := by rw [e1]; rfl
    rw [List.getElem?_take, if_pos (by omega), List.getElem?_drop] at h2
    simpa using h2
theorem gFirst : Tryz.prog.globalNamed "speculum/sha.first" = some 0 := by kernel_rfl
theorem gRounds : Tryz.prog.globalNamed "speculum/sha.rounds" = some 1 := by kernel_rfl
theorem tFirst : (Tryz.prog.globals[0]?).map (·.type) = some 147 := by kernel_rfl
theorem tRounds : (Tryz.prog.globals[1]?).map (·.type) = some 146 := by kernel_rfl
theorem glob_of_laid {W : World} (h : laidMetH Tryz.prog laid2 W) : Glob W := by
  rw [MakeChecks.laidMetH_plain _ _ _ (by kernel_rfl)] at h
  obtain ⟨ps, ⟨g0, t0, cs0, f0, p0, q0, hg0, ht0, hv0, hd0, ⟨g1, t1, cs1, f1, p1, q1, hg1, ht1, hv1, hd1, _, _⟩, _⟩, _, _⟩ := h
  obtain rfl := Option.some.inj (gFirst.symm.trans hg0)
  obtain rfl := Option.some.inj (gRounds.symm.trans hg1)
  obtain rfl := Option.some.inj (tFirst.symm.trans ht0)
  obtain rfl := Option.some.inj (tRounds.symm.trans ht1)
  refine ⟨fun j hj => ?_, fun j hj => ?_⟩
  · rw [World.var?_cell hg0 hv0 j, ← Array.getElem?_toList]
    exact arr_cells (L := firstL) Tryz.underlying147 Tryz.underlying145 (by kernel_rfl) hd0 j hj
  · rw [World.var?_cell hg1 hv1 j, ← Array.getElem?_toList]
    exact arr_cells (L := roundsL) Tryz.underlying146 Tryz.underlying145 (by kernel_rfl) hd1 j hj

/-- strings that came in -/
theorem strs_in {H : Type} {enc : TypeId × Value → H} {w : World} {base : Nat} {sp : Nat → Bool} {held : Bool} {a0 : Option Addr} {len cap fuel : Nat} {x : DataW H × List MemPlace}
    (h : DataW.trod enc Tryz.prog w base sp held fuel 22 [.slice a0 len cap] = some x) : ∃ L : List (List UInt8), StrsIn w (.slice a0 len cap) L ∧ L.length ≤ 9223372036854775807 ∧ ∀ s ∈ L, s.length ≤ 9223372036854775807 := by
  rcases open_strings Tryz.underlying22 Tryz.underlying9 (by kernel_rfl) h with ⟨hcs, _⟩ | ⟨a, l, c, ss, hcs, _, hl, hm, hz, _, hcell, hws⟩
  · simp at hcs
    obtain ⟨rfl, rfl, rfl⟩ := hcs
    exact ⟨[], .inr ⟨none, 0, rfl, rfl⟩, by simp, by simp⟩
  · simp at hcs
    obtain ⟨rfl, rfl, rfl⟩ := hcs
    have hsl : len ≤ ss.length := by rw [hz]; split <;> omega
    have hlen : ((ss.take len).map fun s => s.data.toList).length = len := by simp; omega
    unfold maxLen at hm hws
    refine ⟨(ss.take len).map fun s => s.data.toList, ?_, by rw [hlen]; omega, fun s hs => ?_⟩
    · by_cases h0 : len = 0
      · subst h0
        exact .inr ⟨_, _, rfl, rfl⟩
      · obtain ⟨b, off, spot⟩ := a
        have hspot : spot = none := by simpa [Addr.add] using World.cell?_spot (hcell 0 (by omega))
        subst hspot
        refine .inl (.inr ⟨b, off, cap, by rw [hlen], by rw [hlen]; exact hl, hm, fun j hj => ?_⟩)
        rw [hlen] at hj
        have := hcell j (by omega)
        rw [addr_add] at this
        rw [this, List.getElem_map, List.getElem_take, List.getD_eq_getElem?_getD, List.getElem?_eq_getElem (by omega)]
        rfl
    · obtain ⟨y, hy, rfl⟩ := List.mem_map.1 hs
      have := hws y (List.mem_of_mem_take hy)
      simpa using this
end Go.Proofs.YtogkdoooimcemaaGreatDoor

/- RowNone -/
namespace Go.Proofs.YtogkdoooimcemaaGreatDoor
open Go Go.ChangeShapes Go.WideShapes Go.ChangeAt Go.RowKit
set_option maxRecDepth 100000 in
theorem none_lifted (os : Os) (started : os.Started) (H : Type) (enc : TypeId × Value → H) :
    ReturnsInHanded {} Tryz.checked os 3 .any (fun w args => (Rows.segmentsNoneSpec.pre enc Tryz.prog Tryz.f3 [] false w args ∧ laidMetH Tryz.prog laid2 w) ∧ sizedMet enc Tryz.prog Tryz.f3 (OpenSpec.ofChange Rows.segmentsNoneSpec) false w args)
      (Rows.segmentsNoneSpec.post enc Tryz.prog Tryz.f3 false true false false) := by
  refine returnsInHanded_of_change_and (C := Tryz.checked) (X := fun w _ => laidMetH Tryz.prog laid2 w) (fun _ _ _ hh h => h.of_heap hh) rowOwn started (by kernel_rfl) Tryz.func3
    (ChangeSpec.witness_shaped (enc := enc) (C := Tryz.checked) (os := os) (X := fun w _ => laidMetH Tryz.prog laid2 w) false (World.doorLaid Tryz.prog 400 os) #[.slice none 0 0, .int .i64 0] 8 rfl (World.shaped_of_RefB (by kernel_rfl) (by kernel_rfl)) (by kernel_rfl) (by kernel_rfl) (by kernel_rfl) (door_met os _)) ?_
  intro W base args ds gs before hval0 hW _ _ hL _
  have hval : ∀ (j : Nat) t v, Tryz.f3.params[j]? = some t → args[j]? = some v → Value.okWide Tryz.prog W .any base t v := hval0
  have hW' := hW
  obtain ⟨p, q, hA0, hV, rfl, hfz, hnd⟩ := hW
  have hA : DataW.TrodAll enc Tryz.prog W 0 (fun _ => true) true Tryz.f3.params.toList args.toList ds p := hA0
  rw [Tryz.params3] at hA hval
  obtain ⟨v0, vs0, d0, ds0, p0, q0, hargs, rfl, rfl, h0, r0⟩ := trodAll_cons hA
  obtain ⟨v1, vs1, d1, ds1, p1, q1, rfl, rfl, rfl, h1, r1⟩ := trodAll_cons r0
  obtain ⟨rfl, rfl, rfl⟩ := trodAll_nil r1
  obtain rfl : args = #[v0, v1] := by cases args; simp_all
  obtain ⟨rfl, rfl⟩ := trodVars_none hV
  obtain ⟨a0, len0, cap0, rfl⟩ := okWide_slice Tryz.underlying22 (hval 0 22 v0 rfl rfl)
  have k0 := h0
  have lt0 : ∀ x ∈ p0, x.block < W.heap.size := by obtain ⟨m, hm⟩ := k0; exact DataW.trod_lt m _ _ _ hm
  obtain ⟨L, hs, hl1, hl2⟩ : ∃ L : List (List UInt8), StrsIn W (.slice a0 len0 cap0) L ∧ L.length ≤ 9223372036854775807 ∧ ∀ s ∈ L, s.length ≤ 9223372036854775807 := by
    obtain ⟨fuel, hf⟩ := h0
    exact strs_in hf
  obtain ⟨a1, rfl, rfl, rfl, w1⟩ := open_int Tryz.underlying3 (hval 1 3 v1 rfl rfl) h1
  clear hA0 hval0
  refine (segmentsNone_at (glob_of_laid hL) hs hl1 hl2 a1).mono fun e W' ⟨he, hu⟩ => ?_
  subst he
  have bel := hu.below
  exact ⟨_, rfl, _, _, _, [], _, [], hW', trodAll_mk1 (shut_bool Tryz.underlying4 _), (trodAll_cons_mk (Below.trod rowLaidOut (by kernel_rfl) (of_decide_eq_true (by kernel_rfl)) k0 bel lt0) (trodAll_cons_mk (shut_int Tryz.underlying3 w1) trodAll_mk0)), rfl, bel.frame _, fun h => by cases h⟩

theorem segmentsNone_holds : Rows.SegmentsNoneSaid :=
  OpenClaim.holds_of_wide 3 Tryz.f3 rfl rfl rfl rfl rfl rfl rfl ⟨rfl, rfl, rfl, rfl, rfl⟩ rfl rfl rfl rfl rfl (by kernel_rfl) Tryz.func3 (by kernel_rfl)
    (of_decide_eq_true (by kernel_rfl)) (by unfold Func.isWrapper; first | (rw [if_pos (by decide +kernel)]; kernel_rfl) | (rw [if_neg (by decide +kernel)]; exact ⟨rfl, rfl⟩))
    (fun os started H enc _ => none_lifted os started H enc)

theorem segmentsNone_proved : Rows.SegmentsNoneCardSaid :=
  Claim7.holds_tied_plain_at .later [] [.data, .data] true (true, "cf38ee7f59704056a7cbd310c164ce7835a297e8b81f7fb64b18e6352d3b7c00") false
    segmentsNone_holds (fun _ h => by cases h) (by kernel_rfl) (fun _ h => by cases h) segmentsNone_row_tie rfl ⟨rfl, rfl⟩ (by kernel_rfl) rfl
    (fun f fn hf hfn => by
      obtain rfl : f = 3 := Option.some.inj ((show Tryz.prog.funcNamed "speculum/speculumlaw13.SegmentsNone" = some 3 by kernel_rfl).symm.trans hf) |>.symm
      obtain rfl : fn = Tryz.f3 := (Option.some.inj (Tryz.func3.symm.trans hfn)).symm
      exact ⟨by kernel_rfl, fun j t ht => by
        rw [Tryz.params3] at ht
        have h3 : t = 22 ∨ t = 3 := by
          rcases j with _ | _ | j
          · left; simpa using ht.symm
          · right; simpa using ht.symm
          · simp at ht
        rcases h3 with rfl | rfl
        · exact (show Tryz.prog.wantsStandIn 22 = false by kernel_rfl)
        · exact (show Tryz.prog.wantsStandIn 3 = false by kernel_rfl)⟩)
    (by kernel_rfl)
#print axioms segmentsNone_proved
end Go.Proofs.YtogkdoooimcemaaGreatDoor
