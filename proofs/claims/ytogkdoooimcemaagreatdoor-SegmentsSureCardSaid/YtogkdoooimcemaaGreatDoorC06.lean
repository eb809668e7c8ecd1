/- sha.spread: a block's numbers. Conditions: the text has 64 bytes.
  sha.mix: eight numbers behind a block. Conditions: the text has 64 bytes; the listed variables hold their numbers.
  sha.filled: a text, filled up. Conditions: the text is shorter than 2^40 bytes. -/
import Derived.Test.YtogkdoooimcemaaGreatDoorC05
import Derived.Test.YtogkdoooimcemaaGreatDoorC02
/- Sha1 -/
namespace Go.Proofs.YtogkdoooimcemaaGreatDoor
open Go Go.RowKit
open Go.ChangeMaps (setBlock)
set_option maxRecDepth 20000

def x32 (a b : Int) : Int := bits BinOp.xor IntKind.u32 a b
def u32v (l : List Int) : List Value := l.map (.int .u32)
/-- the number behind these -/
def wnext (s : List UInt8) (ws : List Int) (i : Nat) : Int :=
  if i < 16 then (num ((s.drop (4 * i)).take 4) : Int) % 4294967296 else
    let x := ws.getD (i - 15) 0; let y := ws.getD (i - 2) 0
    (ws.getD (i - 16) 0 + ws.getD (i - 7) 0 + x32 (x32 (ror x 7) (ror x 18)) (x / 8) + x32 (x32 (ror y 17) (ror y 19)) (y / 1024)) % 4294967296
def wlist (s : List UInt8) : Nat → List Int
  | 0 => []
  | i + 1 => wlist s i ++ [wnext s (wlist s i) i]
theorem length_wlist (s : List UInt8) : ∀ i, (wlist s i).length = i
  | 0 => rfl
  | i + 1 => by simp [wlist, length_wlist s i]
def wrow (s : List UInt8) (i : Nat) : List Value := u32v (wlist s i) ++ List.replicate (64 - i) (.int .u32 0)
theorem length_wrow (s : List UInt8) (i : Nat) (h : i ≤ 64) : (wrow s i).length = 64 := by simp [wrow, u32v, length_wlist]; omega
theorem wrow_set (s : List UInt8) (i : Nat) (h : i < 64) : (wrow s i).set i (.int .u32 (wnext s (wlist s i) i)) = wrow s (i + 1) := by
  have e : 64 - i = (64 - (i + 1)) + 1 := by omega
  unfold wrow
  rw [List.set_append_right _ _ (by simp [u32v, length_wlist]), e, List.replicate_succ]
  simp [u32v, length_wlist, wlist]
theorem wrow_get (s : List UInt8) (i k : Nat) (h : k < i) : (wrow s i)[k]? = some (.int .u32 ((wlist s i).getD k 0)) := by
  have hl : k < (wlist s i).length := by rw [length_wlist]; exact h
  unfold wrow
  rw [List.getElem?_append_left (by simpa [u32v] using hl)]
  simp [u32v, hl]

set_option maxHeartbeats 2000000 in
theorem spread_at (s : ByteArray) (hs : s.size = 64) (w : World) :
    Calls Tryz.prog 128 #[.string s] w fun e w' => e = .returned (.agg (u32v (wlist s.data.toList 64)).toArray) ∧ Upd [] w w' := by
  have hsl : s.data.toList.length = 64 := by simpa using hs
  generalize hl : s.data.toList = l at *
  go_enter Tryz.func128, Tryz.ntmps128
  go_wp2
  have hg0 : (w.alloc (.cells (wrow l 0).toArray 146)).heap[w.heap.size]? = some (.cells (wrow l 0).toArray 146 (0, 0)) := heap_alloc_new w _
  go_loopw [6] (fun i wr => ∃ j : Nat, j ≤ 64 ∧ i = .int .i64 j ∧ wr.heap[w.heap.size]? = some (.cells (wrow l j).toArray 146 (0, 0)) ∧ Below w.heap.size w wr) (fun i _ => 64 - (intOf i).toNat)
  case atStart => exact ⟨0, Nat.zero_le _, rfl, hg0, (Below.refl _ _).alloc (Nat.le_refl _) _⟩
  case round =>
    obtain ⟨j, hj, rfl, hg, hB⟩ := hrel
    clear hg0
    have hgl := lt_of_block hg
    by_cases hlt : j < 64
    · by_cases h16 : j < 16
      · have hsz : (s.extract (4 * j) (4 * j + 4)).size = 4 := by simp; omega
        have hex : (s.extract (4 * j) (4 * j + 4)).data.toList = (l.drop (4 * j)).take 4 := by
          rw [← hl]; simp
        have hget := fun W => get_at (s.extract (4 * j) (4 * j + 4)) (by omega) W
        rw [hex] at hget
        have hnx : wnext l (wlist l j) j = (num ((l.drop (4 * j)).take 4) : Int) % 4294967296 := if_pos h16
        have hset := heap_setCell_same wr w.heap.size j _ _ (.int .u32 (wnext l (wlist l j) j)) hg
        rw [List.setIfInBounds_toArray, wrow_set l j hlt, hnx] at hset
        have hf : wr.frozen? ⟨w.heap.size, j, none⟩ = false := frozen_of_row wr _ j _ _ hg
        have hc : ∃ v, wr.cell? ⟨w.heap.size, j, none⟩ = some v := by
          rw [cell_of_row wr _ _ _ _ _ hg, List.getElem?_toArray, List.getElem?_eq_getElem (by rw [length_wrow l j (by omega)]; omega)]
          exact ⟨_, rfl⟩
        obtain ⟨v, hc⟩ := hc
        have H := Lib.hid (And.intro hset (And.intro hl hg))
        clear hset hl hg hnx hex hsz
        generalize num ((l.drop (4 * j)).take 4) = q at *
        go_wp2_with (go_at_call 104; refine (hget _).mono ?_; rintro e w' ⟨rfl, rfl⟩)
        obtain ⟨hset, hl, hg⟩ := H.out
        go_roundw
        case rel => exact ⟨j + 1, by omega, by go_num, hset, hB.setCell (Nat.le_refl _) _⟩
        case measure => simp [intOf]; omega
      · have hnx : wnext l (wlist l j) j = _ := if_neg h16
        have hset := heap_setCell_same wr w.heap.size j _ _ (.int .u32 (wnext l (wlist l j) j)) hg
        rw [List.setIfInBounds_toArray, wrow_set l j hlt, hnx] at hset
        have hcell : ∀ u : World, u.heap[w.heap.size]? = some (.cells (wrow l j).toArray 146 (0, 0)) → ∀ k, k < j → u.cell? ⟨w.heap.size, k, none⟩ = some (.int .u32 ((wlist l j).getD k 0)) := by
          intro u hu k hk
          rw [cell_of_row u _ _ _ _ _ hu, List.getElem?_toArray, wrow_get l j k hk]
        have hf : ∀ u : World, u.heap[w.heap.size]? = some (.cells (wrow l j).toArray 146 (0, 0)) → u.frozen? ⟨w.heap.size, j, none⟩ = false := fun u hu => frozen_of_row u _ j _ _ hu
        have hc : ∀ u : World, u.heap[w.heap.size]? = some (.cells (wrow l j).toArray 146 (0, 0)) → ∃ v, u.cell? ⟨w.heap.size, j, none⟩ = some v := by
          intro u hu
          rw [cell_of_row u _ _ _ _ _ hu, List.getElem?_toArray, List.getElem?_eq_getElem (by rw [length_wrow l j (by omega)]; omega)]
          exact ⟨_, rfl⟩
        have hc16 := fun u hu => hcell u hu (j - 16) (by omega)
        have hc15 := fun u hu => hcell u hu (j - 15) (by omega)
        have hc7 := fun u hu => hcell u hu (j - 7) (by omega)
        have hc2 := fun u hu => hcell u hu (j - 2) (by omega)
        have hr7 := fun x => ror_at x 7 (by omega) (by omega)
        have hr18 := fun x => ror_at x 18 (by omega) (by omega)
        have hr17 := fun x => ror_at x 17 (by omega) (by omega)
        have hr19 := fun x => ror_at x 19 (by omega) (by omega)
        have H := Lib.hid (And.intro hset (And.intro hl hc))
        clear hset hl hnx hcell hc
        generalize (wlist l j).getD (j - 16) 0 = c16 at *
        generalize (wlist l j).getD (j - 15) 0 = c15 at *
        generalize (wlist l j).getD (j - 7) 0 = c7 at *
        generalize (wlist l j).getD (j - 2) 0 = c2 at *
        have HG := Lib.hid hg
        have hw15 : IntKind.i64.wrap ((j : Int) - 15) = ((j - 15 : Nat) : Int) := by rw [IntKind.wrap_i64]; omega
        have hw16 : IntKind.i64.wrap ((j : Int) - 16) = ((j - 16 : Nat) : Int) := by rw [IntKind.wrap_i64]; omega
        have hw7 : IntKind.i64.wrap ((j : Int) - 7) = ((j - 7 : Nat) : Int) := by rw [IntKind.wrap_i64]; omega
        have hw2 : IntKind.i64.wrap ((j : Int) - 2) = ((j - 2 : Nat) : Int) := by rw [IntKind.wrap_i64]; omega
        obtain ⟨i15, e15⟩ : ∃ i, i = j - 15 := ⟨_, rfl⟩
        obtain ⟨i16, e16⟩ : ∃ i, i = j - 16 := ⟨_, rfl⟩
        obtain ⟨i7, e7⟩ : ∃ i, i = j - 7 := ⟨_, rfl⟩
        obtain ⟨i2, e2⟩ : ∃ i, i = j - 2 := ⟨_, rfl⟩
        rw [← e15] at hw15 hc15
        rw [← e16] at hw16 hc16
        rw [← e7] at hw7 hc7
        rw [← e2] at hw2 hc2
        have l15 : (i15 : Int) < 64 := by omega
        have l16 : (i16 : Int) < 64 := by omega
        have l7 : (i7 : Int) < 64 := by omega
        have l2 : (i2 : Int) < 64 := by omega
        clear e15 e16 e7 e2
        go_wp2
        refine wp_region_can [(0, false), (1, false), (2, false), (3, false), (4, false), (5, false), (6, false), (7, false), (8, false), (9, false)] 10 (fun u => u.heap[w.heap.size]? = some (.cells (wrow l j).toArray 146 (0, 0))) (by kernel_rfl) (by kernel_rfl) (fun _ _ d _ _ h => by cases d <;> exact h) hg ?_
        simp only [canOps, List.filterMap_cons, List.filterMap_nil, Option.map_some, List.getElem?_toArray, List.getElem?_cons_succ, List.getElem?_cons_zero, List.drop_succ_cons, List.drop_zero]
        repeat (apply can_light rfl; (· intro u hu; have f16 := hc16 u hu; have f15 := hc15 u hu; have f7 := hc7 u hu; have f2 := hc2 u hu; go_simp; try rfl); simp only [Act.put, List.setIfInBounds_toArray, List.set_cons_zero, List.set_cons_succ])
        refine can_nil ?_
        go_wp2
        refine wp_region_can [(0, false), (1, false), (2, false), (3, false), (4, false), (5, false), (6, false), (7, false), (8, false), (9, false), (10, false), (12, false), (15, false), (16, false), (19, false), (21, false), (24, false), (25, false), (11, true), (13, true), (14, false), (17, false), (18, false), (20, true), (22, true), (23, false), (26, false), (27, false)] 28 (fun u => u.heap[w.heap.size]? = some (.cells (wrow l j).toArray 146 (0, 0))) (by kernel_rfl) (by kernel_rfl) (fun _ _ d _ _ h => by cases d <;> exact h) HG.out ?_
        simp only [canOps, List.filterMap_cons, List.filterMap_nil, Option.map_some, List.getElem?_toArray, List.getElem?_cons_succ, List.getElem?_cons_zero, List.drop_succ_cons, List.drop_zero]
        repeat (apply can_light rfl; (· intro u hu; have f16 := hc16 u hu; have f7 := hc7 u hu; go_simp; try rfl); simp only [Act.put, List.setIfInBounds_toArray, List.set_cons_zero, List.set_cons_succ])
        refine can_acts rfl fun K' hK' => ?_
        go_simp
        refine (hr7 _ _).mono ?_
        rintro e w' ⟨rfl, rfl⟩
        refine hK' _ _ HG.out ?_
        clear hK' K'
        refine can_acts rfl fun K' hK' => ?_
        go_simp
        refine (hr18 _ _).mono ?_
        rintro e w' ⟨rfl, rfl⟩
        refine hK' _ _ HG.out ?_
        clear hK' K'
        repeat (apply can_light rfl; (· intro u hu; have f16 := hc16 u hu; have f7 := hc7 u hu; go_simp; try rfl); simp only [Act.put, List.setIfInBounds_toArray, List.set_cons_zero, List.set_cons_succ])
        refine can_acts rfl fun K' hK' => ?_
        go_simp
        refine (hr17 _ _).mono ?_
        rintro e w' ⟨rfl, rfl⟩
        refine hK' _ _ HG.out ?_
        clear hK' K'
        refine can_acts rfl fun K' hK' => ?_
        go_simp
        refine (hr19 _ _).mono ?_
        rintro e w' ⟨rfl, rfl⟩
        refine hK' _ _ HG.out ?_
        clear hK' K'
        repeat (apply can_light rfl; (· intro u hu; have f16 := hc16 u hu; have f7 := hc7 u hu; go_simp; try rfl); simp only [Act.put, List.setIfInBounds_toArray, List.set_cons_zero, List.set_cons_succ])
        refine can_nil ?_
        have hf' := hf wr HG.out
        obtain ⟨hset, hl, hc⟩ := H.out
        obtain ⟨v, hc⟩ := hc wr HG.out
        go_wp2
        go_roundw
        case rel => exact ⟨j + 1, by omega, by go_num, hset, ((hB.setCell (Nat.le_refl _) _).drew).drew⟩
        case measure => simp [intOf]; omega
    · have hje : j = 64 := by omega
      subst hje
      have hrow : wrow l 64 = u32v (wlist l 64) := by simp [wrow]
      rw [hrow] at hg
      have hlen := length_wlist l 64
      clear hrow hlt
      generalize hW : wlist l 64 = W at *
      have HW := Lib.hid hW
      clear hW
      have hsz : ((Tryz.prog.info? 146).map (·.size)) = some (u32v W).toArray.size := by
        have : (Tryz.prog.info? 146).map (·.size) = some 64 := by kernel_rfl
        rw [this]; simp [u32v, hlen]
      have hone : (u32v W).toArray.all (·.oneCell') = true := by simp [u32v, Value.oneCell']
      have H := Lib.hid (And.intro hg hl)
      generalize hV : (u32v W).toArray = V at *
      have HV := Lib.hid hV
      clear hV
      clear hlen
      go_wp2_with (first
        | refine wpList_load_row rfl 146 _ rfl w.heap.size rfl 146 V (0, 0) _ hg Tryz.underlying146 rfl hsz ?_
        | refine wpList_store_row rfl 146 _ _ rfl w.heap.size V rfl rfl 146 V hg hsz rfl hone ?_)
      have hg' := setRow_heap wr w.heap.size V V _ _ hg
      simp only [Act.put, List.setIfInBounds_toArray, List.set_cons_zero, List.set_cons_succ]
      refine bodyPost_ret (v := .agg V) ?_ rfl ⟨by rw [HW.out, HV.out], ?_⟩
      · refine results_cell_row Tryz.results128 _ _ w.heap.size _ V _ _ ?_ hg' Tryz.underlying146 rfl hsz
        simp only [Array.getD_eq_getD_getElem?, List.getElem?_toArray, List.getElem?_cons_succ, List.getElem?_cons_zero, Option.getD_some]
      · exact Upd.of_below (hB.setRow' (Nat.le_refl _) _) _
end Go.Proofs.YtogkdoooimcemaaGreatDoor

/- Sha2 -/
namespace Go.Proofs.YtogkdoooimcemaaGreatDoor
open Go Go.RowKit
open Go.ChangeMaps (setBlock)
set_option maxRecDepth 20000

def roundsL : List Int := [1116352408, 1899447441, 3049323471, 3921009573, 961987163, 1508970993, 2453635748, 2870763221, 3624381080, 310598401, 607225278, 1426881987, 1925078388, 2162078206, 2614888103, 3248222580, 3835390401, 4022224774, 264347078, 604807628, 770255983, 1249150122, 1555081692, 1996064986, 2554220882, 2821834349, 2952996808, 3210313671, 3336571891, 3584528711, 113926993, 338241895, 666307205, 773529912, 1294757372, 1396182291, 1695183700, 1986661051, 2177026350, 2456956037, 2730485921, 2820302411, 3259730800, 3345764771, 3516065817, 3600352804, 4094571909, 275423344, 430227734, 506948616, 659060556, 883997877, 958139571, 1322822218, 1537002063, 1747873779, 1955562222, 2024104815, 2227730452, 2361852424, 2428436474, 2756734187, 3204031479, 3329325298]
def firstL : List Int := [1779033703, 3144134277, 1013904242, 2773480762, 1359893119, 2600822924, 528734635, 1541459225]
/-- the listed variables hold their numbers -/
structure Glob (w : World) : Prop where
  first : ∀ j, j < 8 → w.cell? ⟨0, j, none⟩ = some (.int .u32 (firstL.getD j 0))
  rounds : ∀ j, j < 64 → w.cell? ⟨1, j, none⟩ = some (.int .u32 (roundsL.getD j 0))
theorem Glob.lt {w : World} (h : Glob w) : 0 < w.heap.size ∧ 1 < w.heap.size := by
  have h0 := block_lt_of_cell (h.first 0 (by omega))
  have h1 := block_lt_of_cell (h.rounds 0 (by omega))
  exact ⟨h0, h1⟩
theorem Glob.upd {w w' : World} {fp : List Nat} (h : Glob w) (hu : Upd fp w w') (h0 : 0 ∉ fp) (h1 : 1 ∉ fp) : Glob w' :=
  ⟨fun j hj => (hu.cell (p := ⟨0, j, none⟩) h.lt.1 h0).trans (h.first j hj), fun j hj => (hu.cell (p := ⟨1, j, none⟩) h.lt.2 h1).trans (h.rounds j hj)⟩

def n32 (a b : Int) : Int := bits BinOp.and IntKind.u32 a b
def mixT (e f g h r n : Int) : Int := IntKind.u32.wrap (IntKind.u32.wrap (IntKind.u32.wrap (IntKind.u32.wrap (h + x32 (x32 (ror e 6) (ror e 11)) (ror e 25)) + x32 (n32 e f) (n32 (x32 IntKind.u32.max e) g)) + r) + n)
def mixU (a b c : Int) : Int := IntKind.u32.wrap (x32 (x32 (ror a 2) (ror a 13)) (ror a 22) + x32 (x32 (n32 a b) (n32 a c)) (n32 b c))
def mixStep (r n : Int) (v : List Int) : List Int :=
  match v with
  | [a, b, c, d, e, f, g, h] => [(mixT e f g h r n + mixU a b c) % 4294967296, a, b, c, (d + mixT e f g h r n) % 4294967296, e, f, g]
  | v => v
def mixL (ns : List Int) (v : List Int) : Nat → List Int
  | 0 => v
  | k + 1 => mixStep (roundsL.getD k 0) (ns.getD k 0) (mixL ns v k)
def addF (a b : Int) : Int := (a + b) % 4294967296
def mixAll (v : List Int) (s : List UInt8) : List Int := List.zipWith addF (mixL (wlist s 64) v 64) v
theorem length_mixStep (r n : Int) (v : List Int) (h : v.length = 8) : (mixStep r n v).length = 8 := by
  match v, h with
  | [a, b, c, d, e, f, g, h], _ => rfl
theorem length_mixL (ns v : List Int) (h : v.length = 8) : ∀ k, (mixL ns v k).length = 8
  | 0 => h
  | k + 1 => length_mixStep _ _ _ (length_mixL ns v h k)

def Mcells (g k : Nat) (m0 m1 m2 m3 m4 m5 m6 m7 r : Int) (u : World) : Prop :=
  u.cell? ⟨g, 0, none⟩ = some (.int .u32 m0) ∧ u.cell? ⟨g, 1, none⟩ = some (.int .u32 m1) ∧ u.cell? ⟨g, 2, none⟩ = some (.int .u32 m2) ∧ u.cell? ⟨g, 3, none⟩ = some (.int .u32 m3) ∧
    u.cell? ⟨g, 4, none⟩ = some (.int .u32 m4) ∧ u.cell? ⟨g, 5, none⟩ = some (.int .u32 m5) ∧ u.cell? ⟨g, 6, none⟩ = some (.int .u32 m6) ∧ u.cell? ⟨g, 7, none⟩ = some (.int .u32 m7) ∧ u.cell? ⟨1, k, none⟩ = some (.int .u32 r)
theorem heap_alloc3 (w : World) (a b c : Obj) : (((w.alloc a).alloc b).alloc c).heap[w.heap.size]? = some a ∧ (((w.alloc a).alloc b).alloc c).heap[w.heap.size + 1]? = some b ∧ (((w.alloc a).alloc b).alloc c).heap[w.heap.size + 1 + 1]? = some c := by
  have e : (((w.alloc a).alloc b).alloc c).heap = ((w.heap.push a).push b).push c := rfl
  rw [e]
  refine ⟨?_, ?_, ?_⟩
  · rw [Array.getElem?_push, if_neg (by simp; omega), Array.getElem?_push, if_neg (by simp), Array.getElem?_push, if_pos rfl]
  · rw [Array.getElem?_push, if_neg (by simp), Array.getElem?_push, if_pos (by simp)]
  · rw [Array.getElem?_push, if_pos (by simp)]

theorem set8 (w : World) (g : Nat) (t : TypeId) {b0 b1 b2 b3 b4 b5 b6 b7 : Value} (hg : w.heap[g]? = some (.cells #[b0, b1, b2, b3, b4, b5, b6, b7] t (0, 0))) (a0 a1 a2 a3 a4 a5 a6 a7 : Value) :
    ((((((((w.setCell ⟨g, 0, none⟩ a0).setCell ⟨g, 1, none⟩ a1).setCell ⟨g, 2, none⟩ a2).setCell ⟨g, 3, none⟩ a3).setCell ⟨g, 4, none⟩ a4).setCell ⟨g, 5, none⟩ a5).setCell ⟨g, 6, none⟩ a6).setCell ⟨g, 7, none⟩ a7).heap[g]? = some (.cells #[a0, a1, a2, a3, a4, a5, a6, a7] t (0, 0)) ∧
    (∀ i, i ≠ g → ((((((((w.setCell ⟨g, 0, none⟩ a0).setCell ⟨g, 1, none⟩ a1).setCell ⟨g, 2, none⟩ a2).setCell ⟨g, 3, none⟩ a3).setCell ⟨g, 4, none⟩ a4).setCell ⟨g, 5, none⟩ a5).setCell ⟨g, 6, none⟩ a6).setCell ⟨g, 7, none⟩ a7).heap[i]? = w.heap[i]?) ∧
    Below g w ((((((((w.setCell ⟨g, 0, none⟩ a0).setCell ⟨g, 1, none⟩ a1).setCell ⟨g, 2, none⟩ a2).setCell ⟨g, 3, none⟩ a3).setCell ⟨g, 4, none⟩ a4).setCell ⟨g, 5, none⟩ a5).setCell ⟨g, 6, none⟩ a6).setCell ⟨g, 7, none⟩ a7) := by
  refine ⟨?_, fun i hi => ?_, ?_⟩
  · have e0 := heap_setCell_same w g 0 _ _ a0 hg
    simp only [List.setIfInBounds_toArray, List.set_cons_zero, List.set_cons_succ] at e0
    have e1 := heap_setCell_same _ g 1 _ _ a1 e0
    simp only [List.setIfInBounds_toArray, List.set_cons_zero, List.set_cons_succ] at e1
    have e2 := heap_setCell_same _ g 2 _ _ a2 e1
    simp only [List.setIfInBounds_toArray, List.set_cons_zero, List.set_cons_succ] at e2
    have e3 := heap_setCell_same _ g 3 _ _ a3 e2
    simp only [List.setIfInBounds_toArray, List.set_cons_zero, List.set_cons_succ] at e3
    have e4 := heap_setCell_same _ g 4 _ _ a4 e3
    simp only [List.setIfInBounds_toArray, List.set_cons_zero, List.set_cons_succ] at e4
    have e5 := heap_setCell_same _ g 5 _ _ a5 e4
    simp only [List.setIfInBounds_toArray, List.set_cons_zero, List.set_cons_succ] at e5
    have e6 := heap_setCell_same _ g 6 _ _ a6 e5
    simp only [List.setIfInBounds_toArray, List.set_cons_zero, List.set_cons_succ] at e6
    have e7 := heap_setCell_same _ g 7 _ _ a7 e6
    simp only [List.setIfInBounds_toArray, List.set_cons_zero, List.set_cons_succ] at e7
    exact e7
  · simp [World.setCell, Array.getElem?_modify, Ne.symm hi]
  · exact (((((((((Below.refl g w).setCell (Nat.le_refl _) _).setCell (Nat.le_refl _) _).setCell (Nat.le_refl _) _).setCell (Nat.le_refl _) _).setCell (Nat.le_refl _) _).setCell (Nat.le_refl _) _).setCell (Nat.le_refl _) _).setCell (Nat.le_refl _) _)

theorem run_index_u32 {t n : Nat} (ht : Tryz.prog.underlying t = some (.array n 145)) (ns : List Int) (hn : ns.length = n) (k : Nat) (hk : k < n) (W : World) : (Instr.index t (.agg (u32v ns).toArray) (.int .i64 k)).run Tryz.prog W = .ok (.int .u32 (ns.getD k 0)) W := by
  have hg : (u32v ns)[k]? = some (.int .u32 (ns.getD k 0)) := by simp [u32v, hn, hk]
  simp [Instr.index, asIntOf, run_underlying ht, part, Tryz.isAgg145, Tryz.sizeOf145, hg]
  intro h; omega

def addL (M V : List Int) (j : Nat) : List Int := (List.zipWith addF M V).take j ++ M.drop j
theorem u32_get (V : List Int) (j : Nat) (h : j < V.length) : (u32v V)[j]? = some (.int .u32 (V.getD j 0)) := by simp [u32v, h]
theorem addL_set (M V : List Int) (j : Nat) (hM : M.length = 8) (hV : V.length = 8) (h : j < 8) : (u32v (addL M V j)).set j (.int .u32 (addF (M.getD j 0) (V.getD j 0))) = u32v (addL M V (j + 1)) := by
  unfold u32v
  rw [← List.map_set]
  congr 1
  have hl : (List.take j (List.zipWith addF M V)).length = j := by simp [hM, hV]; omega
  unfold addL
  rw [List.set_append_right _ _ (by omega), hl, Nat.sub_self, List.drop_eq_getElem_cons (by omega), List.set_cons_zero, List.take_succ_eq_append_getElem (by simp; omega)]
  simp [hM, hV, h]
theorem addL_get (M V : List Int) (j : Nat) (hM : M.length = 8) (hV : V.length = 8) (h : j < 8) : (u32v (addL M V j))[j]? = some (.int .u32 (M.getD j 0)) := by
  have hl : (List.take j (List.zipWith addF M V)).length = j := by simp [hM, hV]; omega
  unfold u32v addL
  rw [List.getElem?_map, List.getElem?_append_right (by omega), hl, Nat.sub_self, List.getElem?_drop, Nat.add_zero, List.getElem?_eq_getElem (by omega)]
  simp [hM, h]

set_option maxHeartbeats 2000000 in
theorem mix_at (v : List Int) (hv : v.length = 8) (s : ByteArray) (hs : s.size = 64) (w : World) (hG : Glob w) :
    Calls Tryz.prog 120 #[.agg (u32v v).toArray, .string s] w fun e w' => e = .returned (.agg (u32v (mixAll v s.data.toList)).toArray) ∧ Upd [] w w' := by
  have hsp := fun W => spread_at s hs W
  have hW := length_wlist s.data.toList 64
  have HM := Lib.hid (show mixAll v s.data.toList = _ from rfl)
  unfold mixAll at HM ⊢
  generalize wlist s.data.toList 64 = ns at *
  have HV := Lib.hid hv
  obtain ⟨v0, v1, v2, v3, v4, v5, v6, v7, rfl⟩ : ∃ a b c d e f g h, v = [a, b, c, d, e, f, g, h] := by
    match v, hv with
    | [a, b, c, d, e, f, g, h], _ => exact ⟨a, b, c, d, e, f, g, h, rfl⟩
  clear hv
  simp only [u32v, List.map_cons, List.map_nil]
  go_enter Tryz.func120, Tryz.ntmps120
  go_wp2_with (go_at_call 128; refine (hsp _).mono ?_; rintro e w' ⟨rfl, hu⟩)
  have hN : w.heap.size + 1 + 1 + 1 ≤ w'.heap.size := by have := hu.size; simpa using this
  have b0 : w'.heap[w.heap.size]? = some (.cells (u32v [v0, v1, v2, v3, v4, v5, v6, v7]).toArray 147 (0, 0)) := hu.heap (heap_alloc3 w _ _ _).1 (by simp)
  have b1 : w'.heap[w.heap.size + 1]? = some (.cells (u32v [0, 0, 0, 0, 0, 0, 0, 0]).toArray 147 (0, 0)) := hu.heap (heap_alloc3 w _ _ _).2.1 (by simp)
  have b2 : w'.heap[w.heap.size + 1 + 1]? = some (.cells (u32v (mixL ns [v0, v1, v2, v3, v4, v5, v6, v7] 0)).toArray 147 (0, 0)) := hu.heap (heap_alloc3 w _ _ _).2.2 (by simp)
  have hB0 : Below w.heap.size w w' := ((((Below.refl _ _).alloc (Nat.le_refl _) _).alloc (by simp) _).alloc (by simp; omega) _).trans (hu.below.mono (by simp; omega))
  have hGl := hG.lt
  go_loopw [16] (fun i wr => ∃ k : Nat, k ≤ 64 ∧ i = .int .i64 k ∧ wr.heap[w.heap.size]? = some (.cells (u32v [v0, v1, v2, v3, v4, v5, v6, v7]).toArray 147 (0, 0)) ∧ wr.heap[w.heap.size + 1]? = some (.cells (u32v [0, 0, 0, 0, 0, 0, 0, 0]).toArray 147 (0, 0)) ∧
    wr.heap[w.heap.size + 1 + 1]? = some (.cells (u32v (mixL ns [v0, v1, v2, v3, v4, v5, v6, v7] k)).toArray 147 (0, 0)) ∧ Below w.heap.size w wr) (fun i _ => 64 - (intOf i).toNat)
  case atStart => exact ⟨0, Nat.zero_le _, rfl, b0, b1, b2, hB0⟩
  case round =>
    obtain ⟨k, hk, rfl, c0, c1, c2, hB⟩ := hrel
    clear b0 b1 b2 hB0 hN hu
    by_cases hlt : k < 64
    · have hr : wr.cell? ⟨1, k, none⟩ = some (.int .u32 (roundsL.getD k 0)) := (hB.cell (p := ⟨1, k, none⟩) hGl.2).trans (hG.rounds k hlt)
      have hix : ∀ W, (Instr.index 146 (.agg (u32v ns).toArray) (.int .i64 k)).run Tryz.prog W = .ok (.int .u32 (ns.getD k 0)) W := fun W => run_index_u32 Tryz.underlying146 ns hW k hlt W
      have HNX := Lib.hid (show mixL ns [v0, v1, v2, v3, v4, v5, v6, v7] (k + 1) = mixStep (roundsL.getD k 0) (ns.getD k 0) (mixL ns [v0, v1, v2, v3, v4, v5, v6, v7] k) from rfl)
      have hlm := length_mixL ns [v0, v1, v2, v3, v4, v5, v6, v7] rfl k
      generalize mixL ns [v0, v1, v2, v3, v4, v5, v6, v7] k = M at *
      generalize roundsL.getD k 0 = r at *
      generalize ns.getD k 0 = n at *
      obtain ⟨m0, m1, m2, m3, m4, m5, m6, m7, rfl⟩ : ∃ a b c d e f g h, M = [a, b, c, d, e, f, g, h] := by
        match M, hlm with
        | [a, b, c, d, e, f, g, h], _ => exact ⟨a, b, c, d, e, f, g, h, rfl⟩
      simp only [u32v, List.map_cons, List.map_nil] at c0 c1 c2
      have HC := Lib.hid (And.intro c0 (And.intro c1 c2))
      have hkk : (k : Int) < 64 := by omega
      clear c0 c1
      have hS : ∀ j v, #[Value.int IntKind.u32 m0, .int .u32 m1, .int .u32 m2, .int .u32 m3, .int .u32 m4, .int .u32 m5, .int .u32 m6, .int .u32 m7][j]? = some v → wr.cell? ⟨w.heap.size + 1 + 1, j, none⟩ = some v := fun j v h => (cell_of_row wr _ j _ _ _ c2).trans h
      have HS := Lib.hid (show Mcells (w.heap.size + 1 + 1) k m0 m1 m2 m3 m4 m5 m6 m7 r wr from ⟨hS 0 _ rfl, hS 1 _ rfl, hS 2 _ rfl, hS 3 _ rfl, hS 4 _ rfl, hS 5 _ rfl, hS 6 _ rfl, hS 7 _ rfl, hr⟩)
      have hr6 := fun x => ror_at x 6 (by omega) (by omega)
      have hr11 := fun x => ror_at x 11 (by omega) (by omega)
      have hr25 := fun x => ror_at x 25 (by omega) (by omega)
      have hr2 := fun x => ror_at x 2 (by omega) (by omega)
      have hr13 := fun x => ror_at x 13 (by omega) (by omega)
      have hr22 := fun x => ror_at x 22 (by omega) (by omega)
      have HC2 := Lib.hid c2
      clear hS hr c2
      go_wp2
      refine wp_region_can [(0, false), (1, false), (2, false), (3, false), (4, false), (5, false)] 6 (Mcells (w.heap.size + 1 + 1) k m0 m1 m2 m3 m4 m5 m6 m7 r) (by kernel_rfl) (by kernel_rfl) (fun _ _ d _ _ h => by cases d <;> exact h) HS.out ?_
      simp only [canOps, List.filterMap_cons, List.filterMap_nil, Option.map_some, List.getElem?_toArray, List.getElem?_cons_succ, List.getElem?_cons_zero, List.drop_succ_cons, List.drop_zero]
      repeat (apply can_light rfl; (· intro u hu; obtain ⟨hm0, hm1, hm2, hm3, hm4, hm5, hm6, hm7, hmr⟩ := hu; go_simp; try rfl); simp only [Act.put, List.setIfInBounds_toArray, List.set_cons_zero, List.set_cons_succ])
      refine can_nil ?_
      go_wp2
      refine wp_region_can [(0, false), (1, false), (2, false), (4, false), (7, false), (11, false), (12, false), (13, false), (14, false), (15, false), (16, false), (17, false), (18, false), (19, false), (20, false), (22, false), (23, false), (24, false), (26, false), (3, true), (5, true), (6, false), (8, true), (9, false), (10, false), (21, false), (25, false), (27, false)] 28 (Mcells (w.heap.size + 1 + 1) k m0 m1 m2 m3 m4 m5 m6 m7 r) (by kernel_rfl) (by kernel_rfl) (fun _ _ d _ _ h => by cases d <;> exact h) HS.out ?_
      simp only [canOps, List.filterMap_cons, List.filterMap_nil, Option.map_some, List.getElem?_toArray, List.getElem?_cons_succ, List.getElem?_cons_zero, List.drop_succ_cons, List.drop_zero]
      repeat (apply can_light rfl; (· intro u hu; obtain ⟨hm0, hm1, hm2, hm3, hm4, hm5, hm6, hm7, hmr⟩ := hu; go_simp; try rfl); simp only [Act.put, List.setIfInBounds_toArray, List.set_cons_zero, List.set_cons_succ])
      refine can_acts rfl fun K' hK' => ?_
      go_simp
      refine (hr6 _ _).mono ?_
      rintro e w' ⟨rfl, rfl⟩
      refine hK' _ _ HS.out ?_
      clear hK' K'
      refine can_acts rfl fun K' hK' => ?_
      go_simp
      refine (hr11 _ _).mono ?_
      rintro e w' ⟨rfl, rfl⟩
      refine hK' _ _ HS.out ?_
      clear hK' K'
      repeat (apply can_light rfl; (· intro u hu; obtain ⟨hm0, hm1, hm2, hm3, hm4, hm5, hm6, hm7, hmr⟩ := hu; go_simp; try rfl); simp only [Act.put, List.setIfInBounds_toArray, List.set_cons_zero, List.set_cons_succ])
      refine can_acts rfl fun K' hK' => ?_
      go_simp
      refine (hr25 _ _).mono ?_
      rintro e w' ⟨rfl, rfl⟩
      refine hK' _ _ HS.out ?_
      clear hK' K'
      repeat (apply can_light rfl; (· intro u hu; obtain ⟨hm0, hm1, hm2, hm3, hm4, hm5, hm6, hm7, hmr⟩ := hu; go_simp; try rfl); simp only [Act.put, List.setIfInBounds_toArray, List.set_cons_zero, List.set_cons_succ])
      refine can_nil ?_
      go_wp2
      refine wp_region_can [(0, false), (2, false), (5, false), (8, false), (9, false), (10, false), (11, false), (12, false), (13, false), (14, false), (15, false), (16, false), (17, false), (18, false), (19, false), (20, false), (21, false), (22, false), (1, true), (3, true), (4, false), (6, true), (7, false), (23, false)] 24 (Mcells (w.heap.size + 1 + 1) k m0 m1 m2 m3 m4 m5 m6 m7 r) (by kernel_rfl) (by kernel_rfl) (fun _ _ d _ _ h => by cases d <;> exact h) HS.out ?_
      simp only [canOps, List.filterMap_cons, List.filterMap_nil, Option.map_some, List.getElem?_toArray, List.getElem?_cons_succ, List.getElem?_cons_zero, List.drop_succ_cons, List.drop_zero]
      repeat (apply can_light rfl; (· intro u hu; obtain ⟨hm0, hm1, hm2, hm3, hm4, hm5, hm6, hm7, hmr⟩ := hu; go_simp; try rfl); simp only [Act.put, List.setIfInBounds_toArray, List.set_cons_zero, List.set_cons_succ])
      refine can_acts rfl fun K' hK' => ?_
      go_simp
      refine (hr2 _ _).mono ?_
      rintro e w' ⟨rfl, rfl⟩
      refine hK' _ _ HS.out ?_
      clear hK' K'
      refine can_acts rfl fun K' hK' => ?_
      go_simp
      refine (hr13 _ _).mono ?_
      rintro e w' ⟨rfl, rfl⟩
      refine hK' _ _ HS.out ?_
      clear hK' K'
      repeat (apply can_light rfl; (· intro u hu; obtain ⟨hm0, hm1, hm2, hm3, hm4, hm5, hm6, hm7, hmr⟩ := hu; go_simp; try rfl); simp only [Act.put, List.setIfInBounds_toArray, List.set_cons_zero, List.set_cons_succ])
      refine can_acts rfl fun K' hK' => ?_
      go_simp
      refine (hr22 _ _).mono ?_
      rintro e w' ⟨rfl, rfl⟩
      refine hK' _ _ HS.out ?_
      clear hK' K'
      repeat (apply can_light rfl; (· intro u hu; obtain ⟨hm0, hm1, hm2, hm3, hm4, hm5, hm6, hm7, hmr⟩ := hu; go_simp; try rfl); simp only [Act.put, List.setIfInBounds_toArray, List.set_cons_zero, List.set_cons_succ])
      refine can_nil ?_
      have c2' := HC2.out
      have hf : ∀ i, wr.frozen? ⟨w.heap.size + 1 + 1, i, none⟩ = false := fun i => frozen_of_row wr _ i _ _ c2'
      obtain ⟨hm0, hm1, hm2, hm3, hm4, hm5, hm6, hm7, hmr⟩ := HS.out
      generalize hT : IntKind.u32.wrap (IntKind.u32.wrap (IntKind.u32.wrap (IntKind.u32.wrap (m7 + bits BinOp.xor IntKind.u32 (bits BinOp.xor IntKind.u32 (ror m4 6) (ror m4 11)) (ror m4 25)) + bits BinOp.xor IntKind.u32 (bits BinOp.and IntKind.u32 m4 m5) (bits BinOp.and IntKind.u32 (bits BinOp.xor IntKind.u32 IntKind.u32.max m4) m6)) + r) + n) = T
      generalize hU : IntKind.u32.wrap (bits BinOp.xor IntKind.u32 (bits BinOp.xor IntKind.u32 (ror m0 2) (ror m0 13)) (ror m0 22) + bits BinOp.xor IntKind.u32 (bits BinOp.xor IntKind.u32 (bits BinOp.and IntKind.u32 m0 m1) (bits BinOp.and IntKind.u32 m0 m2)) (bits BinOp.and IntKind.u32 m1 m2)) = U
      have HT := Lib.hid (And.intro hT hU)
      clear hT hU
      go_wp2
      obtain ⟨hT, hU⟩ := HT.out
      obtain ⟨c0, c1, -⟩ := HC.out
      have h8 := set8 wr (w.heap.size + 1 + 1) 147 c2' (.int .u32 ((T + U) % 4294967296)) (.int .u32 m0) (.int .u32 m1) (.int .u32 m2) (.int .u32 ((m3 + T) % 4294967296)) (.int .u32 m4) (.int .u32 m5) (.int .u32 m6)
      go_roundw
      case rel =>
        have hd : ∀ X : World, X.drew.drew.drew.heap = X.heap := fun _ => rfl
        refine ⟨k + 1, by omega, by go_num, ?_, ?_, ?_, ?_⟩
        · rw [hd, h8.2.1 w.heap.size (by omega)]; exact c0
        · rw [hd, h8.2.1 (w.heap.size + 1) (by omega)]; exact c1
        · rw [hd, h8.1, HNX.out, ← hT, ← hU]; rfl
        · exact ((hB.trans (h8.2.2.mono (by omega))).drew.drew).drew
      case measure => simp [intOf]; omega
    · have hke : k = 64 := by omega
      subst hke
      have hlM := length_mixL ns [v0, v1, v2, v3, v4, v5, v6, v7] rfl 64
      generalize hM : mixL ns [v0, v1, v2, v3, v4, v5, v6, v7] 64 = M at *
      have HM2 := Lib.hid hM
      clear hM hW hsp hlt hk
      have hlV : [v0, v1, v2, v3, v4, v5, v6, v7].length = 8 := rfl
      have c2' : wr.heap[w.heap.size + 1 + 1]? = some (.cells (u32v (addL M [v0, v1, v2, v3, v4, v5, v6, v7] 0)).toArray 147 (0, 0)) := by simpa [addL] using c2
      have hNw := lt_of_block c2
      clear c2
      generalize hVV : [v0, v1, v2, v3, v4, v5, v6, v7] = V at *
      have HVV := Lib.hid hVV
      clear hVV
      have hB1 := hB
      have hvg := fun j hj => u32_get V j hj
      rw [hlV] at hvg
      have e8 : addL M V 8 = List.zipWith addF M V := by
        unfold addL
        rw [List.take_of_length_le (by simp [hlM, hlV]), List.drop_of_length_le (by omega)]; simp
      have HE := Lib.hid e8
      clear e8
      go_wp2
      go_loopw [95] (fun i wv => ∃ j : Nat, j ≤ 8 ∧ i = .int .i64 j ∧ wv.heap[w.heap.size]? = some (.cells (u32v V).toArray 147 (0, 0)) ∧ wv.heap[w.heap.size + 1]? = some (.cells (u32v [0, 0, 0, 0, 0, 0, 0, 0]).toArray 147 (0, 0)) ∧
        wv.heap[w.heap.size + 1 + 1]? = some (.cells (u32v (addL M V j)).toArray 147 (0, 0)) ∧ Below w.heap.size w wv) (fun i _ => 8 - (intOf i).toNat)
      case atStart => exact ⟨0, Nat.zero_le _, rfl, c0, c1, c2', hB1⟩
      case round =>
        obtain ⟨j, hj, rfl, d0, d1, d2, hB⟩ := hrel
        clear c0 c1 c2' hB1
        by_cases hlt : j < 8
        · have hset := heap_setCell_same wr (w.heap.size + 1 + 1) j _ _ (.int .u32 (addF (M.getD j 0) (V.getD j 0))) d2
          rw [List.setIfInBounds_toArray, addL_set M V j hlM hlV hlt] at hset
          have hcM : wr.cell? ⟨w.heap.size + 1 + 1, j, none⟩ = some (.int .u32 (M.getD j 0)) := by
            rw [cell_of_row wr _ _ _ _ _ d2, List.getElem?_toArray, addL_get M V j hlM hlV hlt]
          have hcV : wr.cell? ⟨w.heap.size, j, none⟩ = some (.int .u32 (V.getD j 0)) := by
            rw [cell_of_row wr _ _ _ _ _ d0, List.getElem?_toArray, hvg j hlt]
          have hf : wr.frozen? ⟨w.heap.size + 1 + 1, j, none⟩ = false := frozen_of_row wr _ j _ _ d2
          have hj8 : (j : Int) < 8 := by omega
          have HD := Lib.hid (And.intro hset (And.intro d0 (And.intro d1 d2)))
          clear hset d0 d1 d2 hvg
          generalize M.getD j 0 = m at *
          generalize V.getD j 0 = v at *
          go_wp2
          refine wp_region_can [(0, false), (1, false), (2, false), (3, false), (4, false), (5, false), (6, false)] 7 (fun u => u.cell? ⟨w.heap.size + 1 + 1, j, none⟩ = some (.int .u32 m) ∧ u.cell? ⟨w.heap.size, j, none⟩ = some (.int .u32 v)) (by kernel_rfl) (by kernel_rfl) (fun _ _ d _ _ h => by cases d <;> exact h) ⟨hcM, hcV⟩ ?_
          simp only [canOps, List.filterMap_cons, List.filterMap_nil, Option.map_some, List.getElem?_toArray, List.getElem?_cons_succ, List.getElem?_cons_zero, List.drop_succ_cons, List.drop_zero]
          repeat (apply can_light rfl; (· intro u hu; obtain ⟨hu0, hu1⟩ := hu; go_simp; try rfl); simp only [Act.put, List.setIfInBounds_toArray, List.set_cons_zero, List.set_cons_succ])
          refine can_nil ?_
          go_wp2
          obtain ⟨hset, d0, d1, -⟩ := HD.out
          have hd : ∀ X : World, X.drew.heap = X.heap := fun _ => rfl
          go_roundw
          case rel =>
            refine ⟨j + 1, by omega, by go_num, ?_, ?_, ?_, ?_⟩
            · rw [hd, heap_setCell_other _ _ _ _ (by show w.heap.size ≠ w.heap.size + 1 + 1; omega)]; exact d0
            · rw [hd, heap_setCell_other _ _ _ _ (by show w.heap.size + 1 ≠ w.heap.size + 1 + 1; omega)]; exact d1
            · rw [hd]; exact hset
            · exact (hB.setCell (by simp; omega) _).drew
          case measure => simp [intOf]; omega
        · have hje : j = 8 := by omega
          subst hje
          rw [HE.out] at d2
          have hlR : (List.zipWith addF M V).length = 8 := by simp [hlM, hlV]
          generalize hR : List.zipWith addF M V = R at *
          have HR2 := Lib.hid hR
          clear hR hvg
          have hsz : ((Tryz.prog.info? 147).map (·.size)) = some (u32v R).toArray.size := by
            have : (Tryz.prog.info? 147).map (·.size) = some 8 := by kernel_rfl
            rw [this]; simp [u32v, hlR]
          have hone : (u32v R).toArray.all (·.oneCell') = true := by simp [u32v, Value.oneCell']
          have hold : (u32v [0, 0, 0, 0, 0, 0, 0, 0]).toArray.size = (u32v R).toArray.size := by simp [u32v, hlR]
          clear d0
          generalize hRV : (u32v R).toArray = RV at *
          have HRV := Lib.hid hRV
          clear hRV
          generalize (u32v [0, 0, 0, 0, 0, 0, 0, 0]).toArray = ZV at *
          have D2 := Lib.hid d2
          have D1 := Lib.hid d1
          clear d1 d2
          go_wp2_with (first
            | refine wpList_load_row rfl 147 _ rfl (w.heap.size + 1 + 1) rfl 147 RV (0, 0) _ D2.out Tryz.underlying147 rfl hsz ?_
            | refine wpList_store_row rfl 147 _ _ rfl (w.heap.size + 1) RV rfl rfl 147 ZV D1.out hsz hold hone ?_)
          have hg' := setRow_heap wr (w.heap.size + 1) ZV RV _ _ D1.out
          simp only [Act.put, List.setIfInBounds_toArray, List.set_cons_zero, List.set_cons_succ]
          refine bodyPost_ret (v := .agg RV) ?_ rfl ⟨?_, ?_⟩
          · refine results_cell_row Tryz.results120 _ _ (w.heap.size + 1) _ RV _ _ ?_ hg' Tryz.underlying147 rfl hsz
            simp only [Array.getD_eq_getD_getElem?, List.getElem?_toArray, List.getElem?_cons_succ, List.getElem?_cons_zero, Option.getD_some]
          · rw [HVV.out, HM2.out]
            have := HRV.out
            have h2 := HR2.out
            rw [h2, ← this]; rfl
          · exact Upd.of_below (hB.setRow' (by omega) _) _
end Go.Proofs.YtogkdoooimcemaaGreatDoor

/- Sha3 -/
namespace Go.Proofs.YtogkdoooimcemaaGreatDoor
open Go Go.RowKit
open Go.ChangeMaps (setBlock)
set_option maxRecDepth 20000

def zerosOf (n : Nat) : Nat := (119 - n % 64) % 64
def padded (l : List UInt8) : List UInt8 := l ++ [128] ++ List.replicate (zerosOf l.length) 0 ++ be (l.length * 8) 8
theorem length_padded (l : List UInt8) : (padded l).length = l.length + 9 + zerosOf l.length := by simp [padded, length_be]; omega
theorem padded_blocks (l : List UInt8) : ∃ k, 1 ≤ k ∧ (padded l).length = 64 * k := by
  refine ⟨(l.length + 9 + zerosOf l.length) / 64, ?_, ?_⟩
  · unfold zerosOf; omega
  · rw [length_padded]; unfold zerosOf; omega
theorem repeatL_one (b : UInt8) : ∀ n, Lib.repeatL [b] n = List.replicate n b
  | 0 => rfl
  | n + 1 => by rw [Lib.repeatL, repeatL_one b n, List.replicate_succ]; rfl
theorem toList_eq {a b : ByteArray} (h : a.data.toList = b.data.toList) : a = b := by
  cases a; cases b
  simp at h
  simp [h]

set_option maxHeartbeats 1000000 in
theorem filled_at (s : ByteArray) (hs : s.size ≤ 1099511627776) (w : World) :
    Calls Tryz.prog 119 #[.string s] w fun e w' => e = .returned (.string ⟨(padded s.data.toList).toArray⟩) ∧ Upd [] w w' := by
  have hz : zerosOf s.size ≤ 63 := by unfold zerosOf; omega
  have hrep := fun W => Tryz.strings_Repeat ⟨#[0]⟩ (zerosOf s.size) W (by omega) (by show 1 * zerosOf s.size ≤ _; omega)
  have hput := fun W => put_at (s.size * 8) 8 (by omega) (by omega) (by omega) W
  have hzz : ((119 : Int) - (s.size : Int) % 64) % 64 = (zerosOf s.size : Nat) := by unfold zerosOf; omega
  have hL : (Lib.repeatL [0] (zerosOf s.size)).length = zerosOf s.size := by rw [Lib.repeatL_length]; simp
  have hbl := length_be (s.size * 8) 8
  have hbig : ¬ 9223372036854775807 < s.size + 1 + zerosOf s.size + 8 := by omega
  have hpad : (padded s.data.toList) = s.data.toList ++ [128] ++ List.replicate (zerosOf s.size) 0 ++ be (s.size * 8) 8 := by
    have : s.data.toList.length = s.size := by simp
    unfold padded; rw [this]
  have HP := Lib.hid hpad
  clear hpad
  generalize zerosOf s.size = z at *
  go_enter Tryz.func119, Tryz.ntmps119
  go_wp2_with (first
    | (go_at_call 127; refine (hrep _).mono ?_; rintro e w' ⟨rfl, hb⟩)
    | (go_at_call 101; refine (hput _).mono ?_; rintro e w2 ⟨rfl, hu⟩))
  go_ret
  refine ⟨?_, Upd.trans (Upd.of_below hb []) hu (by simp)⟩
  rw [HP.out]
  have e : s ++ (⟨#[128]⟩ : ByteArray) ++ ⟨(Lib.repeatL [0] z).toArray⟩ ++ ⟨(be (s.size * 8) 8).toArray⟩ = ⟨(s.data.toList ++ [128] ++ List.replicate z 0 ++ be (s.size * 8) 8).toArray⟩ := toList_eq (by simp [repeatL_one])
  rw [← e]; rfl

/-- the numbers behind so many blocks -/
def shaN (v : List Int) (l : List UInt8) : Nat → List Int
  | 0 => v
  | k + 1 => mixAll (shaN v l k) ((l.drop (64 * k)).take 64)
def shaSum (l : List UInt8) : List UInt8 := (shaN firstL (padded l) ((padded l).length / 64)).flatMap fun n => be n.toNat 4
def U32s (v : List Int) : Prop := v.length = 8 ∧ ∀ x ∈ v, 0 ≤ x ∧ x < 4294967296
theorem U32s.mix {v : List Int} (h : U32s v) (s : List UInt8) : U32s (mixAll v s) := by
  refine ⟨by unfold mixAll; rw [List.length_zipWith, length_mixL _ _ h.1, h.1]; rfl, ?_⟩
  intro x hx
  unfold mixAll at hx
  generalize mixL (wlist s 64) v 64 = M at hx
  rw [List.mem_iff_getElem] at hx
  obtain ⟨i, hi, rfl⟩ := hx
  rw [List.getElem_zipWith]
  unfold addF
  omega
theorem shaN_ok (l : List UInt8) : ∀ k, U32s (shaN firstL l k)
  | 0 => ⟨rfl, by simp [shaN, firstL]⟩
  | k + 1 => (shaN_ok l k).mix _
theorem length_flat (v : List Int) : (v.flatMap fun n => be n.toNat 4).length = 4 * v.length := by
  induction v with
  | nil => rfl
  | cons a v ih => rw [List.flatMap_cons, List.length_append, ih, length_be, List.length_cons]; omega
theorem length_shaSum (l : List UInt8) : (shaSum l).length = 32 := by
  unfold shaSum
  rw [length_flat, (shaN_ok _ _).1]
end Go.Proofs.YtogkdoooimcemaaGreatDoor
