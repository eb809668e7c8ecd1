/- The disk as data: plain lemmas.
  The disk's loose bytes: of, drop. Conditions: the disk lies in memory.
  A range over a map: what has come, what is left. Plain lemmas on entries.
  The disk's room. Conditions: the disk lies in memory.
  The disk's Crash. Conditions: the disk lies in memory, and is up.
  A region that draws its order, walked in ONE order: light operations (reads, reckoning) first, each by a condition S on the world; then the tail, where one operation alone can come up, plainly. Conditions: those of 'wp_region_can'. -/
import Derived.Test.YtogkdoooimcemaaGreatDoorC01
import Derived.LoopTactic
import Derived.Laws.IdiomRangeMap
import Derived.OrdersHeld
import Derived.WalkKit
/- DkPlain -/
namespace Go.Proofs.YtogkdoooimcemaaGreatDoor
namespace Dk
theorem of_nil (n : Int) : of [] n = 0 := rfl
theorem of_append (l m : List (Int × Nat)) (n : Int) : of (l ++ m) n = of l n + of m n := by simp [of]
theorem of_cons (p : Int × Nat) (l : List (Int × Nat)) (n : Int) : of (p :: l) n = (if p.1 = n then p.2 else 0) + of l n := by simp [of]
theorem of_take_succ (l : List (Int × Nat)) (k : Nat) (h : k < l.length) (n : Int) : of (l.take (k + 1)) n = of (l.take k) n + if (l.getD k (0, 0)).1 = n then (l.getD k (0, 0)).2 else 0 := by
  rw [List.take_succ_eq_append_getElem h, of_append]
  simp [of, List.getD, h]
theorem of_take_le (l : List (Int × Nat)) (k : Nat) (n : Int) : of (l.take k) n ≤ of l n := by
  have : of l n = of (l.take k) n + of (l.drop k) n := by rw [← of_append, List.take_append_drop]
  omega
theorem getF_none {l : List (Int × List UInt8)} {n : Int} : getF l n = none ↔ n ∉ l.map (·.1) := by
  induction l with
  | nil => simp [getF]
  | cons f l ih =>
    by_cases h : f.1 = n
    · simp [getF, h]
    · have h' : ¬ n = f.1 := fun e => h e.symm
      simp [getF, h, h'] at ih ⊢
      exact ih
theorem getF_le_total {l : List (Int × List UInt8)} {n : Int} {b : List UInt8} (h : getF l n = some b) : b.length ≤ total l := by
  induction l with
  | nil => simp [getF] at h
  | cons f l ih =>
    by_cases e : f.1 = n
    · simp [getF, e] at h; subst h; simp [total]
    · have : getF l n = some b := by simp [getF, e] at h ⊢; exact h
      have := ih this
      simp [total] at this ⊢; omega
theorem WF.len {D : Dk} (h : D.WF) {n : Int} {b : List UInt8} (hb : D.get n = some b) : b.length ≤ 1048576 := Nat.le_trans (getF_le_total hb) (Nat.le_trans h.size h.cap)
theorem WF.of_le {D : Dk} (h : D.WF) (n : Int) : of D.loose n ≤ 1048576 := by
  refine Nat.le_trans (h.offs n) ?_
  cases e : getF D.files n with
  | none => simp
  | some b => exact h.len e
/-- what is left of 'stay' behind a list -/
def left' : List (Int × Nat) → Int → Nat → Nat
  | [], _, k => k
  | (m, s) :: r, n, k => left' r n (if m = n then k - min s k else k)
theorem drop_append : ∀ (a b : List (Int × Nat)) (n : Int) (k : Nat), drop (a ++ b) n k = drop a n k ++ drop b n (left' a n k)
  | [], _, _, _ => rfl
  | (m, s) :: r, b, n, k => by
    simp only [List.cons_append, drop, left']
    split <;> simp [drop_append r b n]
theorem left_append : ∀ (a b : List (Int × Nat)) (n : Int) (k : Nat), left' (a ++ b) n k = left' b n (left' a n k)
  | [], _, _, _ => rfl
  | (m, s) :: r, b, n, k => by simp only [List.cons_append, left']; exact left_append r b n _
theorem left_le : ∀ (a : List (Int × Nat)) (n : Int) (k : Nat), left' a n k ≤ k
  | [], _, _ => Nat.le_refl _
  | (m, s) :: r, n, k => by
    simp only [left']
    split
    · exact Nat.le_trans (left_le r n _) (by omega)
    · exact left_le r n k
theorem length_drop : ∀ (a : List (Int × Nat)) (n : Int) (k : Nat), (drop a n k).length = a.length
  | [], _, _ => rfl
  | (m, s) :: r, n, k => by simp only [drop]; split <;> simp [length_drop r n]
theorem of_drop_le : ∀ (a : List (Int × Nat)) (n : Int) (k : Nat) (m : Int), of (drop a n k) m ≤ of a m
  | [], _, _, _ => Nat.le_refl _
  | (i, s) :: r, n, k, m => by
    simp only [drop]
    split
    · rw [of_cons, of_cons]
      have := of_drop_le r n (k - min s k) m
      simp only
      split <;> omega
    · rw [of_cons, of_cons]
      have := of_drop_le r n k m
      omega
/-- the list behind k rounds of drop -/
def mid (L : List (Int × Nat)) (n : Int) (s k : Nat) : List (Int × Nat) := drop (L.take k) n s ++ L.drop k
theorem mid_zero (L : List (Int × Nat)) (n : Int) (s : Nat) : mid L n s 0 = L := by simp [mid, drop]
theorem mid_all (L : List (Int × Nat)) (n : Int) (s : Nat) : mid L n s L.length = drop L n s := by simp [mid]
theorem mid_length (L : List (Int × Nat)) (n : Int) (s k : Nat) (h : k ≤ L.length) : (mid L n s k).length = L.length := by simp [mid, length_drop]; omega
theorem mid_get (L : List (Int × Nat)) (n : Int) (s k : Nat) (h : k < L.length) : (mid L n s k).getD k (0, 0) = L.getD k (0, 0) := by
  have e : (drop (L.take k) n s).length = k := by rw [length_drop]; simp; omega
  unfold mid
  rw [List.getD_eq_getElem?_getD, List.getElem?_append_right (by omega), e]
  simp [List.getD_eq_getElem?_getD]
theorem mid_succ (L : List (Int × Nat)) (n : Int) (s k : Nat) (h : k < L.length) :
    mid L n s (k + 1) = if (L.getD k (0, 0)).1 = n then (mid L n s k).set k (n, min (L.getD k (0, 0)).2 (left' (L.take k) n s)) else mid L n s k := by
  have e : (drop (L.take k) n s).length = k := by rw [length_drop]; simp; omega
  have hg : L.getD k (0, 0) = L[k] := by simp [List.getD, h]
  have hd : L.drop k = L[k] :: L.drop (k + 1) := List.drop_eq_getElem_cons h
  unfold mid
  rw [List.take_succ_eq_append_getElem h, drop_append, hg, hd]
  rw [List.set_append_right (h := by omega), e]
  obtain ⟨m, z⟩ := L[k]
  simp only [drop]
  by_cases hm : m = n <;> simp [hm]
theorem left_succ (L : List (Int × Nat)) (n : Int) (s k : Nat) (h : k < L.length) :
    left' (L.take (k + 1)) n s = if (L.getD k (0, 0)).1 = n then left' (L.take k) n s - min (L.getD k (0, 0)).2 (left' (L.take k) n s) else left' (L.take k) n s := by
  have hg : L.getD k (0, 0) = L[k] := by simp [List.getD, h]
  rw [List.take_succ_eq_append_getElem h, left_append, hg]
  obtain ⟨m, z⟩ := L[k]
  simp [left']
/-- how many bytes are still to be kept behind a list -/
def kl : List (Int × Nat) → Int → Int
  | [], k => k
  | (_, s) :: r, k => kl r (k - min (max k 0).toNat s)
theorem lost_append : ∀ (a b : List (Int × Nat)) (k : Int) (n : Int), lost (a ++ b) k n = lost a k n + lost b (kl a k) n
  | [], _, _, _ => by simp [lost, kl]
  | (m, s) :: r, b, k, n => by simp only [List.cons_append, lost, kl, lost_append r b]; omega
theorem kl_append : ∀ (a b : List (Int × Nat)) (k : Int), kl (a ++ b) k = kl b (kl a k)
  | [], _, _ => rfl
  | (_, s) :: r, b, k => by simp only [List.cons_append, kl]; exact kl_append r b _
theorem kl_le : ∀ (a : List (Int × Nat)) (k : Int), kl a k ≤ k ∧ min k 0 ≤ kl a k
  | [], k => by simp [kl]; omega
  | (_, s) :: r, k => by
    have := kl_le r (k - min (max k 0).toNat s)
    simp only [kl]; omega
theorem lost_le_of : ∀ (a : List (Int × Nat)) (k : Int) (n : Int), lost a k n ≤ of a n
  | [], _, _ => Nat.le_refl _
  | (m, s) :: r, k, n => by
    have := lost_le_of r (k - min (max k 0).toNat s) n
    rw [of_cons]
    simp only [lost]
    split <;> omega
theorem lost_take_succ (L : List (Int × Nat)) (j : Nat) (h : j < L.length) (k n : Int) :
    lost (L.take (j + 1)) k n = lost (L.take j) k n + if (L.getD j (0, 0)).1 = n then (L.getD j (0, 0)).2 - min (max (kl (L.take j) k) 0).toNat (L.getD j (0, 0)).2 else 0 := by
  have hg : L.getD j (0, 0) = L[j] := by simp [List.getD, h]
  rw [List.take_succ_eq_append_getElem h, lost_append, hg]
  obtain ⟨m, s⟩ := L[j]
  simp [lost]
theorem kl_take_succ (L : List (Int × Nat)) (j : Nat) (h : j < L.length) (k : Int) :
    kl (L.take (j + 1)) k = kl (L.take j) k - min (max (kl (L.take j) k) 0).toNat (L.getD j (0, 0)).2 := by
  have hg : L.getD j (0, 0) = L[j] := by simp [List.getD, h]
  rw [List.take_succ_eq_append_getElem h, kl_append, hg]
  simp [kl]
theorem lost_take_le (L : List (Int × Nat)) (j : Nat) (k n : Int) : lost (L.take j) k n ≤ of L n := Nat.le_trans (lost_le_of _ _ _) (of_take_le _ _ _)
/-- the files, cut by so many bytes each -/
def cutF (l : List (Int × List UInt8)) (c : Int → Nat) : List (Int × List UInt8) := l.map fun f => (f.1, f.2.take (f.2.length - c f.1))
theorem cutF_zero (l : List (Int × List UInt8)) (c : Int → Nat) (h : ∀ n, c n = 0) : cutF l c = l := by
  unfold cutF
  conv => rhs; rw [← List.map_id l]
  apply List.map_congr_left
  intro f _
  simp [h]
theorem getF_map (l : List (Int × List UInt8)) (g : Int → List UInt8 → List UInt8) (n : Int) : getF (l.map fun f => (f.1, g f.1 f.2)) n = (getF l n).map (g n) := by
  induction l with
  | nil => simp [getF]
  | cons f l ih =>
    by_cases h : f.1 = n
    · simp [getF, h]
    · simp [getF, h] at ih ⊢; exact ih
theorem getF_cutF (l : List (Int × List UInt8)) (c : Int → Nat) (n : Int) : getF (cutF l c) n = (getF l n).map fun b => b.take (b.length - c n) := getF_map l (fun m b => b.take (b.length - c m)) n
theorem setF_cutF (l : List (Int × List UInt8)) (c c' : Int → Nat) (n : Int) (b : List UInt8) (hb : getF l n = some b) (hn : (l.map (·.1)).Nodup) (h : ∀ m, m ≠ n → c' m = c m) :
    setF (cutF l c) n (b.take (b.length - c' n)) = cutF l c' := by
  unfold setF cutF
  rw [List.map_map]
  apply List.map_congr_left
  intro f hf
  by_cases e : f.1 = n
  · have : f.2 = b := by
      subst e
      clear h
      induction l with
      | nil => cases hf
      | cons x l ih =>
        simp only [List.map_cons, List.nodup_cons] at hn
        rcases List.mem_cons.1 hf with rfl | hf
        · simp [getF] at hb; exact hb
        · have hx : ¬ x.1 = f.1 := fun e => hn.1 (e ▸ List.mem_map.2 ⟨f, hf, rfl⟩)
          refine ih hn.2 hf ?_
          simp [getF, hx] at hb ⊢; exact hb
    simp [e, this]
  · simp [e, h f.1 e]
theorem crash_files (D : Dk) (k : Int) : (D.crash k).files = cutF D.files (lost D.loose k) := rfl
theorem total_cutF (l : List (Int × List UInt8)) (c : Int → Nat) : total (cutF l c) ≤ total l := by
  induction l with
  | nil => simp [cutF, total]
  | cons f l ih => simp [cutF, total] at ih ⊢; omega
theorem keys_cutF (l : List (Int × List UInt8)) (c : Int → Nat) : (cutF l c).map (·.1) = l.map (·.1) := by simp [cutF]
theorem WF.crash {D : Dk} (h : D.WF) (k : Int) : (D.crash k).WF := by
  refine ⟨?_, ?_, h.cap, fun n => ?_, by simp [Dk.crash], ?_, h.left, h.keep, by simp [Dk.crash], h.starts, ?_⟩
  · rw [crash_files, keys_cutF]; exact h.keys
  · rw [crash_files]; exact Nat.le_trans (total_cutF _ _) h.size
  · show of [] n ≤ _; simp [of_nil]
  · rw [crash_files]; simp [cutF]; exact h.many
  · rw [crash_files, keys_cutF]; exact h.ints
end Dk
end Go.Proofs.YtogkdoooimcemaaGreatDoor

/- Disk4 -/
namespace Go.Proofs.YtogkdoooimcemaaGreatDoor
open Go Go.RowKit
open Go.ChangeMaps (setBlock)
set_option maxRecDepth 20000

theorem lcells_get (l : List (Int × Nat)) : ∀ k, k < l.length → (lcells l)[k * 2]? = some (.int .i64 (l.getD k (0, 0)).1) ∧ (lcells l)[k * 2 + 1]? = some (.int .i64 ((l.getD k (0, 0)).2 : Nat)) := by
  induction l with
  | nil => intro k h; simp at h
  | cons p l ih =>
    intro k h
    cases k with
    | zero => simp [lcells]
    | succ k =>
      have := ih k (by simpa using h)
      have e1 : (k + 1) * 2 = k * 2 + 2 := by omega
      rw [e1]
      simpa [lcells] using this
theorem lcells_length (l : List (Int × Nat)) : (lcells l).length = l.length * 2 := by
  induction l with
  | nil => rfl
  | cons p l ih => simp [lcells] at ih ⊢; omega
/-- the loose list in memory, cell by cell -/
theorem loose_cells {w : World} {lv : Value} {l : List (Int × Nat)} (h : w.ownsRow 0 83 2 lv l.length (lcells l)) (hl : l.length ≠ 0) :
    ∃ g cap cur, lv = .slice (some ⟨g, 0, none⟩) l.length cap ∧ w.heap[g]? = some (.cells cur 83 (0, 0)) ∧ l.length ≤ cap ∧ cur.size = cap * 2 ∧ ∀ k, k < l.length → cur[k * 2]? = some (.int .i64 (l.getD k (0, 0)).1) ∧ cur[k * 2 + 1]? = some (.int .i64 ((l.getD k (0, 0)).2 : Nat)) := by
  rcases h.2 with ⟨_, h⟩ | ⟨g, cap, cur, rfl, _, hg, h1, h2, h3, h4⟩
  · exact absurd h hl
  · refine ⟨g, cap, cur, rfl, hg, h1, h3, fun k hk => ?_⟩
    have := lcells_get l k hk
    rw [← h4, List.getElem?_take_of_lt (by omega), List.getElem?_take_of_lt (by omega)] at this
    simpa using this
theorem of_at {w : World} {p : Nat} {D : Dk} {fp : List Nat} (h : DiskAt w p D fp) (n : Int) :
    Calls Tryz.prog 79 #[.pointer (some ⟨p, 0, none⟩), .int .i64 n] w fun e w' => e = .returned (.int .i64 (Dk.of D.loose n)) ∧ Upd [] w w' := by
  obtain ⟨mb, es, clk, lv, h, rfl⟩ := h
  have c1 := h.cells.2.1
  have hw := h.wf
  have hlo := hw.long
  have hle := hw.of_le n
  have hrow := h.loose
  clear hw h
  generalize hL : D.loose = L at *
  by_cases h0 : L.length = 0
  · obtain rfl : L = [] := List.eq_nil_of_length_eq_zero h0
    obtain ⟨a, cap, rfl⟩ : ∃ a cap, lv = .slice a 0 cap := by
      rcases hrow.2 with ⟨h, _⟩ | ⟨g, cap, cur, h, _⟩
      · exact ⟨_, _, h⟩
      · exact ⟨_, _, h⟩
    clear hL hrow
    go_enter Tryz.func79, Tryz.ntmps79
    go_wp2
    refine wp_loop_once ?_
    go_wp2
    go_ret
    exact ⟨rfl, Upd.refl _ _⟩
  · obtain ⟨g, cap, cur, rfl, hg, hcap, hsz, hcell⟩ := loose_cells hrow h0
    have hgl := lt_of_block hg
    clear hL hrow
    go_enter Tryz.func79, Tryz.ntmps79
    go_wp2
    go_loopw [5, 13] (fun m i wr => ∃ k : Nat, k ≤ L.length ∧ i = .int .i64 k ∧ m = .int .i64 (Dk.of (L.take k) n) ∧ Below w.heap.size w wr) (fun _ i _ => L.length - (intOf i).toNat)
    case atStart => exact ⟨0, Nat.zero_le _, rfl, rfl, Below.refl _ _⟩
    case round =>
      obtain ⟨k, hk, rfl, rfl, hB⟩ := hrel
      by_cases hlt : k < L.length
      · have hs := Dk.of_take_succ L k hlt n
        have hle' := Nat.le_trans (Dk.of_take_le L (k + 1) n) hle
        have hc0 : wr.cell? ⟨g, k * 2, none⟩ = some (.int .i64 (L.getD k (0, 0)).1) := by
          rw [hB.cell (p := ⟨g, k * 2, none⟩) hgl, cell_of_row w g _ _ _ _ hg]; exact (hcell k hlt).1
        have hc1 : wr.cell? ⟨g, k * 2 + 1, none⟩ = some (.int .i64 ((L.getD k (0, 0)).2 : Nat)) := by
          rw [hB.cell (p := ⟨g, k * 2 + 1, none⟩) hgl, cell_of_row w g _ _ _ _ hg]; exact (hcell k hlt).2
        have hbs := hB.size
        generalize L.getD k (0, 0) = pc at *
        obtain ⟨pn, ps⟩ := pc
        simp only at hs hc0 hc1
        have HS := Lib.hid hs
        by_cases hpn : pn = n
        · subst hpn
          simp only [if_true] at hs
          have hle2 : Dk.of (L.take k) pn + ps ≤ 1048576 := by omega
          clear hs hcell hg hle' hle
          go_wp2
          go_roundw
          case rel => exact ⟨k + 1, by omega, by go_num, by rw [HS.out]; simp, (hB.alloc (Nat.le_trans (Nat.le_refl _) hbs) _)⟩
          case measure => simp [intOf]; omega
        · simp only [hpn, if_false, Nat.add_zero] at hs
          have hpn' : (pn == n) = false := by simpa using hpn
          clear hs hcell hg hle' hle
          go_wp2
          go_roundw
          case rel => exact ⟨k + 1, by omega, by go_num, by rw [HS.out, if_neg hpn]; rfl, (hB.alloc (Nat.le_trans (Nat.le_refl _) hbs) _)⟩
          case measure => simp [intOf]; omega
      · have hke : k = L.length := by omega
        have HE := Lib.hid hke
        clear hke hcell hg
        go_wp2
        go_ret
        refine ⟨?_, Upd.of_below hB _⟩
        rw [HE.out, List.take_length]; rfl

theorem lcells_set (l : List (Int × Nat)) : ∀ k n z, (l.getD k (0, 0)).1 = n → lcells (l.set k (n, z)) = (lcells l).set (k * 2 + 1) (.int .i64 (z : Nat)) := by
  induction l with
  | nil => intro k n z h; simp [lcells]
  | cons p l ih =>
    intro k n z h
    cases k with
    | zero => simp [lcells] at h ⊢; exact h.symm
    | succ k =>
      have := ih k n z (by simpa using h)
      have e1 : (k + 1) * 2 + 1 = (k * 2 + 1) + 2 := by omega
      rw [e1]
      simpa [lcells] using this
theorem take_set_lt {α : Type} (l : List α) (n k : Nat) (v : α) (h : k < n) : (l.set k v).take n = (l.take n).set k v := by
  rw [List.take_set]

/-- the loose bytes in memory are these -/
def LooseAt (w : World) (g cap : Nat) (l : List (Int × Nat)) : Prop := ∃ cur, w.heap[g]? = some (.cells cur 83 (0, 0)) ∧ cur.size = cap * 2 ∧ cur.toList.take (l.length * 2) = lcells l
theorem LooseAt.cells {w : World} {g cap : Nat} {l : List (Int × Nat)} (h : LooseAt w g cap l) (k : Nat) (hk : k < l.length) :
    w.cell? ⟨g, k * 2, none⟩ = some (.int .i64 (l.getD k (0, 0)).1) ∧ w.cell? ⟨g, k * 2 + 1, none⟩ = some (.int .i64 ((l.getD k (0, 0)).2 : Nat)) ∧ w.frozen? ⟨g, k * 2 + 1, none⟩ = false := by
  obtain ⟨cur, hg, _, ht⟩ := h
  have := lcells_get l k hk
  rw [← ht, List.getElem?_take_of_lt (by omega), List.getElem?_take_of_lt (by omega)] at this
  refine ⟨?_, ?_, frozen_of_row w g _ _ _ hg⟩
  · rw [cell_of_row w g _ _ _ _ hg]; simpa using this.1
  · rw [cell_of_row w g _ _ _ _ hg]; simpa using this.2
theorem LooseAt.set {w : World} {g cap : Nat} {l : List (Int × Nat)} (h : LooseAt w g cap l) (k : Nat) (hk : k < l.length) (n : Int) (hn : (l.getD k (0, 0)).1 = n) (z : Nat) (x : Int) (hx : x = z) :
    LooseAt (w.setCell ⟨g, k * 2 + 1, none⟩ (.int .i64 x)) g cap (l.set k (n, z)) := by
  subst hx
  obtain ⟨cur, hg, hs, ht⟩ := h
  refine ⟨_, heap_setCell_same w g _ cur _ _ hg, by simpa using hs, ?_⟩
  rw [lcells_set l k n z hn, Array.toList_setIfInBounds, List.length_set, List.take_set, ht]

theorem drop_at {w : World} {p : Nat} {D : Dk} {fp : List Nat} (h : DiskAt w p D fp) (n : Int) (s : Nat) (hs : s ≤ 1048576) :
    Calls Tryz.prog 80 #[.pointer (some ⟨p, 0, none⟩), .int .i64 n, .int .i64 s] w fun e w' => e = .returned (.tuple #[]) ∧ Moves w p fp { D with loose := Dk.drop D.loose n s } w' := by
  obtain ⟨mb, es, clk, lv, h, rfl⟩ := h
  have c1 := h.cells.2.1
  have hlo := h.wf.long
  have hrow := h.loose
  by_cases h0 : D.loose.length = 0
  · have hL : D.loose = [] := List.eq_nil_of_length_eq_zero h0
    obtain ⟨a, cap, rfl⟩ : ∃ a cap, lv = .slice a 0 cap := by
      rw [h0] at hrow
      rcases hrow.2 with ⟨h, _⟩ | ⟨g, cap, cur, h, _⟩
      · exact ⟨_, _, h⟩
      · exact ⟨_, _, h⟩
    have hD : { D with loose := Dk.drop D.loose n s } = D := by cases D; simp only at hL; subst hL; rfl
    rw [hD]
    have H := Lib.hid h
    clear h hL hrow hlo h0 hD
    go_enter Tryz.func80, Tryz.ntmps80
    go_wp2
    refine wp_loop_once ?_
    go_wp2
    go_end0
    exact ⟨rfl, Moves.refl ⟨mb, es, clk, _, H.out, rfl⟩⟩
  · have hap := h.apart
    have H := Lib.hid h
    clear h
    generalize hL : D.loose = L at *
    obtain ⟨g, cap, cur, rfl, hg, hcap, hsz, hcell⟩ := loose_cells hrow h0
    have hgl := lt_of_block hg
    have hgp := (hap.2.1 g rfl).1
    have hA : LooseAt w g cap L := by
      rcases hrow.2 with ⟨h, _⟩ | ⟨g', cap', cur', h, _, h2, h3, _, h4, h5⟩
      · cases h
      · cases h; exact ⟨cur', h2, h4, h5⟩
    have HAP := Lib.hid hap
    have HL := Lib.hid hL
    clear hrow hcell hg hsz hap hL
    go_enter Tryz.func80, Tryz.ntmps80
    go_wp2
    go_loopw [2, 13] (fun m i wr => ∃ k : Nat, k ≤ L.length ∧ i = .int .i64 k ∧ m = .int .i64 (Dk.left' (L.take k) n s) ∧ LooseAt wr g cap (Dk.mid L n s k) ∧ Upd [g] w wr) (fun _ i _ => L.length - (intOf i).toNat)
    case atStart => exact ⟨0, Nat.zero_le _, rfl, rfl, by rw [Dk.mid_zero]; exact hA, Upd.refl _ _⟩
    case round =>
      obtain ⟨k, hk, rfl, rfl, hM, hU⟩ := hrel
      clear hA
      have hc1 : wr.cell? ⟨p, 1, none⟩ = some (.slice (some ⟨g, 0, none⟩) L.length cap) := by
        rw [hU.cell (p := ⟨p, 1, none⟩) (block_lt_of_cell c1) (by simp; exact Ne.symm hgp)]; exact c1
      by_cases hlt : k < L.length
      · have hms := Lib.hid (Dk.mid_succ L n s k hlt)
        have hls := Lib.hid (Dk.left_succ L n s k hlt)
        have hmg := Dk.mid_get L n s k hlt
        have hml := Dk.mid_length L n s k hk
        obtain ⟨m0, m1, m2⟩ := hM.cells k (by omega)
        rw [hmg] at m0 m1
        have HM := Lib.hid hM
        have HG := Lib.hid hmg
        have HML := Lib.hid hml
        have hle := Dk.left_le (L.take k) n s
        clear hM hmg hml
        generalize L.getD k (0, 0) = pc at *
        obtain ⟨pn, ps⟩ := pc
        generalize Dk.left' (L.take k) n s = st at *
        simp only at m0 m1
        by_cases hpn : pn = n
        · subst hpn
          go_wp2
          go_roundw
          case rel =>
            refine ⟨k + 1, by omega, by go_num, ?_, ?_, ?_⟩
            · rw [hls.out, if_pos rfl]; simp; omega
            · rw [hms.out, if_pos rfl]
              exact HM.out.set k (by rw [HML.out]; exact hlt) pn (by rw [HG.out]) _ _ (by simp; omega)
            · exact hU.setCell (.inl (by simp)) _
          case measure => simp [intOf]; omega
        · have hpn' : (pn == n) = false := by simpa using hpn
          have HP := Lib.hid hpn
          clear hpn
          go_wp2
          go_roundw
          case rel =>
            refine ⟨k + 1, by omega, by go_num, ?_, ?_, hU⟩
            · rw [hls.out, if_neg HP.out]
            · rw [hms.out, if_neg HP.out]; exact HM.out
          case measure => simp [intOf]; omega
      · have hke : k = L.length := by omega
        have HE := Lib.hid hke
        have HM := Lib.hid hM
        clear hke hM
        go_wp2
        go_end0
        refine ⟨rfl, ?_⟩
        have hM := HM.out
        rw [HE.out, Dk.mid_all] at hM
        obtain ⟨cur', hg', hs', ht'⟩ := hM
        have hAP := HAP.out
        have H := H.out
        have hL := HL.out
        subst hL
        refine ⟨_, ⟨mb, es, clk, .slice (some ⟨g, 0, none⟩) D.loose.length cap, ⟨?_, ?_, ?_, H.born, H.clk, H.blocks, ?_, ?_⟩, rfl⟩, hU.mono (by simp [foot, Value.ownBlock]), fun b hb => .inl hb⟩
        · exact hU.heap H.blk (by simp; exact Ne.symm hgp)
        · exact hU.heap H.map (by simp; exact Ne.symm (hAP.2.1 g rfl).2.1)
        · refine ents_keep H.ents fun e he b hb hbl => hU.block b hbl ?_
          have := (hAP.2.2 e he b hb).2.2.2
          simp only [Value.ownBlock, ne_eq, Option.some.injEq] at this
          simp; exact fun e => this e.symm
        · rw [Dk.length_drop]
          refine ⟨by rw [lcells_length, Dk.length_drop], .inr ⟨g, cap, cur', rfl, Nat.zero_le _, hg', hcap, ?_, hs', by rw [Dk.length_drop] at ht'; exact ht'⟩⟩
          rcases H.loose.2 with ⟨h, _⟩ | ⟨g', cap', cur', h, _, _, _, h3, _⟩
          · cases h
          · cases h; exact h3
        · have hw := H.wf
          exact ⟨hw.keys, hw.size, hw.cap, fun m => Nat.le_trans (Dk.of_drop_le _ _ _ _) (hw.offs m), by show (Dk.drop _ _ _).length ≤ _; rw [Dk.length_drop]; exact hw.long, hw.many, hw.left, hw.keep, hw.fails, hw.starts, hw.ints⟩
end Go.Proofs.YtogkdoooimcemaaGreatDoor

/- Iter -/
namespace Go.Proofs.YtogkdoooimcemaaGreatDoor
open Go Go.RowKit

/-- what f adds up to over the entries that have come -/
def doneSum (f : MapEntry → Nat) (es : List MapEntry) (seen : Array Nat) : Nat := (es.map fun e => if seen.contains e.born then f e else 0).sum
def allSum (f : MapEntry → Nat) (es : List MapEntry) : Nat := (es.map f).sum
theorem doneSum_le (f : MapEntry → Nat) (es : List MapEntry) (seen : Array Nat) : doneSum f es seen ≤ allSum f es := by
  induction es with
  | nil => simp [doneSum, allSum]
  | cons e es ih =>
    simp only [doneSum, allSum, List.map_cons, List.sum_cons] at ih ⊢
    split <;> omega
theorem doneSum_all {f : MapEntry → Nat} {es : List MapEntry} {seen : Array Nat} (h : ∀ e ∈ es, seen.contains e.born = true) : doneSum f es seen = allSum f es := by
  induction es with
  | nil => simp [doneSum, allSum]
  | cons e es ih =>
    have := ih (fun x hx => h x (by simp [hx]))
    simp only [doneSum, allSum, List.map_cons, List.sum_cons] at this ⊢
    rw [h e (by simp), if_pos rfl, this]
theorem doneSum_none (f : MapEntry → Nat) (es : List MapEntry) : doneSum f es #[] = 0 := by
  induction es with
  | nil => simp [doneSum]
  | cons e es ih => simp [doneSum] at ih ⊢; exact ih
theorem doneSum_other {f : MapEntry → Nat} {es : List MapEntry} {seen : Array Nat} {b : Nat} (h : b ∉ es.map (·.born)) : doneSum f es (seen.push b) = doneSum f es seen := by
  induction es with
  | nil => simp [doneSum]
  | cons e es ih =>
    simp only [List.map_cons, List.mem_cons, not_or] at h
    have h1 : ¬ e.born = b := fun e => h.1 e.symm
    have := ih h.2
    simp only [doneSum, List.map_cons, List.sum_cons] at this ⊢
    rw [this]
    simp [h1]
theorem doneSum_push {f : MapEntry → Nat} {es : List MapEntry} {seen : Array Nat} (hn : (es.map (·.born)).Nodup) {e : MapEntry} (he : e ∈ es) (hs : seen.contains e.born = false) :
    doneSum f es (seen.push e.born) = doneSum f es seen + f e := by
  induction es with
  | nil => simp at he
  | cons x es ih =>
    simp only [List.map_cons, List.nodup_cons] at hn
    rcases List.mem_cons.1 he with rfl | he
    · have := doneSum_other (f := f) (seen := seen) hn.1
      simp only [doneSum, List.map_cons, List.sum_cons] at this ⊢
      rw [this, hs]
      simp; omega
    · have hx : ¬ x.born = e.born := fun h => hn.1 (h ▸ List.mem_map.2 ⟨e, he, rfl⟩)
      have := ih hn.2 he
      simp only [doneSum, List.map_cons, List.sum_cons] at this ⊢
      rw [this]
      simp [hx]; omega
theorem mem_leftOf {es : Array MapEntry} {seen : Array Nat} {e : MapEntry} (h : e ∈ (leftOf es seen).toList) : e ∈ es.toList ∧ seen.contains e.born = false := by
  simp [leftOf] at h ⊢; exact h
theorem leftOf_none {es : Array MapEntry} {seen : Array Nat} (h : (leftOf es seen).size = 0) : ∀ e ∈ es.toList, seen.contains e.born = true := by
  intro e he
  have h0 : leftOf es seen = #[] := Array.eq_empty_of_size_eq_zero h
  unfold leftOf at h0
  rw [Array.filter_eq_empty_iff] at h0
  simpa using h0 (a := e) (by simpa using he)
theorem filter_le {α : Type} {p q : α → Bool} (h : ∀ x, q x = true → p x = true) : ∀ l : List α, (l.filter q).length ≤ (l.filter p).length
  | [] => by simp
  | x :: l => by
    have ih := filter_le h l
    rw [List.filter_cons, List.filter_cons]
    by_cases hq : q x = true
    · rw [if_pos hq, if_pos (h x hq)]; simp; exact ih
    · rw [if_neg hq]
      by_cases hp : p x = true
      · rw [if_pos hp]; simp; omega
      · rw [if_neg hp]; exact ih
theorem filter_lt {α : Type} {p q : α → Bool} (h : ∀ x, q x = true → p x = true) : ∀ (l : List α) (e : α), e ∈ l → p e = true → q e = false → (l.filter q).length < (l.filter p).length
  | [], _, he, _, _ => by cases he
  | x :: l, e, he, hp, hq => by
    rw [List.filter_cons, List.filter_cons]
    rcases List.mem_cons.1 he with rfl | he
    · rw [if_pos hp, if_neg (by simp [hq])]
      have := filter_le h l
      simp; omega
    · have ih := filter_lt h l e he hp hq
      by_cases hqx : q x = true
      · rw [if_pos hqx, if_pos (h x hqx)]; simp; exact ih
      · rw [if_neg hqx]
        by_cases hpx : p x = true
        · rw [if_pos hpx]; simp; omega
        · rw [if_neg hpx]; exact ih
theorem leftOf_push {es : Array MapEntry} {seen : Array Nat} {e : MapEntry} (he : e ∈ (leftOf es seen).toList) : (leftOf es (seen.push e.born)).size < (leftOf es seen).size := by
  obtain ⟨h1, h2⟩ := mem_leftOf he
  have e1 : ∀ s : Array Nat, (leftOf es s).size = (es.toList.filter fun x => !s.contains x.born).length := by
    intro s; unfold leftOf; rw [← Array.length_toList]; simp
  rw [e1, e1]
  refine filter_lt ?_ es.toList e h1 (by simpa using h2) (by simp)
  intro x hx
  simp at hx ⊢
  exact hx.1
/-- how many entries are still to come, of the range whose iterator is block r -/
def rangeLeft (mb r : Nat) (w : World) : Nat :=
  match w.heap[r]?, w.heap[mb]? with
  | some (.mapIter _ _ seen _), some (.map es _) => (leftOf es seen).size
  | _, _ => 0
theorem rangeLeft_eq {mb r : Nat} {w : World} {m : Option Nat} {s c clk : Nat} {seen : Array Nat} {es : Array MapEntry} (hr : w.heap[r]? = some (.mapIter m s seen c)) (hm : w.heap[mb]? = some (.map es clk)) : rangeLeft mb r w = (leftOf es seen).size := by
  simp [rangeLeft, hr, hm]
end Go.Proofs.YtogkdoooimcemaaGreatDoor

/- Disk5 -/
namespace Go.Proofs.YtogkdoooimcemaaGreatDoor
open Go Go.RowKit
open Go.ChangeMaps (setBlock)
set_option maxRecDepth 20000

def vlen : Value → Nat | .slice _ n _ => n | _ => 0
theorem ents_total {w : World} : ∀ {es : List MapEntry} {l : List (Int × List UInt8)}, All2 (EntAt w) es l → allSum (fun e => vlen e.val) es = Dk.total l
  | [], [], _ => rfl
  | e :: es, f :: l, h => by
    obtain ⟨g, cap, cur, hv, _⟩ := h.1.2
    have := ents_total h.2
    simp only [allSum, Dk.total, List.map_cons, List.sum_cons] at this ⊢
    rw [this, hv]; rfl
theorem ents_slice {w : World} {es : List MapEntry} {l : List (Int × List UInt8)} (h : All2 (EntAt w) es l) : ∀ e ∈ es, ∃ a n c k, e.key = .int .i64 k ∧ e.val = .slice a n c := by
  intro e he
  obtain ⟨f, _, hk, g, cap, cur, hv, _⟩ := h.mem e he
  exact ⟨_, _, _, _, hk, hv⟩
theorem free_at {w : World} {p : Nat} {D : Dk} {fp : List Nat} (h : DiskAt w p D fp) :
    Calls Tryz.prog 35 #[.pointer (some ⟨p, 0, none⟩)] w fun e w' => e = .returned (.int .i64 D.free) ∧ Upd [] w w' := by
  have hn := none_at h
  obtain ⟨mb, es, clk, lv, h, -⟩ := h
  have c0 := h.cells.1
  have c2 := h.cells.2.2.1
  have hm := h.map
  have hml := lt_of_block hm
  have htot := ents_total h.ents
  have hsl := ents_slice h.ents
  have hle := h.wf.size
  have hcap := h.wf.cap
  unfold Dk.free
  rw [← htot] at hle ⊢
  have hb := h.born
  have hclk := h.clk
  generalize D.cap = cap at *
  clear htot h
  have hrg : (Instr.range 43 (.map (some mb))).run Tryz.prog w = .ok (.pointer (some ⟨w.heap.size, 0, none⟩)) (w.alloc (.mapIter (some mb) clk #[] clk)) := by
    simp [Instr.range, run_underlying Tryz.underlying43, getObj, Sem.run, hm, newObj]
  go_enter Tryz.func35, Tryz.ntmps35
  go_wp2_with (go_at_call 64; refine hn.mono ?_; rintro e w' ⟨rfl, rfl⟩)
  have hr0 : (w.alloc (.mapIter (some mb) clk #[] clk)).heap[w.heap.size]? = some (.mapIter (some mb) clk #[] clk) := heap_alloc_new w _
  go_loopw [3] (fun m wr => ∃ seen c0, clk ≤ c0 ∧ wr.heap[w.heap.size]? = some (.mapIter (some mb) clk seen c0) ∧ m = .int .i64 ((cap : Int) - doneSum (fun e => vlen e.val) es.toList seen) ∧ Below w.heap.size w wr) (fun _ wr => rangeLeft mb w.heap.size wr)
  case atStart => exact ⟨#[], clk, Nat.le_refl _, hr0, by rw [doneSum_none]; simp, (Below.refl _ _).alloc (Nat.le_refl _) _⟩
  case round =>
    obtain ⟨seen, c0, hc0, hr, rfl, hB⟩ := hrel
    have hbm : wr.heap[mb]? = some (.map es clk) := (hB.block mb hml).trans hm
    have hrl := rangeLeft_eq hr hbm
    have hds := doneSum_le (fun e => vlen e.val) es.toList seen
    rcases run_next_at (P := Tryz.prog) wr 0 w.heap.size mb clk c0 seen es clk hr hbm hclk hc0 with ⟨h0, hrun⟩ | ⟨e, he, w1, hw1, hrun⟩
    · have hall := doneSum_all (f := fun e => vlen e.val) (leftOf_none h0)
      have HA := Lib.hid hall
      have HB := Lib.hid hB
      clear hall hbm hr hB h0 hrl hclk hb hsl hr0 hm hrg
      generalize doneSum (fun e => vlen e.val) es.toList seen = ds at *
      go_wp2
      go_ret
      exact ⟨by rw [HA.out]; rfl, Upd.of_below HB.out _⟩
    · obtain ⟨hee, hse⟩ := mem_leftOf he
      have hps := doneSum_push (f := fun e => vlen e.val) hb hee hse
      have hlt := leftOf_push he
      have hds' := doneSum_le (fun e => vlen e.val) es.toList (seen.push e.born)
      have hr1 : (setBlock w1 w.heap.size (.mapIter (some mb) clk (seen.push e.born) clk)).heap[w.heap.size]? = some (.mapIter (some mb) clk (seen.push e.born) clk) := by
        refine heap_setBlock_same (o' := .mapIter (some mb) clk seen c0) ?_
        rcases hw1 with rfl | rfl <;> exact hr
      have hbm1 : (setBlock w1 w.heap.size (.mapIter (some mb) clk (seen.push e.born) clk)).heap[mb]? = some (.map es clk) := by
        rw [heap_setBlock_other (by omega)]
        rcases hw1 with rfl | rfl <;> exact hbm
      have hent := run_entry_at (P := Tryz.prog) _ w.heap.size mb clk seen es clk e hr1 hbm1 hee hb
      have hB1 : Below w.heap.size w (setBlock w1 w.heap.size (.mapIter (some mb) clk (seen.push e.born) clk)) := by
        refine (((Upd.of_below hB []).trans (g := []) ?_ (by simp)).setBlock (.inr (Nat.le_refl _)) _).below
        rcases hw1 with rfl | rfl
        · exact Upd.refl _ _
        · exact (Upd.refl _ _).drew
      have hrl1 := rangeLeft_eq hr1 hbm1
      generalize setBlock w1 w.heap.size (.mapIter (some mb) clk (seen.push e.born) clk) = W at *
      obtain ⟨a, n, c, k, hk, hv⟩ := hsl e hee
      rw [hk, hv] at hrun hent
      have hvl : vlen e.val = n := by rw [hv]; rfl
      have HR := Lib.hid hr1; have HB := Lib.hid hB1; have HL := Lib.hid hrl; have HL1 := Lib.hid hrl1; have HLT := Lib.hid hlt
      rw [hvl] at hps
      have HP := Lib.hid hps
      have hle2 : doneSum (fun e => vlen e.val) es.toList seen + n ≤ cap := by omega
      clear hr1 hB1 hrl hrl1 hlt hps hbm hr hB hbm1 hclk hb hsl hr0 hm hrg hk hv hvl hds' he hee hse hw1
      generalize doneSum (fun e => vlen e.val) es.toList seen = ds at *
      go_wp2
      go_roundw
      case rel => exact ⟨_, _, Nat.le_refl _, HR.out, by rw [HP.out]; go_num, HB.out⟩
      case measure => rw [HL.out, HL1.out]; exact HLT.out
end Go.Proofs.YtogkdoooimcemaaGreatDoor

/- Disk6 -/
namespace Go.Proofs.YtogkdoooimcemaaGreatDoor
open Go Go.RowKit
open Go.ChangeMaps (setBlock)
set_option maxRecDepth 20000

/-- a map from numbers to numbers, in block gb: G -/
structure GoneAt (w : World) (gb : Nat) (ges : Array MapEntry) (gclk : Nat) (G : Int → Nat) : Prop where
  map : w.heap[gb]? = some (.map ges gclk)
  ints : ∀ e ∈ ges.toList, ∃ k x, e.key = .int .i64 k ∧ e.val = .int .i64 (x : Nat) ∧ G k = x
  rest : ∀ k, lookE ges.toList k = none → G k = 0
  keys : (ges.toList.map (·.key)).Nodup
  born : (ges.toList.map (·.born)).Nodup
  clk : ∀ e ∈ ges.toList, e.born < gclk
theorem lookE_mem {es : List MapEntry} {n : Int} {v : Value} (hi : IntKeys es) (h : lookE es n = some v) : ∃ e ∈ es, e.key = .int .i64 n ∧ e.val = v := by
  rcases findNow_int n es 0 hi with ⟨j, u, _, h2, _, e, h4, h5, h6, _⟩ | ⟨_, h2, _⟩
  · rw [h2] at h; cases h
    exact ⟨e, List.mem_of_getElem? h4, h5, h6⟩
  · rw [h2] at h; cases h
theorem lookE_none {es : List MapEntry} {n : Int} (hi : IntKeys es) (h : lookE es n = none) : ∀ e ∈ es, e.key ≠ .int .i64 n := by
  rcases findNow_int n es 0 hi with ⟨j, u, _, h2, _⟩ | ⟨_, _, h3⟩
  · rw [h2] at h; cases h
  · exact h3
theorem GoneAt.intKeys {w : World} {gb : Nat} {ges : Array MapEntry} {gclk : Nat} {G : Int → Nat} (h : GoneAt w gb ges gclk G) : IntKeys ges.toList := fun e he => by
  obtain ⟨k, _, hk, _⟩ := h.ints e he; exact ⟨k, hk⟩
theorem zero_int (w : World) : (zeroValue 3).run Tryz.prog w = .ok (.int .i64 0) w := by kernel_rfl
theorem GoneAt.look {w : World} {gb : Nat} {ges : Array MapEntry} {gclk : Nat} {G : Int → Nat} (h : GoneAt w gb ges gclk G) (n : Int) :
    (Instr.lookup 81 (.map (some gb)) (.int .i64 n) false).run Tryz.prog w = .ok (.int .i64 (G n)) w := by
  cases e : lookE ges.toList n with
  | none => rw [h.rest n e]; exact (run_look_no Tryz.underlying81 Tryz.underlying3 h.map h.intKeys n e _ (zero_int w)).1
  | some v =>
    obtain ⟨x, hx, hk, hv⟩ := lookE_mem h.intKeys e
    obtain ⟨k, y, h1, h2, h3⟩ := h.ints x hx
    rw [hk] at h1; cases h1
    rw [h3, ← h2, hv]
    exact (run_look_yes Tryz.underlying81 Tryz.underlying3 h.map h.intKeys n v e).1
theorem putE_mem {es : List MapEntry} (hi : IntKeys es) {n : Int} {v : Value} {e : MapEntry} (he : e ∈ putE es n v) :
    ∃ x ∈ es, ∃ k, x.key = .int .i64 k ∧ e.key = .int .i64 k ∧ e.born = x.born ∧ ((k = n ∧ e.val = v) ∨ (k ≠ n ∧ e = x)) := by
  obtain ⟨x, hx, rfl⟩ := List.mem_map.1 he
  obtain ⟨k, hk⟩ := hi x hx
  refine ⟨x, hx, k, hk, ?_⟩
  rw [hk]
  by_cases hkn : k = n
  · simp [hkn]
  · simp [hkn, hk]
theorem putE_keys (es : List MapEntry) (n : Int) (v : Value) : (putE es n v).map (·.key) = es.map (·.key) ∧ (putE es n v).map (·.born) = es.map (·.born) := by
  unfold putE
  simp only [List.map_map]
  constructor <;> (apply List.map_congr_left; intro x _; simp only [Function.comp]; split <;> (try split) <;> rfl)
theorem putE_look {es : List MapEntry} (hi : IntKeys es) (n m : Int) (v : Value) : (lookE (putE es n v) m = none ↔ lookE es m = none) := by
  have hi' : IntKeys (putE es n v) := by
    intro e he
    obtain ⟨x, hx, k, _, hk, _⟩ := putE_mem hi he
    exact ⟨k, hk⟩
  have key : ∀ l : List MapEntry, IntKeys l → (lookE l m = none ↔ (Value.int .i64 m) ∉ l.map (·.key)) := by
    intro l hl
    constructor
    · intro h hm
      obtain ⟨e, he, hk⟩ := List.mem_map.1 hm
      exact lookE_none hl h e he hk
    · intro h
      cases e : lookE l m with
      | none => rfl
      | some u =>
        obtain ⟨x, hx, hk, _⟩ := lookE_mem hl e
        exact absurd (List.mem_map.2 ⟨x, hx, hk⟩) h
  rw [key _ hi', key _ hi, (putE_keys es n v).1]
theorem GoneAt.put {w : World} {gb : Nat} {ges : Array MapEntry} {gclk : Nat} {G : Int → Nat} (h : GoneAt w gb ges gclk G) (n : Int) (x : Nat) :
    ∃ ges' gclk', (Instr.mapUpdate 81 (.map (some gb)) (.int .i64 n) (.int .i64 x)).run Tryz.prog w = .ok () (setBlock w gb (.map ges' gclk')) ∧
      GoneAt (setBlock w gb (.map ges' gclk')) gb ges' gclk' (fun m => if m = n then x else G m) := by
  cases e : lookE ges.toList n with
  | none =>
    refine ⟨_, _, run_mapUpdate_no Tryz.underlying81 Tryz.underlying3 h.map h.intKeys n _ e, heap_setBlock_same h.map, ?_, ?_, ?_, ?_, ?_⟩
    · intro y hy
      rcases List.mem_append.1 (show y ∈ ges.toList ++ [_] by rw [← Array.toList_push]; exact hy) with hy0 | hy0
      · obtain ⟨k, z, h1, h2, h3⟩ := h.ints y hy0
        have hkn : k ≠ n := by rintro rfl; exact lookE_none h.intKeys e y hy0 h1
        exact ⟨k, z, h1, h2, by simp [hkn, h3]⟩
      · obtain rfl := List.mem_singleton.1 hy0
        exact ⟨n, x, rfl, rfl, by simp⟩
    · intro k hk
      have hkn : k ≠ n := by
        rintro rfl
        have : lookE (ges.push { key := .int .i64 k, val := .int .i64 x, born := gclk }).toList k = some (.int .i64 x) := by
          have e' := e
          simp only [lookE, Option.map_eq_none_iff, Array.toList_push, List.find?_append] at e' ⊢
          rw [e']; simp
        rw [this] at hk; cases hk
      have : lookE ges.toList k = none := by
        simp only [lookE, Option.map_eq_none_iff, Array.toList_push, List.find?_append, Option.or_eq_none_iff] at hk ⊢
        exact hk.1
      simp [hkn, h.rest k this]
    · rw [Array.toList_push, List.map_append, List.nodup_append]
      refine ⟨h.keys, by simp, ?_⟩
      intro a ha b hb
      obtain ⟨y, hy, rfl⟩ := List.mem_map.1 ha
      simp at hb
      subst hb
      exact lookE_none h.intKeys e y hy
    · rw [Array.toList_push, List.map_append, List.nodup_append]
      refine ⟨h.born, by simp, ?_⟩
      intro a ha b hb
      obtain ⟨y, hy, rfl⟩ := List.mem_map.1 ha
      simp at hb
      subst hb
      have := h.clk y hy
      omega
    · intro y hy
      rcases List.mem_append.1 (show y ∈ ges.toList ++ [_] by rw [← Array.toList_push]; exact hy) with hy0 | hy0
      · have := h.clk y hy0; omega
      · obtain rfl := List.mem_singleton.1 hy0
        show gclk < gclk + 1
        omega
  | some v =>
    refine ⟨_, _, run_mapUpdate_yes Tryz.underlying81 Tryz.underlying3 h.map h.intKeys h.keys n v _ e, heap_setBlock_same h.map, ?_, ?_, ?_, ?_, ?_⟩
    · intro y hy
      obtain ⟨z, hz, k', h0, h1, h2, h3⟩ := putE_mem h.intKeys hy
      obtain ⟨k, q, h4, h5, h6⟩ := h.ints z hz
      rw [h0] at h4; cases h4
      rcases h3 with ⟨rfl, h8⟩ | ⟨h7, rfl⟩
      · exact ⟨k', x, h1, h8, by simp⟩
      · exact ⟨k', q, h1, h5, by simp [h7, h6]⟩
    · intro k hk
      have hk' := (putE_look h.intKeys n k _).1 hk
      have hkn : k ≠ n := by rintro rfl; rw [e] at hk'; cases hk'
      simp [hkn, h.rest k hk']
    · show ((putE _ _ _).map (·.key)).Nodup
      rw [(putE_keys _ _ _).1]; exact h.keys
    · show ((putE _ _ _).map (·.born)).Nodup
      rw [(putE_keys _ _ _).2]; exact h.born
    · intro y hy
      obtain ⟨z, hz, _, _, _, h2, _⟩ := putE_mem h.intKeys hy
      rw [h2]; exact h.clk z hz
end Go.Proofs.YtogkdoooimcemaaGreatDoor

/- Reg -/
namespace Go
section
variable {P : Program} {ops : Array Oper} {Q : Exit → Act → World → Prop} {md : Region.Mode} {S : World → Prop} {T : Nat → World → Prop}

/-- Whatever comes up; behind operation i, T i of the world. -/
def wpAnyT (P : Program) (md : Region.Mode) (ops : Array Oper) (Q : Exit → Act → World → Prop) (T : Nat → World → Prop) : Nat → Array Bool → Act → World → Prop
  | 0, l, a, w => Region.ready md ops l = [] ∧ Q .normal a w
  | f + 1, l, a, w => (Region.ready md ops l = [] → Q .normal a w) ∧
      ∀ i ∈ Region.ready md ops l, wpOp P ops Q i (fun a' w' => T i w' ∧ wpAnyT P md ops Q T f (l.setIfInBounds i true) a' w') a w

theorem wpAnyT.any : ∀ (f : Nat) (l : Array Bool) (a : Act) (w : World), wpAnyT P md ops Q T f l a w → wpAny P md ops Q f l a w
  | 0, _, _, _, h => h
  | f + 1, _, _, _, h => ⟨h.1, fun i hi => wpOp_mono (fun _ _ h' => wpAnyT.any f _ _ _ h'.2) (h.2 i hi)⟩

theorem ready_waits {i j : Nat} {l : Array Bool} {oj : Oper} (hj : j ∈ Region.ready md ops l) (hoj : ops[j]? = some oj) (hiun : l.getD i true = false) :
    ∀ e ∈ oj.after, Region.binds md e = true → e.on ≠ i := by
  obtain ⟨_, o, ho, hall⟩ := mem_ready.1 hj
  rw [hoj] at ho; cases ho
  intro e he hb heq
  have h1 := hall e he hb
  rw [heq] at h1
  rcases Nat.lt_or_ge i l.size with h' | h'
  · simp [h'] at hiun h1; rw [hiun] at h1; cases h1
  · simp [Array.getElem?_eq_none h'] at h1

theorem wpAnyT.first {i : Nat} {oi : Oper} {v : Value} (hi : ops[i]? = some oi) (hsel : ∀ (j : Nat) (o : Oper) cs b, ops[j]? = some o → o.op ≠ .select cs b)
    (hQ : ∀ c a w, Q (.panic c) (a.put oi.dst v) w → Q (.panic c) a w) (hST : ∀ j w, S w → T j w)
    (hTS : ∀ (l : Array Bool) j w, j ∈ Region.ready md ops l → l.getD i true = false → T j w → S w) :
    ∀ (f : Nat) (l : Array Bool) (a : Act) (w : World),
      (∀ j oj, ops[j]? = some oj → j ≠ i → l.getD j true = false → (∀ e ∈ oj.after, Region.binds md e = true → e.on ≠ i) → oi.apart ops oj = true) →
      i ∈ Region.ready md ops l → YieldsIf P ops S oi v a → S w →
      wpAnyT P md ops Q T f (l.setIfInBounds i true) (a.put oi.dst v) w → wpAnyT P md ops Q T (f + 1) l a w := by
  intro f
  induction f with
  | zero =>
    intro l a w _ hr hy hS H
    refine ⟨fun h => (by rw [h] at hr; cases hr), fun j hj => ?_⟩
    by_cases hji : j = i
    · subst hji; exact hy.wpOp hi hS ⟨hST _ _ hS, H⟩
    · have h0 := ready_mono hj hji
      rw [H.1] at h0; cases h0
  | succ f ih =>
    intro l a w hfree hr hy hS H
    refine ⟨fun h => (by rw [h] at hr; cases hr), fun j hj => ?_⟩
    by_cases hji : j = i
    · subst hji; exact hy.wpOp hi hS ⟨hST _ _ hS, H⟩
    · obtain ⟨hjun, oj, hoj, _⟩ := mem_ready.1 hj
      have hiF : l.getD i true = false := by simpa using (mem_ready.1 hr).1
      have h2 := wpOp_putIf hoj (hfree j oj hoj hji hjun (ready_waits hj hoj hiF)) (fun cs b => hsel i oi cs b hi) (fun cs b => hsel j oj cs b hoj) hQ hy (H.2 j (ready_mono hj hji))
      refine wpOp_mono (fun a' w' h3 => ⟨h3.2.1, ih (l.setIfInBounds j true) a' w' ?_ (ready_mono hr (Ne.symm hji)) h3.1 (hTS l j w' hj hiF h3.2.1) ?_⟩) h2
      · intro k ok hk hki hun hno
        refine hfree k ok hk hki ?_ hno
        by_cases hjk : j = k
        · subst hjk; exact hjun
        · rw [getD_set_ne true hjk] at hun; exact hun
      · rw [Array.setIfInBounds_comm _ _ hji]; exact h3.2.2

/-- The head, in one order: (i, false): a light one: what it yields in every world that meets S; (i, true): one that acts: alone ready; behind it S. -/
def wpCan (P : Program) (ops : Array Oper) (Q : Exit → Act → World → Prop) (S : World → Prop) (K : Act → World → Prop) : List (Nat × Bool) → Act → World → Prop
  | [], a, w => K a w
  | (i, false) :: r, a, w => ∃ o v, ops[i]? = some o ∧ YieldsIf P ops S o v a ∧ wpCan P ops Q S K r (a.put o.dst v) w
  | (i, true) :: r, a, w => wpOp P ops Q i (fun a' w' => S w' ∧ wpCan P ops Q S K r a' w') a w

/-- May the head go in this order? -/
def canHead (md : Region.Mode) (ops : Array Oper) : List (Nat × Bool) → Array Bool → Bool
  | [], _ => true
  | (i, false) :: r, l => (Region.ready md ops l).contains i && Region.free md ops l i && canHead md ops r (l.setIfInBounds i true)
  | (i, true) :: r, l => (Region.ready md ops l == [i]) && canHead md ops r (l.setIfInBounds i true)
def allListed : List (Nat × Bool) → Array Bool → Array Bool
  | [], l => l
  | (i, _) :: r, l => allListed r (l.setIfInBounds i true)
/-- Behind the head the others come up one by one, in the order of the text from n on. -/
def canTail (md : Region.Mode) (ops : Array Oper) : Nat → Nat → Array Bool → Bool
  | 0, _, l => Region.ready md ops l == []
  | k + 1, n, l => (Region.ready md ops l == [n]) && canTail md ops k (n + 1) (l.setIfInBounds n true)
/-- Each of the tail waits for each of the head. -/
def tailWaits (md : Region.Mode) (ops : Array Oper) (hd : List (Nat × Bool)) (n : Nat) : Bool :=
  (List.range ops.size).all fun j => j < n || (match ops[j]? with | some o => hd.all (fun x => o.after.any fun e => Region.binds md e && e.on == x.1) | none => true)
/-- n of the operations are the head. -/
def canRegion (ops : Array Oper) (hd : List (Nat × Bool)) (n : Nat) : Bool :=
  Region.noSelect ops && canHead .any ops hd (Array.replicate ops.size false) && canTail .any ops (ops.size - n) n (allListed hd (Array.replicate ops.size false)) && tailWaits .any ops hd n && decide (hd.length + (ops.size - n) = ops.size) && hd.all (fun x => x.1 < n) && hd.all (fun x => x.1 < ops.size)

theorem canTail_sound : ∀ (k n : Nat) (l : Array Bool) (a : Act) (w : World), canTail md ops k n l = true → (∀ j w, n ≤ j → T j w) →
    wpOps P ops Q (List.range' n k) a w → wpAnyT P md ops Q T k l a w
  | 0, n, l, a, w, h, _, hw => ⟨by simpa [canTail] using h, hw⟩
  | k + 1, n, l, a, w, h, hT, hw => by
    simp only [canTail, Bool.and_eq_true, beq_iff_eq] at h
    refine ⟨fun h0 => (by rw [h.1] at h0; cases h0), fun i hi => ?_⟩
    rw [h.1] at hi
    obtain rfl : i = n := by simpa using hi
    rw [List.range'_succ, wpOps_cons] at hw
    exact wpOp_mono (fun a' w' h' => ⟨hT i w' (Nat.le_refl _), canTail_sound k (i + 1) _ a' w' h.2 (fun j w hj => hT j w (by omega)) h'⟩) hw

theorem canHead_sound (hs : Region.noSelect ops = true) (hQ : ∀ c a d v w, Q (.panic c) (a.put d v) w → Q (.panic c) a w) (n k : Nat)
    (hTS : ∀ j w, j < n → T j w → S w) (hST : ∀ j w, S w → T j w) (hT : ∀ j w, n ≤ j → T j w) :
    ∀ (hd : List (Nat × Bool)) (l : Array Bool) (a : Act) (w : World), canHead md ops hd l = true → canTail md ops k n (allListed hd l) = true →
      (∀ x ∈ hd, ∀ (l : Array Bool) j, j ∈ Region.ready md ops l → l.getD x.1 true = false → j < n) → (∀ x ∈ hd, x.1 < n) →
      S w → wpCan P ops Q S (fun a w => wpOps P ops Q (List.range' n k) a w) hd a w → wpAnyT P md ops Q T (hd.length + k) l a w
  | [], l, a, w, _, ht, _, _, _, hw => by
    rw [List.length_nil, Nat.zero_add]; exact canTail_sound k n l a w ht hT hw
  | (i, false) :: r, l, a, w, h, ht, hx, hn, hS, hw => by
    simp only [canHead, Bool.and_eq_true] at h
    obtain ⟨o, v, ho, hy, hw⟩ := hw
    rw [List.length_cons, Nat.add_right_comm]
    refine wpAnyT.first ho (Region.noSelect_spec hs) (fun c a w => hQ c a o.dst v w) hST (fun l j w hj hl ht' => hTS j w (hx (i, false) (by simp) l j hj hl) ht') _ l a w (Region.free_spec ho h.1.2) (by simpa using h.1.1) hy hS ?_
    exact canHead_sound hs hQ n k hTS hST hT r _ _ w h.2 ht (fun x hm => hx x (by simp [hm])) (fun x hm => hn x (by simp [hm])) hS hw
  | (i, true) :: r, l, a, w, h, ht, hx, hn, hS, hw => by
    simp only [canHead, Bool.and_eq_true, beq_iff_eq] at h
    rw [List.length_cons, Nat.add_right_comm]
    refine ⟨fun h0 => (by rw [h.1] at h0; cases h0), fun j hj => ?_⟩
    rw [h.1] at hj
    obtain rfl : j = i := by simpa using hj
    refine wpOp_mono (fun a' w' h' => ⟨hST _ _ h'.1, ?_⟩) hw
    exact canHead_sound hs hQ n k hTS hST hT r _ a' w' h.2 ht (fun x hm => hx x (by simp [hm])) (fun x hm => hn x (by simp [hm])) h'.1 h'.2

theorem wp_region_can' {id : Nat} {a : Act} {w : World} (hd : List (Nat × Bool)) (n : Nat) (S : World → Prop) (hm : P.follows .mixedOrders = true)
    (hok : canRegion ops hd n = true) (hQ : ∀ c a d v w, Q (.panic c) (a.put d v) w → Q (.panic c) a w) (hS : S w.drew)
    (h : wpCan P ops Q S (fun a w => wpList P ops Q (ops.toList.drop n) a w) hd a w.drew) : (Code.region id ops true).wp P Q a w := by
  simp only [canRegion, Bool.and_eq_true, decide_eq_true_eq, List.all_eq_true] at hok
  obtain ⟨⟨⟨⟨⟨⟨h1, h2⟩, h3⟩, h4⟩, h5⟩, h6⟩, _⟩ := hok
  refine wp_region_any hm (wpAnyT.any (T := fun j w => j < n → S w) _ _ _ _ ?_)
  have key := canHead_sound (P := P) (Q := Q) (md := .any) (S := S) (T := fun j w => j < n → S w) h1 hQ n (ops.size - n) (fun j w hj ht => ht hj) (fun j w hS _ => hS)
    (fun j w hj hlt => absurd hlt (by omega)) hd (Array.replicate ops.size false) a w.drew h2 h3 ?_ h6 hS ?_
  · rw [h5] at key; exact key
  · intro x hx l j hj hl
    rcases Nat.lt_or_ge j n with hlt | hge
    · exact hlt
    · exfalso
      obtain ⟨_, o, ho, _⟩ := mem_ready.1 hj
      have hw := ready_waits hj ho hl
      simp only [tailWaits, List.all_eq_true, List.mem_range] at h4
      have hjs : j < ops.size := by
        rcases Nat.lt_or_ge j ops.size with h' | h'
        · exact h'
        · simp [Array.getElem?_eq_none h'] at ho
      have h7 := h4 j hjs
      simp only [ho, Bool.or_eq_true, decide_eq_true_eq, List.all_eq_true] at h7
      rcases h7 with h7 | h7
      · omega
      · have h8 := h7 x hx
        rw [Array.any_eq_true'] at h8
        obtain ⟨e, he, h9⟩ := h8
        simp only [Bool.and_eq_true, beq_iff_eq] at h9
        exact hw e he h9.1 h9.2
  · have e : wpOps P ops Q (List.range' n (ops.size - n)) = wpList P ops Q (ops.toList.drop n) := by
      have := wpOps_eq_wpList (P := P) (ops := ops) (Q := Q) (ops.toList.drop n) n (fun j => by simp [List.getElem?_drop])
      simpa using this
    rw [e]; exact h

/-- The head, by its operations. -/
def wpGo (P : Program) (ops : Array Oper) (Q : Exit → Act → World → Prop) (S : World → Prop) (K : Act → World → Prop) : List (Oper × Bool) → Act → World → Prop
  | [], a, w => K a w
  | (o, false) :: r, a, w => ∃ v, YieldsIf P ops S o v a ∧ wpGo P ops Q S K r (a.put o.dst v) w
  | (o, true) :: r, a, w => if Region.wanted o (yielded ops a.tmps) then o.wp P a w (fun a' w' => S w' ∧ wpGo P ops Q S K r a' w') Q ∨ (o.asks P a w ∧ LetsOut Q) else S w ∧ wpGo P ops Q S K r (a.put o.dst undef) w
def canOps (ops : Array Oper) (hd : List (Nat × Bool)) : List (Oper × Bool) := hd.filterMap fun x => (ops[x.1]?).map fun o => (o, x.2)
theorem wpCan_of_go {K : Act → World → Prop} : ∀ (hd : List (Nat × Bool)) (a : Act) (w : World), (∀ x ∈ hd, x.1 < ops.size) → wpGo P ops Q S K (canOps ops hd) a w → wpCan P ops Q S K hd a w
  | [], _, _, _, h => h
  | (i, b) :: r, a, w, hn, h => by
    have hi' : i < ops.size := hn (i, b) (by simp)
    have hi : ops[i]? = some ops[i] := Array.getElem?_eq_getElem hi'
    have ih := fun a w => wpCan_of_go (K := K) r a w (fun x hx => hn x (by simp [hx]))
    simp only [canOps, List.filterMap_cons, hi, Option.map_some] at h
    cases b with
    | false =>
      obtain ⟨v, hy, h⟩ := h
      exact ⟨_, v, hi, hy, ih _ _ h⟩
    | true =>
      show wpOp P ops Q i _ a w
      unfold wpOp
      simp only [hi]
      simp only [wpGo] at h
      split at h
      · rename_i hw; rw [if_pos hw]; exact h.imp (Oper.wp_mono fun _ _ h' => ⟨h'.1, ih _ _ h'.2⟩) id
      · rename_i hw; rw [if_neg hw]; exact ⟨h.1, ih _ _ h.2⟩
/-- A REGION THAT DRAWS, IN ONE ORDER. hd: the head's order; n: where the tail begins. -/
theorem wp_region_can {id : Nat} {a : Act} {w : World} (hd : List (Nat × Bool)) (n : Nat) (S : World → Prop) (hm : P.follows .mixedOrders = true)
    (hok : canRegion ops hd n = true) (hQ : ∀ c a d v w, Q (.panic c) (a.put d v) w → Q (.panic c) a w) (hS : S w.drew)
    (h : wpGo P ops Q S (fun a w => wpList P ops Q (ops.toList.drop n) a w) (canOps ops hd) a w.drew) : (Code.region id ops true).wp P Q a w := by
  refine wp_region_can' hd n S hm hok hQ hS (wpCan_of_go hd a w.drew ?_ h)
  simp only [canRegion, Bool.and_eq_true, decide_eq_true_eq, List.all_eq_true] at hok
  intro x hx
  exact hok.2 x hx

/-! ### The moves -/
variable {K : Act → World → Prop} {r : List (Oper × Bool)} {o : Oper} {a : Act} {w : World}
theorem can_nil (h : K a w) : wpGo P ops Q S K [] a w := h
/-- a light operation without a guard -/
theorem can_light {v : Value} (hg : o.guard = none) (hy : ∀ u, S u → (execOp a.eval o).run P u = .ok (.value v) u)
    (h : wpGo P ops Q S K r (a.put o.dst v) w) : wpGo P ops Q S K ((o, false) :: r) a w :=
  ⟨v, .inl ⟨by simp [Region.wanted, hg], hy⟩, h⟩
/-- a light operation whose guard says yes -/
theorem can_light_yes {v : Value} (hg : Region.wanted o (yielded ops a.tmps) = true) (hy : ∀ u, S u → (execOp a.eval o).run P u = .ok (.value v) u)
    (h : wpGo P ops Q S K r (a.put o.dst v) w) : wpGo P ops Q S K ((o, false) :: r) a w :=
  ⟨v, .inl ⟨hg, hy⟩, h⟩
/-- an operation whose guard says no -/
theorem can_light_no (hg : Region.wanted o (yielded ops a.tmps) = false) (h : wpGo P ops Q S K r (a.put o.dst undef) w) : wpGo P ops Q S K ((o, false) :: r) a w :=
  ⟨undef, .inr ⟨hg, rfl⟩, h⟩
/-- one that acts -/
theorem can_acts (hg : o.guard = none)
    (h : ∀ K' : Act → World → Prop, (∀ a' w', S w' → wpGo P ops Q S K r a' w' → K' a' w') → o.wp P a w K' Q) : wpGo P ops Q S K ((o, true) :: r) a w := by
  simp only [wpGo, Region.wanted, hg, if_true]
  exact .inl (h _ fun _ _ h1 h2 => ⟨h1, h2⟩)
/-- a mark at which the walk stands still -/
def Stop (p : Prop) : Prop := p
theorem Stop.here {p : Prop} (h : Stop p) : p := h
/-- append by its run -/
theorem wp_append_run {Q : Exit → Act → World → Prop} {K : Act → World → Prop} {s x : Operand} {t u : TypeId} {v' : Value} {w' : World} (ho : o.op = .call { callee := .builtin .append, args := #[s, x], argTypes := #[t, u] })
    (hrun : (Builtin.append_ #[t, u] o.type #[a.eval s, a.eval x]).run P w = .ok v' w') (h : K (a.put o.dst v') w') : o.wp P a w K Q := by
  unfold Oper.wp execOp
  simp only [ho, resolve, invoke, builtin, Sem.run_bind, Sem.run_pure, Result.andThen_ok, List.map_toArray, List.map_cons, List.map_nil, hrun]
  exact h
theorem wpList_append_run {ops : Array Oper} {rest : List Oper} {Q : Exit → Act → World → Prop} {s x : Operand} {t u : TypeId} {v' : Value} {w' : World} (hgd : o.guard = none) (ho : o.op = .call { callee := .builtin .append, args := #[s, x], argTypes := #[t, u] })
    (hrun : (Builtin.append_ #[t, u] o.type #[a.eval s, a.eval x]).run P w = .ok v' w') (h : wpList P ops Q rest (a.put o.dst v') w') : wpList P ops Q (o :: rest) a w :=
  wpList_plain hgd fun _ hK => wp_append_run ho hrun (hK _ _ h)
theorem wpList_delete_run {ops : Array Oper} {rest : List Oper} {Q : Exit → Act → World → Prop} {s x : Operand} {t u : TypeId} {v' : Value} {w' : World} (hgd : o.guard = none) (ho : o.op = .call { callee := .builtin .delete, args := #[s, x], argTypes := #[t, u] })
    (hrun : (Builtin.delete_ #[t, u] o.type #[a.eval s, a.eval x]).run P w = .ok v' w') (h : wpList P ops Q rest (a.put o.dst v') w') : wpList P ops Q (o :: rest) a w :=
  wpList_plain hgd fun _ hK => by
    unfold Oper.wp execOp
    simp only [ho, resolve, invoke, builtin, Sem.run_bind, Sem.run_pure, Result.andThen_ok, List.map_toArray, List.map_cons, List.map_nil, hrun]
    exact hK _ _ h
end
end Go
