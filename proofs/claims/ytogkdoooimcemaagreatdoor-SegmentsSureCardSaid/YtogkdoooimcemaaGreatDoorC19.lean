/- SegmentsSure: the walk. Conditions: the laid variables, and what a reading gives.
  SegmentsSure: the row and its tied card: whatever the input, the law is true, and the input reads as it did. Conditions: none but the row's own. -/
import Derived.Test.YtogkdoooimcemaaGreatDoorC18
import Derived.Deep.CutBlock
import Derived.Deep.DeepCutAuto
import Derived.Test.YtogkdoooimcemaaGreatDoorC17
import Derived.Test.YtogkdoooimcemaaGreatDoorCards
import Derived.Test.YtogkdoooimcemaaGreatDoorTie
import Derived.SevenTiedAt
import Derived.Deep.Slices
import Derived.Lib.SmallJoins
/- SegV2 -/
namespace Go.Proofs.YtogkdoooimcemaaGreatDoor
open Go Go.RowKit
open Go.ChangeMaps (setBlock)
set_option maxRecDepth 20000

/-- the outer loop: the disk is up, the entries that are sure stand in the slice -/
def SureR (w : World) (d n : Nat) (sp sure i : Value) (wr : World) : Prop :=
  ∃ (j s : Nat) (S : Sg) (D : Dk) (T : List (List UInt8)) (a : Option Addr) (c : Nat), j ≤ n ∧ i = .int .i64 j ∧ sp = .pointer (some ⟨s, 0, none⟩) ∧ sure = .slice a T.length c ∧ RowAt wr 9 (.slice a T.length c) (svs T) ∧
    Fr w (Value.slice a T.length c).ownBlock.toList wr s d S D ∧ Head S D T (4240 * j) ∧ D.cap = 200000 ∧ D.starts ≤ 20 * j ∧ T.length ≤ 20 * j
/-- behind the switch -/
def SwitchR (w : World) (d j bx : Nat) (A : GAct) (T : List (List UInt8)) (s : Nat) (sure : Value) (also g : Value) (wx : World) : Prop :=
  ∃ (S : Sg) (D : Dk) (Al : List (List UInt8)) (a : Option Addr) (c : Nat) (gi : Int), also = .slice a Al.length c ∧ g = .int .i64 gi ∧ RowAt wx 9 sure (svs T) ∧ RowAt wx 9 (.slice a Al.length c) (svs Al) ∧
    wx.cell? ⟨bx, 2, none⟩ = some (.int .i64 A.n) ∧ wx.cell? ⟨bx, 3, none⟩ = some (.int .i64 A.m) ∧
    Fr w (bx :: (sure.ownBlock.toList ++ (Value.slice a Al.length c).ownBlock.toList)) wx s d S D ∧ D.cap = 200000 ∧ D.starts ≤ 20 * j ∧ Al.length ≤ 20 * (j + 1) ∧
    ((D.down = false ∧ ((gi = 0 ∧ Head S D Al (4240 * (j + 1))) ∨ (gi = 3 ∧ Head S D T (4240 * (j + 1))))) ∨
     (D.down = true ∧ (gi = 0 ∧ Al = T ∨ gi = 61) ∧ ∃ i, i ≤ Al.length ∧ T.length ≤ i ∧ Al.take T.length = T ∧ DownAt D (Al.take i) (4240 * (j + 1))))
theorem switch_append {w W10 w10 : World} {d j bx s' : Nat} {A : GAct} {T : List (List UInt8)} {S S' : Sg} {D D' : Dk} {gi : Int} {sure : Value} {a10 : Option Addr} {c10 : Nat} (h : AppEnds S D T A.L (4240 * j) (S', D', gi) ∧ Fr w (bx :: sure.ownBlock.toList) W10 s' d S' D' ∧ RowAt W10 9 sure (svs T) ∧ RowAt w10 9 (.slice a10 (T ++ A.L).length c10) (svs (T ++ A.L)) ∧ Upd [] W10 w10 ∧
      (∀ g, (Value.slice a10 (T ++ A.L).length c10).ownBlock = some g → W10.heap.size ≤ g) ∧ (∀ g, (Value.slice a10 (T ++ A.L).length c10).ownBlock = some g → g < w10.heap.size) ∧ (A.L.length ≤ 20 ∧ ∀ s ∈ A.L, s.length ≤ 300) ∧ D.cap = 200000 ∧ T.length ≤ 20 * j ∧ D.starts ≤ 20 * j ∧ w10.cell? ⟨bx, 2, none⟩ = some (.int .i64 A.n) ∧ w10.cell? ⟨bx, 3, none⟩ = some (.int .i64 A.m))
    (hh : Head S D T (4240 * j)) : SwitchR w d j bx A T s' sure (.slice a10 (T ++ A.L).length c10) (.int .i64 gi) w10 := by
  obtain ⟨hends, f10, r10, hrow10, huu, hg10, hlt10, hL, hcap, hTl, hst, z2, z3⟩ := h
  have hgrow : Fr w (bx :: (sure.ownBlock.toList ++ (Value.slice a10 (T ++ A.L).length c10).ownBlock.toList)) w10 s' d S' D' := f10.grow huu (fun b hb => by
    simp only [List.mem_cons, List.mem_append, Option.mem_toList] at hb ⊢
    rcases hb with h | h | h
    · exact .inl (.inl h)
    · exact .inl (.inr h)
    · exact .inr ⟨hg10 b h, hlt10 b h⟩)
  have hal : (T ++ A.L).length ≤ 20 * (j + 1) := by rw [List.length_append]; omega
  have r10' := r10.upd huu (by simp)
  have hfl : (∀ x ∈ A.L, x.length ≤ 200) → (flat A.L).length ≤ 4240 := fun h => by have := flat_len_le A.L h; omega
  cases hends with
  | long => exact ⟨S, D, T ++ A.L, a10, c10, 3, rfl, rfl, r10', hrow10, z2, z3, hgrow, hcap, hst, hal, .inl ⟨hh.up, .inr ⟨rfl, hh.mono (by omega)⟩⟩⟩
  | full _ _ hs hd e1 e2 =>
    have := hfl hs
    exact ⟨S', D', T ++ A.L, a10, c10, 0, rfl, rfl, r10', hrow10, z2, z3, hgrow, e1.trans hcap, by omega, hal, .inl ⟨hd.up, .inl ⟨rfl, hd.mono (by omega)⟩⟩⟩
  | sunk _ _ i hs hi hd e1 e2 =>
    have := hfl hs
    refine ⟨S', D', T ++ A.L, a10, c10, 61, rfl, rfl, r10', hrow10, z2, z3, hgrow, e1.trans hcap, by omega, hal, .inr ⟨hd.down, .inr rfl, T.length + i, by rw [List.length_append]; omega, by omega, List.take_left, ?_⟩⟩
    rw [List.take_append, List.take_of_length_le (by omega), show T.length + i - T.length = i by omega]
    exact ⟨hd.holds.imp fun c h => h.imp fun r h => h.mono (by omega), hd.down, hd.swept, hd.fails⟩
/-- the inner loop: the disk is down; or it is up again, with a beginning of the entries -/
def TurnR (w : World) (d j bx : Nat) (A : GAct) (T Al : List (List UInt8)) (i : Nat) (also sp sure t : Value) (wx : World) : Prop :=
  ∃ (k : Nat) (D : Dk) (a : Option Addr) (c : Nat), t = .int .i64 k ∧ D.cap = 200000 ∧ D.starts ≤ 20 * j + k ∧ k ≤ 4 ∧
    ((k ≤ 3 ∧ sure = .slice a T.length c ∧ RowAt wx 9 sure (svs T) ∧ RowAt wx 9 also (svs Al) ∧ wx.cell? ⟨bx, 2, none⟩ = some (.int .i64 A.n) ∧ wx.cell? ⟨bx, 3, none⟩ = some (.int .i64 A.m) ∧
        FrD w (bx :: (sure.ownBlock.toList ++ also.ownBlock.toList)) wx d D ∧ DownAt D (Al.take i) (4240 * (j + 1))) ∨
     (∃ s S, sp = .pointer (some ⟨s, 0, none⟩) ∧ sure = .slice a (Al.take i).length c ∧ RowAt wx 9 sure (svs (Al.take i)) ∧ Fr w sure.ownBlock.toList wx s d S D ∧ Head S D (Al.take i) (4240 * (j + 1))))
set_option maxHeartbeats 8000000 in
theorem segmentsSure_at {w : World} (hG : Glob w) {lv : Value} {A : List GAct} (h : ActsAt w lv A) (hA : A.length ≤ 9223372036854775807) (hs : ∀ x ∈ A, x.L.length ≤ 9223372036854775807 ∧ ∀ s ∈ x.L, s.length ≤ 9223372036854775807)
    (hn : ∀ x ∈ A, Dk.I64 x.n ∧ Dk.I64 x.m ∧ 0 ≤ x.kind ∧ x.kind ≤ 255) :
    Calls Tryz.prog 6 #[lv] w fun e w' => e = .returned (.bool true) ∧ Upd [] w w' := by
  have hgr := (great_at h hA 30 (by omega) hs).mono (R' := fun e w' => e = .returned (.bool (greatA A 30)) ∧ w = w') (fun _ _ h => ⟨h.1, h.2.symm⟩)
  obtain ⟨la, lc, rfl, hcell⟩ := h
  have hlaid := fun (u : World) (hu : Upd [] w u) => laid_at (hG.upd hu (by simp) (by simp))
  have HX := Lib.hid (And.intro hcell (And.intro hn hG))
  clear hcell hs hn
  cases hbig : greatA A 30 with
  | true =>
    rw [hbig] at hgr
    clear hbig
    go_enter Tryz.func6, Tryz.ntmps6
    go_wp2_with (first
      | (go_at_call 7; refine hgr.mono ?_; rintro e _ ⟨rfl, rfl⟩)
      | (go_at_call 8; refine (hlaid _ (Upd.refl _ _)).mono ?_; rintro e w2 ⟨rfl, hu2⟩))
    refine bodyPost_ret (v := .bool true) (by simp [results, Tryz.results6, go_sem]) rfl ?_
    exact ⟨rfl, hu2⟩
  | false =>
    rw [hbig] at hgr
    have hsmall : A.length ≤ 30 ∧ ∀ x ∈ A, x.L.length ≤ 20 ∧ ∀ s ∈ x.L, s.length ≤ 300 := by
      unfold greatA at hbig
      rw [Bool.or_eq_false_iff, List.any_eq_false] at hbig
      refine ⟨by simpa using hbig.2, fun x hx => ?_⟩
      have h1 := hbig.1 x hx
      unfold bigAct at h1
      rw [Bool.not_eq_true, Bool.or_eq_false_iff, List.any_eq_false] at h1
      refine ⟨by simpa using h1.1, fun s hs => ?_⟩
      have := h1.2 s hs
      simpa using this
    have HS := Lib.hid hsmall
    have hA30 := hsmall.1
    clear hbig hsmall hA
    go_enter Tryz.func6, Tryz.ntmps6
    have hD := on_new (Upd.refl [] w) 200000 (by omega)
    go_wp2_with (first
      | (go_at_call 7; refine hgr.mono ?_; rintro e _ ⟨rfl, rfl⟩)
      | (go_at_call 13; refine hD.mono ?_; rintro e w1 ⟨d, rfl, hd1⟩)
      | (go_at_call 14; refine (on_open_good hd1 (rep_new 200000 (by omega)) rfl (by simp) (GlobP.old hG)).mono ?_; rintro e w2 ⟨s, S2, D2, rfl, h2, g2, c2⟩))
    have hf2 : Fr w [] w2 s d S2 D2 := ⟨h2.rebase (Upd.refl [] w2) (fun b hb => by
      rcases hb with hb | hb
      · exact .inl ⟨hb, hb⟩
      · simp at hb), h2.base, by simp⟩
    go_loopw [5, 7, 8] (fun sp sure i wr => SureR w d A.length sp sure i wr) (fun _ _ i _ => A.length - (intOf i).toNat)
    case atStart => exact ⟨0, s, S2, D2, [], none, 0, Nat.zero_le _, rfl, rfl, rfl, RowAt.nil _ _, hf2, g2.head.mono (by omega), c2.1, by rw [c2.2]; exact Nat.le_refl _, by simp⟩
    case round =>
      obtain ⟨wo, hwo⟩ : ∃ wo, wo = wr := ⟨_, rfl⟩
      subst hwo
      obtain ⟨j, s', S, D, T, a, c, hj, rfl, rfl, rfl, hr, hf, hh, hcap, hst, hTl⟩ := hrel
      by_cases hlt : j < A.length
      · have hji : (j : Int) < A.length := by omega
        obtain ⟨g, off, lx, rfl, k0, k1, k2, k3, k4⟩ := HX.out.1 j hlt
        obtain ⟨xa, xc, rfl⟩ := k2.slice
        have hq : ∀ p v, w.cell? p = some v → wo.cell? p = some v := fun p v hp => (hf.base.cell (block_lt_of_cell hp) (by simp)).trans hp
        have q0 := hq _ _ k0
        have q1 := hq _ _ k1
        have q3 := hq _ _ k3
        have q4 := hq _ _ k4
        have HC := Lib.hid (And.intro k2 (And.intro hr (And.intro hf (And.intro hh (And.intro hcap (And.intro hst hTl))))))
        clear k0 k1 k2 k3 k4 hq hr hf hh hcap hst hTl
        go_upto_block 2 with fail
        obtain ⟨W9, hW9⟩ : ∃ W9, wo.alloc (.cells #[.int .u8 A[j].kind, .slice xa A[j].L.length xc, .int .i64 A[j].n, .int .i64 A[j].m] 25) = W9 := ⟨_, rfl⟩
        rw [hW9]
        have hkind := HX.out.2.1 _ (List.getElem_mem hlt)
        generalize hkk : A[j].kind.tmod 14 = kk
        have hu9 : Upd [] wo W9 := by rw [← hW9]; exact (Upd.refl _ _).alloc _
        have hs9 : W9.heap.size = wo.heap.size + 1 := by rw [← hW9]; simp
        have hb9 := heap_alloc_new wo (.cells #[.int .u8 A[j].kind, .slice xa A[j].L.length xc, .int .i64 A[j].n, .int .i64 A[j].m] 25)
        rw [hW9] at hb9
        have c1 : W9.cell? ⟨wo.heap.size, 1, none⟩ = some (.slice xa A[j].L.length xc) := by rw [cell_of_row _ _ _ _ _ _ hb9]; rfl
        have c2 : W9.cell? ⟨wo.heap.size, 2, none⟩ = some (.int .i64 A[j].n) := by rw [cell_of_row _ _ _ _ _ _ hb9]; rfl
        have c3 : W9.cell? ⟨wo.heap.size, 3, none⟩ = some (.int .i64 A[j].m) := by rw [cell_of_row _ _ _ _ _ _ hb9]; rfl
        -- the segments beside the sure entries and the act
        have f9 : Fr w (wo.heap.size :: (Value.slice a T.length c).ownBlock.toList) W9 s' d S D := HC.out.2.2.1.grow hu9 (fun b hb => by
          rcases List.mem_cons.1 hb with rfl | hb
          · exact .inr ⟨Nat.le_refl _, by omega⟩
          · exact .inl hb)
        have r9 := HC.out.2.1.upd hu9 (by simp)
        have hh := HC.out.2.2.2.1
        have HW := Lib.hid (And.intro hW9 (And.intro hkk (And.intro hb9 hs9)))
        clear hW9 hkk hb9
        go_cut [10, 11] (fun also g wx => SwitchR w d j wo.heap.size A[j] T s' (.slice a T.length c) also g wx)
        case first =>
          have plain : ∀ W10 S' D' gi, Fr w (wo.heap.size :: (Value.slice a T.length c).ownBlock.toList) W10 s' d S' D' → Stays w (wo.heap.size :: (Value.slice a T.length c).ownBlock.toList) W9 W10 → D'.cap = D.cap → D'.starts = D.starts →
              ((D'.down = false ∧ ((gi = 0 ∧ Head S' D' T (4240 * (j + 1))) ∨ (gi = 3 ∧ Head S' D' T (4240 * (j + 1))))) ∨ (D'.down = true ∧ gi = 0 ∧ DownAt D' T (4240 * (j + 1)))) → SwitchR w d j wo.heap.size A[j] T s' (.slice a T.length c) (.slice a T.length c) (.int .i64 gi) W10 := by
            intro W10 S' D' gi f10 st hc1 hc2 hcase
            obtain ⟨-, -, -, -, e1, e2, e3⟩ := HC.out
            have hmem : ∀ g, (Value.slice a T.length c).ownBlock = some g → g ∈ wo.heap.size :: (Value.slice a T.length c).ownBlock.toList := by intro g hg; rw [hg]; simp
            refine ⟨S', D', T, a, c, gi, rfl, rfl, st.row r9 hmem, st.row r9 hmem, (st.cell (by simp)).trans c2, (st.cell (by simp)).trans c3, f10.grow (Upd.refl _ _) ?_, by omega, by omega, by omega, ?_⟩
            · intro b hb
              left
              simp only [List.mem_cons, List.mem_append] at hb ⊢
              rcases hb with h | h | h
              · exact .inl h
              · exact .inr h
              · exact .inr h
            · rcases hcase with h | ⟨h1, h2, h3⟩
              · exact .inl h
              · exact .inr ⟨h1, .inl ⟨h2, rfl⟩, T.length, Nat.le_refl _, Nat.le_refl _, List.take_length, by rw [List.take_length]; exact h3⟩
          by_cases k5 : kk = 0 ∨ kk = 1 ∨ kk = 2 ∨ kk = 3 ∨ kk = 4
          · have hL := HS.out.2 _ (List.getElem_mem hlt)
            have hlx := HC.out.1
            have hcap := HC.out.2.2.2.2.1
            have hTl := HC.out.2.2.2.2.2.2
            have hst := HC.out.2.2.2.2.2.1
            have hap := fr_append f9 hh hG (hlx.upd f9.base) (fun h0 g hg => hlx.own h0 g hg) hL.1 hL.2 (by omega) (by omega)
            have hL1 := hL.1
            clear plain
            obtain ⟨iS, zS, z1, z2, z3, z4, z5⟩ := info_string
            have hone : ∀ M : List (List UInt8), ∀ u ∈ svs M, u.oneCell' = true := by
              intro M u hu; unfold svs at hu; obtain ⟨x, _, rfl⟩ := List.mem_map.1 hu; rfl
            have HI := Lib.hid (And.intro z1 (And.intro z2 (And.intro z3 (And.intro z4 (And.intro z5 (And.intro hone (And.intro hL (And.intro hlx (And.intro hcap (And.intro hTl hst))))))))))
            clear z1 z2 z3 z4 z5 hone hL hlx hcap hTl hst
            rcases k5 with rfl | rfl | rfl | rfl | rfl
            all_goals
              go_wp2_with (go_at_call 10; refine hap.mono ?_; rintro e W10 ⟨S', D', gi, hends, rfl, f10, st10⟩)
              have d1 : W10.drew.cell? ⟨wo.heap.size, 1, none⟩ = some (.slice xa A[j].L.length xc) := (st10.cell (p := ⟨wo.heap.size, 1, none⟩) (by simp)).trans c1
              have hmem : ∀ g, (Value.slice a T.length c).ownBlock = some g → g ∈ wo.heap.size :: (Value.slice a T.length c).ownBlock.toList := by intro g hg; rw [hg]; simp
              have r10 := st10.row r9 hmem
              obtain ⟨z1, z2, z3, z4, z5, hone, hL, hlx, hcap, hTl, hst⟩ := HI.out
              have r10d : RowAt W10.drew 9 (.slice a T.length c) (svs T) := r10
              obtain ⟨v9, w9, hrun9, g9⟩ := run_appends Tryz.underlying22 z1 z2 z3 z4 z5 (RowAt.nil W10.drew 9) r10d.reads (hone _) (by simp [svs]; omega) 22
              have ud : Upd [] W10 W10.drew := (Upd.refl [] W10).drew
              have u9 : Upd [] W10.drew w9 := by have := g9.upd; simpa [Value.ownBlock] using this
              obtain ⟨v10, w10, hrun10, g10⟩ := run_appends Tryz.underlying22 z1 z2 z3 z4 z5 g9.row (hlx.upd (f10.base.trans (ud.trans u9 (by simp)) (by simp))).reads (hone _) (by simp [svs]; omega) 22
              have hg9 : ∀ g, v9.ownBlock = some g → W10.heap.size ≤ g := by
                intro g hg'
                rcases g9.own with h | ⟨g', h, h'⟩
                · rw [h] at hg'; simp [Value.ownBlock] at hg'
                · rw [h] at hg'; cases hg'; exact h'
              have u10 : Upd [] W10.drew w10 := g10.updNil u9 (fun g hg' => .inr (hg9 g hg'))
              have hg10 := g10.ge u9.size hg9
              obtain ⟨a9, c9, e9⟩ := g9.slice
              obtain ⟨a10, c10, e10⟩ := g10.slice
              have l9 : (([] : List Value) ++ svs T).length = T.length := by simp [svs]
              have l10 : (([] : List Value) ++ svs T ++ svs A[j].L).length = (T ++ A[j].L).length := by simp [svs]
              have hrow10 : RowAt w10 9 v10 (svs (T ++ A[j].L)) := by
                have := g10.row
                rwa [List.nil_append, show svs T ++ svs A[j].L = svs (T ++ A[j].L) by simp [svs]] at this
              have hlt10 := hrow10.lt
              have d1' : w9.cell? ⟨wo.heap.size, 1, none⟩ = some (.slice xa A[j].L.length xc) := (u9.cell (block_lt_of_cell d1) (by simp)).trans d1
              have d1'' : w10.cell? ⟨wo.heap.size, 1, none⟩ = some (.slice xa A[j].L.length xc) := (u10.cell (block_lt_of_cell d1) (by simp)).trans d1
              rw [l9] at e9
              rw [l10] at e10
              have hz2 := (st10.cell (p := ⟨wo.heap.size, 2, none⟩) (by simp)).trans c2
              have hz3 := (st10.cell (p := ⟨wo.heap.size, 3, none⟩) (by simp)).trans c3
              have huu := ud.trans u10 (by simp)
              have HZ := Lib.hid (And.intro hends (And.intro f10 (And.intro r10 (And.intro hrow10 (And.intro huu (And.intro hg10 (And.intro hlt10 (And.intro hL (And.intro hcap (And.intro hTl (And.intro hst (And.intro ((huu.cell (block_lt_of_cell hz2) (by simp)).trans hz2) ((huu.cell (block_lt_of_cell hz3) (by simp)).trans hz3)))))))))))))
              clear hends f10 st10 r10 hrow10 huu hg10 hlt10 hL hcap hTl hst hz2 hz3 z1 z2 z3 z4 z5 hone hlx r10d g9 g10 u9 u10 hg9 ud l9 l10 hap
              subst e9 e10
              refine wp_region_can [(0, false), (2, false), (3, false), (1, true), (4, true)] 5 (fun u => u.cell? ⟨wo.heap.size, 1, none⟩ = some (.slice xa A[j].L.length xc)) (by kernel_rfl) (by kernel_rfl) (fun _ _ d _ _ h => by cases d <;> exact h) d1 ?_
              simp only [canOps, List.filterMap_cons, List.filterMap_nil, Option.map_some, List.getElem?_toArray, List.getElem?_cons_succ, List.getElem?_cons_zero, List.drop_succ_cons, List.drop_zero]
              iterate 3 (apply can_light rfl; (· intro u hu1; go_simp; try rfl); simp only [Act.put, List.setIfInBounds_toArray, List.set_cons_zero, List.set_cons_succ])
              refine can_acts rfl fun K' hK' => ?_
              refine wp_append_run rfl hrun9 ?_
              refine hK' _ _ d1' ?_
              clear hK' K' hrun9
              simp only [Act.put, List.setIfInBounds_toArray, List.set_cons_zero, List.set_cons_succ]
              refine can_acts rfl fun K' hK' => ?_
              refine wp_append_run rfl hrun10 ?_
              refine hK' _ _ d1'' (can_nil ?_)
              clear hK' K' hrun10
              simp only [Act.put, List.setIfInBounds_toArray, List.set_cons_zero, List.set_cons_succ]
              go_wp2
              go_meet
              exact switch_append HZ.out hh
          · have n0 : (kk == 0) = false := by simp; omega
            have n1 : (kk == 1) = false := by simp; omega
            have n2 : (kk == 2) = false := by simp; omega
            have n3 : (kk == 3) = false := by simp; omega
            have n4 : (kk == 4) = false := by simp; omega
            by_cases k7 : kk = 7
            · subst k7
              have hcr := fr_crash f9 hh A[j].n hkind.1
              clear k5
              go_wp2_with (go_at_call 15; refine hcr.mono ?_; rintro e W10 ⟨rfl, f10, st10, d10⟩)
              go_meet
              exact plain W10 S (D.crash A[j].n) 0 f10 st10 rfl rfl (.inr ⟨rfl, rfl, ⟨d10.holds.imp fun c h => h.imp fun r h => h.mono (by omega), d10.down, d10.swept, d10.fails⟩⟩)
            · have n7 : (kk == 7) = false := by simp; omega
              by_cases k10 : kk = 10
              · subst k10
                clear k5 k7
                have h15 := i64_and15 A[j].n
                have hfa := fr_fail f9 hh (A[j].n % 16) A[j].m (by omega) (by unfold Dk.I64; omega) hkind.2.1
                go_wp2_with (go_at_call 28; refine hfa.mono ?_; rintro e W10 ⟨rfl, D', f10, st10, d10, e1, e2⟩)
                go_meet
                exact plain W10 S D' 0 f10 st10 e1 e2 (.inl ⟨d10.up, .inl ⟨rfl, d10.mono (by omega)⟩⟩)
              · have n10 : (kk == 10) = false := by simp; omega
                clear k5 k7 k10
                go_wp2
                go_meet
                exact plain W9 S D 0 f9 ⟨fun _ _ => rfl, Nat.le_refl _⟩ rfl rfl (.inl ⟨hh.up, .inl ⟨rfl, hh.mono (by omega)⟩⟩)
        case rest =>
          obtain ⟨S', D', Al, a1, cc1, gi, rfl, rfl, r1, r2, y2, y3, f1, hcap, hst, hal, hcase⟩ := hcut
          have hjn := hj
          have HY := Lib.hid (And.intro r1 (And.intro r2 (And.intro y2 (And.intro y3 (And.intro f1 (And.intro hcap (And.intro hst (And.intro hal c1))))))))
          clear c1 c2 c3 f9 r9 hh hu9 hs9 HW hkind
          rcases hcase with ⟨hup, ⟨rfl, hh'⟩ | ⟨rfl, hh'⟩⟩ | ⟨hdn, hg, i, hi1, hi2, hi3, hd⟩
          · have hu1 := fr_up f1
            rw [hup] at hu1
            have hn1 := fr_count f1 hh'
            clear r1 r2 y2 y3 f1 hcap hst hal hup
            have HH := Lib.hid hh'
            clear hh'
            go_wp2_with (first
              | (go_at_call 29; refine hu1.mono ?_; rintro e _ ⟨rfl, rfl⟩)
              | (go_at_call 12; refine hn1.mono ?_; rintro e _ ⟨rfl, rfl⟩))
            go_roundw
            case rel =>
              obtain ⟨r1, r2, y2, y3, f1, hcap, hst, hal, c1⟩ := HY.out
              exact ⟨j + 1, s', S', D', Al, a1, cc1, by omega, by go_num, rfl, rfl, r2, f1.grow (Upd.refl _ _) (fun b hb => .inl (by simp only [List.mem_cons, List.mem_append]; exact .inr (.inr hb))), HH.out, hcap, by omega, by omega⟩
            case measure => simp [intOf]; omega
          · have hu1 := fr_up f1
            rw [hup] at hu1
            have hn1 := fr_count f1 hh'
            clear r1 r2 y2 y3 f1 hcap hst hal hup
            have HH := Lib.hid hh'
            clear hh'
            go_wp2_with (first
              | (go_at_call 29; refine hu1.mono ?_; rintro e _ ⟨rfl, rfl⟩)
              | (go_at_call 12; refine hn1.mono ?_; rintro e _ ⟨rfl, rfl⟩))
            go_roundw
            case rel =>
              obtain ⟨r1, r2, y2, y3, f1, hcap, hst, hal, c1⟩ := HY.out
              have hTl := HC.out.2.2.2.2.2.2
              exact ⟨j + 1, s', S', D', T, a, c, by omega, by go_num, rfl, rfl, r1, f1.grow (Upd.refl _ _) (fun b hb => .inl (by simp only [List.mem_cons, List.mem_append]; exact .inr (.inl hb))), HH.out, hcap, by omega, by omega⟩
            case measure => simp [intOf]; omega
          · have hu1 := frd_up f1.disk
            rw [hdn] at hu1
            have hfd := f1.disk
            have hkd := HX.out.2.1 _ (List.getElem_mem hlt)
            have HD := Lib.hid (And.intro hd (And.intro hi3 (And.intro hfd hkd)))
            clear r1 r2 y2 y3 f1 hcap hst hal hdn hd hi3 hfd hkd
            have h3 := i64_and3
            have start : ∀ a3 c3, (∀ g, (Value.slice a3 T.length c3).ownBlock = some g → (Value.slice a T.length c).ownBlock = some g ∨ (Value.slice a1 Al.length cc1).ownBlock = some g) → RowAt wc 9 (.slice a3 T.length c3) (svs T) →
                TurnR w d j wo.heap.size A[j] T Al i (.slice a1 Al.length cc1) (.pointer (some ⟨s', 0, none⟩)) (.slice a3 T.length c3) (.int .i64 0) wc := by
              intro a3 c3 hown hr3
              obtain ⟨r1, r2, y2, y3, f1, hcap, hst, hal, c1⟩ := HY.out
              obtain ⟨hd, hi3, hfd, hkd⟩ := HD.out
              refine ⟨0, D', a3, c3, rfl, hcap, by omega, by omega, .inl ⟨by omega, rfl, hr3, r2, y2, y3, hfd.grow (Upd.refl _ _) (fun b hb => .inl ?_), hd⟩⟩
              simp only [List.mem_cons, List.mem_append, Option.mem_toList] at hb ⊢
              rcases hb with h | h | h
              · exact .inl h
              · exact .inr (hown b h)
              · exact .inr (.inr h)
            have HS0 := Lib.hid start
            clear start
            have hi1i : ¬ ((Al.length : Int) < i) := by omega
            have hi2i : ¬ ((i : Int) < T.length) := by omega
            have lT2 : (Al.take i).length = i := by rw [List.length_take]; omega
            have hst := HY.out.2.2.2.2.2.2.1
            have hal := HY.out.2.2.2.2.2.2.2.1
            rcases hg with ⟨rfl, hAl⟩ | rfl
            all_goals
              go_wp2_with (go_at_call 29; refine hu1.mono ?_; rintro e _ ⟨rfl, rfl⟩)
              go_loopw [5, 7, 12] (fun sp sure t wx => TurnR w d j wo.heap.size A[j] T Al i (.slice a1 Al.length cc1) sp sure t wx) (fun _ _ t _ => 20 - (intOf t).toNat)
              case atStart => first
                | (refine HS0.out a c (fun g h => .inl h) HY.out.1)
                | (subst hAl; exact HS0.out a1 cc1 (fun g h => .inr h) HY.out.2.1)
              case round =>
                obtain ⟨k, D2, a2, cc2, rfl, hcap2, hst2, hk4, hcase2⟩ := hrel
                have hk20 : (k : Int) < 20 := by omega
                rcases hcase2 with ⟨hk3, rfl, q1, q2, q3, q4, fd, hdn2⟩ | ⟨s2, S2', rfl, rfl, q1, f2, hh2⟩
                · have hu2 := frd_up fd
                  rw [hdn2.down] at hu2
                  have hsta := frd_start fd hdn2 (by omega)
                  have hG := HX.out.2.2
                  have hkd := HD.out.2.2.2
                  have hTT : (Al.take i).length ≤ 4000 := by omega
                  have HQ := Lib.hid (And.intro q1 (And.intro q2 (And.intro q3 q4)))
                  have HT := Lib.hid (And.intro hG (And.intro hkd hTT))
                  clear q1 q2 q3 q4 hG hkd hTT hdn2 fd
                  by_cases hk3' : k < 3
                  · have hk3i : (k : Int) < 3 := by omega
                    go_wp2_with (first
                      | (go_at_call 29; refine hu2.mono ?_; rintro e _ ⟨rfl, rfl⟩)
                      | (go_at_call 25; refine hsta.mono ?_; rintro e W2 ⟨rfl, D3, fd3, st3, up3, nf3, e1, e2⟩
                         have z2 := (st3.cell (p := ⟨wo.heap.size, 2, none⟩) (by simp)).trans HQ.out.2.2.1
                         have z3 := (st3.cell (p := ⟨wo.heap.size, 3, none⟩) (by simp)).trans HQ.out.2.2.2
                         have hfail := fun x => frd_fail fd3 up3 (x % 4) A[j].m (by omega) (by unfold Dk.I64; omega) HT.out.2.1.2.1)
                      | (go_at_call 28; refine (hfail _).mono ?_; rintro e W3 ⟨rfl, D4, fd4, st4, up4, e3, e4⟩)
                      | (go_at_call 14; refine Stop.here ?_))
                    unfold Stop
                    have hsz := st3.trans st4
                    have hop := frd_open fd4 up4 HT.out.2.2 HT.out.1
                    have hst4 : D4.starts ≤ 20 * j + (k + 1) := by omega
                    have hcap4 : D4.cap = 200000 := by omega
                    have hnf : D4.fails = true → k + 1 ≤ 3 := fun _ => by omega
                    clear st3 st4 up3 nf3 e1 e2 e3 e4 fd3 fd4 up4 hfail z2 z3 hk3i hk3'
                    unfold FrOpen at hop
                    have HO := Lib.hid (And.intro hsz (And.intro hst4 (And.intro hcap4 hnf)))
                    clear hsz hst4 hcap4 hnf
                    refine hop.mono ?_
                    clear hop
                    rintro e W4 (⟨rfl, hfl, D5, fd5, st5, dn5, g1, g2'⟩ | ⟨s5, S5, D5, rfl, f5, st5, hh5, g1, g2'⟩)
                    · have HP := Lib.hid (And.intro hfl (And.intro fd5 (And.intro st5 (And.intro dn5 (And.intro g1 g2')))))
                      clear hfl fd5 st5 dn5 g1 g2'
                      go_wp2
                      go_roundw
                      case rel =>
                        obtain ⟨hfl, fd5, st5, dn5, g1, g2'⟩ := HP.out
                        obtain ⟨hsz, hst4, hcap4, hnf⟩ := HO.out
                        obtain ⟨q1, q2, q3, q4⟩ := HQ.out
                        have hk' := hnf hfl
                        have hall := hsz.trans st5
                        refine ⟨k + 1, D5, a2, cc2, by go_num, by omega, by omega, by omega, .inl ⟨hk', rfl, hall.row q1 ?_, hall.row q2 ?_, (hall.cell (by simp)).trans q3, (hall.cell (by simp)).trans q4, fd5, dn5⟩⟩
                        · intro g hg; simp only [List.mem_cons, List.mem_append, Option.mem_toList]; exact .inr (.inl hg)
                        · intro g hg; simp only [List.mem_cons, List.mem_append, Option.mem_toList]; exact .inr (.inr hg)
                      case measure => simp [intOf]; omega
                    · have hn5 := fr_count f5 hh5
                      have hg5 := fr_get f5 hh5
                      rw [lT2] at hn5 hg5
                      have hall := HO.out.1.trans st5
                      have q2' : StrsAt W4 (.slice a1 Al.length cc1) Al := RowAt.strs (hall.row HQ.out.2.1 (by intro g hg; simp only [List.mem_cons, List.mem_append, Option.mem_toList]; exact .inr (.inr hg)))
                      have HP := Lib.hid (And.intro f5 (And.intro hh5 (And.intro g1 (And.intro g2' q2'))))
                      clear f5 hh5 g1 g2' q2' hall st5
                      first
                        | (have h9 := congrArg List.length hAl
                           have hi1t : ¬ ((T.length : Int) < i) := by omega
                           clear h9)
                        | skip
                      go_wp2_with (first
                        | (go_at_call 12; refine hn5.mono ?_; rintro e _ ⟨rfl, rfl⟩)
                        | (go_at_call 9; refine Stop.here ?_))
                      unfold Stop
                      refine hg5.mono ?_
                      rintro e W6 ⟨_, rfl, r6, u6, ho6, a6, c6, rfl⟩
                      have l6 : (svs (Al.take i)).length = i := by unfold svs; rw [List.length_map, lT2]
                      rw [l6] at r6 ho6 ⊢
                      have lt6 := r6.lt
                      obtain ⟨v', hto, hst', a', c', e'⟩ := (HP.out.2.2.2.2.upd u6).to i hi1
                      subst e'
                      try simp only [hAl] at hto
                      have htx := texts_at (.inl (RowAt.strs r6)) (.inl hst') (by omega)
                      rw [show decide (Al.take i = Al.take i) = true by simp] at htx
                      have HR6 := Lib.hid (And.intro r6 (And.intro u6 (And.intro ho6 lt6)))
                      clear r6 u6 ho6 lt6 hst' hn5 hg5
                      go_wp2_with (go_at_call 26; refine htx.mono ?_; rintro e W7 ⟨rfl, u7⟩)
                      go_roundw
                      case rel =>
                        obtain ⟨f5, hh5, g1, g2', -⟩ := HP.out
                        obtain ⟨r6, u6, ho6, lt6⟩ := HR6.out
                        obtain ⟨hsz, hst4, hcap4, hnf⟩ := HO.out
                        have hu67 := u6.trans u7 (by simp)
                        refine ⟨k + 1, D5, a6, c6, by go_num, by omega, by omega, by omega, .inr ⟨s5, S5, rfl, by rw [lT2], r6.upd u7 (by simp), f5.grow hu67 (fun b hb => .inr ?_), hh5⟩⟩
                        rw [Option.mem_toList] at hb
                        exact ⟨ho6 b hb, Nat.lt_of_lt_of_le (lt6 b hb) u7.size⟩
                      case measure => simp [intOf]; omega
                  · have hk3i : ¬ (k : Int) < 3 := by omega
                    go_wp2_with (first
                      | (go_at_call 29; refine hu2.mono ?_; rintro e _ ⟨rfl, rfl⟩)
                      | (go_at_call 25; refine hsta.mono ?_; rintro e W3 ⟨rfl, D4, fd4, hsz, up4, nf4, e1, e2⟩)
                      | (go_at_call 14; refine Stop.here ?_))
                    unfold Stop
                    have hop := frd_open fd4 up4 HT.out.2.2 HT.out.1
                    have hst4 : D4.starts ≤ 20 * j + (k + 1) := by omega
                    have hcap4 : D4.cap = 200000 := by omega
                    have hnf : D4.fails = true → k + 1 ≤ 3 := fun h => by rw [nf4] at h; cases h
                    clear up4 nf4 e1 e2 fd4 hk3i hk3'
                    unfold FrOpen at hop
                    have HO := Lib.hid (And.intro hsz (And.intro hst4 (And.intro hcap4 hnf)))
                    clear hsz hst4 hcap4 hnf
                    refine hop.mono ?_
                    clear hop
                    rintro e W4 (⟨rfl, hfl, D5, fd5, st5, dn5, g1, g2'⟩ | ⟨s5, S5, D5, rfl, f5, st5, hh5, g1, g2'⟩)
                    · have HP := Lib.hid (And.intro hfl (And.intro fd5 (And.intro st5 (And.intro dn5 (And.intro g1 g2')))))
                      clear hfl fd5 st5 dn5 g1 g2'
                      go_wp2
                      go_roundw
                      case rel =>
                        obtain ⟨hfl, fd5, st5, dn5, g1, g2'⟩ := HP.out
                        obtain ⟨hsz, hst4, hcap4, hnf⟩ := HO.out
                        obtain ⟨q1, q2, q3, q4⟩ := HQ.out
                        have hk' := hnf hfl
                        have hall := hsz.trans st5
                        refine ⟨k + 1, D5, a2, cc2, by go_num, by omega, by omega, by omega, .inl ⟨hk', rfl, hall.row q1 ?_, hall.row q2 ?_, (hall.cell (by simp)).trans q3, (hall.cell (by simp)).trans q4, fd5, dn5⟩⟩
                        · intro g hg; simp only [List.mem_cons, List.mem_append, Option.mem_toList]; exact .inr (.inl hg)
                        · intro g hg; simp only [List.mem_cons, List.mem_append, Option.mem_toList]; exact .inr (.inr hg)
                      case measure => simp [intOf]; omega
                    · have hn5 := fr_count f5 hh5
                      have hg5 := fr_get f5 hh5
                      rw [lT2] at hn5 hg5
                      have hall := HO.out.1.trans st5
                      have q2' : StrsAt W4 (.slice a1 Al.length cc1) Al := RowAt.strs (hall.row HQ.out.2.1 (by intro g hg; simp only [List.mem_cons, List.mem_append, Option.mem_toList]; exact .inr (.inr hg)))
                      have HP := Lib.hid (And.intro f5 (And.intro hh5 (And.intro g1 (And.intro g2' q2'))))
                      clear f5 hh5 g1 g2' q2' hall st5
                      first
                        | (have h9 := congrArg List.length hAl
                           have hi1t : ¬ ((T.length : Int) < i) := by omega
                           clear h9)
                        | skip
                      go_wp2_with (first
                        | (go_at_call 12; refine hn5.mono ?_; rintro e _ ⟨rfl, rfl⟩)
                        | (go_at_call 9; refine Stop.here ?_))
                      unfold Stop
                      refine hg5.mono ?_
                      rintro e W6 ⟨_, rfl, r6, u6, ho6, a6, c6, rfl⟩
                      have l6 : (svs (Al.take i)).length = i := by unfold svs; rw [List.length_map, lT2]
                      rw [l6] at r6 ho6 ⊢
                      have lt6 := r6.lt
                      obtain ⟨v', hto, hst', a', c', e'⟩ := (HP.out.2.2.2.2.upd u6).to i hi1
                      subst e'
                      try simp only [hAl] at hto
                      have htx := texts_at (.inl (RowAt.strs r6)) (.inl hst') (by omega)
                      rw [show decide (Al.take i = Al.take i) = true by simp] at htx
                      have HR6 := Lib.hid (And.intro r6 (And.intro u6 (And.intro ho6 lt6)))
                      clear r6 u6 ho6 lt6 hst' hn5 hg5
                      go_wp2_with (go_at_call 26; refine htx.mono ?_; rintro e W7 ⟨rfl, u7⟩)
                      go_roundw
                      case rel =>
                        obtain ⟨f5, hh5, g1, g2', -⟩ := HP.out
                        obtain ⟨r6, u6, ho6, lt6⟩ := HR6.out
                        obtain ⟨hsz, hst4, hcap4, hnf⟩ := HO.out
                        have hu67 := u6.trans u7 (by simp)
                        refine ⟨k + 1, D5, a6, c6, by go_num, by omega, by omega, by omega, .inr ⟨s5, S5, rfl, by rw [lT2], r6.upd u7 (by simp), f5.grow hu67 (fun b hb => .inr ?_), hh5⟩⟩
                        rw [Option.mem_toList] at hb
                        exact ⟨ho6 b hb, Nat.lt_of_lt_of_le (lt6 b hb) u7.size⟩
                      case measure => simp [intOf]; omega
                · have hu2 := fr_up f2
                  rw [hh2.up] at hu2
                  have HQ := Lib.hid (And.intro q1 (And.intro f2 hh2))
                  clear q1 f2 hh2
                  go_wp2_with (go_at_call 29; refine hu2.mono ?_; rintro e _ ⟨rfl, rfl⟩)
                  go_roundw
                  case rel =>
                    obtain ⟨q1, f2, hh2⟩ := HQ.out
                    exact ⟨j + 1, s2, S2', D2, Al.take i, a2, cc2, by omega, by go_num, rfl, (by rw [List.length_take]; congr 1; first | omega | (have h9 := congrArg List.length hAl; omega)), q1, f2, hh2, hcap2, by omega, (by rw [List.length_take]; omega)⟩
                  case measure => simp [intOf]; omega
      · obtain rfl : j = A.length := by omega
        have hji : ¬ (A.length : Int) < A.length := by omega
        have hb := hf.base
        clear hr hf hh
        go_wp2_with (go_at_call 8; refine (hlaid _ hb).mono ?_; rintro e w9 ⟨rfl, hu9⟩)
        refine bodyPost_ret (v := .bool true) (by simp [results, Tryz.results6, go_sem]) rfl ?_
        exact ⟨rfl, hb.trans hu9 (by simp)⟩
end Go.Proofs.YtogkdoooimcemaaGreatDoor

/- RowSure -/
namespace Go.Proofs.YtogkdoooimcemaaGreatDoor
open Go Go.ChangeShapes Go.WideShapes Go.ChangeAt Go.RowKit

theorem list4 {l : List Value} (h : l.length = 4) : ∃ a b c d, l = [a, b, c, d] := by
  match l, h with
  | [a, b, c, d], _ => exact ⟨a, b, c, d, rfl⟩
theorem range_i64 {n : Int} (h : (Lit.int .i64 n).wf = true) : Dk.I64 n := by
  unfold Dk.I64
  simp only [Lit.wf, Bool.and_eq_true, decide_eq_true_eq] at h
  have h1 := h.1
  have h2 := h.2
  change -9223372036854775808 ≤ n at h1
  change n ≤ 9223372036854775807 at h2
  omega
/-- one act that came in -/
theorem act_in {H : Type} {enc : TypeId × Value → H} {w : World} {base : Nat} {sp : Nat → Bool} {held : Bool} {fuel : Nat} {cs : List Value} {x : DataW H × List MemPlace}
    (h : DataW.trod enc Tryz.prog w base sp held fuel 25 cs = some x) (hl : cs.length = 4) :
    ∃ (A : GAct) (lv : Value), cs = [.int .u8 A.kind, lv, .int .i64 A.n, .int .i64 A.m] ∧ StrsIn w lv A.L ∧ (A.L.length ≤ 9223372036854775807 ∧ ∀ s ∈ A.L, s.length ≤ 9223372036854775807) ∧ Dk.I64 A.n ∧ Dk.I64 A.m ∧ 0 ≤ A.kind ∧ A.kind ≤ 255 := by
  obtain ⟨y0, y1, y2, y3, n, hx, _, h0, h1, h2, h3⟩ := Go.Joins.trod_struct4 Tryz.underlying25 h
  obtain ⟨c0, c1, c2, c3, rfl⟩ := list4 hl
  have cu : Tryz.prog.cellsOf 5 = 1 := by kernel_rfl
  have cl : Tryz.prog.cellsOf 22 = 1 := by kernel_rfl
  have ci : Tryz.prog.cellsOf 3 = 1 := by kernel_rfl
  change DataW.trod enc _ w base sp held n 5 (([c0, c1, c2, c3].drop 0).take (Tryz.prog.cellsOf 5)) = _ at h0
  change DataW.trod enc _ w base sp held n 22 (([c0, c1, c2, c3].drop 1).take (Tryz.prog.cellsOf 22)) = _ at h1
  change DataW.trod enc _ w base sp held n 3 (([c0, c1, c2, c3].drop 2).take (Tryz.prog.cellsOf 3)) = _ at h2
  change DataW.trod enc _ w base sp held n 3 (([c0, c1, c2, c3].drop 3).take (Tryz.prog.cellsOf 3)) = _ at h3
  rw [cu] at h0
  rw [cl] at h1
  rw [ci] at h2 h3
  have k0 : DataW.trod enc Tryz.prog w base sp held n 5 [c0] = some y0 := h0
  have k1 : DataW.trod enc Tryz.prog w base sp held n 22 [c1] = some y1 := h1
  have k2 : DataW.trod enc Tryz.prog w base sp held n 3 [c2] = some y2 := h2
  have k3 : DataW.trod enc Tryz.prog w base sp held n 3 [c3] = some y3 := h3
  obtain ⟨kk, e0, _, w0⟩ := DataW.trod_int Tryz.underlying5 k0
  obtain ⟨nn, e2, _, w2⟩ := DataW.trod_int Tryz.underlying3 k2
  obtain ⟨mm, e3, _, w3⟩ := DataW.trod_int Tryz.underlying3 k3
  simp only [List.cons.injEq, and_true] at e0 e2 e3
  subst e0 e2 e3
  have hsl : ∃ a l c, c1 = .slice a l c := by
    rcases DataW.trod_slice Tryz.underlying22 k1 with ⟨e, _⟩ | ⟨a, len, cap, _, _, _, _, e, _⟩
    · simp only [List.cons.injEq, and_true] at e; exact ⟨_, _, _, e⟩
    · simp only [List.cons.injEq, and_true] at e; exact ⟨_, _, _, e⟩
  obtain ⟨a, l, c, rfl⟩ := hsl
  obtain ⟨L, hs, hl1, hl2⟩ := strs_in k1
  exact ⟨⟨kk, L, nn, mm⟩, _, rfl, hs, ⟨hl1, hl2⟩, range_i64 w2, range_i64 w3, (bounds_u8 w0).1, (bounds_u8 w0).2⟩
/-- acts that came in -/
theorem acts_in {H : Type} {enc : TypeId × Value → H} {w : World} {base : Nat} {sp : Nat → Bool} {held : Bool} {a0 : Option Addr} {len cap fuel : Nat} {x : DataW H × List MemPlace}
    (h : DataW.trod enc Tryz.prog w base sp held fuel 26 [.slice a0 len cap] = some x) : ∃ A : List GAct, ActsAt w (.slice a0 len cap) A ∧ A.length ≤ 9223372036854775807 ∧ (∀ x ∈ A, x.L.length ≤ 9223372036854775807 ∧ ∀ s ∈ x.L, s.length ≤ 9223372036854775807) ∧ (∀ x ∈ A, Dk.I64 x.n ∧ Dk.I64 x.m ∧ 0 ≤ x.kind ∧ x.kind ≤ 255) := by
  rcases Go.Deep.open_slice Tryz.underlying26 h with ⟨hcs, _⟩ | ⟨a, l, c, m, n, D, Pl, hcs, _, hl, hm, hmm, _, hel⟩
  · simp at hcs
    obtain ⟨rfl, rfl, rfl⟩ := hcs
    exact ⟨[], ⟨none, 0, rfl, fun j hj => by simp at hj⟩, by simp, by simp, by simp⟩
  · simp at hcs
    obtain ⟨rfl, rfl, rfl⟩ := hcs
    unfold maxLen at hm
    have h4 : Tryz.prog.cellsOf 25 = 4 := by kernel_rfl
    rw [h4] at hel
    have each : ∀ j, ∃ A : GAct, j < len → ∃ lv, (∀ i, i < 4 → w.cell? ((a.add (j * 4)).add i) = ([.int .u8 A.kind, lv, .int .i64 A.n, .int .i64 A.m] : List Value)[i]?) ∧ StrsIn w lv A.L ∧ (A.L.length ≤ 9223372036854775807 ∧ ∀ s ∈ A.L, s.length ≤ 9223372036854775807) ∧ Dk.I64 A.n ∧ Dk.I64 A.m ∧ 0 ≤ A.kind ∧ A.kind ≤ 255 := by
      intro j
      by_cases hj : j < len
      · obtain ⟨cs', hcs', ht⟩ := hel j (by rw [hmm]; split <;> omega)
        obtain ⟨_, hlen, hcell⟩ := World.cells?_some hcs'
        obtain ⟨A, lv, rfl, r1, r2, r3, r4, r5, r6⟩ := act_in ht hlen
        exact ⟨A, fun _ => ⟨lv, hcell, r1, r2, r3, r4, r5, r6⟩⟩
      · exact ⟨⟨0, [], 0, 0⟩, fun h => absurd h hj⟩
    obtain ⟨f, hf⟩ := Classical.axiomOfChoice each
    have hlen : ((List.range len).map f).length = len := by simp
    refine ⟨(List.range len).map f, ⟨some a, cap, by rw [hlen], fun j hj => ?_⟩, by rw [hlen]; omega, fun y hy => ?_, fun y hy => ?_⟩
    · rw [hlen] at hj
      obtain ⟨lv, hcell, r1, -⟩ := hf j hj
      have hget : ((List.range len).map f)[j]'(by rw [hlen]; exact hj) = f j := by simp
      obtain ⟨b, off, spot⟩ := a
      have hspot : spot = none := by
        obtain ⟨lv0, hc0, -⟩ := hf 0 (by omega)
        have := hc0 0 (by omega)
        simpa [Addr.add] using World.cell?_spot this
      subst hspot
      rw [hget]
      have c0 := hcell 0 (by omega)
      have c1 := hcell 1 (by omega)
      have c2 := hcell 2 (by omega)
      have c3 := hcell 3 (by omega)
      rw [addr_add, addr_add] at c0 c1 c2 c3
      exact ⟨b, off, lv, rfl, c0, c1, r1, c2, c3⟩
    · obtain ⟨j, hj, rfl⟩ := List.mem_map.1 hy
      obtain ⟨lv, _, _, r2, _⟩ := hf j (List.mem_range.1 hj)
      exact r2
    · obtain ⟨j, hj, rfl⟩ := List.mem_map.1 hy
      obtain ⟨lv, _, _, _, r3, r4, r5, r6⟩ := hf j (List.mem_range.1 hj)
      exact ⟨r3, r4, r5, r6⟩
set_option maxRecDepth 100000 in
theorem sure_lifted (os : Os) (started : os.Started) (H : Type) (enc : TypeId × Value → H) :
    ReturnsInHanded {} Tryz.checked os 6 .any (fun w args => (Rows.segmentsSureSpec.pre enc Tryz.prog Tryz.f6 [] false w args ∧ laidMetH Tryz.prog laid2 w) ∧ sizedMet enc Tryz.prog Tryz.f6 (OpenSpec.ofChange Rows.segmentsSureSpec) false w args)
      (Rows.segmentsSureSpec.post enc Tryz.prog Tryz.f6 false true false false) := by
  refine returnsInHanded_of_change_and (C := Tryz.checked) (X := fun w _ => laidMetH Tryz.prog laid2 w) (fun _ _ _ hh h => h.of_heap hh) rowOwn started (by kernel_rfl) Tryz.func6
    (ChangeSpec.witness_shaped (enc := enc) (C := Tryz.checked) (os := os) (X := fun w _ => laidMetH Tryz.prog laid2 w) false (World.doorLaid Tryz.prog 400 os) #[.slice none 0 0] 8 rfl (World.shaped_of_RefB (by kernel_rfl) (by kernel_rfl)) (by kernel_rfl) (by kernel_rfl) (by kernel_rfl) (door_met os _)) ?_
  intro W base args ds gs before hval0 hW _ _ hL _
  have hval : ∀ (j : Nat) t v, Tryz.f6.params[j]? = some t → args[j]? = some v → Value.okWide Tryz.prog W .any base t v := hval0
  have hW' := hW
  obtain ⟨p, q, hA0, hV, rfl, hfz, hnd⟩ := hW
  have hA : DataW.TrodAll enc Tryz.prog W 0 (fun _ => true) true Tryz.f6.params.toList args.toList ds p := hA0
  rw [Tryz.params6] at hA hval
  obtain ⟨v0, vs0, d0, ds0, p0, q0, hargs, rfl, rfl, h0, r0⟩ := trodAll_cons hA
  obtain ⟨rfl, rfl, rfl⟩ := trodAll_nil r0
  obtain rfl : args = #[v0] := by cases args; simp_all
  obtain ⟨rfl, rfl⟩ := trodVars_none hV
  obtain ⟨s0, len0, cap0, rfl⟩ := okWide_slice Tryz.underlying26 (hval 0 26 v0 rfl rfl)
  have k0 := h0
  have lt0 : ∀ x ∈ p0, x.block < W.heap.size := by obtain ⟨m, hm⟩ := k0; exact DataW.trod_lt m _ _ _ hm
  obtain ⟨A, hs, hl1, hl2, hl3⟩ : ∃ A : List GAct, ActsAt W (.slice s0 len0 cap0) A ∧ A.length ≤ 9223372036854775807 ∧ (∀ x ∈ A, x.L.length ≤ 9223372036854775807 ∧ ∀ s ∈ x.L, s.length ≤ 9223372036854775807) ∧ (∀ x ∈ A, Dk.I64 x.n ∧ Dk.I64 x.m ∧ 0 ≤ x.kind ∧ x.kind ≤ 255) := by
    obtain ⟨fuel, hf⟩ := h0
    exact acts_in hf
  clear hA0 hval0
  refine (segmentsSure_at (glob_of_laid hL) hs hl1 hl2 hl3).mono fun e W' ⟨he, hu⟩ => ?_
  subst he
  have bel := hu.below
  exact ⟨_, rfl, _, _, _, [], _, [], hW', trodAll_mk1 (shut_bool Tryz.underlying4 _), (trodAll_cons_mk (Below.trod rowLaidOut (by kernel_rfl) (of_decide_eq_true (by kernel_rfl)) k0 bel lt0) trodAll_mk0), rfl, bel.frame _, fun h => by cases h⟩

theorem segmentsSure_holds : Rows.SegmentsSureSaid :=
  OpenClaim.holds_of_wide 6 Tryz.f6 rfl rfl rfl rfl rfl rfl rfl ⟨rfl, rfl, rfl, rfl, rfl⟩ rfl rfl rfl rfl rfl (by kernel_rfl) Tryz.func6 (by kernel_rfl)
    (of_decide_eq_true (by kernel_rfl)) (by unfold Func.isWrapper; first | (rw [if_pos (by decide +kernel)]; kernel_rfl) | (rw [if_neg (by decide +kernel)]; exact ⟨rfl, rfl⟩))
    (fun os started H enc _ => sure_lifted os started H enc)

theorem segmentsSure_proved : Rows.SegmentsSureCardSaid :=
  Claim7.holds_tied_plain_at .later [] [.data, .data] true (true, "cf38ee7f59704056a7cbd310c164ce7835a297e8b81f7fb64b18e6352d3b7c00") false
    segmentsSure_holds (fun _ h => by cases h) (by kernel_rfl) (fun _ h => by cases h) segmentsSure_row_tie rfl ⟨rfl, rfl⟩ (by kernel_rfl) rfl
    (fun f fn hf hfn => by
      obtain rfl : f = 6 := Option.some.inj ((show Tryz.prog.funcNamed "speculum/speculumlaw13.SegmentsSure" = some 6 by kernel_rfl).symm.trans hf) |>.symm
      obtain rfl : fn = Tryz.f6 := (Option.some.inj (Tryz.func6.symm.trans hfn)).symm
      exact ⟨by kernel_rfl, fun j t ht => by
        rw [Tryz.params6] at ht
        have h3 : t = 26 := by
          rcases j with _ | j
          · simpa using ht.symm
          · simp at ht
        subst h3
        exact (show Tryz.prog.wantsStandIn 26 = false by kernel_rfl)⟩)
    (by kernel_rfl)
#print axioms segmentsSure_proved
end Go.Proofs.YtogkdoooimcemaaGreatDoor
