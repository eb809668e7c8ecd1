/- Segments.Cut of as many as there are or fewer: the walk. Conditions: the steps may be done.
  A string's bytes appended to a slice of bytes. Conditions: short.
  strings.Builder: copyCheck, WriteString, Len, with the blocks that turn. Conditions: those of each lemma.
  strings.Builder.String. Conditions: the builder holds at least one byte.
  plan's append step. Conditions: its boxes hold what it captured, its builder the text. -/
import Derived.Test.YtogkdoooimcemaaGreatDoorC12
import Derived.Test.YtogkdoooimcemaaGreatDoorC03
import Derived.Lib.AppendStr
import Derived.Test.YtogkdoooimcemaaGreatDoorC07
import Derived.Test.YtogkdoooimcemaaGreatDoorC02
import Derived.Test.YtogkdoooimcemaaGreatDoorC05
import Derived.Shelf.Strings.Builder1
import Derived.Shelf.Strings.BuilderF
import Derived.Test.YtogkdoooimcemaaGreatDoorC08
/- Seg12 -/
namespace Go.Proofs.YtogkdoooimcemaaGreatDoor
open Go Go.RowKit
open Go.ChangeMaps (setBlock)
set_option maxRecDepth 20000

/-- cutting the rows: the struct's cells behind the two stores -/
theorem SAt.cutTo {w : World} {s d : Nat} {S : Sg} {ev nv : Value} (h : SAt w s d S ev nv) {x1 x2 : Option Addr} {c1 c2 : Nat} (he : ev = .slice x1 S.entries.length c1) (hv : nv = .slice x2 S.entries.length c2) (m : Nat) (hm : m ≤ S.entries.length) :
    SAt ((w.setCell ⟨s, 1, none⟩ (.slice x1 m m)).setCell ⟨s, 2, none⟩ (.slice x2 m m)) s d { S with entries := S.entries.take m, ends := S.ends.take m } (.slice x1 m m) (.slice x2 m m) := by
  have e1 := heap_setCell_same w s 1 _ _ (.slice x1 m m) h.blk
  have e2 := heap_setCell_same _ s 2 _ _ (.slice x2 m m) e1
  have fin : ∀ b, b ≠ s → ((w.setCell ⟨s, 1, none⟩ (.slice x1 m m)).setCell ⟨s, 2, none⟩ (.slice x2 m m)).heap[b]? = w.heap[b]? := fun b hb =>
    (heap_setCell_other _ ⟨s, 2, none⟩ b _ (fun e => hb e)).trans (heap_setCell_other _ ⟨s, 1, none⟩ b _ (fun e => hb e))
  have cutRow : ∀ {e : TypeId} {x : Option Addr} {c : Nat} {xs : List Value}, RowAt w e (.slice x S.entries.length c) xs → xs.length = S.entries.length → (Value.slice x S.entries.length c).ownBlock ≠ some s → RowAt ((w.setCell ⟨s, 1, none⟩ (.slice x1 m m)).setCell ⟨s, 2, none⟩ (.slice x2 m m)) e (.slice x m m) (xs.take m) := by
    intro e x c xs hr hl hs
    rcases hr with ⟨h1, h2⟩ | ⟨g, cap, cur, h1, h2, h3, h4, h5, h6⟩
    · subst h2
      simp only [Value.slice.injEq] at h1
      have : m = 0 := by omega
      subst this
      left; rw [h1.1]; simp
    · simp only [Value.slice.injEq] at h1
      obtain ⟨rfl, h12, rfl⟩ := h1
      have hlm : (xs.take m).length = m := by simp; omega
      refine .inr ⟨g, m, cur, by rw [hlm], (fin g (by rintro rfl; exact hs rfl)).trans h2, by omega, by omega, by omega, ?_⟩
      rw [hlm, ← h6, List.take_take]
      congr 1
      omega
  have hs1 := h.type_s h.ents (by decide)
  have hs2 := h.type_s h.ends (by decide)
  have r1 := h.ents
  have r2 := h.ends
  have hsame := h.same
  have hfew := h.few
  have hblk := h.blk
  subst he hv
  refine ⟨?_, ?_, ?_, by simp; omega, by simp; omega⟩
  · rw [e2]; simp [scells]
  · have := cutRow r1 (by simp [svs]) hs1
    simpa [svs, List.map_take] using this
  · have := cutRow r2 (by simp [ivs]; omega) hs2
    simpa [ivs, List.map_take] using this

theorem cut_arith (m : Nat) (hm : m ≤ 4096) : IntKind.i64.wrap (1000 + IntKind.i64.wrap ((IntKind.i64.wrap (IntKind.i64.wrap ((m : Int) + 64) - 1)).tdiv 64)) = ((1000 + (m + 63) / 64 : Nat) : Int) := by
  have a1 : IntKind.i64.wrap ((m : Int) + 64) = (m : Int) + 64 := by rw [IntKind.wrap_i64]; omega
  have a2 : IntKind.i64.wrap ((m : Int) + 64 - 1) = ((m + 63 : Nat) : Int) := by rw [IntKind.wrap_i64]; omega
  have a3 : ((m + 63 : Nat) : Int).tdiv 64 = (((m + 63) / 64 : Nat) : Int) := rfl
  have a4 : IntKind.i64.wrap (((m + 63) / 64 : Nat) : Int) = (((m + 63) / 64 : Nat) : Int) := by rw [IntKind.wrap_i64]; omega
  rw [a1, a2, a3, a4, IntKind.wrap_i64]; omega
theorem own_slice (x : Option Addr) (n c n' c' : Nat) : (Value.slice x n c).ownBlock = (Value.slice x n' c').ownBlock := by cases x <;> rfl
def clo38 (B : Nat) : Value := .func (.func 38) #[] #[.pointer (some ⟨B, 0, none⟩), .pointer (some ⟨B + 1, 0, none⟩)]
theorem row_caps {w : World} {e f : TypeId} {ev nv : Value} {S : Sg} {x1 x2 : Option Addr} {c1 c2 m : Nat} (h1 : RowAt w e ev (svs S.entries)) (h2 : RowAt w f nv (ivs S.ends)) (he : ev = .slice x1 S.entries.length c1) (hv : nv = .slice x2 S.entries.length c2) (hm : m ≤ S.entries.length) (hs : S.ends.length = S.entries.length) :
    m ≤ c1 ∧ m ≤ c2 ∧ c1 ≤ 9223372036854775807 ∧ c2 ≤ 9223372036854775807 := by
  have key : ∀ {e : TypeId} {v : Value} {xs : List Value} {x : Option Addr} {n c : Nat}, RowAt w e v xs → v = .slice x n c → xs.length = n → n ≤ c ∧ c ≤ 9223372036854775807 := by
    intro e v xs x n c hr hv hl
    subst hv
    rcases hr with ⟨h, h2⟩ | ⟨g, cap, cur, h, _, h3, _, h5, _⟩
    · simp only [Value.slice.injEq] at h; omega
    · simp only [Value.slice.injEq] at h
      unfold maxLen at h5
      omega
  have k1 := key h1 he (by simp [svs])
  have k2 := key h2 hv (by simp [ivs]; omega)
  omega
def CutS4 (B s m : Nat) (ev nv : Value) (u : World) : Prop := (u.cell? ⟨B, 0, none⟩ = some (.pointer (some ⟨s, 0, none⟩)) ∧ u.cell? ⟨B + 1, 0, none⟩ = some (.int .i64 m)) ∧ u.cell? ⟨s, 1, none⟩ = some ev ∧ u.cell? ⟨s, 2, none⟩ = some nv
def CutS40 (B s m : Nat) (u : World) : Prop := u.cell? ⟨B, 0, none⟩ = some (.pointer (some ⟨s, 0, none⟩)) ∧ u.cell? ⟨B + 1, 0, none⟩ = some (.int .i64 m)
/-- the steps of Cut, done -/
theorem cut_done {w u : World} {s d : Nat} {S : Sg} {D : Dk} {ev nv v : Value} {df : List Nat} {acts : List Act'} {m : Nat} (hs : SAt u s d S ev nv) (hd : DiskAt u d D df) (ho : D.Ok) (hap : ∀ b ∈ sfoot s ev nv, b ∉ df) (hdead : S.dead = false) (hfl : ∀ b ∈ df, b < w.heap.size)
    (hst : StepsAt u 0 d v acts) (hown : ∀ g, v.ownBlock = some g → w.heap.size ≤ g) (hK : ∀ a ∈ acts, ∀ b ∈ a.K, w.heap.size ≤ b ∨ b ∈ sfoot s ev nv) (hX : ∀ a ∈ acts, a.X = []) (hsts : acts.map (·.st) = S.cutSteps D m) (hpre : Step.PreAll (S.cutSteps D m ++ [.sync]) D) (hlen : acts.length ≤ 100000) :
    Calls Tryz.prog 36 #[.pointer (some ⟨s, 0, none⟩), v] u (DonePost u s d S D ev nv df v.ownBlock.toList (S.cutSteps D m)) := by
  have hfl' : acts.flatMap (·.X) = [] := by rw [List.flatMap_eq_nil_iff]; exact hX
  have := done_at hs hd ho hst hdead hap (fun a ha b hb hm => by
    rcases hK a ha b hb with h | h
    · have := hfl b hm; omega
    · exact hap b h hm) (fun g hg hm => by have := hown g hg; have := hfl g hm; omega) (fun a ha b hb => by rw [hX a ha] at hb; simp at hb)
    (List.Pairwise.imp_of_mem (fun {a c} ha _ _ b hb' => by rw [hX a ha] at hb'; simp at hb') (List.pairwise_of_forall (R := fun _ _ => True) (fun _ _ => trivial))) (by rw [hsts]; exact hpre) hlen
  rw [hfl', List.append_nil, hsts] at this
  exact this
theorem CutS40.set {B s m : Nat} {u : World} (h : CutS40 B s m u) (h1 : s ≠ B) (h2 : s ≠ B + 1) (i : Nat) (v : Value) : CutS40 B s m (u.setCell ⟨s, i, none⟩ v) :=
  ⟨(World.cell?_of_block (a := ⟨B, 0, none⟩) (heap_setCell_other u ⟨s, i, none⟩ B v (fun e => h1 e.symm))).trans h.1, (World.cell?_of_block (a := ⟨B + 1, 0, none⟩) (heap_setCell_other u ⟨s, i, none⟩ (B + 1) v (fun e => h2 e.symm))).trans h.2⟩
def CutS (B s d m : Nat) (u : World) : Prop := u.cell? ⟨B, 0, none⟩ = some (.pointer (some ⟨s, 0, none⟩)) ∧ u.cell? ⟨B + 1, 0, none⟩ = some (.int .i64 m) ∧ u.cell? ⟨s, 0, none⟩ = some (.pointer (some ⟨d, 0, none⟩))
set_option maxHeartbeats 4000000 in
theorem cut_go {w : World} {s d : Nat} {S : Sg} {D : Dk} {sf df : List Nat} (h : SegAt w s d S D sf df) (ho : D.Ok) (m : Nat) (hr : S.ready D = true) (hm : m ≤ S.entries.length) (hpos : ∀ x ∈ S.ends, 0 ≤ x) (hpre : Step.PreAll (S.cutSteps D m ++ [.sync]) D) :
    Calls Tryz.prog 11 #[.pointer (some ⟨s, 0, none⟩), .int .i64 m] w (CutP w s d S D m sf df) := by
  obtain ⟨⟨ev, nv, hs, rfl⟩, hd, hap⟩ := h
  obtain ⟨W, hW, hu, b1, b2, hsz⟩ := two_boxes w 28 3 (.pointer (some ⟨s, 0, none⟩)) (.int .i64 m)
  have hs1 := hs.upd hu (by simp)
  have hd1 := hd.upd hu (by simp)
  have hr1 := sready_yes hs1 hd1 hr
  obtain ⟨x1, c1, he⟩ := row_len hs.ents
  obtain ⟨x2, c2, hv⟩ := row_len hs.ends
  rw [show (svs S.entries).length = S.entries.length by simp [svs]] at he
  rw [show (ivs S.ends).length = S.entries.length by simp [ivs]; exact hs.same] at hv
  have hdead : S.dead = false := by
    unfold Sg.ready at hr
    simp at hr
    exact hr.1.1
  -- what stands in a world that is W but for draws and new blocks
  have facts : ∀ u, Upd [] W u → SAt u s d S ev nv ∧ DiskAt u d D df ∧ Boxed u w.heap.size 28 (.pointer (some ⟨s, 0, none⟩)) ∧ Boxed u (w.heap.size + 1) 3 (.int .i64 m) :=
    fun u hu' => ⟨hs1.upd hu' (by simp), hd1.upd hu' (by simp), b1.upd hu' (by simp), b2.upd hu' (by simp)⟩
  have hfew := hs.few
  have hdr := fun u (hu' : Upd [] W u) => drop_steps (facts u hu').2.1 ((1000 + (m + 63) / 64 : Nat) : Int)
  have cB := b1.cell
  have cN := b2.cell
  have cs1 := hs1.cells.2.1
  have HF := Lib.hid facts
  have HX := Lib.hid (And.intro hs (And.intro hd (And.intro hap (And.intro hu (And.intro hr (And.intro hm (And.intro hpos (And.intro hpre (And.intro ho (And.intro hsz hdead))))))))))
  have HW := Lib.hid hW
  have HE := Lib.hid (And.intro he hv)
  rw [he] at cs1
  clear facts hs hd hap hu hr hpos hpre ho hsz b1 b2 hs1 hd1 he hv hdead
  have h0 : decide ((m : Int) < 0) = false := by simp
  have h1 : decide ((S.entries.length : Int) < m) = false := by simp; omega
  have h1' : decide (S.entries.length < m) = false := by simp; omega
  go_enter Tryz.func11, Tryz.ntmps11
  go_wp2_with (go_at_call 33; refine hr1.mono ?_; rintro e w' ⟨rfl, k, rfl⟩)
  clear hW
  go_quiet (fail)
  go_wp2
  refine wp_region_can2 [(0, 0), (1, 0), (2, 0), (3, 0), (4, 0), (5, 0), (6, 0), (7, 0), (8, 0), (9, 1)] 10 (CutS w.heap.size s d m) (by kernel_rfl) (by kernel_rfl) (fun _ _ d _ _ h => by cases d <;> exact h) ⟨cB, cN, (HF.out _ (Upd.refl _ _)).1.cells.1⟩ ?_
  simp only [canOps2, List.filterMap_cons, List.filterMap_nil, Option.map_some, List.getElem?_toArray, List.getElem?_cons_succ, List.getElem?_cons_zero, List.drop_succ_cons, List.drop_zero]
  have hmi : (m : Int) ≤ 4096 := by omega
  iterate 9 (apply can2_light rfl; (· intro u hu; obtain ⟨hu1, hu2, hu3⟩ := hu; go_simp; try rfl); simp only [Act.put, List.setIfInBounds_toArray, List.set_cons_zero, List.set_cons_succ])
  refine can2_acts rfl fun K' hK' => ?_
  go_simp
  rw [cut_arith m (by omega)]
  obtain ⟨W4, hW4⟩ : ∃ W4, W.drewN (k + nq + 1) = W4 := ⟨_, rfl⟩
  have hu4 : Upd [] W W4 := by rw [← hW4]; exact drewN_upd W _
  rw [hW4]
  clear hW4
  have hdr4 := hdr W4 hu4
  clear hdr cB cN cs1 hr1
  refine hdr4.mono ?_
  rintro e w5 ⟨dv, dacts, rfl, hds, hdst, hdX, hdu⟩
  have hu5 : Upd [] W w5 := hu4.trans hdu (by simp)
  obtain ⟨hs5, hd5, b15, b25⟩ := HF.out w5 hu5
  refine hK' _ _ ⟨b15.cell, b25.cell, hs5.cells.1⟩ (can2_nil ?_)
  clear hK' K' hdr4
  have HW4 := Lib.hid hu4
  clear hu4
  have cN := b25.cell
  have hmod : IntKind.i64.wrap ((m : Int).tmod 64) = ((m % 64 : Nat) : Int) := by
    rw [show (m : Int).tmod 64 = ((m % 64 : Nat) : Int) from rfl, IntKind.wrap_i64]; omega
  have HD := Lib.hid (And.intro hds (And.intro hdst (And.intro hdX (And.intro hdu (And.intro hu5 (And.intro hs5 (And.intro hd5 (And.intro b15 b25))))))))
  clear hds hdst hdX hdu hu5 hs5 hd5 b15 b25
  by_cases hm0 : m % 64 = 0
  · have hmz : ((m : Int) % 64 == 0) = true := by simp; omega
    have hmz2 : ((m : Int) % 64 != 0) = false := by simp; omega
    clear hmod
    obtain ⟨hds, hdst, hdX, hdu, hu6, -, -, -, -⟩ := HD.out
    have hst6 : StepsAt w5 0 d dv dacts := hds.mono (Nat.zero_le _)
    have hsz6 := HX.out.2.2.2.2.2.2.2.2.2.1
    have hW4 : w.heap.size ≤ W4.heap.size := by have := (HX.out.2.2.2.1.trans HW4.out (by simp)).size; omega
    have hown6 : ∀ g, dv.ownBlock = some g → w.heap.size ≤ g := fun g hg => Nat.le_trans hW4 (hds.own g hg)
    have hK6 : ∀ a ∈ dacts, ∀ b ∈ a.K, w.heap.size ≤ b ∨ b ∈ sfoot s ev nv := fun a ha b hb => .inl (Nat.le_trans hW4 ((hds.ok a ha).kept b hb).1)
    have hX6 := hdX
    have hsts6 : dacts.map (·.st) = S.cutSteps D m := by rw [hdst]; unfold Sg.cutSteps; rw [if_pos hm0, List.append_nil]
    have hlen6 : dacts.length ≤ 100000 := by
      have := congrArg List.length hdst
      rw [List.length_map] at this
      rw [this]; unfold dropSteps; rw [List.length_map]
      exact Nat.le_trans (List.length_filter_le _ _) (by have := HX.out.2.1.wf.many; simp [keys_len]; omega)
    clear hds hdst hdX hdu hW4 hsz6
    obtain ⟨hs6, hd6, b16, b26⟩ := HF.out w5 hu6
    have hdn := cut_done (w := w) hs6 hd6 HX.out.2.2.2.2.2.2.2.2.1 HX.out.2.2.1 HX.out.2.2.2.2.2.2.2.2.2.2 HX.out.2.1.lt hst6 hown6 hK6 hX6 hsts6 HX.out.2.2.2.2.2.2.2.1 hlen6
    unfold DonePost at hdn
    have hv6 := hst6.row
    have hnB := hv6.notBox b16 (by decide)
    have hnN := hv6.notBox b26 (by decide)
    have hecut : S.cut D m = if (Step.all (S.cutSteps D m ++ [.sync]) D).2 = 0 then ({ S with entries := S.entries.take m, ends := S.ends.take m }, (Step.all (S.cutSteps D m ++ [.sync]) D).1, 0) else ({ S with dead := decide ((Step.all (S.cutSteps D m ++ [.sync]) D).2 = 61) }, (Step.all (S.cutSteps D m ++ [.sync]) D).1, (Step.all (S.cutSteps D m ++ [.sync]) D).2) := by
      unfold Sg.cut
      rw [if_neg (by simp [HX.out.2.2.2.2.1]), if_neg (by omega), Int.toNat_natCast]
    generalize Step.all (S.cutSteps D m ++ [.sync]) D = R at hdn hecut
    obtain ⟨D', r⟩ := R
    simp only at hdn hecut
    have HV := Lib.hid (And.intro hs6 (And.intro b16 (And.intro b26 (And.intro hu6 (And.intro hown6 (And.intro hnB hnN))))))
    have HC := Lib.hid hecut
    have cB := b16.cell
    clear hs6 hd6 b16 b26 hst6 hown6 hK6 hX6 hsts6 hlen6 hu6 hv6 hnB hnN hecut
    have fin : ∀ fp' w7, DiskAt w7 d D' fp' → Upd (s :: (df ++ dv.ownBlock.toList)) w5 w7 → (∀ b ∈ fp', b ∈ df ∨ w5.heap.size ≤ b) → Upd (sfoot s ev nv ++ df) w w7 ∧ (∀ b ∈ fp', b ∈ df ∨ w.heap.size ≤ b) ∧ (∀ b ∈ sfoot s ev nv, b ∉ fp') ∧ Boxed w7 w.heap.size 28 (.pointer (some ⟨s, 0, none⟩)) ∧ Boxed w7 (w.heap.size + 1) 3 (.int .i64 m) := by
      intro fp' w7 h1 h2 h3
      obtain ⟨hs6, b16, b26, hu6, hown6, hnB, hnN⟩ := HV.out
      have hsl := lt_of_block HX.out.1.blk
      have hfl := HX.out.2.1.lt
      have hu06 := HX.out.2.2.2.1.trans hu6 (by simp)
      have hW6 := hu06.size
      have nb : ∀ b, w.heap.size ≤ b → dv.ownBlock ≠ some b → b ∉ s :: (df ++ dv.ownBlock.toList) := by
        intro b hb hvb hm
        simp only [List.mem_cons, List.mem_append, Option.mem_toList] at hm
        rcases hm with rfl | hm | hm
        · omega
        · have := hfl b hm; omega
        · exact hvb hm
      refine ⟨Upd.trans (hu06.mono (by simp)) h2 ?_, fun b hb => ?_, fun b hb hm => ?_, b16.upd h2 (nb _ (Nat.le_refl _) hnB), b26.upd h2 (nb _ (by omega) hnN)⟩
      · intro x hx
        simp only [List.mem_cons, List.mem_append, Option.mem_toList] at hx ⊢
        rcases hx with rfl | hx | hx
        · exact .inl (.inl (sfoot_mem.2 (.inl rfl)))
        · exact .inl (.inr hx)
        · exact .inr (hown6 x hx)
      · rcases h3 b hb with h | h
        · exact .inl h
        · exact .inr (Nat.le_trans hW6 h)
      · rcases h3 b hm with h | h
        · exact HX.out.2.2.1 b hb h
        · have := HX.out.1.lt b hb; omega
    have HFN := Lib.hid fin
    clear fin
    by_cases hr0 : r = 0
    · subst hr0
      go_wp2_with (go_at_call 36; refine hdn.mono ?_; rintro e w7 ⟨rfl, hs7, fp', hd7, hf7, hu7⟩)
      obtain ⟨f1, f2, f3, f4, f5⟩ := HFN.out fp' w7 hd7 hu7 hf7
      have hcc := hs7.cells
      obtain ⟨-, k1, k2, -, -, kf⟩ := hcc
      rw [HE.out.1] at k1
      rw [HE.out.2] at k2
      have hcut := (hs7.upd (Upd.refl [] w7).drew (by simp)).cutTo HE.out.1 HE.out.2 m hm
      have hcap : m ≤ c1 ∧ m ≤ c2 ∧ c1 ≤ 9223372036854775807 ∧ c2 ≤ 9223372036854775807 := row_caps hs7.ents hs7.ends HE.out.1 HE.out.2 hm hs7.same
      obtain ⟨p1, p2, p3, p4⟩ := hcap
      have HZ := Lib.hid (And.intro hs7 (And.intro hd7 (And.intro f1 (And.intro f2 (And.intro f3 hcut)))))
      have g4 := f4.cell
      have g5 := f5.cell
      have kf1 := kf 1
      have kf2 := kf 2
      clear hs7 hd7 hf7 hu7 f1 f2 f3 f4 f5 kf hcut
      refine wp_region_can4 [(0, 0), (2, 0), (3, 0), (4, 0), (5, 0), (6, 0), (7, 0), (8, 0), (9, 0), (10, 0), (11, 0), (12, 0), (1, 2), (13, 2), (14, 2), (15, 2)] 16 (CutS4 w.heap.size s m (.slice x1 S.entries.length c1) (.slice x2 S.entries.length c2)) (CutS40 w.heap.size s m) (by kernel_rfl) (fun _ h => h.1) (by kernel_rfl) (fun _ _ d _ _ h => by cases d <;> exact h) ⟨⟨g4, g5⟩, k1, k2⟩ ?_
      simp only [canOps2, List.filterMap_cons, List.filterMap_nil, Option.map_some, List.getElem?_toArray, List.getElem?_cons_succ, List.getElem?_cons_zero]
      iterate 12 (apply can3_light rfl; (· intro u hu; obtain ⟨⟨hu1, hu2⟩, hu3, hu4⟩ := hu; go_simp; try rfl); simp only [Act.put, List.setIfInBounds_toArray, List.set_cons_zero, List.set_cons_succ])
      iterate 4 (apply can3_late rfl; (· intro u hu; obtain ⟨hu1, hu2⟩ := hu; go_simp; try rfl); simp only [Act.put, List.setIfInBounds_toArray, List.set_cons_zero, List.set_cons_succ])
      refine can3_nil ?_
      change wpTail _ _ _ _ [16, 17, 18, 19, 20, 21] _ _
      have hne : s ≠ w.heap.size ∧ s ≠ w.heap.size + 1 := by have := lt_of_block HX.out.1.blk; omega
      have z0 : CutS40 w.heap.size s m w7.drew := ⟨g4, g5⟩
      refine tail_cons rfl rfl fun K' hK' => ?_
      go_simp
      refine hK' _ _ z0 ?_
      clear hK' K'
      refine tail_cons rfl rfl fun K' hK' => ?_
      go_simp
      refine hK' _ _ z0 ?_
      clear hK' K'
      refine tail_cons rfl rfl fun K' hK' => ?_
      go_simp
      refine hK' _ _ (z0.set hne.1 hne.2 _ _) ?_
      clear hK' K'
      refine tail_cons rfl rfl fun K' hK' => ?_
      go_simp
      refine hK' _ _ (z0.set hne.1 hne.2 _ _) ?_
      clear hK' K'
      refine tail_cons rfl rfl fun K' hK' => ?_
      go_simp
      refine hK' _ _ (z0.set hne.1 hne.2 _ _) ?_
      clear hK' K'
      refine tail_cons rfl rfl fun K' hK' => ?_
      go_simp
      refine hK' _ _ ((z0.set hne.1 hne.2 _ _).set hne.1 hne.2 _ _) (tail_nil ?_)
      clear hK' K'
      go_wp2
      go_ret
      obtain ⟨hs7, hd7, f1, f2, f3, hcut⟩ := HZ.out
      unfold CutP
      have hc : S.cut D m = ({ S with entries := S.entries.take m, ends := S.ends.take m }, D', 0) := by rw [HC.out]; simp
      rw [hc]
      have hS : ({ { S with dead := decide ((0 : Int) = 61) } with entries := S.entries.take m, ends := S.ends.take m } : Sg) = { S with entries := S.entries.take m, ends := S.ends.take m } := by
        have := HX.out.2.2.2.2.2.2.2.2.2.2
        simp [this]
      have hcut' := hS ▸ hcut
      have hin : ∀ b ∈ sfoot s (.slice x1 m m) (.slice x2 m m), b ∈ sfoot s ev nv := by
        intro b hb
        rw [sfoot_mem] at hb ⊢
        rw [HE.out.1, HE.out.2]
        rw [own_slice x1 _ _ m m, own_slice x2 _ _ m m]
        exact hb
      have hss : s ∈ sfoot s ev nv := sfoot_mem.2 (.inl rfl)
      refine ⟨rfl, sfoot s (.slice x1 m m) (.slice x2 m m), fp', ⟨⟨_, _, hcut', rfl⟩, ?_, fun b hb => f3 b (hin b hb)⟩, ?_, fun b hb => .inl (hin b hb), f2⟩
      · refine hd7.keep fun b hb => ?_
        have hbs : s ≠ b := by rintro rfl; exact f3 _ hss hb
        exact (heap_setCell_other (w7.drew.setCell ⟨s, 1, none⟩ _) ⟨s, 2, none⟩ b _ (fun e => hbs e.symm)).trans (heap_setCell_other w7.drew ⟨s, 1, none⟩ b _ (fun e => hbs e.symm))
      · exact (f1.drew.setCell (p := ⟨s, 1, none⟩) (.inl (by simp [hss])) _).setCell (p := ⟨s, 2, none⟩) (.inl (by simp [hss])) _
    · have hb1 : (r == 0) = false := by simpa using hr0
      have HRR := Lib.hid hr0
      clear hr0
      go_wp2_with (go_at_call 36; refine hdn.mono ?_; rintro e w7 ⟨rfl, hs7, fp', hd7, hf7, hu7⟩)
      go_ret
      obtain ⟨f1, f2, f3, f4, f5⟩ := HFN.out fp' w7 hd7 hu7 hf7
      unfold CutP
      rw [HC.out, if_neg HRR.out]
      exact ⟨rfl, _, fp', ⟨⟨ev, nv, hs7, rfl⟩, hd7, f3⟩, f1, fun _ h => .inl h, f2⟩
  · have hmz : ((m : Int) % 64 == 0) = false := by simp; omega
    have hmz2 : ((m : Int) % 64 != 0) = true := by simp; omega
    clear hmod
    go_wp2_with (at_builtin; refine Stop.here ?_)
    unfold Stop
    obtain ⟨hds, hdst, hdX, hdu, hu5, hs5, hd5, b15, b25⟩ := HD.out
    have hW4 : w.heap.size ≤ W4.heap.size := by have := (HX.out.2.2.2.1.trans HW4.out (by simp)).size; omega
    have hdlen : dacts.length ≤ 100 := by
      have := congrArg List.length hdst
      rw [List.length_map] at this
      rw [this]; unfold dropSteps; rw [List.length_map]
      exact Nat.le_trans (List.length_filter_le _ _) (by have := HX.out.2.1.wf.many; simp [keys_len]; omega)
    have hge : 0 ≤ S.ends.getD (m - 1) 0 := by
      have hsame := HX.out.1.same
      rw [List.getD_eq_getElem?_getD, List.getElem?_eq_getElem (by omega), Option.getD_some]
      exact HX.out.2.2.2.2.2.2.1 _ (List.getElem_mem _)
    obtain ⟨K, hKdef⟩ : ∃ K, K = [w.heap.size, w.heap.size + 1, s] ++ nv.ownBlock.toList := ⟨_, rfl⟩
    have hdoes := does_cut w5 K d w.heap.size (w.heap.size + 1) s m S.ends (S.ends.getD (m - 1) 0).toNat nv (by omega) (by have := HX.out.1.same; omega) (by omega) (by rw [Int.toNat_of_nonneg hge]) (by rw [hKdef]; simp) (by rw [hKdef]; simp) (by rw [hKdef]; simp) (by intro g hg; rw [hKdef]; simp [hg]) b15.cell b25.cell hs5.cells.1 hs5.cells.2.2.1 hs5.ends
    obtain ⟨v6, w6, hrun6, g6⟩ := app1_step hds.row (clo38 w.heap.size) rfl (by simp; omega) 71 1
    have hok : ActOk w5 0 d ⟨clo38 w.heap.size, .trunc ((1000 + m / 64 : Nat) : Int) (S.ends.getD (m - 1) 0).toNat, K, []⟩ := by
      refine ⟨hdoes, fun b hb => ?_⟩
      rw [hKdef] at hb
      simp only [List.mem_append, List.mem_cons, List.not_mem_nil, or_false, Option.mem_toList] at hb
      rcases hb with (rfl | rfl | rfl) | hb
      · exact b15.kept' (Nat.zero_le _) (by decide)
      · exact b25.kept' (Nat.zero_le _) (by decide)
      · exact ⟨Nat.zero_le _, _, _, hs5.blk, by decide⟩
      · obtain ⟨cur, hc⟩ := hs5.ends.type b hb
        exact ⟨Nat.zero_le _, _, _, hc, by decide⟩
    have hst6 := (hds.mono (Nat.zero_le _)).grew (news := [⟨clo38 w.heap.size, .trunc ((1000 + m / 64 : Nat) : Int) (S.ends.getD (m - 1) 0).toNat, K, []⟩]) (by simpa using hok) g6 (Nat.zero_le _)
    have hsz5 := hdu.size
    have hge6 := g6.ge hsz5 hds.own
    have hown6 : ∀ g, v6.ownBlock = some g → w.heap.size ≤ g := fun g hg => Nat.le_trans hW4 (hge6 g hg)
    have hu6 : Upd [] W w6 := g6.updNil hu5 (fun k hk => .inr (Nat.le_trans HW4.out.size (hds.own k hk)))
    have hK6 : ∀ a ∈ dacts ++ [(⟨clo38 w.heap.size, .trunc ((1000 + m / 64 : Nat) : Int) (S.ends.getD (m - 1) 0).toNat, K, []⟩ : Act')], ∀ b ∈ a.K, w.heap.size ≤ b ∨ b ∈ sfoot s ev nv := by
      intro a ha b hb
      rcases List.mem_append.1 ha with ha | ha
      · exact .inl (Nat.le_trans hW4 ((hds.ok a ha).kept b hb).1)
      · simp only [List.mem_singleton] at ha; subst ha
        simp only [hKdef, List.mem_append, List.mem_cons, List.not_mem_nil, or_false, Option.mem_toList] at hb
        rcases hb with (rfl | rfl | rfl) | hb
        · exact .inl (Nat.le_refl _)
        · exact .inl (by omega)
        · exact .inr (sfoot_mem.2 (.inl rfl))
        · exact .inr (sfoot_mem.2 (.inr (.inr hb)))
    have hX6 : ∀ a ∈ dacts ++ [(⟨clo38 w.heap.size, .trunc ((1000 + m / 64 : Nat) : Int) (S.ends.getD (m - 1) 0).toNat, K, []⟩ : Act')], a.X = [] := by
      intro a ha
      rcases List.mem_append.1 ha with ha | ha
      · exact hdX a ha
      · simp only [List.mem_singleton] at ha; subst ha; rfl
    have hsts6 : (dacts ++ [(⟨clo38 w.heap.size, .trunc ((1000 + m / 64 : Nat) : Int) (S.ends.getD (m - 1) 0).toNat, K, []⟩ : Act')]).map (·.st) = S.cutSteps D m := by
      rw [List.map_append, hdst]; unfold Sg.cutSteps; rw [if_neg hm0]; rfl
    have hlen6 : (dacts ++ [(⟨clo38 w.heap.size, .trunc ((1000 + m / 64 : Nat) : Int) (S.ends.getD (m - 1) 0).toNat, K, []⟩ : Act')]).length ≤ 100000 := by simp; omega
    have HR6 := Lib.hid hrun6
    clear hds hdst hdX hdu hu5 hs5 hd5 b15 b25 hW4 hdlen hge hdoes hok g6 hge6 hrun6 hsz5 hKdef
    refine wpList_append_run rfl rfl HR6.out ?_
    obtain ⟨hs6, hd6, b16, b26⟩ := HF.out w6 hu6
    have hdn := cut_done (w := w) hs6 hd6 HX.out.2.2.2.2.2.2.2.2.1 HX.out.2.2.1 HX.out.2.2.2.2.2.2.2.2.2.2 HX.out.2.1.lt hst6 hown6 hK6 hX6 hsts6 HX.out.2.2.2.2.2.2.2.1 hlen6
    unfold DonePost at hdn
    have hv6 := hst6.row
    have hnB := hv6.notBox b16 (by decide)
    have hnN := hv6.notBox b26 (by decide)
    have hecut : S.cut D m = if (Step.all (S.cutSteps D m ++ [.sync]) D).2 = 0 then ({ S with entries := S.entries.take m, ends := S.ends.take m }, (Step.all (S.cutSteps D m ++ [.sync]) D).1, 0) else ({ S with dead := decide ((Step.all (S.cutSteps D m ++ [.sync]) D).2 = 61) }, (Step.all (S.cutSteps D m ++ [.sync]) D).1, (Step.all (S.cutSteps D m ++ [.sync]) D).2) := by
      unfold Sg.cut
      rw [if_neg (by simp [HX.out.2.2.2.2.1]), if_neg (by omega), Int.toNat_natCast]
    generalize Step.all (S.cutSteps D m ++ [.sync]) D = R at hdn hecut
    obtain ⟨D', r⟩ := R
    simp only at hdn hecut
    have HV := Lib.hid (And.intro hs6 (And.intro b16 (And.intro b26 (And.intro hu6 (And.intro hown6 (And.intro hnB hnN))))))
    have HC := Lib.hid hecut
    have cB := b16.cell
    clear hs6 hd6 b16 b26 hst6 hown6 hK6 hX6 hsts6 hlen6 hu6 hv6 hnB hnN hecut
    have fin : ∀ fp' w7, DiskAt w7 d D' fp' → Upd (s :: (df ++ v6.ownBlock.toList)) w6 w7 → (∀ b ∈ fp', b ∈ df ∨ w6.heap.size ≤ b) → Upd (sfoot s ev nv ++ df) w w7 ∧ (∀ b ∈ fp', b ∈ df ∨ w.heap.size ≤ b) ∧ (∀ b ∈ sfoot s ev nv, b ∉ fp') ∧ Boxed w7 w.heap.size 28 (.pointer (some ⟨s, 0, none⟩)) ∧ Boxed w7 (w.heap.size + 1) 3 (.int .i64 m) := by
      intro fp' w7 h1 h2 h3
      obtain ⟨hs6, b16, b26, hu6, hown6, hnB, hnN⟩ := HV.out
      have hsl := lt_of_block HX.out.1.blk
      have hfl := HX.out.2.1.lt
      have hu06 := HX.out.2.2.2.1.trans hu6 (by simp)
      have hW6 := hu06.size
      have nb : ∀ b, w.heap.size ≤ b → v6.ownBlock ≠ some b → b ∉ s :: (df ++ v6.ownBlock.toList) := by
        intro b hb hvb hm
        simp only [List.mem_cons, List.mem_append, Option.mem_toList] at hm
        rcases hm with rfl | hm | hm
        · omega
        · have := hfl b hm; omega
        · exact hvb hm
      refine ⟨Upd.trans (hu06.mono (by simp)) h2 ?_, fun b hb => ?_, fun b hb hm => ?_, b16.upd h2 (nb _ (Nat.le_refl _) hnB), b26.upd h2 (nb _ (by omega) hnN)⟩
      · intro x hx
        simp only [List.mem_cons, List.mem_append, Option.mem_toList] at hx ⊢
        rcases hx with rfl | hx | hx
        · exact .inl (.inl (sfoot_mem.2 (.inl rfl)))
        · exact .inl (.inr hx)
        · exact .inr (hown6 x hx)
      · rcases h3 b hb with h | h
        · exact .inl h
        · exact .inr (Nat.le_trans hW6 h)
      · rcases h3 b hm with h | h
        · exact HX.out.2.2.1 b hb h
        · have := HX.out.1.lt b hb; omega
    have HFN := Lib.hid fin
    clear fin
    by_cases hr0 : r = 0
    · subst hr0
      go_wp2_with (go_at_call 36; refine hdn.mono ?_; rintro e w7 ⟨rfl, hs7, fp', hd7, hf7, hu7⟩)
      obtain ⟨f1, f2, f3, f4, f5⟩ := HFN.out fp' w7 hd7 hu7 hf7
      have hcc := hs7.cells
      obtain ⟨-, k1, k2, -, -, kf⟩ := hcc
      rw [HE.out.1] at k1
      rw [HE.out.2] at k2
      have hcut := (hs7.upd (Upd.refl [] w7).drew (by simp)).cutTo HE.out.1 HE.out.2 m hm
      have hcap : m ≤ c1 ∧ m ≤ c2 ∧ c1 ≤ 9223372036854775807 ∧ c2 ≤ 9223372036854775807 := row_caps hs7.ents hs7.ends HE.out.1 HE.out.2 hm hs7.same
      obtain ⟨p1, p2, p3, p4⟩ := hcap
      have HZ := Lib.hid (And.intro hs7 (And.intro hd7 (And.intro f1 (And.intro f2 (And.intro f3 hcut)))))
      have g4 := f4.cell
      have g5 := f5.cell
      have kf1 := kf 1
      have kf2 := kf 2
      clear hs7 hd7 hf7 hu7 f1 f2 f3 f4 f5 kf hcut
      refine wp_region_can4 [(0, 0), (2, 0), (3, 0), (4, 0), (5, 0), (6, 0), (7, 0), (8, 0), (9, 0), (10, 0), (11, 0), (12, 0), (1, 2), (13, 2), (14, 2), (15, 2)] 16 (CutS4 w.heap.size s m (.slice x1 S.entries.length c1) (.slice x2 S.entries.length c2)) (CutS40 w.heap.size s m) (by kernel_rfl) (fun _ h => h.1) (by kernel_rfl) (fun _ _ d _ _ h => by cases d <;> exact h) ⟨⟨g4, g5⟩, k1, k2⟩ ?_
      simp only [canOps2, List.filterMap_cons, List.filterMap_nil, Option.map_some, List.getElem?_toArray, List.getElem?_cons_succ, List.getElem?_cons_zero]
      iterate 12 (apply can3_light rfl; (· intro u hu; obtain ⟨⟨hu1, hu2⟩, hu3, hu4⟩ := hu; go_simp; try rfl); simp only [Act.put, List.setIfInBounds_toArray, List.set_cons_zero, List.set_cons_succ])
      iterate 4 (apply can3_late rfl; (· intro u hu; obtain ⟨hu1, hu2⟩ := hu; go_simp; try rfl); simp only [Act.put, List.setIfInBounds_toArray, List.set_cons_zero, List.set_cons_succ])
      refine can3_nil ?_
      change wpTail _ _ _ _ [16, 17, 18, 19, 20, 21] _ _
      have hne : s ≠ w.heap.size ∧ s ≠ w.heap.size + 1 := by have := lt_of_block HX.out.1.blk; omega
      have z0 : CutS40 w.heap.size s m w7.drew := ⟨g4, g5⟩
      refine tail_cons rfl rfl fun K' hK' => ?_
      go_simp
      refine hK' _ _ z0 ?_
      clear hK' K'
      refine tail_cons rfl rfl fun K' hK' => ?_
      go_simp
      refine hK' _ _ z0 ?_
      clear hK' K'
      refine tail_cons rfl rfl fun K' hK' => ?_
      go_simp
      refine hK' _ _ (z0.set hne.1 hne.2 _ _) ?_
      clear hK' K'
      refine tail_cons rfl rfl fun K' hK' => ?_
      go_simp
      refine hK' _ _ (z0.set hne.1 hne.2 _ _) ?_
      clear hK' K'
      refine tail_cons rfl rfl fun K' hK' => ?_
      go_simp
      refine hK' _ _ (z0.set hne.1 hne.2 _ _) ?_
      clear hK' K'
      refine tail_cons rfl rfl fun K' hK' => ?_
      go_simp
      refine hK' _ _ ((z0.set hne.1 hne.2 _ _).set hne.1 hne.2 _ _) (tail_nil ?_)
      clear hK' K'
      go_wp2
      go_ret
      obtain ⟨hs7, hd7, f1, f2, f3, hcut⟩ := HZ.out
      unfold CutP
      have hc : S.cut D m = ({ S with entries := S.entries.take m, ends := S.ends.take m }, D', 0) := by rw [HC.out]; simp
      rw [hc]
      have hS : ({ { S with dead := decide ((0 : Int) = 61) } with entries := S.entries.take m, ends := S.ends.take m } : Sg) = { S with entries := S.entries.take m, ends := S.ends.take m } := by
        have := HX.out.2.2.2.2.2.2.2.2.2.2
        simp [this]
      have hcut' := hS ▸ hcut
      have hin : ∀ b ∈ sfoot s (.slice x1 m m) (.slice x2 m m), b ∈ sfoot s ev nv := by
        intro b hb
        rw [sfoot_mem] at hb ⊢
        rw [HE.out.1, HE.out.2]
        rw [own_slice x1 _ _ m m, own_slice x2 _ _ m m]
        exact hb
      have hss : s ∈ sfoot s ev nv := sfoot_mem.2 (.inl rfl)
      refine ⟨rfl, sfoot s (.slice x1 m m) (.slice x2 m m), fp', ⟨⟨_, _, hcut', rfl⟩, ?_, fun b hb => f3 b (hin b hb)⟩, ?_, fun b hb => .inl (hin b hb), f2⟩
      · refine hd7.keep fun b hb => ?_
        have hbs : s ≠ b := by rintro rfl; exact f3 _ hss hb
        exact (heap_setCell_other (w7.drew.setCell ⟨s, 1, none⟩ _) ⟨s, 2, none⟩ b _ (fun e => hbs e.symm)).trans (heap_setCell_other w7.drew ⟨s, 1, none⟩ b _ (fun e => hbs e.symm))
      · exact (f1.drew.setCell (p := ⟨s, 1, none⟩) (.inl (by simp [hss])) _).setCell (p := ⟨s, 2, none⟩) (.inl (by simp [hss])) _
    · have hb1 : (r == 0) = false := by simpa using hr0
      have HRR := Lib.hid hr0
      clear hr0
      go_wp2_with (go_at_call 36; refine hdn.mono ?_; rintro e w7 ⟨rfl, hs7, fp', hd7, hf7, hu7⟩)
      go_ret
      obtain ⟨f1, f2, f3, f4, f5⟩ := HFN.out fp' w7 hd7 hu7 hf7
      unfold CutP
      rw [HC.out, if_neg HRR.out]
      exact ⟨rfl, _, fp', ⟨⟨ev, nv, hs7, rfl⟩, hd7, f3⟩, f1, fun _ h => .inl h, f2⟩
end Go.Proofs.YtogkdoooimcemaaGreatDoor

/- SliceS -/
namespace Go.Proofs.YtogkdoooimcemaaGreatDoor
open Go Go.RowKit
open Go.ChangeMaps (setBlock)

theorem run_append_str_row {w : World} {v : Value} {l : List UInt8} (h : RowAt w 5 v (bvs l)) (s : ByteArray) (hb : l.length + s.size ≤ 1099511627776) (ty : TypeId) :
    ∃ v' w', (Builtin.append_ #[61, 9] ty #[v, .string s]).run Tryz.prog w = .ok v' w' ∧ RowAt w' 5 v' (bvs (l ++ s.data.toList)) ∧ w.grownBy w' v.ownBlock ∧ (v'.ownBlock = v.ownBlock ∨ v'.ownBlock = some w.heap.size) := by
  obtain ⟨i0, hi, hz0, hz1, hz2⟩ := info_parts (P := Tryz.prog) (e := 5) (z := .int .u8 0) (size := 1) (bytes := 1) (by kernel_rfl)
  have hsc : Lib.strCells s = bvs s.data.toList := rfl
  have hlb : (bvs l).length = l.length := by simp [bvs]
  rcases h with ⟨rfl, h0⟩ | ⟨g, cap, cur, rfl, hg, h2, h3, h4, h5⟩
  · have hl : l = [] := by cases l with
      | nil => rfl
      | cons a l => simp [bvs] at h0
    subst hl
    have hown : w.ownsRow w.heap.size 5 1 (.slice none 0 0) 0 [] := World.ownsRow_nil w _ _ _
    obtain ⟨v', w', hr, ho, hgr, _⟩ := Lib.run_append_own_string (P := Tryz.prog) w w.heap.size 61 9 ty 5 i0 Tryz.underlying61 Tryz.underlying9 hi hz0 hz1 hz2 _ 0 [] hown s (by unfold maxLen; omega) (by omega) (Nat.le_refl _)
    refine ⟨v', w', hr, ?_, hgr, ?_⟩
    · have := RowAt.of_owns ho
      simpa [hsc] using this
    · by_cases hs0 : s.size = 0
      · have hrn : (Builtin.append_ #[61, 9] ty #[.slice none 0 0, .string s]).run Tryz.prog w = .ok (.slice none 0 0) w := by
          have hf := Lib.run_firstCells_string (P := Tryz.prog) w 1 s
          rw [hs0] at hf
          have hn : Lib.strCells s = [] := List.eq_nil_of_length_eq_zero (by rw [Lib.strCells_length]; exact hs0)
          simp [Builtin.append_, run_underlying Tryz.underlying61, run_underlying Tryz.underlying9, sizeOf, typeInfo, hi, hz1, Builtin.lenOf, hs0, hf]
        rw [hrn] at hr
        cases hr
        exact .inl rfl
      · have hrn := run_append_nil_string (P := Tryz.prog) w 61 9 ty 5 i0 (.int .u8 0) Tryz.underlying61 Tryz.underlying9 hi hz0 s (by omega) (by omega) (by rw [hz2]; omega)
        rw [hrn] at hr
        cases hr
        exact .inr rfl
  · rw [hlb] at h2 h5 ⊢
    have hlen : (bvs (l ++ s.data.toList)).length = l.length + s.size := by simp [bvs]
    by_cases hroom : l.length + s.size ≤ cap
    · have hr := Lib.run_append_room_string (P := Tryz.prog) w 61 9 ty 5 i0 Tryz.underlying61 Tryz.underlying9 hi hz1 g l.length cap cur hg s hroom (by omega)
      refine ⟨_, _, hr, .inr ⟨g, cap, _, by rw [hlen], setRow_heap w g cur _ _ _ hg, by omega, ?_, h4, ?_⟩, ⟨rfl, rfl, rfl, by simp, fun k _ hk => setRow_other w g k _ (fun e => hk (by simp [Value.ownBlock, e]))⟩, .inl rfl⟩
      · simp only [List.size_toArray, List.length_append, List.length_take, List.length_drop, Array.length_toList, Lib.strCells_length]
        omega
      · rw [h5, hsc, ← bvs_append, hlen, ← hlen]
        exact List.take_left
    · have holds : ∀ j u, (bvs l)[j]? = some u → w.cell? ((⟨g, 0, none⟩ : Addr).add j) = some u := by
        intro j u hj
        rw [addr_add, Nat.zero_add]
        exact RowAt.cell (.inr ⟨g, cap, cur, rfl, hg, by omega, h3, h4, by rw [hlb]; exact h5⟩ : RowAt w 5 (.slice (some ⟨g, 0, none⟩) (bvs l).length cap) (bvs l)) j u hj
      have hr := Lib.run_append_grow_string (P := Tryz.prog) w 61 9 ty 5 i0 _ Tryz.underlying61 Tryz.underlying9 hi hz0 ⟨g, 0, none⟩ l.length cap (bvs l) (by rw [hz1]; omega) holds s (by omega) (by omega) (growslice_fits (by omega) (by rw [hz2]; omega))
      have hge := grownCap_ge w (l.length + s.size) cap 5
      have hle := grownCap_le_maxLen w (l.length + s.size) cap 5 (by unfold maxLen; omega)
      refine ⟨_, _, hr, .inr ⟨w.heap.size, _, _, by rw [hlen], heap_alloc_new w.drew _, by omega, ?_, hle, ?_⟩, ⟨rfl, rfl, rfl, by simp, fun k hk _ => Below.heap_alloc w.drew _ k hk⟩, .inr rfl⟩
      · simp [Lib.strCells_length, size_zeroCells, bvs, Value.cells]; omega
      · simp only [Array.toList_append, hsc]
        rw [← bvs_append]
        exact List.take_left
end Go.Proofs.YtogkdoooimcemaaGreatDoor

/- Build -/
namespace Go.Proofs.YtogkdoooimcemaaGreatDoor
open Go Go.RowKit
open Go.ChangeMaps (setBlock)
set_option maxRecDepth 20000

theorem copyCheck_used (b : Nat) (w : World) (h0 : w.cell? ⟨b, 0, none⟩ = some (.pointer (some ⟨b, 0, none⟩))) :
    Calls Tryz.prog 91 #[.pointer (some ⟨b, 0, none⟩)] w fun e w' => e = .returned (.tuple #[]) ∧ w' = w := by
  obtain ⟨j, hj, _⟩ : ∃ j, Tryz.prog.info? 105 = some j ∧ j.size = 2 := Option.map_eq_some_iff.1 (by kernel_rfl)
  go_enter Tryz.func91, Tryz.ntmps91
  go_wp2
  rw [Lib.run_neq_ptr_same w _ Tryz.underlying103 hj]
  go_wp2
  go_end0
  exact ⟨rfl, rfl⟩
set_option maxHeartbeats 1000000 in
theorem copyCheck_fresh (b : Nat) (w : World) (h0 : w.cell? ⟨b, 0, none⟩ = some (.pointer none)) (hsh : w.shape? b = some (105, 2)) (hfz : w.frozen? ⟨b, 0, none⟩ = false) :
    Calls Tryz.prog 91 #[.pointer (some ⟨b, 0, none⟩)] w fun e w' => e = .returned (.tuple #[]) ∧ w' = w.setCell ⟨b, 0, none⟩ (.pointer (some ⟨b, 0, none⟩)) := by
  obtain ⟨j, hj, hjs⟩ : ∃ j, Tryz.prog.info? 105 = some j ∧ j.size = 2 := Option.map_eq_some_iff.1 (by kernel_rfl)
  go_enter Tryz.func91, Tryz.ntmps91
  go_wp2
  rw [Lib.run_to_unsafe w ⟨b, 0, none⟩ Tryz.underlying103 Tryz.underlying142 hj (by rw [hjs]; decide) hsh (Nat.zero_lt_succ 1)]
  simp only [Result.andThen]
  rw [Oper.upon_value]
  go_wp2
  rw [run_callFunc_extern Tryz.func103 (by kernel_rfl) (by kernel_rfl) (by kernel_rfl) (e := Extern.AbiNoEscape.same) (by kernel_rfl)]
  rw [Lib.run_noEscape]
  simp only [Result.andThen]
  rw [Oper.upon_value]
  go_wp2
  rw [Lib.run_from_unsafe w ⟨b, 0, none⟩ Tryz.underlying142 Tryz.underlying103 hj hsh (by kernel_rfl)]
  simp only [Result.andThen]
  rw [Oper.upon_value]
  go_wp2
  go_end0
  exact ⟨rfl, rfl⟩

/-- a builder that holds just these bytes -/
structure Built (w : World) (b : Nat) (v : Value) (l : List UInt8) : Prop where
  blk : ∃ p, w.heap[b]? = some (.cells #[p, v] 105 (0, 0)) ∧ (p = .pointer none ∨ p = .pointer (some ⟨b, 0, none⟩))
  row : RowAt w 5 v (bvs l)
  ne : v.ownBlock ≠ some b
theorem Built.keep {w w' : World} {b : Nat} {v : Value} {l : List UInt8} (h : Built w b v l) (hb : w'.heap[b]? = w.heap[b]?) (hv : ∀ g, v.ownBlock = some g → w'.heap[g]? = w.heap[g]?) : Built w' b v l := by
  obtain ⟨p, h1, h2⟩ := h.blk
  exact ⟨⟨p, hb.trans h1, h2⟩, h.row.keep fun g hg _ => hv g hg, h.ne⟩
theorem Built.lt {w : World} {b : Nat} {v : Value} {l : List UInt8} (h : Built w b v l) : b < w.heap.size := by
  obtain ⟨p, h1, h2⟩ := h.blk
  exact lt_of_block h1
theorem blen_at {w : World} {b : Nat} {v : Value} {l : List UInt8} (h : Built w b v l) :
    Calls Tryz.prog 71 #[.pointer (some ⟨b, 0, none⟩)] w fun e w' => e = .returned (.int .i64 l.length) ∧ w' = w := by
  obtain ⟨p, hb, _⟩ := h.blk
  obtain ⟨a, c, hv⟩ := row_len h.row
  have c1 : w.cell? ⟨b, 1, none⟩ = some v := by rw [cell_of_row w b _ _ _ _ hb]; rfl
  have hl : (bvs l).length = l.length := by simp [bvs]
  rw [hl] at hv
  subst hv
  clear h hb hl
  generalize l.length = n at *
  go_enter Tryz.func71, Tryz.ntmps71
  go_wp2
  go_ret
  exact ⟨rfl, rfl⟩
set_option maxHeartbeats 1000000 in
theorem write_at {w : World} {b : Nat} {v : Value} {l : List UInt8} (h : Built w b v l) (s : ByteArray) (hs : l.length + s.size ≤ 1099511627776) :
    Calls Tryz.prog 70 #[.pointer (some ⟨b, 0, none⟩), .string s] w fun e w' => e = .returned (.tuple #[.int .i64 s.size, .nilIface]) ∧
      ∃ v', Built w' b v' (l ++ s.data.toList) ∧ Upd (b :: v.ownBlock.toList) w w' ∧ (v'.ownBlock = v.ownBlock ∨ ∃ g, v'.ownBlock = some g ∧ w.heap.size ≤ g) := by
  obtain ⟨i0, hi, hz0, hz1, hz2⟩ := info_parts (P := Tryz.prog) (e := 5) (z := .int .u8 0) (size := 1) (bytes := 1) (by kernel_rfl)
  -- behind copyCheck
  have hcc : Calls Tryz.prog 91 #[.pointer (some ⟨b, 0, none⟩)] w fun e w1 => e = .returned (.tuple #[]) ∧ w1.heap[b]? = some (.cells #[.pointer (some ⟨b, 0, none⟩), v] 105 (0, 0)) ∧ Upd [b] w w1 := by
    obtain ⟨p, hb, hp⟩ := h.blk
    have c0 : w.cell? ⟨b, 0, none⟩ = some p := by rw [cell_of_row w b _ _ _ _ hb]; rfl
    have hf : w.frozen? ⟨b, 0, none⟩ = false := frozen_of_row w b 0 _ _ hb
    have hsh : w.shape? b = some (105, 2) := by simp [World.shape?, hb]
    rcases hp with rfl | rfl
    · refine (copyCheck_fresh b w c0 hsh hf).mono ?_
      rintro e w' ⟨rfl, rfl⟩
      refine ⟨rfl, ?_, (Upd.refl [b] w).setCell (.inl (by simp)) _⟩
      have := heap_setCell_same w b 0 _ _ (.pointer (some ⟨b, 0, none⟩)) hb
      simpa using this
    · refine (copyCheck_used b w c0).mono ?_
      rintro e w' ⟨rfl, rfl⟩
      exact ⟨rfl, hb, Upd.refl _ _⟩
  have hrow := h.row
  have hne := h.ne
  have HH := Lib.hid h
  clear h
  go_enter Tryz.func70, Tryz.ntmps70
  go_wp2_with (go_at_call 91; refine hcc.mono ?_)
  rintro e w1 ⟨rfl, hb1, hu1⟩
  have c0 : w1.cell? ⟨b, 0, none⟩ = some (.pointer (some ⟨b, 0, none⟩)) := by rw [cell_of_row w1 b _ _ _ _ hb1]; rfl
  have c1 : w1.cell? ⟨b, 1, none⟩ = some v := by rw [cell_of_row w1 b _ _ _ _ hb1]; rfl
  have hrow1 : RowAt w1 5 v (bvs l) := hrow.keep fun g hg hl => hu1.block g hl (by
    intro hm; simp at hm; subst hm; exact hne hg)
  obtain ⟨v', w2, hrun, hrow2, hgrow, hown⟩ := run_append_str_row hrow1 s hs 61
  have hbl1 := lt_of_block hb1
  have hgr' := hgrow
  obtain ⟨_, _, _, _, hblk⟩ := hgr'
  have hb2 : w2.heap[b]? = some (.cells #[.pointer (some ⟨b, 0, none⟩), v] 105 (0, 0)) := (hblk b hbl1 (fun e => hne e.symm)).trans hb1
  have hne2 : v'.ownBlock ≠ some b := by
    rcases hown with h | h
    · rw [h]; exact hne
    · rw [h]; simp; omega
  have hu2 : Upd (b :: v.ownBlock.toList) w w2 := Upd.grown (hu1.mono (by simp)) hgrow (fun k hk => .inl (by rw [hk]; simp))
  have hf2 : w2.frozen? ⟨b, 1, none⟩ = false := frozen_of_row w2 b 1 _ _ hb2
  have hc2 : w2.cell? ⟨b, 1, none⟩ = some v := by rw [cell_of_row w2 b _ _ _ _ hb2]; rfl
  obtain ⟨a', c', hv'⟩ := row_len hrow2
  have hset := heap_setCell_same w2 b 1 _ _ v' hb2
  have hkeep : RowAt (w2.setCell ⟨b, 1, none⟩ v') 5 v' (bvs (l ++ s.data.toList)) := hrow2.keep fun g hg _ => heap_setCell_other w2 ⟨b, 1, none⟩ g v' (by
    rintro rfl; exact hne2 hg)
  have hsz1 := hu1.size
  have HF := Lib.hid (show Built (w2.setCell ⟨b, 1, none⟩ v') b v' (l ++ s.data.toList) ∧ Upd (b :: v.ownBlock.toList) w (w2.setCell ⟨b, 1, none⟩ v') ∧ (v'.ownBlock = v.ownBlock ∨ ∃ g, v'.ownBlock = some g ∧ w.heap.size ≤ g) from
    ⟨⟨⟨_, by simpa using hset, .inr rfl⟩, hkeep, hne2⟩, hu2.setCell (.inl (by simp)) _, by
      rcases hown with h | h
      · exact .inl h
      · exact .inr ⟨_, h, hsz1⟩⟩)
  clear hblk hrow1 hrow2 hgrow hown hset hkeep hrow hne hne2 hu2 hb2
  have HR := Lib.hid hrun
  clear hrun
  go_wp2_with (at_builtin; refine Stop.here ?_)
  unfold Stop
  refine wpList_append_run rfl rfl HR.out ?_
  subst hv'
  go_wp2
  go_ret2
  exact ⟨rfl, _, HF.out⟩
end Go.Proofs.YtogkdoooimcemaaGreatDoor

/- Build2 -/
namespace Go.Proofs.YtogkdoooimcemaaGreatDoor
open Go Go.RowKit
open Go.ChangeMaps (setBlock)
set_option maxRecDepth 20000

theorem Upd.freeze {fp : List Nat} {a w : World} (h : Upd fp a w) {p : Addr} (hp : p.block ∈ fp ∨ a.heap.size ≤ p.block) (n : Nat) : Upd fp a (w.freeze p n) := by
  unfold World.freeze
  split
  · exact h
  · refine ⟨h.os, h.tape, h.output, by simpa using h.size, fun i hi hn => ?_⟩
    rw [← h.block i hi hn]
    simp only [Array.getElem?_modify]
    rw [if_neg (by rintro rfl; rcases hp with h | h; exact hn h; omega)]

set_option maxHeartbeats 2000000 in
theorem string_at {w : World} {b : Nat} {v : Value} {l : List UInt8} (h : Built w b v l) (h0 : l ≠ []) :
    Calls Tryz.prog 75 #[.pointer (some ⟨b, 0, none⟩)] w fun e w' => e = .returned (.string ⟨l.toArray⟩) ∧ Upd v.ownBlock.toList w w' := by
  obtain ⟨p, hb, _⟩ := h.blk
  have hlb : (bvs l).length = l.length := by simp [bvs]
  obtain ⟨g, cap, cur, rfl, hg, h2, h3, h4, h5⟩ : ∃ g cap cur, v = .slice (some ⟨g, 0, none⟩) (bvs l).length cap ∧ w.heap[g]? = some (.cells cur 5 (0, 0)) ∧ (bvs l).length ≤ cap ∧ cap ≤ cur.size ∧ cap ≤ maxLen ∧ cur.toList.take (bvs l).length = bvs l := by
    rcases h.row with ⟨_, hz⟩ | h
    · cases l with
      | nil => exact absurd rfl h0
      | cons a l => simp [bvs] at hz
    · exact h
  have hrow := h.row
  rw [hlb] at *
  have hl0 : l.length ≠ 0 := by simpa using h0
  have c1 : w.drew.cell? ⟨b, 1, none⟩ = some (.slice (some ⟨g, 0, none⟩) l.length cap) := by
    show w.cell? _ = _
    rw [cell_of_row w b _ _ _ _ hb]; rfl
  have hSD : (Builtin.unsafeSliceData_ #[61] 127 #[.slice (some ⟨g, 0, none⟩) l.length cap]).run Tryz.prog w.drew = .ok (.pointer (some ⟨g, 0, none⟩)) w.drew :=
    Lib.run_unsafeSliceData_row _ _ _ _ _ _ (by omega)
  have hUS : (Builtin.unsafeString_ #[127, 3] 9 #[.pointer (some ⟨g, 0, none⟩), .int .i64 l.length]).run Tryz.prog w.drew = .ok (.string ⟨l.toArray⟩) (w.drew.freeze ⟨g, 0, none⟩ l.length) := by
    refine Lib.run_unsafeString_row w.drew 127 3 9 5 Tryz.underlying127 (by kernel_rfl) g cur.size (by have hg' : w.drew.heap[g]? = some (.cells cur 5 (0, 0)) := hg; simp [World.shape?, hg']) l h0 (by omega) (by unfold maxLen at h4; omega) ?_
    intro j x hx
    show w.cell? _ = _
    rw [addr_add, Nat.zero_add]
    exact hrow.cell j (.int .u8 x.toNat) (by simp [bvs, bv, hx])
  have HF := Lib.hid (show Upd [g] w (w.drew.freeze ⟨g, 0, none⟩ l.length) from (Upd.refl [g] w).drew.freeze (.inl (by simp)) _)
  clear h hb hg h2 h3 h4 h5 hrow hlb
  go_enter Tryz.func75, Tryz.ntmps75
  go_wp2
  go_region
  all_goals (go_wp2; go_ret; exact ⟨rfl, HF.out⟩)
end Go.Proofs.YtogkdoooimcemaaGreatDoor

/- Seg4 -/
namespace Go.Proofs.YtogkdoooimcemaaGreatDoor
open Go Go.RowKit
open Go.ChangeMaps (setBlock)
set_option maxRecDepth 20000

set_option maxHeartbeats 2000000 in
theorem does_append (w0 : World) (K : List Nat) (d b1 b2 s bb : Nat) (n : Int) (v : Value) (l : List UInt8) (hl : l ≠ []) (h1 : b1 ∈ K) (h2 : b2 ∈ K) (h3 : s ∈ K) (h4 : bb ∈ K) (h5 : ∀ g, v.ownBlock = some g → g ∈ K)
    (hn1 : ∀ g, v.ownBlock = some g → g ≠ b1 ∧ g ≠ b2 ∧ g ≠ s)
    (c1 : w0.cell? ⟨b1, 0, none⟩ = some (.pointer (some ⟨s, 0, none⟩))) (c2 : w0.cell? ⟨b2, 0, none⟩ = some (.int .i64 n)) (c3 : w0.cell? ⟨s, 0, none⟩ = some (.pointer (some ⟨d, 0, none⟩))) (hb : Built w0 bb v l) :
    Does w0 K v.ownBlock.toList d (Step.append n l).Pre (.func (.func 74) #[] #[.pointer (some ⟨b1, 0, none⟩), .pointer (some ⟨b2, 0, none⟩), .pointer (some ⟨bb, 0, none⟩)]) (.append n l) := by
  refine ⟨_, _, _, rfl, enters_of Tryz.func74 (by kernel_rfl) rfl, fun w D fp hk hd ho hkf hp => ?_⟩
  have d1 : w.cell? ⟨b1, 0, none⟩ = _ := (World.cell?_of_block (hk b1 h1)).trans c1
  have d2 : w.cell? ⟨b2, 0, none⟩ = _ := (World.cell?_of_block (hk b2 h2)).trans c2
  have d3 : w.cell? ⟨s, 0, none⟩ = _ := (World.cell?_of_block (hk s h3)).trans c3
  have hbw : Built w.drew bb v l := hb.keep (hk bb h4) fun g hg => hk g (h5 g hg)
  have hs := string_at hbw hl
  have HK := Lib.hid (And.intro hd (And.intro ho (And.intro hkf hp)))
  clear hd hk c1 c2 c3 hb hp
  show Calls _ _ #[_, _, _] _ _
  go_enter Tryz.func74, Tryz.ntmps74
  go_wp2
  refine wp_region_can [(0, false), (1, false), (2, false), (3, false), (4, false), (5, true), (6, true)] 7 (fun u => u.cell? ⟨b1, 0, none⟩ = some (.pointer (some ⟨s, 0, none⟩)) ∧ u.cell? ⟨b2, 0, none⟩ = some (.int .i64 n) ∧ u.cell? ⟨s, 0, none⟩ = some (.pointer (some ⟨d, 0, none⟩))) (by kernel_rfl) (by kernel_rfl) (fun _ _ d _ _ h => by cases d <;> exact h) ⟨d1, d2, d3⟩ ?_
  simp only [canOps, List.filterMap_cons, List.filterMap_nil, Option.map_some, List.getElem?_toArray, List.getElem?_cons_succ, List.getElem?_cons_zero, List.drop_succ_cons, List.drop_zero]
  repeat (apply can_light rfl; (· intro u hu; obtain ⟨hu1, hu2, hu3⟩ := hu; go_simp; try rfl); simp only [Act.put, List.setIfInBounds_toArray, List.set_cons_zero, List.set_cons_succ])
  have hl1 := block_lt_of_cell d1
  have hl2 := block_lt_of_cell d2
  have hl3 := block_lt_of_cell d3
  refine can_acts rfl fun K' hK' => ?_
  go_simp
  refine hs.mono ?_
  rintro e w1 ⟨rfl, hu1⟩
  have hnin : ∀ x, (∀ g, v.ownBlock = some g → g ≠ x) → x ∉ v.ownBlock.toList := by
    intro x hx hm
    rw [Option.mem_toList] at hm
    exact hx x hm rfl
  have e1 := (hu1.cell (p := ⟨b1, 0, none⟩) hl1 (hnin _ fun g hg => (hn1 g hg).1)).trans d1
  have e2 := (hu1.cell (p := ⟨b2, 0, none⟩) hl2 (hnin _ fun g hg => (hn1 g hg).2.1)).trans d2
  have e3 := (hu1.cell (p := ⟨s, 0, none⟩) hl3 (hnin _ fun g hg => (hn1 g hg).2.2)).trans d3
  refine hK' _ _ ⟨e1, e2, e3⟩ ?_
  clear hK' K'
  obtain ⟨hd, ho, hkf, hp⟩ := HK.out
  have hd1 : DiskAt w1 d D fp := (hd.keep (w' := w.drew) (fun _ _ => rfl)).upd hu1 (by
    intro b hb hm
    rw [Option.mem_toList] at hm
    exact hkf b (h5 b hm) hb)
  have hc := append_at hd1 ho n ⟨l.toArray⟩ hp
  have hll : (⟨l.toArray⟩ : ByteArray).data.toList = l := by simp
  rw [hll] at hc
  refine can_acts rfl fun K' hK' => ?_
  go_simp
  refine hc.mono ?_
  rintro e w2 ⟨rfl, f2, hd2, hu2, hf2⟩
  have hsz := hu1.size
  refine hK' _ _ ⟨(hu2.cell (p := ⟨b1, 0, none⟩) (Nat.lt_of_lt_of_le hl1 hsz) (hkf _ h1)).trans e1, (hu2.cell (p := ⟨b2, 0, none⟩) (Nat.lt_of_lt_of_le hl2 hsz) (hkf _ h2)).trans e2, (hu2.cell (p := ⟨s, 0, none⟩) (Nat.lt_of_lt_of_le hl3 hsz) (hkf _ h3)).trans e3⟩ (can_nil ?_)
  clear hK' K'
  go_wp2
  go_ret
  refine ⟨rfl, f2, hd2, ?_, ?_⟩
  · have h6 : Upd (fp ++ v.ownBlock.toList) w.drew w2 := Upd.trans (g := fp) (hu1.mono (by intro x hx; simp only [List.mem_append]; exact .inr hx)) hu2 (by intro x hx; simp only [List.mem_append]; exact .inl (.inl hx))
    exact ⟨h6.os, h6.tape, h6.output, h6.size, h6.block⟩
  · intro b hb
    rcases hf2 b hb with h | h
    · exact .inl h
    · exact .inr (Nat.le_trans hsz h)
end Go.Proofs.YtogkdoooimcemaaGreatDoor
