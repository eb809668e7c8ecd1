/- segments.Open of a disk that is up: the walk. Conditions: the disk lies in memory; the listed variables hold their numbers.
  Segments.ready, done, Get. Conditions: those of each lemma.
  Segments.Get. Conditions: those of each lemma. -/
import Derived.Test.YtogkdoooimcemaaGreatDoorC09
import Derived.Test.YtogkdoooimcemaaGreatDoorC10
import Derived.Deep.DeepCutAuto
import Derived.Outline
import Derived.Test.YtogkdoooimcemaaGreatDoorC08
import Derived.Deep.QuietTactic
import Derived.BigQuiet
/- Seg8 -/
namespace Go.Proofs.YtogkdoooimcemaaGreatDoor
open Go Go.RowKit
open Go.ChangeMaps (setBlock)
set_option maxRecDepth 20000

theorem open_nil (w : World) : Calls Tryz.prog 14 #[.pointer none] w fun e w' => e = .returned (.tuple #[.pointer none, .int .i64 1]) ∧ Upd [] w w' := by
  go_enter Tryz.func14, Tryz.ntmps14
  go_wp2_with (first
    | (go_at_call 29; refine (up_nil _).mono ?_; rintro e w' ⟨rfl, rfl⟩)
    | (go_at_call 40; refine (size_nil _ _).mono ?_; rintro e w' ⟨rfl, rfl⟩))
  go_ret2
  exact ⟨rfl, (Upd.refl _ _).alloc _⟩
theorem open_void (w : World) (p : Nat) (h : w.cell? ⟨p, 0, none⟩ = some (.map none)) : Calls Tryz.prog 14 #[.pointer (some ⟨p, 0, none⟩)] w fun e w' => e = .returned (.tuple #[.pointer none, .int .i64 1]) ∧ Upd [] w w' := by
  have h' : ∀ o, (w.alloc o).cell? ⟨p, 0, none⟩ = some (.map none) := fun o => (((Upd.refl [] w).alloc o).cell (p := ⟨p, 0, none⟩) (block_lt_of_cell h) (by simp)).trans h
  have hu := fun o => up_void (w.alloc o) p (h' o)
  have hs := fun o => size_void (w.alloc o) p 0 (h' o)
  clear h'
  go_enter Tryz.func14, Tryz.ntmps14
  go_wp2_with (first
    | (go_at_call 29; refine (hu _).mono ?_; rintro e w' ⟨rfl, rfl⟩)
    | (go_at_call 40; refine (hs _).mono ?_; rintro e w' ⟨rfl, rfl⟩))
  go_ret2
  exact ⟨rfl, (Upd.refl _ _).alloc _⟩
theorem open_down {w : World} {p : Nat} {D : Dk} {fp : List Nat} (h : DiskAt w p D fp) (hd : D.down = true) :
    Calls Tryz.prog 14 #[.pointer (some ⟨p, 0, none⟩)] w fun e w' => e = .returned (.tuple #[.pointer none, .int .i64 61]) ∧ Upd [] w w' := by
  have h' : ∀ o, DiskAt (w.alloc o) p D fp := fun o => h.upd ((Upd.refl [] w).alloc o) (by simp)
  have hu := fun o => up_at (h' o)
  have hs := fun o => size_at (h' o) 0
  have e1 : D.has 0 = 61 := by simp [Dk.has, hd]
  rw [hd] at hu
  rw [e1] at hs
  clear h' e1 hd h
  go_enter Tryz.func14, Tryz.ntmps14
  go_wp2_with (first
    | (go_at_call 29; refine (hu _).mono ?_; rintro e w' ⟨rfl, rfl⟩)
    | (go_at_call 40; refine (hs _).mono ?_; rintro e w' ⟨rfl, rfl⟩))
  go_ret2
  exact ⟨rfl, (Upd.refl _ _).alloc _⟩

theorem StepsAt.oneCell {w : World} {base d : Nat} {v : Value} {acts : List Act'} (h : StepsAt w base d v acts) : ∀ u ∈ acts.map (·.v), u.oneCell' = true := by
  intro u hu
  obtain ⟨a, ha, rfl⟩ := List.mem_map.1 hu
  obtain ⟨k, b, f, e, _⟩ := (h.ok a ha).does
  simp only [e]; rfl
def syncAct (d : Nat) : Act' := ⟨.func (.func 45) #[.pointer (some ⟨d, 0, none⟩)] #[], .sync, [], []⟩
theorem syncOk (w : World) (base d : Nat) : ActOk w base d (syncAct d) := ⟨does_sync w [] d, by simp [syncAct]⟩
/-- all steps, done with a disk that lies apart from them -/
theorem all_steps {w : World} {v : Value} {acts : List Act'} {base d : Nat} {D : Dk} {fp : List Nat} (h : StepsAt w base d v acts) (hX : ∀ a ∈ acts, a.X = []) (hd : DiskAt w d D fp) (ho : D.Ok) (hb : ∀ b ∈ fp, b < base) (hpre : Step.PreAll (acts.map (·.st)) D) (hlen : acts.length ≤ 1000000) :
    Calls Tryz.prog 44 #[v] w fun e w' => e = .returned (.int .i64 (Step.all (acts.map (·.st)) D).2) ∧ Moves w d fp (Step.all (acts.map (·.st)) D).1 w' := by
  have hfl : acts.flatMap (·.X) = [] := by
    rw [List.flatMap_eq_nil_iff]; exact hX
  refine (all_at h.row (fun a ha => (h.ok a ha).does) hd ho (fun a ha b hb' => ⟨fun hm => ?_, ((h.ok a ha).kept b hb').lt⟩) (List.Pairwise.imp_of_mem (fun {a c} ha _ _ b hb' => by rw [hX a ha] at hb'; simp at hb') (List.pairwise_of_forall (R := fun _ _ => True) (fun _ _ => trivial))) (fun g hg => ⟨fun hm => ?_, fun a ha => by rw [hX a ha]; simp⟩) hpre hlen).mono ?_
  · have h1 := hb b hm
    have h2 := ((h.ok a ha).kept b hb').1
    omega
  · have h1 := hb g hm
    have h2 := h.own g hg
    omega
  · rintro e w' ⟨rfl, f, h1, h2, h3⟩
    rw [hfl, List.append_nil] at h2
    exact ⟨rfl, f, h1, h2, h3⟩

/-- what Open leaves, of a disk that is up -/
def OpenPost (w : World) (d : Nat) (fp : List Nat) (D : Dk) (e : Ending) (w' : World) : Prop :=
  ∃ fp', DiskAt w' d (Step.all (openSteps D) D).1 fp' ∧ Upd fp w w' ∧ (∀ b ∈ fp', b ∈ fp ∨ w.heap.size ≤ b) ∧
    ((Step.all (openSteps D) D).2 ≠ 0 ∧ e = .returned (.tuple #[.pointer none, .int .i64 (Step.all (openSteps D) D).2]) ∨
     (Step.all (openSteps D) D).2 = 0 ∧ ∃ s ev nv, e = .returned (.tuple #[.pointer (some ⟨s, 0, none⟩), .int .i64 0]) ∧ SAt w' s d (opened D) ev nv ∧ ∀ b ∈ sfoot s ev nv, w.heap.size ≤ b ∧ b ∉ fp')

def OpenCut (w : World) (d : Nat) (D : Dk) (next torn : Value) (wx : World) : Prop :=
  ∃ ev nv acts a c, next = .int .i64 ((1000 + (gather D 64 0).length : Nat) : Int) ∧ torn = .slice a acts.length c ∧ OpenInv w d (w.heap.size + 1) (opened D) (tornOf 0 (gather D 64 0)) torn ev nv acts wx
def OpenRel (w : World) (d : Nat) (D : Dk) (next torn more : Value) (wr : World) : Prop :=
  ∃ (acc : List (List (List UInt8 × Nat) × Nat)) (m : Bool) (ev nv : Value) (acts : List Act') (a : Option Addr) (c : Nat), next = .int .i64 ((1000 + acc.length : Nat) : Int) ∧ torn = .slice a acts.length c ∧ more = .bool m ∧ acc.length ≤ 64 ∧
    gather D 64 0 = acc ++ (if m then gather D (64 - acc.length) acc.length else []) ∧ (m = true → (entsOf acc).length = 64 * acc.length) ∧
    OpenInv w d (w.heap.size + 1) { entries := entsOf acc, ends := endsOf acc, starts := D.starts, dead := false } (tornOf 0 acc) torn ev nv acts wr

theorem torn_snoc : ∀ (k : Nat) (g : List (List (List UInt8 × Nat) × Nat)) x, tornOf k (g ++ [x]) = tornOf k g ++ (if lastEnd x.1 < x.2 then [Step.trunc ((1000 + (k + g.length) : Nat) : Int) (lastEnd x.1)] else [])
  | k, [], x => by simp [tornOf]
  | k, y :: r, x => by
    have := torn_snoc (k + 1) r x
    simp only [List.cons_append, tornOf, this, List.append_assoc, List.length_cons]
    rw [show k + 1 + r.length = k + (r.length + 1) by omega]
theorem ents_snoc (g : List (List (List UInt8 × Nat) × Nat)) (x) : entsOf (g ++ [x]) = entsOf g ++ x.1.map (·.1) := by simp [entsOf]
theorem ends_snoc (g : List (List (List UInt8 × Nat) × Nat)) (x) : endsOf (g ++ [x]) = endsOf g ++ x.1.map fun e => ((e.2 : Nat) : Int) := by simp [endsOf]

def OpenS (B : Nat) (ev nv : Value) (u : World) : Prop := u.cell? ⟨B + 1, 1, none⟩ = some ev ∧ u.cell? ⟨B + 1, 2, none⟩ = some nv
theorem last_val (es : List (List UInt8 × Nat)) (h : es ≠ []) : (ivs (es.map fun x => ((x.2 : Nat) : Int)))[es.length - 1]? = some (.int .i64 ((lastEnd es : Nat) : Int)) := by
  unfold ivs lastEnd
  rw [List.getElem?_map, List.getElem?_map, ← List.getLast?_eq_getElem?]
  cases hl : es.getLast? with
  | none => simp at hl; exact absurd hl h
  | some x => rfl
theorem cell_alloc_any {w : World} {p : Addr} {v : Value} (h : w.cell? p = some v) (o : Obj) : (w.alloc o).cell? p = some v := (((Upd.refl [] w).alloc o).cell (block_lt_of_cell h) (by simp)).trans h
def LoadPost' (w : World) (b : List UInt8) (es : List (List UInt8 × Nat)) (e : Ending) (w' : World) : Prop :=
  ∃ x1 c1 x2 c2, e = .returned (.tuple #[.slice x1 es.length c1, .slice x2 es.length c2, .int .i64 b.length, .bool true]) ∧ (es ≠ [] → ∃ g, x2 = some ⟨g, 0, none⟩ ∧ w'.cell? ⟨g, es.length - 1, none⟩ = some (.int .i64 ((lastEnd es : Nat) : Int))) ∧
    RowAt w' 9 (.slice x1 es.length c1) (svs (es.map (·.1))) ∧ RowAt w' 3 (.slice x2 es.length c2) (ivs (es.map fun x => ((x.2 : Nat) : Int))) ∧ Upd [] w w'
theorem load_post {w : World} {b : List UInt8} {e : Ending} {w' : World} (h : LoadPost w b e w') : LoadPost' w b (fileEnts b) e w' := by
  obtain ⟨lv, ev, rfl, h1, h2, h3, -, -⟩ := h
  obtain ⟨x1, c1, e1⟩ := row_len h1
  obtain ⟨x2, c2, e2⟩ := row_len h2
  have l1 : (svs ((fileEnts b).map (·.1))).length = (fileEnts b).length := by simp [svs]
  have l2 : (ivs ((fileEnts b).map fun x => ((x.2 : Nat) : Int))).length = (fileEnts b).length := by simp [ivs]
  rw [l1] at e1
  rw [l2] at e2
  subst e1 e2
  refine ⟨x1, c1, x2, c2, rfl, fun h0 => ?_, h1, h2, h3⟩
  rcases h2 with ⟨_, hz⟩ | ⟨g, cap, cur, hv, hg, hr⟩
  · simp [ivs] at hz; exact absurd hz h0
  · simp only [Value.slice.injEq] at hv
    refine ⟨g, hv.1, RowAt.cell (.inr ⟨g, cap, cur, rfl, hg, hr⟩ : RowAt w' 3 (.slice (some ⟨g, 0, none⟩) (ivs ((fileEnts b).map fun x => ((x.2 : Nat) : Int))).length cap) (ivs ((fileEnts b).map fun x => ((x.2 : Nat) : Int)))) _ _ (last_val _ h0)⟩

set_option maxHeartbeats 4000000 in
theorem open_up {w : World} {d : Nat} {D : Dk} {fp : List Nat} (h : DiskAt w d D fp) (hd : D.down = false) (ho : D.Ok) (hG : Glob w) :
    Calls Tryz.prog 14 #[.pointer (some ⟨d, 0, none⟩)] w (OpenPost w d fp D) := by
  have h' : ∀ u, Upd [] w u → DiskAt u d D fp := fun u hu => h.upd hu (by simp)
  obtain ⟨W1, hW1⟩ : ∃ W1, w.alloc (.cells #[.pointer (some ⟨d, 0, none⟩)] 35) = W1 := ⟨_, rfl⟩
  have hu1 : Upd [] w W1 := by rw [← hW1]; exact (Upd.refl _ _).alloc _
  have hbx1 : Boxed W1 w.heap.size 35 (.pointer (some ⟨d, 0, none⟩)) := by rw [← hW1]; exact Boxed.new _ _ _
  have hs1 : W1.heap.size = w.heap.size + 1 := by rw [← hW1]; simp
  have hup := up_at (h' W1 hu1)
  have hst := starts_at (h' W1.drew hu1.drew)
  rw [hd] at hup
  have c1 := hbx1.cell
  have HH := Lib.hid (And.intro h (And.intro h' (And.intro ho (And.intro hd (And.intro hG (And.intro hu1 (And.intro hbx1 hs1)))))))
  clear h h' hd ho hG hu1 hbx1 hs1
  have HW := Lib.hid hW1
  go_enter Tryz.func14, Tryz.ntmps14
  go_wp2_with (go_at_call 29; refine hup.mono ?_; rintro e w' ⟨rfl, rfl⟩)
  clear hW1 hup
  refine wp_region_can [(0, false), (1, false), (2, true), (3, false), (4, true)] 5 (fun u => u.cell? ⟨w.heap.size, 0, none⟩ = some (.pointer (some ⟨d, 0, none⟩))) (by kernel_rfl) (by kernel_rfl) (fun _ _ d _ _ h => by cases d <;> exact h) c1 ?_
  simp only [canOps, List.filterMap_cons, List.filterMap_nil, Option.map_some, List.getElem?_toArray, List.getElem?_cons_succ, List.getElem?_cons_zero, List.drop_succ_cons, List.drop_zero]
  iterate 2 (apply can_light rfl; (· intro u hu1; go_simp; try rfl); simp only [Act.put, List.setIfInBounds_toArray, List.set_cons_zero, List.set_cons_succ])
  refine can_acts rfl fun K' hK' => ?_
  go_simp
  refine hst.mono ?_
  rintro e w' ⟨rfl, rfl⟩
  refine hK' _ _ c1 ?_
  clear hK' K'
  apply can_light rfl; (· intro u hu1; go_simp; try rfl)
  simp only [Act.put, List.setIfInBounds_toArray, List.set_cons_zero, List.set_cons_succ]
  refine can_acts rfl fun K' hK' => ?_
  go_simp
  obtain ⟨W2, hW2⟩ : ∃ W2, (W1.alloc (.cells #[.pointer (some ⟨d, 0, none⟩), .slice none 0 0, .slice none 0 0, .int .i64 D.starts, .bool false] 38)).drew = W2 := ⟨_, rfl⟩
  have c2 : W2.cell? ⟨w.heap.size, 0, none⟩ = some (.pointer (some ⟨d, 0, none⟩)) := by
    rw [← hW2]
    exact (((Upd.refl [] W1).alloc _).drew.cell (p := ⟨w.heap.size, 0, none⟩) (block_lt_of_cell c1) (by simp)).trans c1
  have hs1 := HH.out.2.2.2.2.2.2.2
  have hinv : OpenInv w d (w.heap.size + 1) ⟨[], [], D.starts, false⟩ [] (.slice none 0 0) (.slice none 0 0) (.slice none 0 0) [] W2 := by
    obtain ⟨-, -, -, -, -, hu1, hbx1, hs1⟩ := HH.out
    have hu2 : Upd [] W1 W2 := by rw [← hW2]; exact ((Upd.refl [] W1).alloc _).drew
    have hb := Boxed.upd hbx1 hu2 (by simp)
    refine ⟨⟨?_, RowAt.nil _ _, RowAt.nil _ _, by simp, by simp⟩, ⟨RowAt.nil _ _, by simp, by simp [Value.ownBlock]⟩, rfl, by simp, hb, hu1.trans hu2 (by simp), by omega, by simp [Value.ownBlock], by simp [Value.ownBlock], by simp⟩
    rw [← hW2, ← hs1]
    exact heap_alloc_new W1 _
  simp only [hs1, hW2]
  refine hK' _ _ c2 (can_nil ?_)
  clear hK' K' hst c1 hW2
  have HS1 := Lib.hid hs1
  have HI := Lib.hid hinv
  clear hs1 hinv
  go_upto_block 0 with fail
  go_cut [7, 8] (fun next torn wx => OpenCut w d D next torn wx)
  case first =>
    go_wp2
    go_loopw [7, 8, 9] (fun next torn more wr => OpenRel w d D next torn more wr) (fun next _ _ _ => 1065 - (intOf next).toNat)
    case atStart =>
      exact ⟨[], true, _, _, [], _, _, rfl, rfl, rfl, by simp, by simp, by simp [entsOf], HI.out⟩
    case round =>
      obtain ⟨acc, m, ev, nv, acts, a, c, rfl, rfl, rfl, hk, hg, hm, hinv⟩ := hrel
      cases m with
      | false =>
        have HX := Lib.hid (And.intro hg (And.intro hm hinv))
        clear hg hm hinv
        go_wp2
        go_meet
        obtain ⟨hg, hm, hinv⟩ := HX.out
        have hg' : gather D 64 0 = acc := by simpa using hg
        refine ⟨ev, nv, acts, a, c, by simp [hg'], rfl, ?_⟩
        unfold opened; rw [hg']; exact hinv
      | true =>
        have hn := hm rfl
        have hcs := hinv.sat.cells
        obtain ⟨x1, c1, he⟩ := row_len hinv.sat.ents
        obtain ⟨x2, c2, hv⟩ := row_len hinv.sat.ends
        have hl1 : (svs (entsOf acc)).length = (entsOf acc).length := by simp [svs]
        rw [hl1] at he
        obtain ⟨-, cs1, cs2, -, -, -⟩ := hcs
        have cb := hinv.box.cell
        have HX := Lib.hid (And.intro hg (And.intro hm hinv))
        clear hg hm hinv hl1
        by_cases hk64 : acc.length < 64
        · have hlt : ((entsOf acc).length : Int) < 4096 := by omega
          have HE := Lib.hid (And.intro he hn)
          rw [he] at cs1
          clear he hn
          cases hgk : D.get ((1000 + acc.length : Nat) : Int) with
          | none =>
            have hhas : D.has ((1000 + acc.length : Nat) : Int) ≠ 0 := by simp only [Dk.has, HH.out.2.2.2.1, hgk]; simp
            have hld := load_none (HH.out.2.1 wr HX.out.2.2.upd) _ hhas
            have HGK := Lib.hid hgk
            clear hgk hhas
            go_wp2_with (go_at_call 42; refine hld.mono ?_; rintro e w2 ⟨rfl, rfl⟩)
            go_meet
            obtain ⟨hg, hm, hinv⟩ := HX.out
            have hg' : gather D 64 0 = acc := by
              rw [hg]; simp only [if_true]
              obtain ⟨f, hf⟩ : ∃ f, 64 - acc.length = f + 1 := ⟨63 - acc.length, by omega⟩
              rw [hf, gather, HGK.out, List.append_nil]
            refine ⟨ev, nv, acts, a, c, by simp [hg'], rfl, ?_⟩
            unfold opened; rw [hg']; exact hinv
          | some b =>
            have hld := load_some (HH.out.2.1 wr HX.out.2.2.upd) HH.out.2.2.2.1 ((1000 + acc.length : Nat) : Int) b hgk (Nat.le_trans (HH.out.1.wf.len hgk) (by omega)) (HH.out.2.2.2.2.1.upd HX.out.2.2.upd (by simp) (by simp))
--BEGIN
            have hld := hld.mono fun _ _ => load_post
            have hel := readN_length 64 b 0
            have hle := lastEnd_le b
            obtain ⟨es, hes⟩ : ∃ es, fileEnts b = es := ⟨_, rfl⟩
            have hes' : readN 64 b 0 = es := hes
            rw [hes'] at hel
            rw [hes] at hle hld
            unfold LoadPost' at hld
            have HB := Lib.hid (And.intro hgk hes)
            clear hgk hes hes'
            have hnb : (b.length : Int) ≤ 1048576 := by have := HH.out.1.wf.len HB.out.1; omega
            have hel' : (es.length : Int) ≤ 64 := by omega
            obtain ⟨q, hq⟩ : ∃ q, ((es.length : Int) == 64) = q := ⟨_, rfl⟩
            have HQ := Lib.hid hq
            clear HI HW HS1
            by_cases h0 : es = []
            · by_cases ht : lastEnd es < b.length
              · have hle0 : lastEnd es = 0 := by rw [h0]; rfl
                have hl0 : es.length = 0 := by rw [h0]; rfl
                rw [hle0] at ht
                have H0 := Lib.hid (And.intro h0 hle0)
                have HL0 := Lib.hid hl0
                rw [hl0] at hld hq
                have hq0 : q = false := by rw [← hq]; rfl
                subst hq0
                clear h0 hle0 hl0 hq
                have ht' : (0 : Int) < b.length := by omega
                have HT := Lib.hid ht
                clear ht
                go_wp2_with (first | (go_at_call 42; refine hld.mono ?_; rintro e w2 ⟨y1, d1, y2, d2, rfl, hcell, hr1, hr2, hu2⟩; clear hcell) | (at_builtin; refine Stop.here ?_))
                have hinv2 := HX.out.2.2.upd' hu2
                unfold Stop
                have hal : acts.length ≤ 1000 := by have h1 := congrArg List.length HX.out.2.2.sts; rw [List.length_map] at h1; rw [h1]; exact Nat.le_trans (torn_len _ _) (by omega)
                obtain ⟨v4, w4, a4, c4, hrun4, e4, hinv4, hkeep⟩ := torn_prep hinv2 (1000 + (acc.length : Int)) 0 0 rfl hal
                have hr1' := hkeep _ _ _ (by decide) hr1
                have hr2' := hkeep _ _ _ (by decide) hr2
                have HR4 := Lib.hid hrun4
                subst e4
                clear hinv2 hkeep hrun4 hr1 hr2 hu2
                have hdr4 := (Upd.refl [] w4).drew
                have hlen5 : (entsOf acc).length + (es.map (·.1)).length ≤ 4096 := by have := HE.out.2; rw [List.length_map]; omega
                obtain ⟨v5, w5, v6, w6, hrun5, hrun6, hc5, hc6, ⟨a5, c5, e5⟩, ⟨a6, c6, e6⟩, hinv7⟩ := more_prep (hinv4.upd' hdr4) (hr1'.upd hdr4 (by simp)) (hr2'.upd hdr4 (by simp)) hlen5 (by simp)
                have hcs4 := (hinv4.upd' hdr4).sat.cells
                obtain ⟨-, s1, s2, -, -, -⟩ := hcs4
                rw [HE.out.1] at s1
                rw [HE.out.1] at hrun5 hc5 hc6
                rw [hv] at s2 hrun6 hc5 hc6
                subst e5 e6
                have H7 := Lib.hid hinv7
                have HR5 := Lib.hid hrun5
                have HR6 := Lib.hid hrun6
                obtain ⟨p1, p2⟩ := hc5
                obtain ⟨q1, q2, q3⟩ := hc6
                clear hinv7 hrun5 hrun6 hinv4 hr1' hr2' hlen5 hdr4
                refine wpList_append_run rfl rfl HR4.out ?_
                clear HR4
                go_wp2
                refine wp_region_can2 [(0, 2), (1, 2), (2, 2), (3, 2), (4, 2), (6, 2), (8, 2), (9, 2), (10, 2), (12, 2), (5, 0), (11, 0), (7, 1), (13, 1)] 14 (OpenS w.heap.size (.slice x1 (entsOf acc).length c1) (.slice x2 (ivs (endsOf acc)).length c2)) (by kernel_rfl) (by kernel_rfl) (fun _ _ d _ _ h => by cases d <;> exact h) ⟨s1, s2⟩ ?_
                simp only [canOps2, List.filterMap_cons, List.filterMap_nil, Option.map_some, List.getElem?_toArray, List.getElem?_cons_succ, List.getElem?_cons_zero, List.drop_succ_cons, List.drop_zero]
                iterate 10 (apply can2_pure rfl; (· intro u; go_simp; try rfl); simp only [Act.put, List.setIfInBounds_toArray, List.set_cons_zero, List.set_cons_succ])
                iterate 2 (apply can2_light rfl; (· intro u hu; obtain ⟨hu1, hu2⟩ := hu; go_simp; try rfl); simp only [Act.put, List.setIfInBounds_toArray, List.set_cons_zero, List.set_cons_succ])
                refine can2_acts rfl fun K' hK' => wp_append_run rfl HR5.out (hK' _ _ ⟨p1, p2⟩ ?_)
                clear hK' K'
                refine can2_acts rfl fun K' hK' => wp_append_run rfl HR6.out (hK' _ _ ⟨q1, q2⟩ (can2_nil ?_))
                clear hK' K'
                go_wp2
                have h7 := H7.out
                simp only [List.length_map] at h7
                refine ⟨⟨acc ++ [(es, b.length)], false, .slice a5 ((entsOf acc).length + es.length) c5, .slice a6 ((endsOf acc).length + es.length) c6, (acts ++ [⟨clo43 w.heap.size (w2.heap.size + 1) w2.heap.size, .trunc (1000 + (acc.length : Int)) 0, [w.heap.size, w2.heap.size + 1, w2.heap.size], []⟩]), a4, c4, by rw [List.length_append, List.length_singleton]; congr 1, by rw [List.length_append]; rfl, rfl, by simp; omega, ?_, ?_, ?_⟩, by simp [intOf]; omega⟩
                · rw [HX.out.1]; simp only [if_true]
                  obtain ⟨f, hf⟩ : ∃ f, 64 - acc.length = f + 1 := ⟨63 - acc.length, by omega⟩
                  rw [hf, gather, HB.out.1]
                  simp only []
                  rw [HB.out.2, List.append_assoc, List.singleton_append, List.length_append, List.length_singleton]
                  rw [if_neg (by rw [HL0.out]; decide), if_neg (by decide)]
                · intro hqt
                  cases hqt
                · have e1 : tornOf 0 (acc ++ [(es, b.length)]) = tornOf 0 acc ++ [Step.trunc (1000 + (acc.length : Int)) 0] := by
                    rw [torn_snoc]
                    simp only [H0.out.2]
                    rw [if_pos HT.out]
                    simp
                  rw [ents_snoc, ends_snoc, e1]
                  exact h7
              · have hle0 : lastEnd es = 0 := by rw [h0]; rfl
                have hl0 : es.length = 0 := by rw [h0]; rfl
                rw [hle0] at ht
                have H0 := Lib.hid (And.intro h0 hle0)
                have HL0 := Lib.hid hl0
                rw [hl0] at hld hq
                have hq0 : q = false := by rw [← hq]; rfl
                subst hq0
                clear h0 hle0 hl0 hq
                have ht' : ¬ (0 : Int) < b.length := by omega
                have HT := Lib.hid ht
                clear ht
                go_wp2_with (first | (go_at_call 42; refine hld.mono ?_; rintro e w2 ⟨y1, d1, y2, d2, rfl, hcell, hr1, hr2, hu2⟩; clear hcell) | (fail))
                have hinv2 := HX.out.2.2.upd' hu2
                obtain ⟨w4, hw4⟩ : ∃ w4, (w2.alloc (.cells #[.int .i64 0] 3)).alloc (.cells #[.int .i64 (1000 + (acc.length : Int))] 3) = w4 := ⟨_, rfl⟩
                have hu4 : Upd [] w2 w4 := by rw [← hw4]; exact ((Upd.refl [] w2).alloc _).alloc _
                have hinv4 := hinv2.upd' hu4
                have hr1' := hr1.upd hu4 (by simp)
                have hr2' := hr2.upd hu4 (by simp)
                rw [hw4]
                clear hw4 hinv2 hu4 hr1 hr2 hu2
                have hdr4 := (Upd.refl [] w4).drew
                have hlen5 : (entsOf acc).length + (es.map (·.1)).length ≤ 4096 := by have := HE.out.2; rw [List.length_map]; omega
                obtain ⟨v5, w5, v6, w6, hrun5, hrun6, hc5, hc6, ⟨a5, c5, e5⟩, ⟨a6, c6, e6⟩, hinv7⟩ := more_prep (hinv4.upd' hdr4) (hr1'.upd hdr4 (by simp)) (hr2'.upd hdr4 (by simp)) hlen5 (by simp)
                have hcs4 := (hinv4.upd' hdr4).sat.cells
                obtain ⟨-, s1, s2, -, -, -⟩ := hcs4
                rw [HE.out.1] at s1
                rw [HE.out.1] at hrun5 hc5 hc6
                rw [hv] at s2 hrun6 hc5 hc6
                subst e5 e6
                have H7 := Lib.hid hinv7
                have HR5 := Lib.hid hrun5
                have HR6 := Lib.hid hrun6
                obtain ⟨p1, p2⟩ := hc5
                obtain ⟨q1, q2, q3⟩ := hc6
                clear hinv7 hrun5 hrun6 hinv4 hr1' hr2' hlen5 hdr4
                refine wp_region_can2 [(0, 2), (1, 2), (2, 2), (3, 2), (4, 2), (6, 2), (8, 2), (9, 2), (10, 2), (12, 2), (5, 0), (11, 0), (7, 1), (13, 1)] 14 (OpenS w.heap.size (.slice x1 (entsOf acc).length c1) (.slice x2 (ivs (endsOf acc)).length c2)) (by kernel_rfl) (by kernel_rfl) (fun _ _ d _ _ h => by cases d <;> exact h) ⟨s1, s2⟩ ?_
                simp only [canOps2, List.filterMap_cons, List.filterMap_nil, Option.map_some, List.getElem?_toArray, List.getElem?_cons_succ, List.getElem?_cons_zero, List.drop_succ_cons, List.drop_zero]
                iterate 10 (apply can2_pure rfl; (· intro u; go_simp; try rfl); simp only [Act.put, List.setIfInBounds_toArray, List.set_cons_zero, List.set_cons_succ])
                iterate 2 (apply can2_light rfl; (· intro u hu; obtain ⟨hu1, hu2⟩ := hu; go_simp; try rfl); simp only [Act.put, List.setIfInBounds_toArray, List.set_cons_zero, List.set_cons_succ])
                refine can2_acts rfl fun K' hK' => wp_append_run rfl HR5.out (hK' _ _ ⟨p1, p2⟩ ?_)
                clear hK' K'
                refine can2_acts rfl fun K' hK' => wp_append_run rfl HR6.out (hK' _ _ ⟨q1, q2⟩ (can2_nil ?_))
                clear hK' K'
                go_wp2
                have h7 := H7.out
                simp only [List.length_map] at h7
                refine ⟨⟨acc ++ [(es, b.length)], false, .slice a5 ((entsOf acc).length + es.length) c5, .slice a6 ((endsOf acc).length + es.length) c6, acts, a, c, by rw [List.length_append, List.length_singleton]; congr 1, rfl, rfl, by simp; omega, ?_, ?_, ?_⟩, by simp [intOf]; omega⟩
                · rw [HX.out.1]; simp only [if_true]
                  obtain ⟨f, hf⟩ : ∃ f, 64 - acc.length = f + 1 := ⟨63 - acc.length, by omega⟩
                  rw [hf, gather, HB.out.1]
                  simp only []
                  rw [HB.out.2, List.append_assoc, List.singleton_append, List.length_append, List.length_singleton]
                  rw [if_neg (by rw [HL0.out]; decide), if_neg (by decide)]
                · intro hqt
                  cases hqt
                · have e1 : tornOf 0 (acc ++ [(es, b.length)]) = tornOf 0 acc ++ [] := by
                    rw [torn_snoc]
                    simp only [H0.out.2]
                    rw [if_neg HT.out]
                  rw [List.append_nil] at e1
                  rw [ents_snoc, ends_snoc, e1]
                  exact h7
            · by_cases ht : lastEnd es < b.length
              · have hpos : 0 < es.length := List.length_pos_iff.2 h0
                have H0 := Lib.hid h0
                obtain ⟨le, hle1⟩ : ∃ le, lastEnd es = le := ⟨_, rfl⟩
                rw [hle1] at ht hle hld
                have HLE := Lib.hid hle1
                clear h0 hle1
                have ht' : (le : Int) < b.length := by omega
                have hposi : (0 : Int) < es.length := by omega
                obtain ⟨m1, hm1⟩ : ∃ m1, es.length - 1 = m1 := ⟨_, rfl⟩
                have hwl : IntKind.i64.wrap ((es.length : Int) - 1) = (m1 : Int) := by rw [IntKind.wrap_i64]; omega
                have hltl : (m1 : Int) < es.length := by omega
                rw [hm1] at hld
                clear hm1
                have HT := Lib.hid ht
                clear ht
                go_wp2_with (first | (go_at_call 42; refine hld.mono ?_; rintro e w2 ⟨y1, d1, y2, d2, rfl, hcell, hr1, hr2, hu2⟩; obtain ⟨g2, rfl, hcl0⟩ := hcell H0.out; have hcl := cell_alloc_any hcl0; clear hcl0; clear hcell) | (at_builtin; refine Stop.here ?_))
                have hinv2 := HX.out.2.2.upd' hu2
                unfold Stop
                have hal : acts.length ≤ 1000 := by have h1 := congrArg List.length HX.out.2.2.sts; rw [List.length_map] at h1; rw [h1]; exact Nat.le_trans (torn_len _ _) (by omega)
                obtain ⟨v4, w4, a4, c4, hrun4, e4, hinv4, hkeep⟩ := torn_prep hinv2 (1000 + (acc.length : Int)) le ((le : Nat) : Int) rfl hal
                have hr1' := hkeep _ _ _ (by decide) hr1
                have hr2' := hkeep _ _ _ (by decide) hr2
                have HR4 := Lib.hid hrun4
                subst e4
                clear hinv2 hkeep hrun4 hr1 hr2 hu2
                have hdr4 := (Upd.refl [] w4).drew
                have hlen5 : (entsOf acc).length + (es.map (·.1)).length ≤ 4096 := by have := HE.out.2; rw [List.length_map]; omega
                obtain ⟨v5, w5, v6, w6, hrun5, hrun6, hc5, hc6, ⟨a5, c5, e5⟩, ⟨a6, c6, e6⟩, hinv7⟩ := more_prep (hinv4.upd' hdr4) (hr1'.upd hdr4 (by simp)) (hr2'.upd hdr4 (by simp)) hlen5 (by simp)
                have hcs4 := (hinv4.upd' hdr4).sat.cells
                obtain ⟨-, s1, s2, -, -, -⟩ := hcs4
                rw [HE.out.1] at s1
                rw [HE.out.1] at hrun5 hc5 hc6
                rw [hv] at s2 hrun6 hc5 hc6
                subst e5 e6
                have H7 := Lib.hid hinv7
                have HR5 := Lib.hid hrun5
                have HR6 := Lib.hid hrun6
                obtain ⟨p1, p2⟩ := hc5
                obtain ⟨q1, q2, q3⟩ := hc6
                clear hinv7 hrun5 hrun6 hinv4 hr1' hr2' hlen5 hdr4
                refine wpList_append_run rfl rfl HR4.out ?_
                clear HR4
                go_wp2
                refine wp_region_can2 [(0, 2), (1, 2), (2, 2), (3, 2), (4, 2), (6, 2), (8, 2), (9, 2), (10, 2), (12, 2), (5, 0), (11, 0), (7, 1), (13, 1)] 14 (OpenS w.heap.size (.slice x1 (entsOf acc).length c1) (.slice x2 (ivs (endsOf acc)).length c2)) (by kernel_rfl) (by kernel_rfl) (fun _ _ d _ _ h => by cases d <;> exact h) ⟨s1, s2⟩ ?_
                simp only [canOps2, List.filterMap_cons, List.filterMap_nil, Option.map_some, List.getElem?_toArray, List.getElem?_cons_succ, List.getElem?_cons_zero, List.drop_succ_cons, List.drop_zero]
                iterate 10 (apply can2_pure rfl; (· intro u; go_simp; try rfl); simp only [Act.put, List.setIfInBounds_toArray, List.set_cons_zero, List.set_cons_succ])
                iterate 2 (apply can2_light rfl; (· intro u hu; obtain ⟨hu1, hu2⟩ := hu; go_simp; try rfl); simp only [Act.put, List.setIfInBounds_toArray, List.set_cons_zero, List.set_cons_succ])
                refine can2_acts rfl fun K' hK' => wp_append_run rfl HR5.out (hK' _ _ ⟨p1, p2⟩ ?_)
                clear hK' K'
                refine can2_acts rfl fun K' hK' => wp_append_run rfl HR6.out (hK' _ _ ⟨q1, q2⟩ (can2_nil ?_))
                clear hK' K'
                go_wp2
                have h7 := H7.out
                simp only [List.length_map] at h7
                refine ⟨⟨acc ++ [(es, b.length)], q, .slice a5 ((entsOf acc).length + es.length) c5, .slice a6 ((endsOf acc).length + es.length) c6, (acts ++ [⟨clo43 w.heap.size (w2.heap.size + 1) w2.heap.size, .trunc (1000 + (acc.length : Int)) le, [w.heap.size, w2.heap.size + 1, w2.heap.size], []⟩]), a4, c4, by rw [List.length_append, List.length_singleton]; congr 1, by rw [List.length_append]; rfl, rfl, by simp; omega, ?_, ?_, ?_⟩, by simp [intOf]; omega⟩
                · rw [HX.out.1]; simp only [if_true]
                  obtain ⟨f, hf⟩ : ∃ f, 64 - acc.length = f + 1 := ⟨63 - acc.length, by omega⟩
                  rw [hf, gather, HB.out.1]
                  simp only []
                  rw [HB.out.2, List.append_assoc, List.singleton_append, List.length_append, List.length_singleton]
                  have hf' : 64 - (acc.length + 1) = f := by omega
                  rw [hf', ← HQ.out]
                  by_cases h64 : es.length = 64
                  · rw [if_pos h64, if_pos (by rw [h64]; rfl)]
                  · rw [if_neg h64, if_neg (by simp; omega)]
                · intro hqt
                  rw [← HQ.out] at hqt
                  have h64 : es.length = 64 := by simp at hqt; omega
                  rw [ents_snoc, List.length_append, HE.out.2, List.length_append]
                  simp [h64]; omega
                · have e1 : tornOf 0 (acc ++ [(es, b.length)]) = tornOf 0 acc ++ [Step.trunc (1000 + (acc.length : Int)) le] := by
                    rw [torn_snoc]
                    simp only [HLE.out]
                    rw [if_pos HT.out]
                    simp
                  rw [ents_snoc, ends_snoc, e1]
                  exact h7
              · have hpos : 0 < es.length := List.length_pos_iff.2 h0
                have H0 := Lib.hid h0
                obtain ⟨le, hle1⟩ : ∃ le, lastEnd es = le := ⟨_, rfl⟩
                rw [hle1] at ht hle hld
                have HLE := Lib.hid hle1
                clear h0 hle1
                have ht' : ¬ (le : Int) < b.length := by omega
                have hposi : (0 : Int) < es.length := by omega
                obtain ⟨m1, hm1⟩ : ∃ m1, es.length - 1 = m1 := ⟨_, rfl⟩
                have hwl : IntKind.i64.wrap ((es.length : Int) - 1) = (m1 : Int) := by rw [IntKind.wrap_i64]; omega
                have hltl : (m1 : Int) < es.length := by omega
                rw [hm1] at hld
                clear hm1
                have HT := Lib.hid ht
                clear ht
                go_wp2_with (first | (go_at_call 42; refine hld.mono ?_; rintro e w2 ⟨y1, d1, y2, d2, rfl, hcell, hr1, hr2, hu2⟩; obtain ⟨g2, rfl, hcl0⟩ := hcell H0.out; have hcl := cell_alloc_any hcl0; clear hcl0; clear hcell) | (fail))
                have hinv2 := HX.out.2.2.upd' hu2
                obtain ⟨w4, hw4⟩ : ∃ w4, (w2.alloc (.cells #[.int .i64 ((le : Nat) : Int)] 3)).alloc (.cells #[.int .i64 (1000 + (acc.length : Int))] 3) = w4 := ⟨_, rfl⟩
                have hu4 : Upd [] w2 w4 := by rw [← hw4]; exact ((Upd.refl [] w2).alloc _).alloc _
                have hinv4 := hinv2.upd' hu4
                have hr1' := hr1.upd hu4 (by simp)
                have hr2' := hr2.upd hu4 (by simp)
                rw [hw4]
                clear hw4 hinv2 hu4 hr1 hr2 hu2
                have hdr4 := (Upd.refl [] w4).drew
                have hlen5 : (entsOf acc).length + (es.map (·.1)).length ≤ 4096 := by have := HE.out.2; rw [List.length_map]; omega
                obtain ⟨v5, w5, v6, w6, hrun5, hrun6, hc5, hc6, ⟨a5, c5, e5⟩, ⟨a6, c6, e6⟩, hinv7⟩ := more_prep (hinv4.upd' hdr4) (hr1'.upd hdr4 (by simp)) (hr2'.upd hdr4 (by simp)) hlen5 (by simp)
                have hcs4 := (hinv4.upd' hdr4).sat.cells
                obtain ⟨-, s1, s2, -, -, -⟩ := hcs4
                rw [HE.out.1] at s1
                rw [HE.out.1] at hrun5 hc5 hc6
                rw [hv] at s2 hrun6 hc5 hc6
                subst e5 e6
                have H7 := Lib.hid hinv7
                have HR5 := Lib.hid hrun5
                have HR6 := Lib.hid hrun6
                obtain ⟨p1, p2⟩ := hc5
                obtain ⟨q1, q2, q3⟩ := hc6
                clear hinv7 hrun5 hrun6 hinv4 hr1' hr2' hlen5 hdr4
                refine wp_region_can2 [(0, 2), (1, 2), (2, 2), (3, 2), (4, 2), (6, 2), (8, 2), (9, 2), (10, 2), (12, 2), (5, 0), (11, 0), (7, 1), (13, 1)] 14 (OpenS w.heap.size (.slice x1 (entsOf acc).length c1) (.slice x2 (ivs (endsOf acc)).length c2)) (by kernel_rfl) (by kernel_rfl) (fun _ _ d _ _ h => by cases d <;> exact h) ⟨s1, s2⟩ ?_
                simp only [canOps2, List.filterMap_cons, List.filterMap_nil, Option.map_some, List.getElem?_toArray, List.getElem?_cons_succ, List.getElem?_cons_zero, List.drop_succ_cons, List.drop_zero]
                iterate 10 (apply can2_pure rfl; (· intro u; go_simp; try rfl); simp only [Act.put, List.setIfInBounds_toArray, List.set_cons_zero, List.set_cons_succ])
                iterate 2 (apply can2_light rfl; (· intro u hu; obtain ⟨hu1, hu2⟩ := hu; go_simp; try rfl); simp only [Act.put, List.setIfInBounds_toArray, List.set_cons_zero, List.set_cons_succ])
                refine can2_acts rfl fun K' hK' => wp_append_run rfl HR5.out (hK' _ _ ⟨p1, p2⟩ ?_)
                clear hK' K'
                refine can2_acts rfl fun K' hK' => wp_append_run rfl HR6.out (hK' _ _ ⟨q1, q2⟩ (can2_nil ?_))
                clear hK' K'
                go_wp2
                have h7 := H7.out
                simp only [List.length_map] at h7
                refine ⟨⟨acc ++ [(es, b.length)], q, .slice a5 ((entsOf acc).length + es.length) c5, .slice a6 ((endsOf acc).length + es.length) c6, acts, a, c, by rw [List.length_append, List.length_singleton]; congr 1, rfl, rfl, by simp; omega, ?_, ?_, ?_⟩, by simp [intOf]; omega⟩
                · rw [HX.out.1]; simp only [if_true]
                  obtain ⟨f, hf⟩ : ∃ f, 64 - acc.length = f + 1 := ⟨63 - acc.length, by omega⟩
                  rw [hf, gather, HB.out.1]
                  simp only []
                  rw [HB.out.2, List.append_assoc, List.singleton_append, List.length_append, List.length_singleton]
                  have hf' : 64 - (acc.length + 1) = f := by omega
                  rw [hf', ← HQ.out]
                  by_cases h64 : es.length = 64
                  · rw [if_pos h64, if_pos (by rw [h64]; rfl)]
                  · rw [if_neg h64, if_neg (by simp; omega)]
                · intro hqt
                  rw [← HQ.out] at hqt
                  have h64 : es.length = 64 := by simp at hqt; omega
                  rw [ents_snoc, List.length_append, HE.out.2, List.length_append]
                  simp [h64]; omega
                · have e1 : tornOf 0 (acc ++ [(es, b.length)]) = tornOf 0 acc ++ [] := by
                    rw [torn_snoc]
                    simp only [HLE.out]
                    rw [if_neg HT.out]
                  rw [List.append_nil] at e1
                  rw [ents_snoc, ends_snoc, e1]
                  exact h7
        · have hlt : ¬ ((entsOf acc).length : Int) < 4096 := by omega
          have HE := Lib.hid (And.intro he hn)
          rw [he] at cs1
          clear he hn
          go_wp2
          go_meet
          obtain ⟨hg, hm, hinv⟩ := HX.out
          have hg' : gather D 64 0 = acc := by
            rw [hg]; simp only [if_true]
            have : 64 - acc.length = 0 := by omega
            rw [this, gather, List.append_nil]
          refine ⟨ev, nv, acts, a, c, by simp [hg'], rfl, ?_⟩
          unfold opened; rw [hg']; exact hinv
  case rest =>
    obtain ⟨ev, nv, acts, a, c, rfl, rfl, hinv⟩ := hcut
    have hdr := drop_steps (HH.out.2.1 wc hinv.upd) ((1000 + (gather D 64 0).length : Nat) : Int)
    have hsz := hinv.upd.size
    have HV := Lib.hid hinv
    have cb := hinv.box.cell
    clear hinv c2 HI
    go_wp2_with (first | (go_at_call 37; refine hdr.mono ?_; rintro e w2 ⟨dv, dacts, rfl, hds, hdst, hdX, hdu⟩) | (at_builtin; refine Stop.here ?_))
    unfold Stop
    have hinv2 := HV.out.upd' hdu
    obtain ⟨is, zs, hi1, hi2, hi3, hi4, hi5⟩ := info_step
    have hl1 : dacts.length ≤ 100 := by
      have := congrArg List.length hdst
      rw [List.length_map] at this
      rw [this]
      unfold dropSteps
      rw [List.length_map]
      exact Nat.le_trans (List.length_filter_le _ _) (by simp [keys_len]; exact HH.out.1.wf.many)
    have hl2 : acts.length ≤ 64 := by
      have := congrArg List.length HV.out.sts
      rw [List.length_map] at this
      rw [this]
      exact Nat.le_trans (torn_len _ _) (gather_len D 64 0)
    obtain ⟨v3, w3, hrun3, g3⟩ := run_appends Tryz.underlying71 hi1 hi2 hi3 hi4 hi5 hds.row hinv2.steps.row.reads hinv2.steps.oneCell (by simp; omega) 71
    have st3 := (hds.mono hsz).grew (news := acts) hinv2.steps.ok g3 (Nat.le_trans hsz hdu.size)
    have hu3 : Upd [] wc w3 := g3.updNil hdu (fun k hk => .inr (hds.own k hk))
    have hb3 := (HV.out.upd' hu3).box.cell
    obtain ⟨v4, w4, hrun4, g4⟩ := app1_step st3.row (syncAct d).v rfl (by simp; omega) 71 1
    have hs3 := Nat.le_trans hsz hu3.size
    have st4 := st3.grew (news := [syncAct d]) (by simpa using syncOk w3 w.heap.size d) g4 hs3
    have hge3 := g3.ge hdu.size hds.own
    have hu4 : Upd [] wc w4 := g4.updNil hu3 (fun k hk => .inr (hge3 k hk))
    have hinv4 := HV.out.upd' hu4
    have hsts : (dacts ++ acts ++ [syncAct d]).map (·.st) = openSteps D := by
      rw [List.map_append, List.map_append, hdst, HV.out.sts]; rfl
    have hall := all_steps st4 (by
      intro x hx
      simp only [List.mem_append, List.mem_singleton] at hx
      rcases hx with (hx | hx) | rfl
      · exact hdX x hx
      · exact hinv4.xs x hx
      · rfl) (HH.out.2.1 w4 hinv4.upd) HH.out.2.2.1 HH.out.1.lt (by rw [hsts]; exact open_pre D) (by simp; omega)
    rw [hsts] at hall
    have H4 := Lib.hid hinv4
    have HR4 := Lib.hid hrun4
    clear hinv2 hi1 hi2 hi3 hi4 hi5 hl1 hl2 g3 st3 hu3 g4 st4 hge3 hu4 hinv4 hsts hds hdst hdX hdu hs3 hrun4 hsz
    refine wpList_append_run rfl rfl hrun3 ?_
    clear hrun3
    go_wp2_with (at_builtin; refine Stop.here ?_)
    unfold Stop
    refine wpList_append_run rfl rfl HR4.out ?_
    clear HR4
    generalize hR : Step.all (openSteps D) D = R at hall
    have HRR := Lib.hid hR
    clear hR
    have fin : ∀ fp' w5, DiskAt w5 d R.1 fp' → Upd fp w4 w5 → (∀ b ∈ fp', b ∈ fp ∨ w4.heap.size ≤ b) → Upd fp w w5 ∧ (∀ b ∈ fp', b ∈ fp ∨ w.heap.size ≤ b) ∧ SAt w5 (w.heap.size + 1) d (opened D) ev nv ∧ ∀ b ∈ sfoot (w.heap.size + 1) ev nv, w.heap.size ≤ b ∧ b ∉ fp' := by
      intro fp' w5 h1 h2 h3
      have hi := H4.out
      have hge : ∀ b ∈ sfoot (w.heap.size + 1) ev nv, w.heap.size ≤ b := by
        intro b hb
        simp only [sfoot, List.mem_cons, List.mem_append, Option.mem_toList] at hb
        rcases hb with rfl | hb | hb
        · omega
        · exact hi.evge b hb
        · exact hi.nvge b hb
      have hfl := HH.out.1.lt
      refine ⟨(hi.upd.mono (by simp)).trans h2 (fun x hx => .inl hx), fun b hb => ?_, hi.sat.upd h2 fun b hb hm => ?_, fun b hb => ⟨hge b hb, fun hm => ?_⟩⟩
      · rcases h3 b hb with h | h
        · exact .inl h
        · exact .inr (Nat.le_trans hi.upd.size h)
      · have := hge b hb; have := hfl b hm; omega
      · have h6 := hge b hb
        have h7 := hi.sat.lt b hb
        rcases h3 b hm with h | h
        · have := hfl b h; omega
        · omega
    have HF := Lib.hid fin
    clear fin
    obtain ⟨D', r⟩ := R
    simp only at hall
    by_cases he : r = 0
    · subst he
      go_wp2_with (go_at_call 44; refine hall.mono ?_; rintro e w5 ⟨rfl, fp', hd5, hu5, hf5⟩)
      go_ret2
      obtain ⟨h1, h2, h3, h4⟩ := HF.out fp' w5 hd5 hu5 hf5
      refine ⟨fp', ?_, h1, h2, .inr ⟨?_, _, ev, nv, rfl, h3, h4⟩⟩
      · rw [HRR.out]; exact hd5
      · rw [HRR.out]
    · have hb1 : (r == 0) = false := by simpa using he
      have hb2 : (r != 0) = true := by simpa using he
      have HE := Lib.hid he
      clear he
      go_wp2_with (go_at_call 44; refine hall.mono ?_; rintro e w5 ⟨rfl, fp', hd5, hu5, hf5⟩)
      go_ret2
      obtain ⟨h1, h2, h3, h4⟩ := HF.out fp' w5 hd5 hu5 hf5
      refine ⟨fp', ?_, h1, h2, .inl ⟨?_, ?_⟩⟩
      · rw [HRR.out]; exact hd5
      · rw [HRR.out]; exact HE.out
      · rw [HRR.out]; rfl
end Go.Proofs.YtogkdoooimcemaaGreatDoor

/- Seg9 -/
namespace Go.Proofs.YtogkdoooimcemaaGreatDoor
open Go Go.RowKit
open Go.ChangeMaps (setBlock)
set_option maxRecDepth 20000

/-- segments with their disk in memory; sf, df: their blocks -/
structure SegAt (w : World) (s d : Nat) (S : Sg) (D : Dk) (sf df : List Nat) : Prop where
  segs : ∃ ev nv, SAt w s d S ev nv ∧ sf = sfoot s ev nv
  disk : DiskAt w d D df
  apart : ∀ b ∈ sf, b ∉ df

theorem sready_nil (w : World) : Calls Tryz.prog 33 #[.pointer none] w fun e w' => e = .returned (.int .i64 1) ∧ w = w' := by
  go_enter Tryz.func33, Tryz.ntmps33
  go_wp2
  go_ret
  exact ⟨rfl, rfl⟩
theorem sready_void (w : World) (s : Nat) (h : w.cell? ⟨s, 0, none⟩ = some (.pointer none)) : Calls Tryz.prog 33 #[.pointer (some ⟨s, 0, none⟩)] w fun e w' => e = .returned (.int .i64 1) ∧ w = w' := by
  go_enter Tryz.func33, Tryz.ntmps33
  go_wp2
  go_ret
  exact ⟨rfl, rfl⟩
theorem drewN_upd (w : World) (n : Nat) : Upd [] w (w.drewN n) := ⟨rfl, rfl, rfl, Nat.le_refl _, fun _ _ _ => rfl⟩
set_option maxHeartbeats 1000000 in
theorem sready_yes {w : World} {s d : Nat} {S : Sg} {D : Dk} {ev nv : Value} {fp : List Nat} (h : SAt w s d S ev nv) (hd : DiskAt w d D fp) (hr : S.ready D = true) :
    Calls Tryz.prog 33 #[.pointer (some ⟨s, 0, none⟩)] w fun e w' => e = .returned (.int .i64 0) ∧ ∃ n, w' = w.drewN n := by
  obtain ⟨c0, -, -, c3, c4, -⟩ := h.cells
  have h1 : S.dead = false ∧ D.down = false ∧ D.starts = S.starts := by
    unfold Sg.ready at hr
    simp at hr
    exact ⟨hr.1.1, hr.1.2, hr.2⟩
  obtain ⟨h1, h2, h3⟩ := h1
  have hup := fun n => (up_at (hd.upd (drewN_upd w n) (by simp))).mono (fun _ _ h => And.intro h.1 h.2.symm)
  have hst := fun n => (starts_at (hd.upd (drewN_upd w n) (by simp))).mono (fun _ _ h => And.intro h.1 h.2.symm)
  rw [h2] at hup
  rw [h3] at hst
  rw [h1] at c4
  clear h hd hr h1 h2 h3
  go_enter Tryz.func33, Tryz.ntmps33
  go_wp2
  go_quiet ((first | (go_at_call 29; exact Calls.quiet_of_same (hup _)) | (go_at_call 41; exact Calls.quiet_of_same (hst _))))
  go_wp2
  go_ret
  exact ⟨rfl, _, rfl⟩
set_option maxHeartbeats 2000000 in
theorem sready_no {w : World} {s d : Nat} {S : Sg} {D : Dk} {ev nv : Value} {fp : List Nat} (h : SAt w s d S ev nv) (hd : DiskAt w d D fp) (hr : S.ready D = false) :
    Calls Tryz.prog 33 #[.pointer (some ⟨s, 0, none⟩)] w fun e w' => e = .returned (.int .i64 61) ∧ ∃ n, w' = (w.drewN n).setCell ⟨s, 4, none⟩ (.bool true) := by
  obtain ⟨c0, -, -, c3, c4, cf⟩ := h.cells
  have cf4 := cf 4
  have hup := fun n => (up_at (hd.upd (drewN_upd w n) (by simp))).mono (fun _ _ h => And.intro h.1 h.2.symm)
  have hst := fun n => (starts_at (hd.upd (drewN_upd w n) (by simp))).mono (fun _ _ h => And.intro h.1 h.2.symm)
  cases h1 : S.dead with
  | true =>
    rw [h1] at c4
    clear h hd hr h1 hup hst cf
    go_enter Tryz.func33, Tryz.ntmps33
    go_wp2
    go_quiet (fail)
    go_wp2
    go_ret
    exact ⟨rfl, _, rfl⟩
  | false =>
    rw [h1] at c4
    cases h2 : D.down with
    | true =>
      rw [h2] at hup
      clear h hd hr h1 h2 hst cf
      go_enter Tryz.func33, Tryz.ntmps33
      go_wp2
      go_quiet ((go_at_call 29; exact Calls.quiet_of_same (hup _)))
      go_wp2
      go_ret
      exact ⟨rfl, _, rfl⟩
    | false =>
      have h3 : D.starts ≠ S.starts := by
        unfold Sg.ready at hr
        simpa [h1, h2] using hr
      have h4 : ((D.starts : Int) != (S.starts : Int)) = true := by simp; omega
      have h5 : (D.starts != S.starts) = true := by simpa using h3
      rw [h2] at hup
      clear h hd hr h1 h2 h3 cf
      go_enter Tryz.func33, Tryz.ntmps33
      go_wp2
      go_quiet ((first | (go_at_call 29; exact Calls.quiet_of_same (hup _)) | (go_at_call 41; exact Calls.quiet_of_same (hst _))))
      go_wp2
      go_ret
      exact ⟨rfl, _, rfl⟩
theorem SAt.dead {w : World} {s d : Nat} {S : Sg} {ev nv : Value} (h : SAt w s d S ev nv) (u : World) (hu : Upd [] w u) (b : Bool) : SAt (u.setCell ⟨s, 4, none⟩ (.bool b)) s d { S with dead := b } ev nv := by
  have h' := h.upd hu (by simp)
  have e1 := heap_setCell_same u s 4 _ _ (.bool b) h'.blk
  have hne : ∀ g, g ≠ s → (u.setCell ⟨s, 4, none⟩ (.bool b)).heap[g]? = u.heap[g]? := fun g hg => heap_setCell_other u ⟨s, 4, none⟩ g _ (fun e => hg e)
  refine ⟨?_, h'.ents.keep fun g hg _ => hne g ?_, h'.ends.keep fun g hg _ => hne g ?_, h.few, h.same⟩
  · rw [e1]; simp [scells]
  · rintro rfl; exact h'.type_s h'.ents (by decide) hg
  · rintro rfl; exact h'.type_s h'.ends (by decide) hg

/-! ### done -/
def DonePost (w : World) (s d : Nat) (S : Sg) (D : Dk) (ev nv : Value) (fp X : List Nat) (sts : List Step) (e : Ending) (w' : World) : Prop :=
  e = .returned (.int .i64 (Step.all (sts ++ [.sync]) D).2) ∧ SAt w' s d { S with dead := decide ((Step.all (sts ++ [.sync]) D).2 = 61) } ev nv ∧
    ∃ fp', DiskAt w' d (Step.all (sts ++ [.sync]) D).1 fp' ∧ (∀ b ∈ fp', b ∈ fp ∨ w.heap.size ≤ b) ∧ Upd (s :: (fp ++ X)) w w'
set_option maxHeartbeats 2000000 in
theorem done_at {w : World} {s d : Nat} {S : Sg} {D : Dk} {ev nv v : Value} {fp : List Nat} {acts : List Act'} (h : SAt w s d S ev nv) (hd : DiskAt w d D fp) (ho : D.Ok) (hst : StepsAt w 0 d v acts) (hlive : S.dead = false)
    (hsf : ∀ b ∈ sfoot s ev nv, b ∉ fp) (hK : ∀ a ∈ acts, ∀ b ∈ a.K, b ∉ fp) (hv : ∀ g, v.ownBlock = some g → g ∉ fp) (hX : ∀ a ∈ acts, ∀ b ∈ a.X, KeptAt w 0 b ∧ b ∉ sfoot s ev nv) (hap : acts.Pairwise fun a c => ∀ b ∈ a.X, b ∉ c.K)
    (hpre : Step.PreAll (acts.map (·.st) ++ [.sync]) D) (hlen : acts.length ≤ 100000) :
    Calls Tryz.prog 36 #[.pointer (some ⟨s, 0, none⟩), v] w (DonePost w s d S D ev nv fp (v.ownBlock.toList ++ acts.flatMap (·.X)) (acts.map (·.st))) := by
  obtain ⟨c0, -, -, -, -, -⟩ := h.cells
  obtain ⟨v1, w1, hrun1, g1⟩ := app1_step hst.row (syncAct d).v rfl (by simp; omega) 71 1
  have st1 := hst.grew (news := [syncAct d]) (by simpa using syncOk w 0 d) g1 (Nat.zero_le _)
  have hu1 : Upd v.ownBlock.toList w w1 := g1.upd
  have hv1 : ∀ b ∈ v.ownBlock.toList, b ∉ fp := by intro b hb; exact hv b (by simpa using hb)
  have hd1 : DiskAt w1 d D fp := hd.upd hu1 (fun b hb hm => hv1 b hm hb)
  have hsv : ∀ b ∈ sfoot s ev nv, b ∉ v.ownBlock.toList := by
    intro b hb hm
    rw [Option.mem_toList] at hm
    simp only [sfoot, List.mem_cons, List.mem_append, Option.mem_toList] at hb
    rcases hb with rfl | hb | hb
    · exact h.type_s hst.row (by decide) hm
    · exact hst.row.apart h.ents (by decide) b hm hb
    · exact hst.row.apart h.ends (by decide) b hm hb
  have h1 : SAt w1 s d S ev nv := h.upd hu1 hsv
  have hX1 : ∀ a ∈ acts, ∀ b ∈ a.X, KeptAt w1 0 b := fun a ha b hb => ((hX a ha b hb).1).keep (hu1.block b (hX a ha b hb).1.lt (by
    have := (hX a ha b hb).1.apart hst.row
    simpa using this))
  have hfl := hd.lt
  have hall := all_at st1.row (fun a ha => (st1.ok a ha).does) hd1 ho (by
    intro a ha b hb
    refine ⟨?_, ((st1.ok a ha).kept b hb).lt⟩
    rcases List.mem_append.1 ha with ha | ha
    · exact hK a ha b hb
    · simp [syncAct] at ha; subst ha; simp at hb) (by
    rw [List.pairwise_append]
    refine ⟨hap, by simp, fun a _ c hc => ?_⟩
    simp [syncAct] at hc; subst hc; simp) (by
    intro g hg
    refine ⟨fun hm => ?_, fun a ha hm => ?_⟩
    · rcases g1.own with h2 | ⟨g', h2, h3⟩
      · exact hv g (h2 ▸ hg) hm
      · rw [hg] at h2; cases h2
        have := hfl g hm; omega
    · rcases List.mem_append.1 ha with ha | ha
      · exact (hX1 a ha g hm).apart st1.row hg
      · simp [syncAct] at ha; subst ha; simp at hm) (by rw [List.map_append]; exact hpre) (by simp; omega)
  rw [List.map_append, List.flatMap_append] at hall
  have hsA : List.map (fun x => x.st) [syncAct d] = [Step.sync] := rfl
  have hsX : List.flatMap (fun x => x.X) [syncAct d] = [] := rfl
  rw [hsA, hsX, List.append_nil] at hall
  unfold DonePost
  have hXs : ∀ b ∈ sfoot s ev nv, b ∉ fp ++ acts.flatMap (·.X) := by
    intro b hb hm
    rcases List.mem_append.1 hm with hm | hm
    · exact hsf b hb hm
    · obtain ⟨a, ha, hba⟩ := List.mem_flatMap.1 hm
      exact (hX a ha b hba).2 hb
  generalize hR : Step.all (List.map (fun x => x.st) acts ++ [Step.sync]) D = R at hall ⊢
  have HR1 := Lib.hid hrun1
  have HX := Lib.hid (And.intro h1 (And.intro hXs (And.intro hu1 hlive)))
  clear hX hX1 hap hpre hlen hst st1 g1 hrun1 hd hd1 hv hv1 hK hsf hsv h1 hXs hu1 hR hlive h hsA hsX hfl ho
  obtain ⟨D', r⟩ := R
  simp only at hall
  have fin : ∀ w2 fp', DiskAt w2 d D' fp' → Upd (fp ++ acts.flatMap (·.X)) w1 w2 → (∀ b ∈ fp', b ∈ fp ∨ w1.heap.size ≤ b) → SAt w2 s d S ev nv := fun w2 fp' _ hu _ => HX.out.1.upd hu HX.out.2.1
  have HF := Lib.hid fin
  clear fin
  have post : ∀ w2 fp' (b : Bool), DiskAt w2 d D' fp' → Upd (fp ++ acts.flatMap (·.X)) w1 w2 → (∀ b ∈ fp', b ∈ fp ∨ w1.heap.size ≤ b) → s ∉ fp' →
      SAt (w2.setCell ⟨s, 4, none⟩ (.bool b)) s d { S with dead := b } ev nv ∧ ∃ fp', DiskAt (w2.setCell ⟨s, 4, none⟩ (.bool b)) d D' fp' ∧ (∀ b ∈ fp', b ∈ fp ∨ w.heap.size ≤ b) ∧ Upd (s :: (fp ++ (v.ownBlock.toList ++ acts.flatMap (·.X)))) w (w2.setCell ⟨s, 4, none⟩ (.bool b)) := by
    intro w2 fp' b h2 h3 h4 h5
    refine ⟨(HF.out w2 fp' h2 h3 h4).dead w2 (Upd.refl _ _) b, fp', h2.keep fun k hk => heap_setCell_other w2 ⟨s, 4, none⟩ k _ (fun e => h5 (by simp at e; exact e ▸ hk)), fun k hk => ?_, ?_⟩
    · rcases h4 k hk with h | h
      · exact .inl h
      · exact .inr (Nat.le_trans HX.out.2.2.1.size h)
    · refine Upd.setCell (Upd.trans (HX.out.2.2.1.mono (by intro x hx; simp only [List.mem_cons, List.mem_append]; exact .inr (.inr (.inl hx)))) h3 ?_) (.inl (by simp)) _
      intro x hx
      simp only [List.mem_cons, List.mem_append] at hx ⊢
      rcases hx with hx | hx
      · exact .inl (.inr (.inl hx))
      · exact .inl (.inr (.inr (.inr hx)))
  have sfp : ∀ w2 fp', DiskAt w2 d D' fp' → Upd (fp ++ acts.flatMap (·.X)) w1 w2 → (∀ b ∈ fp', b ∈ fp ∨ w1.heap.size ≤ b) → s ∉ fp' := by
    intro w2 fp' h2 h3 h4 hm
    have hs1 : s ∈ sfoot s ev nv := by simp [sfoot]
    rcases h4 s hm with h | h
    · exact HX.out.2.1 s hs1 (by simp [h])
    · have := HX.out.1.lt s hs1; omega
  have HP := Lib.hid (And.intro post sfp)
  clear post sfp
  by_cases he : r = 61
  · subst he
    go_enter Tryz.func36, Tryz.ntmps36
    go_wp2_with (at_builtin; refine Stop.here ?_)
    unfold Stop
    refine wpList_append_run rfl rfl HR1.out ?_
    go_wp2_with (go_at_call 44; refine hall.mono ?_; rintro e w2 ⟨rfl, fp', hd2, hu2, hf2⟩; obtain ⟨e0, -, -, -, e4, ef⟩ := (HF.out w2 fp' hd2 hu2 hf2).cells; have ef4 := ef 4; clear ef; rw [HX.out.2.2.2] at e4)
    go_ret
    obtain ⟨p1, p2⟩ := HP.out.1 w2 fp' true hd2 hu2 hf2 (HP.out.2 w2 fp' hd2 hu2 hf2)
    exact ⟨rfl, p1, p2⟩
  · have hb : (r == 61) = false := by simpa using he
    have HE := Lib.hid he
    clear he
    go_enter Tryz.func36, Tryz.ntmps36
    go_wp2_with (at_builtin; refine Stop.here ?_)
    unfold Stop
    refine wpList_append_run rfl rfl HR1.out ?_
    go_wp2_with (go_at_call 44; refine hall.mono ?_; rintro e w2 ⟨rfl, fp', hd2, hu2, hf2⟩; obtain ⟨e0, -, -, -, e4, ef⟩ := (HF.out w2 fp' hd2 hu2 hf2).cells; have ef4 := ef 4; clear ef; rw [HX.out.2.2.2] at e4)
    go_ret
    obtain ⟨p1, p2⟩ := HP.out.1 w2 fp' false hd2 hu2 hf2 (HP.out.2 w2 fp' hd2 hu2 hf2)
    have hdec : decide (r = 61) = false := by simpa using HE.out
    refine ⟨rfl, ?_, p2⟩
    simp only [hdec]
    exact p1
end Go.Proofs.YtogkdoooimcemaaGreatDoor

/- Seg10 -/
namespace Go.Proofs.YtogkdoooimcemaaGreatDoor
open Go Go.RowKit
open Go.ChangeMaps (setBlock)
set_option maxRecDepth 20000

theorem get_nil (w : World) (f n : Int) : Calls Tryz.prog 9 #[.pointer none, .int .i64 f, .int .i64 n] w fun e w' => e = .returned (.tuple #[.slice none 0 0, .int .i64 1]) ∧ w = w' := by
  go_enter Tryz.func9, Tryz.ntmps9
  go_wp2
  go_ret2
  exact ⟨rfl, rfl⟩
theorem get_void (w : World) (s : Nat) (f n : Int) (h : w.cell? ⟨s, 0, none⟩ = some (.pointer none)) : Calls Tryz.prog 9 #[.pointer (some ⟨s, 0, none⟩), .int .i64 f, .int .i64 n] w fun e w' => e = .returned (.tuple #[.slice none 0 0, .int .i64 1]) ∧ w = w' := by
  go_enter Tryz.func9, Tryz.ntmps9
  go_wp2
  go_ret2
  exact ⟨rfl, rfl⟩
theorem get_bad {w : World} {s d : Nat} {S : Sg} {ev nv : Value} (h : SAt w s d S ev nv) (f n : Nat) (hb : f + n > S.entries.length) :
    Calls Tryz.prog 9 #[.pointer (some ⟨s, 0, none⟩), .int .i64 f, .int .i64 n] w fun e w' => e = .returned (.tuple #[.slice none 0 0, .int .i64 82]) ∧ w = w' := by
  obtain ⟨c0, c1, -, -, -, -⟩ := h.cells
  obtain ⟨a, c, hv⟩ := row_len h.ents
  rw [show (svs S.entries).length = S.entries.length by simp [svs]] at hv
  subst hv
  have hfew := h.few
  clear h
  generalize S.entries.length = m at *
  have hf0 : ¬ (f : Int) < 0 := by omega
  have hn0 : ¬ (n : Int) < 0 := by omega
  by_cases hf : m < f
  · have h1 : (m : Int) < f := by omega
    have hd : decide (m < f) = true := by simpa using hf
    clear hb
    go_enter Tryz.func9, Tryz.ntmps9
    go_wp2
    go_ret2
    exact ⟨rfl, rfl⟩
  · have h1 : ¬ (m : Int) < f := by omega
    have hd : decide (m < f) = false := by simpa using hf
    have h2 : (m : Int) - f < n := by omega
    have hw : IntKind.i64.wrap ((m : Int) - f) = (m : Int) - f := by rw [IntKind.wrap_i64]; omega
    clear hb
    go_enter Tryz.func9, Tryz.ntmps9
    go_wp2
    go_ret2
    exact ⟨rfl, rfl⟩
def GetP (w : World) (news : List Value) (en : Ending) (w' : World) : Prop := ∃ v, en = .returned (.tuple #[v, .int .i64 0]) ∧ RowAt w' 9 v news ∧ Upd [] w w' ∧ (∀ g, v.ownBlock = some g → w.heap.size ≤ g) ∧ ∃ a c, v = .slice a news.length c
set_option maxHeartbeats 1000000 in
theorem get_ok {w : World} {s d : Nat} {S : Sg} {ev nv : Value} (h : SAt w s d S ev nv) (f n : Nat) (hb : f + n ≤ S.entries.length) :
    Calls Tryz.prog 9 #[.pointer (some ⟨s, 0, none⟩), .int .i64 f, .int .i64 n] w (GetP w (svs ((S.entries.drop f).take n))) := by
  obtain ⟨c0, c1, -, -, -, -⟩ := h.cells
  have hlen : (svs S.entries).length = S.entries.length := by simp [svs]
  have hfew := h.few
  have hnl : (svs ((S.entries.drop f).take n)).length = n := by simp [svs]; omega
  have h1c : ∀ u ∈ svs ((S.entries.drop f).take n), u.oneCell' = true := by
    intro u hu
    unfold svs at hu
    obtain ⟨x, _, rfl⟩ := List.mem_map.1 hu
    rfl
  have hcl := fun x (hx : ReadAt w x (svs ((S.entries.drop f).take n))) => clone_string hx h1c (by rw [hnl]; omega)
  have hf0 : ¬ (f : Int) < 0 := by omega
  have hn0 : ¬ (n : Int) < 0 := by omega
  have hents := h.ents
  obtain ⟨m, hm⟩ : ∃ m, S.entries.length = m := ⟨_, rfl⟩
  rw [hm] at hlen hfew hb
  have h2 : ¬ (m : Int) < f := by omega
  have hd2 : decide (m < f) = false := by simp; omega
  have hw : IntKind.i64.wrap ((m : Int) - f) = (m : Int) - f := by rw [IntKind.wrap_i64]; omega
  have h3 : ¬ (m : Int) - f < n := by omega
  have hw2 : IntKind.i64.wrap ((f : Int) + n) = ((f + n : Nat) : Int) := by rw [IntKind.wrap_i64]; omega
  have hle : f ≤ f + n := by omega
  rcases hents with ⟨he, hz⟩ | ⟨g, cap, cur, he, hr⟩
  · have hm0 : m = 0 := by rw [← hlen, hz]; rfl
    have hff : f = 0 := by omega
    have hnn : n = 0 := by omega
    subst hm0 hff hnn
    have hcl1 := hcl (.slice none 0 0) (.inl ⟨_, _, rfl, by simp [svs]⟩)
    subst he
    have HX := Lib.hid (And.intro hnl hlen)
    clear hcl h1c hz h hlen hnl hm
    generalize svs ((S.entries.drop 0).take 0) = news at *
    go_enter Tryz.func9, Tryz.ntmps9
    go_wp2_with (go_at_call 32; refine hcl1.mono ?_; rintro e w' ⟨v, rfl, hr, hu, hg, hs⟩)
    go_ret2
    exact ⟨v, rfl, hr, hu, hg, hs⟩
  · have hcell : ∀ j u, (svs ((S.entries.drop f).take n))[j]? = some u → w.cell? ⟨g, f + j, none⟩ = some u := by
      intro j u hj
      have hrow : RowAt w 9 (.slice (some ⟨g, 0, none⟩) (svs S.entries).length cap) (svs S.entries) := .inr ⟨g, cap, cur, rfl, hr⟩
      refine hrow.cell (f + j) u ?_
      simp only [svs, List.getElem?_map, List.getElem?_take, List.getElem?_drop] at hj ⊢
      split at hj
      · exact hj
      · simp at hj
    rw [hlen] at he
    have hcm : m ≤ cap := hlen ▸ hr.2.1
    have hcb : cap ≤ 9223372036854775807 := hr.2.2.2.1
    by_cases hca : cap = f
    · have hnn : n = 0 := by omega
      have hcl1 := hcl (.slice (some ⟨g, 0, none⟩) 0 0) (.inl ⟨_, _, rfl, by rw [hnn]; simp [svs]⟩)
      subst he
      have hcf : cap ≤ f + n := by omega
      subst hca hnn
      have HX := Lib.hid (And.intro hnl hlen)
      clear hcl h1c hr h hlen hnl hcell hm
      generalize svs ((S.entries.drop cap).take 0) = news at *
      go_enter Tryz.func9, Tryz.ntmps9
      go_wp2_with (go_at_call 32; refine hcl1.mono ?_; rintro e w' ⟨v, rfl, hr, hu, hg, hs⟩)
      go_ret2
      exact ⟨v, rfl, hr, hu, hg, hs⟩
    · have hcl1 := hcl (.slice (some ⟨g, f, none⟩) n (cap - f)) (.inr ⟨_, _, by rw [hnl], fun j u hj => by rw [addr_add]; exact hcell j u hj⟩)
      subst he
      have hfc : f + n ≤ cap := by omega
      have HX := Lib.hid (And.intro hnl hlen)
      clear hcl h1c hr h hlen hnl hcell hm
      generalize svs ((S.entries.drop f).take n) = news at *
      go_enter Tryz.func9, Tryz.ntmps9
      go_wp2_with (go_at_call 32; refine hcl1.mono ?_; rintro e w' ⟨v, rfl, hr, hu, hg, hs⟩)
      go_ret2
      exact ⟨v, rfl, hr, hu, hg, hs⟩
end Go.Proofs.YtogkdoooimcemaaGreatDoor
