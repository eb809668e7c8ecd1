/- slices.Clone and slices.Contains of ints. Conditions: those of each lemma.
  segments.all: steps, up to the first error. Conditions: those of each lemma.
  Segments as data: what a file holds, what Open finds and does, what Append plans, what Cut does. Plain.
  segments.load. Conditions: the disk lies in memory, and is up; the listed variables hold their numbers.
  A range over slices.Backward of a slice of ints: the iterator's contract. Conditions: those of each lemma.
  The steps' closures: each does its step. Conditions: its boxes hold what it captured. -/
import Derived.Test.YtogkdoooimcemaaGreatDoorC07
import Derived.Test.YtogkdoooimcemaaGreatDoorC02
import Derived.WalkSpells
import Derived.Lib.SliceRun
import Derived.Test.YtogkdoooimcemaaGreatDoorC03
import Derived.RangeFuncNested
import Derived.RangeFuncBound
import Derived.RangeFuncCalls
import Derived.RangeFuncLeaves
import Derived.Shelf.Abstract
import Derived.Shelf.RegionOpen
import Derived.WalkKit
import Derived.OwnWalkIn
import Derived.TacticsInMore
import Derived.LoopNIn
import Derived.LoopIn
import Derived.Lib.Hide
/- SegF -/
namespace Go.Proofs.YtogkdoooimcemaaGreatDoor
open Go Go.RowKit
open Go.ChangeMaps (setBlock)
set_option maxRecDepth 20000

theorem rowAt_empty (w : World) (e : TypeId) (c : Array Value) : RowAt (w.alloc (.cells c e)) e (.slice (some ⟨w.heap.size, 0, none⟩) 0 0) [] :=
  .inr ⟨w.heap.size, 0, c, rfl, heap_alloc_new w _, Nat.le_refl _, Nat.zero_le _, Nat.zero_le _, rfl⟩
def CloneP (e : TypeId) (w : World) (news : List Value) (en : Ending) (w' : World) : Prop := ∃ v, en = .returned v ∧ RowAt w' e v news ∧ Upd [] w w' ∧ (∀ g, v.ownBlock = some g → w.heap.size ≤ g) ∧ ∃ a c, v = .slice a news.length c
theorem ReadAt.keep {w w' : World} {x : Value} {news : List Value} (h : ReadAt w x news) (hk : ∀ p v, w.cell? p = some v → w'.cell? p = some v) : ReadAt w' x news := by
  rcases h with h | ⟨a, c, rfl, h⟩
  · exact .inl h
  · exact .inr ⟨a, c, rfl, fun j u hj => hk _ _ (h j u hj)⟩
theorem ReadAt.upd {w w' : World} {x : Value} {news : List Value} (h : ReadAt w x news) (hu : Upd [] w w') : ReadAt w' x news := h.keep fun p v hp => (hu.cell (block_lt_of_cell hp) (by simp)).trans hp
set_option maxHeartbeats 1000000 in
theorem clone_string {w : World} {x : Value} {news : List Value} (hx : ReadAt w x news) (h1 : ∀ u ∈ news, u.oneCell' = true) (hb : news.length ≤ 1099511627776) :
    Calls Tryz.prog 32 #[x] w (CloneP 9 w news) := by
  obtain ⟨a, n, c, rfl, hn⟩ : ∃ a n c, x = .slice a n c ∧ (a = none → news = []) := by
    rcases hx with ⟨a, c, rfl, h⟩ | ⟨a, c, rfl, _⟩
    · exact ⟨_, _, _, rfl, fun _ => h⟩
    · exact ⟨_, _, _, rfl, fun h => by cases h⟩
  cases a with
  | none =>
    have hnil := hn rfl
    subst hnil
    clear hx hn h1 hb
    have q := fun (u : World) => Lib.run_eql_slice_nil (P := Tryz.prog) u 22 _ none n c 0 0 Tryz.underlying22
    go_enter Tryz.func32, Tryz.ntmps32
    go_wp2
    go_ret
    exact ⟨_, rfl, RowAt.nil _ _, Upd.refl _ _, by simp [Value.ownBlock], _, _, rfl⟩
  | some a =>
    have q := fun (u : World) => Lib.run_eql_slice_nil (P := Tryz.prog) u 22 _ (some a) n c 0 0 Tryz.underlying22
    obtain ⟨i, z, q1, q2, q3, q4, q5⟩ := info_string
    have hu0 := (Upd.refl [] w).alloc (.cells #[] 9)
    obtain ⟨v, w', hrun, g⟩ := run_appends Tryz.underlying22 q1 q2 q3 q4 q5 (rowAt_empty w 9 #[]) (hx.upd hu0) h1 (by simpa using hb) 22
    have hu := g.updNil hu0 (fun k hk => .inr (by simp [Value.ownBlock] at hk; omega))
    have hge : ∀ k, v.ownBlock = some k → w.heap.size ≤ k := g.ge (n := w.heap.size) (by simp) (fun k hk => by simp [Value.ownBlock] at hk; omega)
    have hrow := g.row
    rw [List.nil_append] at hrow
    have hsl := row_len hrow
    have HX := Lib.hid (And.intro hrow (And.intro hu (And.intro hge hsl)))
    have HR := Lib.hid hrun
    clear hx hn h1 hb q1 q2 q3 q4 q5 hu0 hrun g hu hge hrow hsl
    go_enter Tryz.func32, Tryz.ntmps32
    go_wp2_with (at_builtin; refine Stop.here ?_)
    unfold Stop
    refine wpList_append_run rfl rfl HR.out ?_
    go_wp2
    go_ret
    exact ⟨v, rfl, HX.out.1, HX.out.2.1, HX.out.2.2.1, HX.out.2.2.2⟩
set_option maxHeartbeats 1000000 in
theorem clone_int {w : World} {x : Value} {news : List Value} (hx : ReadAt w x news) (h1 : ∀ u ∈ news, u.oneCell' = true) (hb : news.length ≤ 1099511627776) :
    Calls Tryz.prog 67 #[x] w (CloneP 3 w news) := by
  obtain ⟨a, n, c, rfl, hn⟩ : ∃ a n c, x = .slice a n c ∧ (a = none → news = []) := by
    rcases hx with ⟨a, c, rfl, h⟩ | ⟨a, c, rfl, _⟩
    · exact ⟨_, _, _, rfl, fun _ => h⟩
    · exact ⟨_, _, _, rfl, fun h => by cases h⟩
  cases a with
  | none =>
    have hnil := hn rfl
    subst hnil
    clear hx hn h1 hb
    have q := fun (u : World) => Lib.run_eql_slice_nil (P := Tryz.prog) u 36 _ none n c 0 0 Tryz.underlying36
    go_enter Tryz.func67, Tryz.ntmps67
    go_wp2
    go_ret
    exact ⟨_, rfl, RowAt.nil _ _, Upd.refl _ _, by simp [Value.ownBlock], _, _, rfl⟩
  | some a =>
    have q := fun (u : World) => Lib.run_eql_slice_nil (P := Tryz.prog) u 36 _ (some a) n c 0 0 Tryz.underlying36
    obtain ⟨i, z, q1, q2, q3, q4, q5⟩ := info_int
    have hu0 := (Upd.refl [] w).alloc (.cells #[] 3)
    obtain ⟨v, w', hrun, g⟩ := run_appends Tryz.underlying36 q1 q2 q3 q4 q5 (rowAt_empty w 3 #[]) (hx.upd hu0) h1 (by simpa using hb) 36
    have hu := g.updNil hu0 (fun k hk => .inr (by simp [Value.ownBlock] at hk; omega))
    have hge : ∀ k, v.ownBlock = some k → w.heap.size ≤ k := g.ge (n := w.heap.size) (by simp) (fun k hk => by simp [Value.ownBlock] at hk; omega)
    have hrow := g.row
    rw [List.nil_append] at hrow
    have hsl := row_len hrow
    have HX := Lib.hid (And.intro hrow (And.intro hu (And.intro hge hsl)))
    have HR := Lib.hid hrun
    clear hx hn h1 hb q1 q2 q3 q4 q5 hu0 hrun g hu hge hrow hsl
    go_enter Tryz.func67, Tryz.ntmps67
    go_wp2_with (at_builtin; refine Stop.here ?_)
    unfold Stop
    refine wpList_append_run rfl rfl HR.out ?_
    go_wp2
    go_ret
    exact ⟨v, rfl, HX.out.1, HX.out.2.1, HX.out.2.2.1, HX.out.2.2.2⟩
set_option maxHeartbeats 1000000 in
theorem contains_int {w : World} {v : Value} {xs : List Int} (h : RowAt w 3 v (ivs xs)) (hb : xs.length ≤ 1099511627776) (n : Int) :
    Calls Tryz.prog 72 #[v, .int .i64 n] w fun e w' => e = .returned (.bool (decide (n ∈ xs))) ∧ w = w' := by
  have hidx : Calls Tryz.prog 92 #[v, .int .i64 n] w fun e w' => (∃ k : Int, e = .returned (.int .i64 k) ∧ (0 ≤ k ↔ n ∈ xs) ∧ -1 ≤ k) ∧ w = w' := by
    obtain ⟨a, c, hv⟩ := row_len h
    have hl : (ivs xs).length = xs.length := by simp [ivs]
    rw [hl] at hv
    have hcell : ∀ j (hj : j < xs.length), ∃ g, a = some ⟨g, 0, none⟩ ∧ w.cell? ⟨g, j, none⟩ = some (.int .i64 xs[j]) := by
      intro j hj
      rcases h with ⟨_, h0⟩ | ⟨g, cap, cur, hv', hg⟩
      · simp [ivs] at h0; subst h0; simp at hj
      · rw [hv] at hv'
        simp only [Value.slice.injEq] at hv'
        refine ⟨g, hv'.1, RowAt.cell (.inr ⟨g, cap, cur, rfl, hg⟩ : RowAt w 3 (.slice (some ⟨g, 0, none⟩) (ivs xs).length cap) (ivs xs)) j _ (by simp [ivs, hj])⟩
    subst hv
    have HC := Lib.hid hcell
    clear hcell h hl
    go_enter Tryz.func92, Tryz.ntmps92
    go_wp2
    go_loop [8] (fun i => ∃ k : Nat, k ≤ xs.length ∧ i = .int .i64 k ∧ n ∉ xs.take k) (fun i => xs.length - (intOf i).toNat)
    case atStart => exact ⟨0, Nat.zero_le _, rfl, by simp⟩
    case round =>
      obtain ⟨k, hk, rfl, hno⟩ := hrel
      by_cases hlt : k < xs.length
      · obtain ⟨g, rfl, hc⟩ := HC.out k hlt
        have hkl : (k : Int) < xs.length := by omega
        have HN := Lib.hid hno
        clear hno
        have HT := Lib.hid (show xs.take (k + 1) = xs.take k ++ [xs[k]] from List.take_succ_eq_append_getElem hlt)
        have HM := Lib.hid (List.getElem_mem hlt)
        generalize xs[k] = y at *
        by_cases hy : n = y
        · subst hy
          go_wp2
          go_ret
          exact ⟨⟨_, rfl, by simp [HM.out], by omega⟩, rfl⟩
        · have hb1 : (n == y) = false := by simpa using hy
          have HY := Lib.hid hy
          clear hy
          go_wp2
          go_round
          case rel => exact ⟨k + 1, by omega, by go_num, by rw [HT.out]; simp; exact ⟨HN.out, HY.out⟩⟩
          case measure => simp [intOf]; omega
      · obtain rfl : k = xs.length := by omega
        go_wp2
        go_ret
        rw [List.take_length] at hno
        exact ⟨⟨_, rfl, by simpa using hno, by omega⟩, rfl⟩
  obtain ⟨a, c, hv⟩ := row_len h
  subst hv
  by_cases hm : n ∈ xs
  · have hd : decide (n ∈ xs) = true := by simpa using hm
    rw [hd]
    have H := Lib.hid (And.intro hd hm)
    clear hd hm h
    go_enter Tryz.func72, Tryz.ntmps72
    go_wp2_with (go_at_call 92; refine hidx.mono ?_; rintro e w' ⟨⟨k, rfl, hk, -⟩, rfl⟩; have hk0 := hk.2 H.out.2; clear hk)
    go_ret
    exact ⟨rfl, rfl⟩
  · have hd : decide (n ∈ xs) = false := by simpa using hm
    rw [hd]
    have H := Lib.hid (And.intro hd hm)
    clear hd hm h
    go_enter Tryz.func72, Tryz.ntmps72
    go_wp2_with (go_at_call 92; refine hidx.mono ?_; rintro e w' ⟨⟨k, rfl, hk, hk1⟩, rfl⟩; have hk0 : decide (0 ≤ k) = false := decide_eq_false (fun h => H.out.2 (hk.1 h)); clear hk)
    go_ret
    exact ⟨rfl, rfl⟩
end Go.Proofs.YtogkdoooimcemaaGreatDoor

/- Seg2 -/
namespace Go.Proofs.YtogkdoooimcemaaGreatDoor
open Go Go.RowKit
open Go.ChangeMaps (setBlock)
set_option maxRecDepth 20000

inductive Step where
  | create (n : Int)
  | append (n : Int) (s : List UInt8)
  | trunc (n : Int) (k : Nat)
  | delete (n : Int)
  | sync
namespace Step
def run : Step → Dk → Dk × Int
  | create n, D => D.create n
  | append n s, D => D.append n s
  | trunc n k, D => D.truncate n k
  | delete n, D => D.delete n
  | sync, D => D.sync
def all : List Step → Dk → Dk × Int
  | [], D => (D, 0)
  | st :: r, D => if (st.run D).2 = 0 then all r (st.run D).1 else st.run D
end Step
/-- the disk's move, and blocks besides -/
def MovesX (w : World) (d : Nat) (fp X : List Nat) (D' : Dk) (w' : World) : Prop := ∃ fp', DiskAt w' d D' fp' ∧ Upd (fp ++ X) w w' ∧ ∀ b ∈ fp', b ∈ fp ∨ w.heap.size ≤ b
theorem Moves.toX {w : World} {d : Nat} {fp : List Nat} {D' : Dk} {w' : World} (h : Moves w d fp D' w') (X : List Nat) : MovesX w d fp X D' w' := by
  obtain ⟨f, h1, h2, h3⟩ := h
  exact ⟨f, h1, h2.mono (by simp; intro x hx; exact .inl hx), h3⟩
/-- calling v does a step, as long as the kept blocks K hold what they held; it may turn X besides the disk's -/
def Does (w0 : World) (K X : List Nat) (d : Nat) (pre : Dk → Prop) (v : Value) (st : Step) : Prop :=
  ∃ k bound free, v = .func (.func k) bound free ∧ (∀ args w, (callFunc k args).run Tryz.prog w = .ok (.enter k args) w) ∧
    ∀ w D fp, (∀ b ∈ K, w.heap[b]? = w0.heap[b]?) → DiskAt w d D fp → D.Ok → (∀ b ∈ K, b ∉ fp) → pre D →
      Calls Tryz.prog k (bound ++ free) w fun e w' => e = .returned (.int .i64 (st.run D).2) ∧ MovesX w d fp X (st.run D).1 w'
/-- a step with the blocks that it keeps and turns -/
structure Act' where
  v : Value
  st : Step
  K : List Nat
  X : List Nat

namespace Step
def Pre : Step → Dk → Prop
  | create n, _ => Dk.I64 n
  | append _ _, D => D.loose.length < 1000000
  | trunc n k, D => D.has n = 0 → ∃ b, D.get n = some b ∧ k ≤ b.length
  | delete _, _ => True
  | sync, _ => True
def PreAll : List Step → Dk → Prop
  | [], _ => True
  | st :: r, D => st.Pre D ∧ ((st.run D).2 = 0 → PreAll r (st.run D).1)
end Step
theorem ok_step {D : Dk} (h : D.Ok) (f : Dk → Dk) (hf : ∀ D, (f D).fails = D.fails ∧ (f D).left = D.left) : (D.step f).1.Ok := by
  unfold Dk.step
  split
  · intro h2; simp [Dk.crash] at h2
  · rename_i hs
    intro h2
    show 0 ≤ (f D.tick).left
    have h3 : (f D.tick).fails = true := h2
    rw [(hf _).1] at h3
    rw [(hf _).2]
    unfold Dk.tick Dk.sinks at *
    by_cases h4 : D.fails = true
    · rw [if_pos h4] at h3 ⊢
      simp [h4] at hs
      show 0 ≤ D.left - 1
      omega
    · rw [if_neg h4] at h3; exact absurd h3 h4
theorem Step.ok {D : Dk} (h : D.Ok) (st : Step) : (st.run D).1.Ok := by
  cases st with
  | create n =>
    show (D.create n).1.Ok
    unfold Dk.create
    (repeat' split) <;> first | exact h | exact ok_step h _ (fun _ => ⟨rfl, rfl⟩)
  | append n s =>
    show (D.append n s).1.Ok
    unfold Dk.append
    (repeat' split) <;> first | exact h | exact ok_step (D := D.put n s) h _ (fun _ => ⟨rfl, rfl⟩)
  | trunc n k =>
    show (D.truncate n k).1.Ok
    unfold Dk.truncate
    (repeat' split) <;> first | exact h | exact ok_step h _ (fun _ => ⟨rfl, rfl⟩)
  | delete n =>
    show (D.delete n).1.Ok
    unfold Dk.delete
    (repeat' split) <;> first | exact h | exact ok_step h _ (fun _ => ⟨rfl, rfl⟩)
  | sync =>
    show D.sync.1.Ok
    unfold Dk.sync
    (repeat' split) <;> first | exact h | exact ok_step h _ (fun _ => ⟨rfl, rfl⟩)

set_option maxHeartbeats 1000000 in
theorem all_at {w : World} {v : Value} {acts : List Act'} {d : Nat} {D : Dk} {fp : List Nat} (hrow : RowAt w 120 v (acts.map (·.v))) (hdo : ∀ a ∈ acts, Does w a.K a.X d a.st.Pre a.v a.st)
    (hd : DiskAt w d D fp) (ho : D.Ok) (hK : ∀ a ∈ acts, ∀ b ∈ a.K, b ∉ fp ∧ b < w.heap.size) (hap : acts.Pairwise fun a c => ∀ b ∈ a.X, b ∉ c.K) (hv : ∀ g, v.ownBlock = some g → g ∉ fp ∧ ∀ a ∈ acts, g ∉ a.X)
    (hpre : Step.PreAll (acts.map (·.st)) D) (hlen : acts.length ≤ 1000000) :
    Calls Tryz.prog 44 #[v] w fun e w' => e = .returned (.int .i64 (Step.all (acts.map (·.st)) D).2) ∧ MovesX w d fp (acts.flatMap (·.X)) (Step.all (acts.map (·.st)) D).1 w' := by
  rcases hrow with ⟨rfl, h0⟩ | ⟨g, cap, cur, rfl, hg, h2, h3, h4, h5⟩
  · have hs : acts = [] := by simpa using h0
    subst hs
    go_enter Tryz.func44, Tryz.ntmps44
    go_wp2
    refine wp_loop_once ?_
    go_wp2
    go_ret
    exact ⟨rfl, (Moves.refl hd).toX _⟩
  · obtain ⟨hgf, hgX⟩ := hv g rfl
    have hgl := lt_of_block hg
    have hll : (acts.map (·.v)).length = acts.length := by simp
    have hcell : ∀ j u, (acts.map (·.v))[j]? = some u → w.cell? ⟨g, j, none⟩ = some u := fun j u hj => RowAt.cell (.inr ⟨g, cap, cur, rfl, hg, h2, h3, h4, h5⟩) j u hj
    rw [hll]
    have HC := Lib.hid hcell
    have HX := Lib.hid (And.intro hpre (And.intro hK (And.intro hap (And.intro hdo hgX))))
    clear hcell hg h2 h3 h4 h5 hpre hv hll hK hap hdo hgX
    go_enter Tryz.func44, Tryz.ntmps44
    go_wp2
    go_loopw [8] (fun i wr => ∃ j Dj fj, j ≤ acts.length ∧ i = .int .i64 (j : Nat) ∧ DiskAt wr d Dj fj ∧ (∀ b ∈ fj, b ∈ fp ∨ w.heap.size ≤ b) ∧ Upd (fp ++ (acts.take j).flatMap (·.X)) w wr ∧ Dj.Ok ∧ Step.PreAll ((acts.drop j).map (·.st)) Dj ∧
      Step.all (acts.map (·.st)) D = Step.all ((acts.drop j).map (·.st)) Dj) (fun i _ => acts.length - (intOf i).toNat)
    case atStart => exact ⟨0, D, fp, Nat.zero_le _, rfl, hd, fun _ h => .inl h, Upd.refl _ _, ho, HX.out.1, by simp⟩
    case round =>
      obtain ⟨j, Dj, fj, hj, rfl, hdj, hfj, hu, hoj, hpj, hall⟩ := hrel
      by_cases hlt : j < acts.length
      · have hmem : acts[j] ∈ acts := List.getElem_mem hlt
        obtain ⟨hpre, hK, hap, hdo, hgX⟩ := HX.out
        have hdoj := hdo _ hmem
        have hKj := hK _ hmem
        have hjx : ∀ b ∈ acts[j].K, b ∉ (acts.take j).flatMap (·.X) := by
          intro b hb hm
          obtain ⟨a, ha, hba⟩ := List.mem_flatMap.1 hm
          obtain ⟨i, hi, rfl⟩ := List.mem_iff_getElem.1 ha
          simp at hi
          rw [List.getElem_take] at hba
          exact (List.pairwise_iff_getElem.1 hap) i j (by omega) hlt (by omega) b hba hb
        have hgx : g ∉ (acts.take j).flatMap (·.X) := by
          intro hm
          obtain ⟨a, ha, hba⟩ := List.mem_flatMap.1 hm
          exact hgX a (List.mem_of_mem_take ha) hba
        have hcj : wr.cell? ⟨g, j, none⟩ = some acts[j].v := (hu.cell (p := ⟨g, j, none⟩) hgl (by simp only [List.mem_append]; rintro (h | h); exact hgf h; exact hgx h)).trans (HC.out j _ (by simp [hlt]))
        rw [List.drop_eq_getElem_cons hlt, List.map_cons] at hpj hall
        obtain ⟨hp1, hp2⟩ := hpj
        have htk : (acts.take (j + 1)).flatMap (·.X) = (acts.take j).flatMap (·.X) ++ acts[j].X := by rw [List.take_succ_eq_append_getElem hlt, List.flatMap_append, List.flatMap_cons, List.flatMap_nil, List.append_nil]
        have hs1 : ∀ b ∈ (acts.take j).flatMap (·.X), b ∈ acts.flatMap (·.X) := by
          intro b hm
          obtain ⟨a, ha, hba⟩ := List.mem_flatMap.1 hm
          exact List.mem_flatMap.2 ⟨a, List.mem_of_mem_take ha, hba⟩
        have hs2 : ∀ b ∈ acts[j].X, b ∈ acts.flatMap (·.X) := fun b hb => List.mem_flatMap.2 ⟨_, hmem, hb⟩
        have HT := Lib.hid htk
        have HS1 := Lib.hid hs1
        clear hs1
        clear htk hap hdo hgX hgx hmem hK hpre
        generalize acts[j] = ac at *
        obtain ⟨vj, st, Kj, Xj⟩ := ac
        obtain ⟨k, bound, free, rfl, hent, hcall⟩ := hdoj
        simp only at hcj hp1 hp2 hall hcall hKj hjx hs2
        have HS2 := Lib.hid hs2
        clear hs2
        have hc := hcall wr Dj fj (fun b hb => hu.block b (hKj b hb).2 (by simp only [List.mem_append]; rintro (h | h); exact (hKj b hb).1 h; exact hjx b hb h)) hdj hoj (fun b hb hbf => by
          rcases hfj b hbf with h | h
          · exact (hKj b hb).1 h
          · have := (hKj b hb).2; omega) hp1
        have hok := Step.ok hoj st
        have HD := Lib.hid (And.intro hfj (And.intro hu (And.intro hp2 (And.intro hall hok))))
        have hjc : (j : Int) < acts.length := by omega
        clear hcall hfj hu hp2 hall hok hd hKj hjx
        by_cases he : (st.run Dj).2 = 0
        · rw [he] at hc
          go_wp2_with (refine hc.mono ?_; rintro e w' ⟨rfl, hm⟩)
          obtain ⟨hfj, hu, hp2, hall, hok⟩ := HD.out
          obtain ⟨f2, hd2, hu2, hf2⟩ := hm
          have hu3 : Upd (fp ++ ((acts.take j).flatMap (·.X) ++ Xj)) w w' := by
            refine Upd.trans (g := fj ++ Xj) (hu.mono ?_) hu2 ?_
            · intro x hx; simp only [List.mem_append] at hx ⊢; rcases hx with h | h; exact .inl h; exact .inr (.inl h)
            · intro x hx
              simp only [List.mem_append] at hx ⊢
              rcases hx with h | h
              · rcases hfj x h with h | h
                · exact .inl (.inl h)
                · exact .inr h
              · exact .inl (.inr (.inr h))
          go_roundw
          case rel =>
            refine ⟨j + 1, _, f2, by omega, by go_num, hd2, ?_, by rw [HT.out]; exact hu3, hok, hp2 he, ?_⟩
            · intro b hb
              rcases hf2 b hb with h | h
              · exact hfj b h
              · right; have := hu.size; omega
            · rw [hall, Step.all, if_pos he]
          case measure => simp [intOf]; omega
        · have hne : ((st.run Dj).2 == 0) = false := by simpa using he
          have hne2 : ((st.run Dj).2 != 0) = true := by simpa using he
          generalize hre : (st.run Dj).2 = re at *
          have HE := Lib.hid hre
          clear hre
          go_wp2_with (refine hc.mono ?_; rintro e w' ⟨rfl, hm⟩)
          go_ret
          obtain ⟨hfj, hu, hp2, hall, hok⟩ := HD.out
          have h6 : Step.all (acts.map (·.st)) D = st.run Dj := by rw [hall, Step.all, if_neg (by rw [HE.out]; exact he)]
          rw [h6]
          obtain ⟨f2, hd2, hu2, hf2⟩ := hm
          refine ⟨by rw [HE.out]; rfl, f2, hd2, ?_, ?_⟩
          · refine Upd.trans (g := fj ++ Xj) (hu.mono ?_) hu2 ?_
            · intro x hx; simp only [List.mem_append] at hx ⊢
              rcases hx with h | h
              · exact .inl h
              · exact .inr (HS1.out x h)
            · intro x hx
              simp only [List.mem_append] at hx ⊢
              rcases hx with h | h
              · rcases hfj x h with h | h
                · exact .inl (.inl h)
                · exact .inr h
              · exact .inl (.inr (HS2.out x h))
          · intro b hb
            rcases hf2 b hb with h | h
            · exact hfj b h
            · right; have := hu.size; omega
      · have hje : j = acts.length := by omega
        rw [hje, List.drop_length] at hall
        have HA := Lib.hid (And.intro hje hall)
        have HM := Lib.hid (show MovesX w d fp (acts.flatMap (·.X)) Dj wr from ⟨fj, hdj, by rw [hje, List.take_length] at hu; exact hu, hfj⟩)
        clear hje hall hpj hd
        go_wp2
        go_ret
        rw [HA.out.2]
        exact ⟨rfl, HM.out⟩
end Go.Proofs.YtogkdoooimcemaaGreatDoor

/- SegM -/
namespace Go.Proofs.YtogkdoooimcemaaGreatDoor
open Go

/-- at most so many entries of a file, from a place on: each with the place behind it -/
def readN : Nat → List UInt8 → Nat → List (List UInt8 × Nat)
  | 0, _, _ => []
  | k + 1, s, a => match frameAt s a with
    | some (p, q) => if p.length ≤ 200 then (p, q) :: readN k s q else []
    | none => []
def fileEnts (s : List UInt8) : List (List UInt8 × Nat) := readN 64 s 0
/-- the files from the k-th on, up to the first that is not full: their entries, and how many bytes they have -/
def gather (D : Dk) : Nat → Nat → List (List (List UInt8 × Nat) × Nat)
  | 0, _ => []
  | f + 1, k => match D.get ((1000 + k : Nat) : Int) with
    | none => []
    | some b => (fileEnts b, b.length) :: (if (fileEnts b).length = 64 then gather D f (k + 1) else [])
def lastEnd (l : List (List UInt8 × Nat)) : Nat := (l.getLast?.map (·.2)).getD 0
/-- what is to be cut of the files from the k-th on -/
def tornOf : Nat → List (List (List UInt8 × Nat) × Nat) → List Step
  | _, [] => []
  | k, x :: r => (if lastEnd x.1 < x.2 then [Step.trunc ((1000 + k : Nat) : Int) (lastEnd x.1)] else []) ++ tornOf (k + 1) r
def dropSteps (D : Dk) (n : Int) : List Step := (D.keys.reverse.filter (fun m => decide (n ≤ m))).map Step.delete
def openSteps (D : Dk) : List Step := dropSteps D ((1000 + (gather D 64 0).length : Nat) : Int) ++ tornOf 0 (gather D 64 0) ++ [Step.sync]
def entsOf (g : List (List (List UInt8 × Nat) × Nat)) : List (List UInt8) := g.flatMap fun x => x.1.map (·.1)
def endsOf (g : List (List (List UInt8 × Nat) × Nat)) : List Int := g.flatMap fun x => x.1.map fun e => ((e.2 : Nat) : Int)
def opened (D : Dk) : Sg := { entries := entsOf (gather D 64 0), ends := endsOf (gather D 64 0), starts := D.starts, dead := false }

def frameOf (s : List UInt8) : List UInt8 := mark s ++ s
theorem length_frameOf (s : List UInt8) : (frameOf s).length = 12 + s.length := by simp [frameOf, length_mark]
/-- where entries end that stand from a place on -/
def endsFrom : Nat → List (List UInt8) → List Int
  | _, [] => []
  | p, s :: r => ((p + (12 + s.length) : Nat) : Int) :: endsFrom (p + (12 + s.length)) r
structure Plan where
  steps : List Step
  ends : List Int
  files : Nat
  size : Nat
def planOf (has : List Int) : Nat → List Int → List (List UInt8) → Plan
  | 0, ends, _ => ⟨[], ends, 0, 0⟩
  | f + 1, ends, l =>
    if l.length = 0 then ⟨[], ends, 0, 0⟩ else
      let n : Int := ((1000 + ends.length / 64 : Nat) : Int)
      let many := min (64 - ends.length % 64) l.length
      let r := planOf has f (ends ++ endsFrom (Sg.endOf ends ends.length).toNat (l.take many)) (l.drop many)
      ⟨(if n ∈ has then [] else [Step.create n]) ++ (Step.append n ((l.take many).flatMap frameOf) :: r.steps), r.ends, (if n ∈ has then 0 else 1) + r.files, ((l.take many).flatMap frameOf).length + r.size⟩
namespace Sg
def ready (S : Sg) (D : Dk) : Bool := !(S.dead || D.down || decide (D.starts ≠ S.starts))
/-- what Append answers and leaves -/
def append (S : Sg) (D : Dk) (l : List (List UInt8)) : Sg × Dk × Int :=
  if S.ready D = false then ({ S with dead := true }, D, 61) else
  if l.length = 0 then (S, D, 0) else
  if l.any (fun s => decide (200 < s.length)) then (S, D, 3) else
  if 4096 - S.entries.length < l.length then (S, D, 60) else
  let p := planOf D.keys l.length S.ends l
  if (p.size : Int) > D.free ∨ D.files.length + p.files > 100 then (S, D, 60) else
  let r := Step.all (p.steps ++ [Step.sync]) D
  if r.2 = 0 then ({ S with entries := S.entries ++ l, ends := p.ends }, r.1, 0) else ({ S with dead := decide (r.2 = 61) }, r.1, r.2)
def cutSteps (S : Sg) (D : Dk) (n : Nat) : List Step :=
  dropSteps D ((1000 + (n + 63) / 64 : Nat) : Int) ++ (if n % 64 = 0 then [] else [Step.trunc ((1000 + n / 64 : Nat) : Int) (S.ends.getD (n - 1) 0).toNat])
/-- what Cut answers and leaves -/
def cut (S : Sg) (D : Dk) (n : Int) : Sg × Dk × Int :=
  if S.ready D = false then ({ S with dead := true }, D, 61) else
  if n < 0 ∨ n > S.entries.length then (S, D, 2) else
  let r := Step.all (S.cutSteps D n.toNat ++ [Step.sync]) D
  if r.2 = 0 then ({ S with entries := S.entries.take n.toNat, ends := S.ends.take n.toNat }, r.1, 0) else ({ S with dead := decide (r.2 = 61) }, r.1, r.2)
end Sg

theorem readN_length : ∀ (k : Nat) (s : List UInt8) (a : Nat), (readN k s a).length ≤ k
  | 0, _, _ => by simp [readN]
  | k + 1, s, a => by
    unfold readN
    split
    · split
      · have := readN_length k s ‹_›; simp; omega
      · simp
    · simp
theorem frameAt_le {s : List UInt8} {a : Nat} {p : List UInt8} {q : Nat} (h : frameAt s a = some (p, q)) (ha : a ≤ s.length) : a < q ∧ q ≤ s.length ∧ q = a + (12 + p.length) := by
  unfold frameAt at h
  simp only [Option.map_eq_some_iff, Prod.mk.injEq] at h
  obtain ⟨n, hn, h1, h2⟩ := h
  have h3 := (ahead_le hn).1
  simp only [List.length_drop] at h3
  have : p.length = n := by rw [← h1]; simp; omega
  omega
theorem readN_le : ∀ (k : Nat) (s : List UInt8) (a : Nat), a ≤ s.length → ∀ x ∈ readN k s a, x.2 ≤ s.length ∧ x.1.length ≤ 200
  | 0, _, _, _, x, hx => by simp [readN] at hx
  | k + 1, s, a, ha, x, hx => by
    unfold readN at hx
    split at hx
    · rename_i p q hf
      split at hx
      · have hq := (frameAt_le hf ha).2.1
        rcases List.mem_cons.1 hx with rfl | hx
        · exact ⟨hq, by assumption⟩
        · exact readN_le k s q hq x hx
      · simp at hx
    · simp at hx
theorem lastEnd_le (s : List UInt8) : lastEnd (fileEnts s) ≤ s.length := by
  unfold lastEnd
  cases h : (fileEnts s).getLast? with
  | none => simp
  | some x => exact (readN_le 64 s 0 (Nat.zero_le _) x (List.mem_of_getLast? h)).1
end Go.Proofs.YtogkdoooimcemaaGreatDoor

/- Seg5 -/
namespace Go.Proofs.YtogkdoooimcemaaGreatDoor
open Go Go.RowKit
open Go.ChangeMaps (setBlock)
set_option maxRecDepth 20000

theorem load_none {w : World} {p : Nat} {D : Dk} {fp : List Nat} (h : DiskAt w p D fp) (n : Int) (hn : D.has n ≠ 0) :
    Calls Tryz.prog 42 #[.pointer (some ⟨p, 0, none⟩), .int .i64 n] w fun e w' => e = .returned (.tuple #[.slice none 0 0, .slice none 0 0, .int .i64 0, .bool false]) ∧ w = w' := by
  have hs := size_at h n
  generalize D.has n = x at *
  have hx : (x != 0) = true := by simpa using hn
  clear hn h
  go_enter Tryz.func42, Tryz.ntmps42
  go_wp2_with (go_at_call 40; refine hs.mono ?_; rintro e w' ⟨rfl, rfl⟩)
  refine bodyPost_ret (v := .tuple #[.slice none 0 0, .slice none 0 0, .int .i64 0, .bool false]) (by simp [results, Tryz.results42, go_sem]) rfl ⟨rfl, rfl⟩

def LoadPost (w : World) (b : List UInt8) (e : Ending) (w' : World) : Prop :=
  ∃ lv ev, e = .returned (.tuple #[lv, ev, .int .i64 b.length, .bool true]) ∧ RowAt w' 9 lv (svs ((fileEnts b).map (·.1))) ∧ RowAt w' 3 ev (ivs ((fileEnts b).map fun x => ((x.2 : Nat) : Int))) ∧ Upd [] w w' ∧
    (∀ g, lv.ownBlock = some g → w.heap.size ≤ g) ∧ (∀ g, ev.ownBlock = some g → w.heap.size ≤ g)
def LoadRel (w : World) (b : List UInt8) (l ends at_ : Value) (wr : World) : Prop :=
  ∃ (acc : List (List UInt8 × Nat)) (a : Nat) (x1 x2 : Option Addr) (c1 c2 : Nat), acc.length ≤ 64 ∧ a ≤ b.length ∧ fileEnts b = acc ++ readN (64 - acc.length) b a ∧ l = .slice x1 acc.length c1 ∧ ends = .slice x2 acc.length c2 ∧ at_ = .int .i64 a ∧
    RowAt wr 9 l (svs (acc.map (·.1))) ∧ RowAt wr 3 ends (ivs (acc.map fun x => ((x.2 : Nat) : Int))) ∧ Upd [] w wr ∧
    (∀ g, l.ownBlock = some g → w.heap.size ≤ g) ∧ (∀ g, ends.ownBlock = some g → w.heap.size ≤ g)

set_option maxHeartbeats 2000000 in
theorem load_some {w : World} {p : Nat} {D : Dk} {fp : List Nat} (h : DiskAt w p D fp) (hd : D.down = false) (n : Int) (b : List UInt8) (hb : D.get n = some b) (hl : b.length ≤ 1073741824) (hG : Glob w) :
    Calls Tryz.prog 42 #[.pointer (some ⟨p, 0, none⟩), .int .i64 n] w (LoadPost w b) := by
  have hs := size_at h n
  have hr := read_yes h n 0 b.length hd b hb (by omega) (by omega) (by omega) (by omega)
  have e0 : D.lenOf n = b.length := by simp [Dk.lenOf, hd, hb]
  have e1 : D.has n = 0 := by simp [Dk.has, hd, hb]
  rw [e0, e1] at hs
  simp only [Int.toNat_zero, List.drop_zero, Int.toNat_natCast, List.take_length] at hr
  have hsz : (⟨b.toArray⟩ : ByteArray).size = b.length := by show b.toArray.size = _; simp
  have hget := fun (a : Nat) (ha : a ≤ b.length) (u : World) (hu : Glob u) => fget_at ⟨b.toArray⟩ a (by rw [hsz]; exact ha) (by rw [hsz]; exact hl) u hu
  have hbl : (⟨b.toArray⟩ : ByteArray).data.toList = b := by simp
  rw [hbl] at hget
  have HH := Lib.hid (And.intro h (And.intro hd (And.intro hb hG)))
  clear h hd hb e0 e1 hbl hG
  have hb64 : (b.length : Int) ≤ 1073741824 := by omega
  have HSZ := Lib.hid hsz
  clear hsz
  go_enter Tryz.func42, Tryz.ntmps42
  go_wp2_with (first
    | (go_at_call 40; refine hs.mono ?_; rintro e w' ⟨rfl, rfl⟩)
    | (go_at_call 61; refine hr.mono ?_; rintro e w' ⟨rfl, rfl⟩))
  go_loopw [4, 5, 11] (fun l ends at_ wr => LoadRel w b l ends at_ wr) (fun l _ _ _ => 64 - slLen l)
  case atStart => exact ⟨[], 0, none, none, 0, 0, by simp, by omega, rfl, rfl, rfl, rfl, RowAt.nil _ _, RowAt.nil _ _, Upd.refl _ _, by simp [Value.ownBlock], by simp [Value.ownBlock]⟩
  case round =>
    obtain ⟨acc, a, x1, x2, c1, c2, hacc, ha, hfe, rfl, rfl, rfl, hr1, hr2, hu, hg1, hg2⟩ := hrel
    have HU := Lib.hid (And.intro hr1 (And.intro hr2 (And.intro hu (And.intro hg1 hg2))))
    have hG1 : Glob wr := HH.out.2.2.2.upd hu (by simp) (by simp)
    have hgc := hget a ha wr hG1
    clear hr1 hr2 hu hg1 hg2 hG1
    by_cases hj : acc.length < 64
    · have hji : (acc.length : Int) < 64 := by omega
      have hfa : ∀ r, 64 - acc.length = r + 1 → readN (64 - acc.length) b a = match frameAt b a with | some (p, q) => if p.length ≤ 200 then (p, q) :: readN r b q else [] | none => [] := by
        intro r hr; rw [hr]; rfl
      obtain ⟨r, hr⟩ : ∃ r, 64 - acc.length = r + 1 := ⟨63 - acc.length, by omega⟩
      have hfa := hfa r hr
      have HFE := Lib.hid hfe
      have HR := Lib.hid hr
      clear hfe hr
      cases hf : frameAt b a with
      | none =>
        rw [hf] at hgc hfa
        simp only at hgc hfa
        have HA := Lib.hid hfa
        have HF := Lib.hid hf
        clear hfa hf
        go_wp2_with (go_at_call 81; refine hgc.mono ?_; rintro e w2 ⟨rfl, hu2⟩)
        refine bodyPost_ret (v := .tuple #[.slice x1 acc.length c1, .slice x2 acc.length c2, .int .i64 b.length, .bool true]) (by simp [results, Tryz.results42, go_sem]) rfl ?_
        obtain ⟨hr1, hr2, hu, hg1, hg2⟩ := HU.out
        have hfe := HFE.out
        rw [HA.out, List.append_nil] at hfe
        unfold LoadPost
        rw [hfe]
        exact ⟨_, _, rfl, hr1.upd hu2 (by simp), hr2.upd hu2 (by simp), Upd.trans hu hu2 (by simp), hg1, hg2⟩
      | some pq =>
        obtain ⟨p, q⟩ := pq
        rw [hf] at hgc hfa
        simp only at hgc hfa
        have HQ := Lib.hid (frameAt_le hf ha)
        have HA := Lib.hid hfa
        have HF := Lib.hid hf
        clear hfa hf
        by_cases hp : p.length ≤ 200
        · have hpi : ¬ (200 : Int) < (p.length : Int) := by omega
          go_wp2_with (first | (go_at_call 81; refine hgc.mono ?_; rintro e w2 ⟨rfl, hu2⟩) | (at_builtin; refine Stop.here ?_))
          unfold Stop
          obtain ⟨hr1, hr2, hu, hg1, hg2⟩ := HU.out
          have hr1' := hr1.upd hu2 (by simp)
          have hr2' := hr2.upd hu2 (by simp)
          have hu' := Upd.trans hu hu2 (by simp)
          have hsz2 := hu'.size
          obtain ⟨v3, w3, hrun3, g3⟩ := app1_string hr1' (.string ⟨p.toArray⟩) rfl (by simp [svs]; omega) 22 1
          have hr2'' := g3.other hr2' (hr1'.apart hr2' (by decide))
          have hu3 := g3.updNil hu' (fun g hg => .inr (hg1 g hg))
          have hge3 := g3.ge hsz2 hg1
          obtain ⟨a3, c3, e3⟩ := g3.slice
          obtain ⟨v4, w4, hrun4, g4⟩ := app1_int hr2'' (.int .i64 q) rfl (by simp [ivs]; omega) 36 1
          have hu4 := g4.updNil hu3 (fun g hg => .inr (hg2 g hg))
          have hge4 := g4.ge hu3.size hg2
          obtain ⟨a4, c4, e4⟩ := g4.slice
          have hr3 := g4.other g3.row (hr2''.apart g3.row (by decide))
          have hr4 := g4.row
          have HX := Lib.hid (And.intro hu4 (And.intro hge3 (And.intro hge4 (And.intro hr3 hr4))))
          have HU1 := HU
          clear HU
          clear hr1 hr2 hu hg1 hg2 hr1' hr2' hu' hsz2 hr2'' hu3 hge3 hu4 hge4 hr3 hr4 g3 g4
          have hl3 : (svs (List.map (fun x => x.fst) acc) ++ [Value.string ⟨p.toArray⟩]).length = acc.length + 1 := by simp [svs]
          have hl4 : (ivs (List.map (fun x => ((x.snd : Nat) : Int)) acc) ++ [Value.int .i64 q]).length = acc.length + 1 := by simp [ivs]
          rw [hl3] at e3
          rw [hl4] at e4
          clear hl3 hl4
          subst e3 e4
          refine wpList_append_run rfl rfl hrun3 ?_
          have HR3 := Lib.hid hrun3
          have HR4 := Lib.hid hrun4
          clear hrun3 hrun4
          go_wp2_with (at_builtin; refine Stop.here ?_)
          unfold Stop
          refine wpList_append_run rfl rfl HR4.out ?_
          go_wp2
          go_roundw
          case rel =>
            obtain ⟨hu4, hge3, hge4, hr3, hr4⟩ := HX.out
            refine ⟨acc ++ [(p, q)], q, a3, a4, c3, c4, by simp; omega, HQ.out.2.1, ?_, by simp, by simp, rfl, ?_, ?_, hu4, hge3, hge4⟩
            · rw [HFE.out, HA.out, if_pos hp, List.append_assoc]
              have : 64 - (acc ++ [(p, q)]).length = r := by have := HR.out; simp; omega
              rw [this]; rfl
            · simpa [svs] using hr3
            · simpa [ivs] using hr4
          case measure => simp [slLen]; omega
        · have hpi : (200 : Int) < (p.length : Int) := by omega
          go_wp2_with (go_at_call 81; refine hgc.mono ?_; rintro e w2 ⟨rfl, hu2⟩)
          refine bodyPost_ret (v := .tuple #[.slice x1 acc.length c1, .slice x2 acc.length c2, .int .i64 b.length, .bool true]) (by simp [results, Tryz.results42, go_sem]) rfl ?_
          obtain ⟨hr1, hr2, hu, hg1, hg2⟩ := HU.out
          have hfe := HFE.out
          rw [HA.out, if_neg (by omega), List.append_nil] at hfe
          unfold LoadPost
          rw [hfe]
          exact ⟨_, _, rfl, hr1.upd hu2 (by simp), hr2.upd hu2 (by simp), Upd.trans hu hu2 (by simp), hg1, hg2⟩
    · have hji : ¬ (acc.length : Int) < 64 := by omega
      go_wp2
      refine bodyPost_ret (v := .tuple #[.slice x1 acc.length c1, .slice x2 acc.length c2, .int .i64 b.length, .bool true]) (by simp [results, Tryz.results42, go_sem]) rfl ?_
      obtain ⟨hr1, hr2, hu, hg1, hg2⟩ := HU.out
      have h0 : 64 - acc.length = 0 := by omega
      rw [h0, readN, List.append_nil] at hfe
      unfold LoadPost
      rw [hfe]
      exact ⟨_, _, rfl, hr1, hr2, hu, hg1, hg2⟩
end Go.Proofs.YtogkdoooimcemaaGreatDoor

/- Back -/
namespace Go.Proofs.YtogkdoooimcemaaGreatDoor
open Go Go.RowKit Go.Shelf
open Go.ChangeMaps (setBlock)
set_option maxRecDepth 20000
attribute [local go_sem] Oper.semAt_some

theorem wpListIn_append_run {F : Fence} {n : Nat} {P : Program} {ops : Array Oper} {rest : List Oper} {o : Oper} {a : Act} {Q : Exit → Act → World → Prop} {w : World} {s x : Operand} {t u : TypeId} {v' : Value} {w' : World} (hgd : o.guard = none) (ho : o.op = .call { callee := .builtin .append, args := #[s, x], argTypes := #[t, u] })
    (hrun : (Builtin.append_ #[t, u] o.type #[a.eval s, a.eval x]).run P w = .ok v' w') (h : wpListIn F n P ops Q rest (a.put o.dst v') w') : wpListIn F n P ops Q (o :: rest) a w := by
  refine wpListIn_plain hgd fun K hK' => ?_
  unfold Oper.wpIn
  refine ⟨?_, ?_⟩
  · simp [Oper.about, ho, resolve, Target.leads, Sem.run_pure]
  · rw [Oper.semAt_plain F _ _ (by rw [ho]; intro c hc'; cases hc')]
    simp [execOp, ho, resolve, invoke, builtin, hrun, Result.andThen]
    exact hK' _ _ h

def upto {α : Type} (f : Nat → α) (k : Nat) : List α := (List.range k).map f
theorem upto_succ {α : Type} (f : Nat → α) (k : Nat) : upto f (k + 1) = upto f k ++ [f k] := by simp [upto, List.range_succ]
theorem upto_length {α : Type} (f : Nat → α) (k : Nat) : (upto f k).length = k := by simp [upto]
/-- what a range over slices.Backward hands over, in its order -/
def backs (xs : List Int) (j : Nat) : Nat × Int := (xs.length - 1 - j, xs.getD (xs.length - 1 - j) 0)
theorem backs_all (xs : List Int) : (upto (backs xs) xs.length).map (·.2) = xs.reverse := by
  apply List.ext_getElem
  · simp [upto]
  · intro i h1 h2
    simp [upto] at h1
    simp only [upto, backs, List.map_map, List.getElem_map, List.getElem_range, List.getElem_reverse, Function.comp_apply, List.getD_eq_getElem?_getD]
    rw [List.getElem?_eq_getElem (by omega)]; rfl
theorem backs_take (xs : List Int) (k : Nat) (hk : k ≤ xs.length) : (upto (backs xs) k).map (·.2) = xs.reverse.take k := by
  apply List.ext_getElem
  · simp [upto, hk]
  · intro i h1 h2
    simp [upto] at h1
    simp only [upto, backs, List.map_map, List.getElem_map, List.getElem_range, List.getElem_take, List.getElem_reverse, Function.comp_apply, List.getD_eq_getElem?_getD]
    rw [List.getElem?_eq_getElem (by omega)]; rfl

/-- the blocks of S lie as they lay -/
def KeepB (S : List Nat) (W W' : World) : Prop := ∀ b ∈ S, W'.heap[b]? = W.heap[b]?
theorem KeepB.refl (S : List Nat) (W : World) : KeepB S W W := fun _ _ => rfl
theorem KeepB.trans {S : List Nat} {A B C : World} (h : KeepB S A B) (k : KeepB S B C) : KeepB S A C := fun b hb => (k b hb).trans (h b hb)
theorem KeepB.cell {S : List Nat} {A B : World} (h : KeepB S A B) {p : Addr} (hp : p.block ∈ S) : B.cell? p = A.cell? p := World.cell?_of_block (h _ hp)
theorem KeepB.upd {S fp : List Nat} {A B : World} (h : Upd fp A B) (hS : ∀ b ∈ S, b < A.heap.size ∧ b ∉ fp) : KeepB S A B := fun b hb => h.block b (hS b hb).1 (hS b hb).2
theorem keepB_b {S : List Nat} {w : World} (hn : ∀ b ∈ S, b < w.heap.size) (W : World) (l : Nat) (o o' : Obj) (hl : w.heap.size ≤ l) (_ : W.heap[l]? = some o) (_ : o.isCells = false) (_ : o.isWalk = false) : KeepB S W (W.putObj l o') := fun b hb =>
  World.putObj_heap_other (by have := hn b hb; omega)

/-- sv holds the ints xs, in a block of S; or it is nil and there are none. -/
def Ints (S : List Nat) (W : World) (sv : Value) (xs : List Int) : Prop :=
  (sv = .slice none 0 0 ∧ xs = []) ∨ ∃ b off cap, sv = .slice (some ⟨b, off, none⟩) xs.length cap ∧ b ∈ S ∧ b < W.heap.size ∧ ∀ j, j < xs.length → W.cell? ⟨b, off + j, none⟩ = some (.int .i64 (xs.getD j 0))
theorem Ints.below {S : List Nat} {n : Nat} {A B : World} (h : Below n A B) (hn : n = A.heap.size) {sv : Value} {xs : List Int} : Ints S A sv xs → Ints S B sv xs
  | .inl e => .inl e
  | .inr ⟨b, off, cap, e, hb, hl, hc⟩ => .inr ⟨b, off, cap, e, hb, Nat.lt_of_lt_of_le hl h.size, fun j hj => (h.cell (p := ⟨b, off + j, none⟩) (hn ▸ hl)).trans (hc j hj)⟩
theorem RowAt.ints {w : World} {v : Value} {xs : List Int} (h : RowAt w 3 v (xs.map (.int .i64))) {S : List Nat} (hn : ∀ g, v.ownBlock = some g → g ∈ S) : Ints S w v xs := by
  rcases h with ⟨rfl, h0⟩ | ⟨g, cap, cur, rfl, hg, h⟩
  · exact .inl ⟨rfl, by simpa using h0⟩
  · refine .inr ⟨g, 0, cap, by simp, hn g rfl, lt_of_block hg, fun j hj => ?_⟩
    rw [Nat.zero_add]
    exact RowAt.cell (.inr ⟨g, cap, cur, rfl, hg, h⟩) j _ (by simp [hj])

section
variable {F : Fence} {n : Nat}
set_option maxHeartbeats 2000000 in
theorem back1_in (hF : F.fn 93) (hro : F.round = none) (hn : 1 ≤ n) (l Bs : Nat) (S : List Nat) (b off cap : Nat) (xs : List Int) (hlen : xs.length ≤ 1099511627776) (hb : b ∈ S) (hBs0 : Bs ∈ S) (J Jx : List (Nat × Int) → World → Prop)
    (hY : ∀ pre x W, J pre W → pre.length < xs.length → YieldAt F (n - 1) Tryz.prog l #[.int .i64 (x.1 : Int), .int .i64 x.2] W fun e W' =>
      (e = .returned (.bool true) ∧ J (pre ++ [x]) W' ∧ KeepB S W W') ∨ (e = .returned (.bool false) ∧ Jx (pre ++ [x]) W'))
    (W : World) (hBs : W.cell? ⟨Bs, 0, none⟩ = some (.slice (some ⟨b, off, none⟩) xs.length cap)) (hc : ∀ j, j < xs.length → W.cell? ⟨b, off + j, none⟩ = some (.int .i64 (xs.getD j 0))) (h0 : J [] W) :
    CallsIn F n Tryz.prog 93 #[.func (.yield l) #[] #[], .pointer (some ⟨Bs, 0, none⟩)] W fun e W' => (∃ v, e = .returned v) ∧
      ((∃ ys, ys = upto (backs xs) xs.length ∧ J ys W') ∨ (∃ pre, (∃ k, k ≤ xs.length ∧ pre = upto (backs xs) k) ∧ Jx pre W')) := by
  refine callsIn_of_wp Tryz.func93 rfl hF ?_ hro
  simp only [Tryz.ntmps93, List.size_toArray, List.length_cons, List.length_nil, Nat.reduceAdd, Nat.reduceSub, Array.replicate_succ, Array.replicate_zero, List.push_toArray, List.append_toArray, List.nil_append, List.cons_append]
  have HC := Lib.hid hc
  have HB := Lib.hid hBs
  clear hc
  have hwl : IntKind.i64.wrap ((xs.length : Int) - 1) = (xs.length : Int) - 1 := by rw [IntKind.wrap_i64]; omega
  gi_wp2
  gi_loopw [3] (fun i wr => ∃ k : Nat, k ≤ xs.length ∧ i = .int .i64 ((xs.length : Int) - 1 - k) ∧ J (upto (backs xs) k) wr ∧ KeepB S W wr)
    (fun i _ => (intOf i + 1).toNat)
  case atStart => exact ⟨0, Nat.zero_le _, by simp, h0, KeepB.refl _ _⟩
  case round =>
    obtain ⟨k, hk, rfl, hJs, hnx⟩ := hrel
    have hbx : wr.cell? ⟨Bs, 0, none⟩ = some (.slice (some ⟨b, off, none⟩) xs.length cap) := (hnx.cell (p := ⟨Bs, 0, none⟩) hBs0).trans HB.out
    by_cases hlt : k < xs.length
    · obtain ⟨m, hm⟩ : ∃ m, m = xs.length - 1 - k := ⟨_, rfl⟩
      have hcx : wr.cell? ⟨b, off + m, none⟩ = some (.int .i64 (xs.getD m 0)) := (hnx.cell (p := ⟨b, off + m, none⟩) hb).trans (HC.out m (by omega))
      have e1 : ((xs.length : Int) - 1 - k) = (m : Int) := by omega
      have hbk : backs xs k = (m, xs.getD m 0) := by rw [hm]; rfl
      obtain ⟨fn, tmps, assign, body, hy, hR⟩ := hY _ (m, xs.getD m 0) wr hJs (by rw [upto_length]; exact hlt)
      dsimp only at hy
      have HK := Lib.hid hbk
      have HM := Lib.hid hm
      have hml : (m : Int) < xs.length := by omega
      rw [e1]
      have HE := Lib.hid e1
      have hw1 : IntKind.i64.wrap ((m : Int) - 1) = (m : Int) - 1 := by rw [IntKind.wrap_i64]; omega
      generalize xs.getD m 0 = xv at *
      clear hbk hm e1 hwl
      gi_wp2
      refine hR.mono ?_
      rintro e W3 (⟨rfl, hJ3, hk3⟩ | ⟨rfl, hJx3⟩)
      · gi_wp2
        go_roundw
        case rel => exact ⟨k + 1, by omega, by have := HE.out; congr 1; omega, by rw [upto_succ, HK.out]; exact hJ3, hnx.trans hk3⟩
        case measure => simp [intOf]
      · gi_wp2
        refine bodyPost_ret (results_none rfl _ _ _) rfl ?_
        exact ⟨⟨_, rfl⟩, .inr ⟨_, ⟨k + 1, by omega, by rw [upto_succ, HK.out]⟩, hJx3⟩⟩
    · obtain rfl : k = xs.length := by omega
      have e1 : ((xs.length : Int) - 1 - xs.length) = -1 := by omega
      rw [e1]
      clear e1 hwl
      gi_wp2
      go_end0
      exact ⟨⟨_, rfl⟩, .inl ⟨_, rfl, hJs⟩⟩
set_option maxHeartbeats 1000000 in
theorem back1_nil_in (hF : F.fn 93) (hro : F.round = none) (l Bs : Nat) (J : List (Nat × Int) → World → Prop) (W : World) (hBs : W.cell? ⟨Bs, 0, none⟩ = some (.slice none 0 0)) (h0 : J [] W) :
    CallsIn F n Tryz.prog 93 #[.func (.yield l) #[] #[], .pointer (some ⟨Bs, 0, none⟩)] W fun e W' => (∃ v, e = .returned v) ∧ J [] W' := by
  refine callsIn_of_wp Tryz.func93 rfl hF ?_ hro
  simp only [Tryz.ntmps93, List.size_toArray, List.length_cons, List.length_nil, Nat.reduceAdd, Nat.reduceSub, Array.replicate_succ, Array.replicate_zero, List.push_toArray, List.append_toArray, List.nil_append, List.cons_append]
  gi_wp2
  gi_loopw [3] (fun i wr => i = .int .i64 (-1) ∧ J [] wr) (fun _ _ => 0)
  case atStart => exact ⟨rfl, h0⟩
  case round =>
    obtain ⟨rfl, hJs⟩ := hrel
    gi_wp2
    go_end0
    exact ⟨⟨_, rfl⟩, hJs⟩
set_option maxHeartbeats 1000000 in
theorem back_in (hF : F.fn 76) (hro : F.round = none) (v : Value) (w : World) (hv : ∃ a n c, v = .slice a n c) :
    CallsIn F n Tryz.prog 76 #[v] w fun e w' => e = .returned (.func (.func 93) #[] #[.pointer (some ⟨w.heap.size, 0, none⟩)]) ∧ w' = w.alloc (.cells #[v] 36) := by
  obtain ⟨a, m, c, rfl⟩ := hv
  refine callsIn_of_wp Tryz.func76 rfl hF ?_ hro
  simp only [Tryz.ntmps76, List.size_toArray, List.length_cons, List.length_nil, Nat.reduceAdd, Nat.reduceSub, Array.replicate_succ, Array.replicate_zero, List.push_toArray, List.append_toArray, List.nil_append, List.cons_append]
  gi_wp2
  go_ret
  exact ⟨rfl, rfl⟩
/-- what a range over the value of slices.Backward(s) goes through -/
theorem back_stops (hF : F.fn 93) (hro : F.round = none) (hn : 1 ≤ n) (Bs : Nat) (S : List Nat) (sv : Value) (xs : List Int) (hlen : xs.length ≤ 1099511627776) (w : World) (hBs : Bs ∈ S)
    (hc : w.cell? ⟨Bs, 0, none⟩ = some sv) (hI : Ints S w sv xs) :
    SeqStopsK F n Tryz.prog 93 #[.pointer (some ⟨Bs, 0, none⟩)] (fun x : Nat × Int => #[Value.int .i64 (x.1 : Int), Value.int .i64 x.2]) (KeepB S) (fun ys => ys = upto (backs xs) xs.length)
      (fun pre => ∃ k, k ≤ xs.length ∧ pre = upto (backs xs) k) xs.length w := fun l J Jx W hW _ _ hY h0 => by
  have hc' := (hW.cell (p := ⟨Bs, 0, none⟩) (block_lt_of_cell hc)).trans hc
  rcases hI.below hW rfl with ⟨rfl, rfl⟩ | ⟨b, off, cap, rfl, hb, -, hcs⟩
  · exact (back1_nil_in hF hro l Bs J W hc' h0).mono fun e W' ⟨he, hj⟩ => ⟨he, .inl ⟨_, rfl, hj⟩⟩
  · exact back1_in hF hro hn l Bs S b off cap xs hlen hb hBs J Jx hY W hc' hcs h0
end
end Go.Proofs.YtogkdoooimcemaaGreatDoor

/- Seg3 -/
namespace Go.Proofs.YtogkdoooimcemaaGreatDoor
open Go Go.RowKit
open Go.ChangeMaps (setBlock)
set_option maxRecDepth 20000


theorem does_sync (w0 : World) (K : List Nat) (d : Nat) : Does w0 K [] d Step.sync.Pre (.func (.func 45) #[.pointer (some ⟨d, 0, none⟩)] #[]) .sync :=
  ⟨_, _, _, rfl, enters_of Tryz.func45 (by kernel_rfl) rfl, fun _ _ _ _ hd ho _ _ => (sync_at hd ho).mono fun _ _ h => ⟨h.1, h.2.toX _⟩⟩
theorem does_delete (w0 : World) (K : List Nat) (d b1 b2 : Nat) (n : Int) (h1 : b1 ∈ K) (h2 : b2 ∈ K) (c1 : w0.cell? ⟨b1, 0, none⟩ = some (.pointer (some ⟨d, 0, none⟩))) (c2 : w0.cell? ⟨b2, 0, none⟩ = some (.int .i64 n)) :
    Does w0 K [] d (Step.delete n).Pre (.func (.func 77) #[] #[.pointer (some ⟨b1, 0, none⟩), .pointer (some ⟨b2, 0, none⟩)]) (.delete n) := by
  refine ⟨_, _, _, rfl, enters_of Tryz.func77 (by kernel_rfl) rfl, fun w D fp hk hd ho _ _ => ?_⟩
  have d1 : w.cell? ⟨b1, 0, none⟩ = _ := (World.cell?_of_block (hk b1 h1)).trans c1
  have d2 : w.cell? ⟨b2, 0, none⟩ = _ := (World.cell?_of_block (hk b2 h2)).trans c2
  have hc := delete_at hd ho n
  clear hd hk c1 c2
  show Calls _ _ #[_, _] _ _
  go_enter Tryz.func77, Tryz.ntmps77
  go_wp2_with (go_at_call 78; refine hc.mono ?_; rintro e w' ⟨rfl, hm⟩)
  go_ret
  exact ⟨rfl, hm.toX _⟩
theorem does_trunc (w0 : World) (K : List Nat) (d b1 b2 b3 : Nat) (n : Int) (k : Nat) (h1 : b1 ∈ K) (h2 : b2 ∈ K) (h3 : b3 ∈ K) (c1 : w0.cell? ⟨b1, 0, none⟩ = some (.pointer (some ⟨d, 0, none⟩))) (c2 : w0.cell? ⟨b2, 0, none⟩ = some (.int .i64 n))
    (c3 : w0.cell? ⟨b3, 0, none⟩ = some (.int .i64 k)) :
    Does w0 K [] d (Step.trunc n k).Pre (.func (.func 43) #[] #[.pointer (some ⟨b1, 0, none⟩), .pointer (some ⟨b2, 0, none⟩), .pointer (some ⟨b3, 0, none⟩)]) (.trunc n k) := by
  refine ⟨_, _, _, rfl, enters_of Tryz.func43 (by kernel_rfl) rfl, fun w D fp hk hd ho _ hp => ?_⟩
  have d1 : w.cell? ⟨b1, 0, none⟩ = _ := (World.cell?_of_block (hk b1 h1)).trans c1
  have d2 : w.cell? ⟨b2, 0, none⟩ = _ := (World.cell?_of_block (hk b2 h2)).trans c2
  have d3 : w.cell? ⟨b3, 0, none⟩ = _ := (World.cell?_of_block (hk b3 h3)).trans c3
  have hc : Calls Tryz.prog 39 #[.pointer (some ⟨d, 0, none⟩), .int .i64 n, .int .i64 k] w fun e w' => e = .returned (.int .i64 (D.truncate n k).2) ∧ Moves w d fp (D.truncate n k).1 w' := by
    by_cases h0 : D.has n = 0
    · obtain ⟨b, hb, hk⟩ := hp h0
      exact truncate_yes hd ho n k b hb (by unfold Dk.has at h0; split at h0 <;> simp_all) hk
    · exact truncate_no hd n k h0
  clear hd hk c1 c2 c3
  show Calls _ _ #[_, _, _] _ _
  go_enter Tryz.func43, Tryz.ntmps43
  go_wp2_with (go_at_call 39; refine hc.mono ?_; rintro e w' ⟨rfl, hm⟩)
  go_ret
  exact ⟨rfl, hm.toX _⟩
theorem does_create (w0 : World) (K : List Nat) (d b1 b2 s : Nat) (n : Int) (h1 : b1 ∈ K) (h2 : b2 ∈ K) (h3 : s ∈ K) (c1 : w0.cell? ⟨b1, 0, none⟩ = some (.pointer (some ⟨s, 0, none⟩))) (c2 : w0.cell? ⟨b2, 0, none⟩ = some (.int .i64 n))
    (c3 : w0.cell? ⟨s, 0, none⟩ = some (.pointer (some ⟨d, 0, none⟩))) :
    Does w0 K [] d (Step.create n).Pre (.func (.func 73) #[] #[.pointer (some ⟨b1, 0, none⟩), .pointer (some ⟨b2, 0, none⟩)]) (.create n) := by
  refine ⟨_, _, _, rfl, enters_of Tryz.func73 (by kernel_rfl) rfl, fun w D fp hk hd ho hkf hp => ?_⟩
  have d1 : w.cell? ⟨b1, 0, none⟩ = _ := (World.cell?_of_block (hk b1 h1)).trans c1
  have d2 : w.cell? ⟨b2, 0, none⟩ = _ := (World.cell?_of_block (hk b2 h2)).trans c2
  have d3 : w.cell? ⟨s, 0, none⟩ = _ := (World.cell?_of_block (hk s h3)).trans c3
  have hc := create_at (w := w.drew) (hd.keep (fun _ _ => rfl)) ho n hp
  clear hd hk c1 c2 c3
  show Calls _ _ #[_, _] _ _
  go_enter Tryz.func73, Tryz.ntmps73
  go_wp2
  refine wp_region_can [(0, false), (1, false), (2, false), (3, false), (4, false), (5, true)] 6 (fun u => u.cell? ⟨b1, 0, none⟩ = some (.pointer (some ⟨s, 0, none⟩)) ∧ u.cell? ⟨b2, 0, none⟩ = some (.int .i64 n) ∧ u.cell? ⟨s, 0, none⟩ = some (.pointer (some ⟨d, 0, none⟩))) (by kernel_rfl) (by kernel_rfl) (fun _ _ d _ _ h => by cases d <;> exact h) ⟨d1, d2, d3⟩ ?_
  simp only [canOps, List.filterMap_cons, List.filterMap_nil, Option.map_some, List.getElem?_toArray, List.getElem?_cons_succ, List.getElem?_cons_zero, List.drop_succ_cons, List.drop_zero]
  repeat (apply can_light rfl; (· intro u hu; obtain ⟨hu1, hu2, hu3⟩ := hu; go_simp; try rfl); simp only [Act.put, List.setIfInBounds_toArray, List.set_cons_zero, List.set_cons_succ])
  refine can_acts rfl fun K' hK' => ?_
  go_simp
  refine hc.mono ?_
  rintro e w' ⟨rfl, hm⟩
  obtain ⟨f2, hd2, hu, hf2⟩ := hm
  have hl1 := block_lt_of_cell d1
  have hl2 := block_lt_of_cell d2
  have hl3 := block_lt_of_cell d3
  refine hK' _ _ ⟨(hu.cell (p := ⟨b1, 0, none⟩) hl1 (hkf _ h1)).trans d1, (hu.cell (p := ⟨b2, 0, none⟩) hl2 (hkf _ h2)).trans d2, (hu.cell (p := ⟨s, 0, none⟩) hl3 (hkf _ h3)).trans d3⟩ (can_nil ?_)
  clear hK' K'
  go_wp2
  go_ret
  exact ⟨rfl, Moves.toX (w := w) ⟨f2, hd2, ⟨hu.os, hu.tape, hu.output, hu.size, hu.block⟩, hf2⟩ []⟩

theorem append_at {w : World} {p : Nat} {D : Dk} {fp : List Nat} (h : DiskAt w p D fp) (ho : D.Ok) (n : Int) (s : ByteArray) (hl : D.loose.length < 1000000) :
    Calls Tryz.prog 19 #[.pointer (some ⟨p, 0, none⟩), .int .i64 n, .string s] w fun e w' => e = .returned (.int .i64 (D.append n s.data.toList).2) ∧ Moves w p fp (D.append n s.data.toList).1 w' := by
  have hsz : s.data.toList.length = s.size := by simp
  unfold Dk.append
  rw [hsz]
  by_cases h0 : D.has n = 0
  · rw [if_neg (by simpa using h0)]
    by_cases h1 : (s.size : Int) > D.free
    · rw [if_pos h1]; exact append_full h n s h0 h1
    · rw [if_neg h1]; exact append_yes h ho n s h0 (by omega) hl
  · rw [if_pos h0]
    refine (append_no h n s h0).mono ?_
    rintro e w' ⟨rfl, rfl⟩
    exact ⟨rfl, Moves.refl h⟩
theorem truncate_at {w : World} {p : Nat} {D : Dk} {fp : List Nat} (h : DiskAt w p D fp) (ho : D.Ok) (n : Int) (k : Nat) (hp : (Step.trunc n k).Pre D) :
    Calls Tryz.prog 39 #[.pointer (some ⟨p, 0, none⟩), .int .i64 n, .int .i64 k] w fun e w' => e = .returned (.int .i64 (D.truncate n k).2) ∧ Moves w p fp (D.truncate n k).1 w' := by
  by_cases h0 : D.has n = 0
  · obtain ⟨b, hb, hk⟩ := hp h0
    exact truncate_yes h ho n k b hb (by unfold Dk.has at h0; split at h0 <;> simp_all) hk
  · exact truncate_no h n k h0

set_option maxHeartbeats 2000000 in
/-- Cut's truncation -/
theorem does_cut (w0 : World) (K : List Nat) (d b1 b2 s : Nat) (m : Nat) (ends : List Int) (k : Nat) (nv : Value) (hm : 0 < m) (hml : m ≤ ends.length) (hmb : m ≤ 1048576) (hk : ends.getD (m - 1) 0 = k) (h1 : b1 ∈ K) (h2 : b2 ∈ K) (h3 : s ∈ K) (h4 : ∀ g, nv.ownBlock = some g → g ∈ K)
    (c1 : w0.cell? ⟨b1, 0, none⟩ = some (.pointer (some ⟨s, 0, none⟩))) (c2 : w0.cell? ⟨b2, 0, none⟩ = some (.int .i64 m)) (c3 : w0.cell? ⟨s, 0, none⟩ = some (.pointer (some ⟨d, 0, none⟩))) (c4 : w0.cell? ⟨s, 2, none⟩ = some nv) (hr : RowAt w0 3 nv (ivs ends)) :
    Does w0 K [] d (Step.trunc ((1000 + m / 64 : Nat) : Int) k).Pre (.func (.func 38) #[] #[.pointer (some ⟨b1, 0, none⟩), .pointer (some ⟨b2, 0, none⟩)]) (.trunc ((1000 + m / 64 : Nat) : Int) k) := by
  refine ⟨_, _, _, rfl, enters_of Tryz.func38 (by kernel_rfl) rfl, fun w D fp hkk hd ho hkf hp => ?_⟩
  have d1 : w.cell? ⟨b1, 0, none⟩ = _ := (World.cell?_of_block (hkk b1 h1)).trans c1
  have d2 : w.cell? ⟨b2, 0, none⟩ = _ := (World.cell?_of_block (hkk b2 h2)).trans c2
  have d3 : w.cell? ⟨s, 0, none⟩ = _ := (World.cell?_of_block (hkk s h3)).trans c3
  have d4 : w.cell? ⟨s, 2, none⟩ = _ := (World.cell?_of_block (hkk s h3)).trans c4
  have hr' : RowAt w 3 nv (ivs ends) := hr.keep fun g hg _ => hkk g (h4 g hg)
  obtain ⟨g, cap, cur, rfl, hg, -, -, -, -⟩ : ∃ g cap cur, nv = .slice (some ⟨g, 0, none⟩) (ivs ends).length cap ∧ w.heap[g]? = some (.cells cur 3 (0, 0)) ∧ (ivs ends).length ≤ cap ∧ cap ≤ cur.size ∧ cap ≤ maxLen ∧ cur.toList.take (ivs ends).length = ivs ends := by
    rcases hr' with ⟨_, h⟩ | h
    · simp [ivs] at h; subst h; simp at hml; omega
    · exact h
  have hlen : (ivs ends).length = ends.length := by simp [ivs]
  have d5 : w.cell? ⟨g, m - 1, none⟩ = some (.int .i64 k) := by
    rw [← hk]
    exact hr'.cell (m - 1) _ (by
      have : m - 1 < ends.length := by omega
      simp [ivs, this])
  have hc := truncate_at (w := w.drew) (hd.keep (fun _ _ => rfl)) ho _ k hp
  have hw : IntKind.i64.wrap ((m : Int) - 1) = ((m - 1 : Nat) : Int) := by rw [IntKind.wrap_i64]; omega
  have hq0 : IntKind.i64.wrap ((m : Int) / 64) = (m : Int) / 64 := by rw [IntKind.wrap_i64]; omega
  have hq : IntKind.i64.wrap (1000 + (m : Int) / 64) = ((1000 + m / 64 : Nat) : Int) := by rw [IntKind.wrap_i64]; omega
  have hlt : ((m - 1 : Nat) : Int) < ends.length := by omega
  have hgK := h4 g rfl
  have hgl := lt_of_block hg
  rw [hlen] at d4
  clear hd hkk c1 c2 c3 c4 hr hr' hg hk hp
  generalize hm1 : m - 1 = m1 at *
  generalize ends.length = len at *
  generalize hq1 : ((1000 + m / 64 : Nat) : Int) = q at *
  show Calls _ _ #[_, _] _ _
  go_enter Tryz.func38, Tryz.ntmps38
  go_wp2
  refine wp_region_can [(0, false), (1, false), (2, false), (3, false), (4, false), (5, false), (6, false), (7, false), (8, false), (9, false), (10, false), (11, false), (12, false), (13, false), (14, false), (15, true)] 16 (fun u => u.cell? ⟨b1, 0, none⟩ = some (.pointer (some ⟨s, 0, none⟩)) ∧ u.cell? ⟨b2, 0, none⟩ = some (.int .i64 m) ∧ u.cell? ⟨s, 0, none⟩ = some (.pointer (some ⟨d, 0, none⟩)) ∧
    (∃ a, u.cell? ⟨s, 2, none⟩ = some (.slice (some ⟨g, 0, none⟩) len a) ∧ a = cap) ∧ u.cell? ⟨g, m1, none⟩ = some (.int .i64 k)) (by kernel_rfl) (by kernel_rfl) (fun _ _ d _ _ h => by cases d <;> exact h) ⟨d1, d2, d3, ⟨_, d4, rfl⟩, d5⟩ ?_
  simp only [canOps, List.filterMap_cons, List.filterMap_nil, Option.map_some, List.getElem?_toArray, List.getElem?_cons_succ, List.getElem?_cons_zero, List.drop_succ_cons, List.drop_zero]
  repeat (apply can_light rfl; (· intro u hu; obtain ⟨hu1, hu2, hu3, ⟨a, hu4, rfl⟩, hu5⟩ := hu; go_simp; try rfl); simp only [Act.put, List.setIfInBounds_toArray, List.set_cons_zero, List.set_cons_succ])
  refine can_acts rfl fun K' hK' => ?_
  go_simp
  refine hc.mono ?_
  rintro e w' ⟨rfl, hmv⟩
  obtain ⟨f2, hd2, hu, hf2⟩ := hmv
  have hl1 := block_lt_of_cell d1
  have hl2 := block_lt_of_cell d2
  have hl3 := block_lt_of_cell d3
  refine hK' _ _ ⟨(hu.cell (p := ⟨b1, 0, none⟩) hl1 (hkf _ h1)).trans d1, (hu.cell (p := ⟨b2, 0, none⟩) hl2 (hkf _ h2)).trans d2, (hu.cell (p := ⟨s, 0, none⟩) hl3 (hkf _ h3)).trans d3,
    ⟨_, (hu.cell (p := ⟨s, 2, none⟩) hl3 (hkf _ h3)).trans d4, rfl⟩, (hu.cell (p := ⟨g, m1, none⟩) hgl (hkf _ hgK)).trans d5⟩ (can_nil ?_)
  clear hK' K'
  go_wp2
  go_ret
  exact ⟨rfl, Moves.toX (w := w) ⟨f2, hd2, ⟨hu.os, hu.tape, hu.output, hu.size, hu.block⟩, hf2⟩ []⟩
end Go.Proofs.YtogkdoooimcemaaGreatDoor
