/- What stands in memory while Segments.plan plans. Conditions: those of each lemma.
  Segments.plan: the walk. Conditions: the disk and the segments lie in memory, the texts are short; the listed variables hold their numbers.
  What plan's steps need, and how many ends there are. Plain.
  Segments.Append: none, off, nothing, too long, too many. Conditions: those of each lemma. -/
import Derived.Test.YtogkdoooimcemaaGreatDoorC12
import Derived.Test.YtogkdoooimcemaaGreatDoorC13
import Derived.WalkLawsBesides
import Derived.Test.YtogkdoooimcemaaGreatDoorC09
/- Seg13 -/
namespace Go.Proofs.YtogkdoooimcemaaGreatDoor
open Go Go.RowKit
open Go.ChangeMaps (setBlock)
set_option maxRecDepth 20000

/-- what has been planned so far, in memory -/
structure PlanInv (w : World) (s d : Nat) (S : Sg) (ev nv : Value) (sts : List Step) (ends : List Int) (tv env : Value) (acts : List Act') (W : World) : Prop where
  sat : SAt W s d S ev nv
  steps : StepsAt W 0 d tv acts
  sts : acts.map (·.st) = sts
  ends : RowAt W 3 env (ivs ends)
  box : Boxed W w.heap.size 28 (.pointer (some ⟨s, 0, none⟩))
  upd : Upd [] w W
  tvge : ∀ g, tv.ownBlock = some g → w.heap.size ≤ g
  envge : ∀ g, env.ownBlock = some g → w.heap.size ≤ g
  kge : ∀ a ∈ acts, ∀ b ∈ a.K, w.heap.size ≤ b ∨ b = s
  xs : ∀ a ∈ acts, ∀ b ∈ a.X, w.heap.size < b ∧ b ∈ a.K
  hap : acts.Pairwise fun a c => ∀ b ∈ a.X, b ∉ c.K
  apart : ∀ a ∈ acts, ∀ b ∈ a.K, env.ownBlock ≠ some b
  sold : s < w.heap.size
  sfge : ∀ b ∈ sfoot s ev nv, b < w.heap.size
section
variable {w : World} {s d : Nat} {S : Sg} {ev nv : Value} {sts : List Step} {ends : List Int} {tv env : Value} {acts : List Act'} {W W' : World}
theorem PlanInv.upd' (h : PlanInv w s d S ev nv sts ends tv env acts W) (hu : Upd [] W W') : PlanInv w s d S ev nv sts ends tv env acts W' :=
  ⟨h.sat.upd hu (by simp), h.steps.upd hu (by simp) (by simp), h.sts, h.ends.upd hu (by simp), h.box.upd hu (by simp), h.upd.trans hu (by simp), h.tvge, h.envge, h.kge, h.xs, h.hap, h.apart, h.sold, h.sfge⟩
/-- blocks that are none of the plan's are turned -/
theorem PlanInv.other {fp : List Nat} (h : PlanInv w s d S ev nv sts ends tv env acts W) (hu : Upd fp W W') (hfp : ∀ b ∈ fp, w.heap.size < b) (hK : ∀ a ∈ acts, ∀ b ∈ a.K, b ∉ fp) (htv : ∀ g, tv.ownBlock = some g → g ∉ fp) (henv : ∀ g, env.ownBlock = some g → g ∉ fp) : PlanInv w s d S ev nv sts ends tv env acts W' :=
  ⟨h.sat.upd hu (fun b hb hm => by have := h.sfge b hb; have := hfp b hm; omega), h.steps.upd hu htv hK, h.sts, h.ends.upd hu henv, h.box.upd hu (fun hm => by have := hfp _ hm; omega), h.upd.trans hu (fun x hx => .inr (Nat.le_of_lt (hfp x hx))), h.tvge, h.envge, h.kge, h.xs, h.hap, h.apart, h.sold, h.sfge⟩
/-- a new end -/
theorem PlanInv.end_ {W1 : World} (h : PlanInv w s d S ev nv sts ends tv env acts W) {env' : Value} {x : Int} (g : Grew W W1 3 env env' (ivs ends ++ [.int .i64 x])) : PlanInv w s d S ev nv sts (ends ++ [x]) tv env' acts W1 := by
  have hn : ∀ b, env.ownBlock ≠ some b → b ∉ env.ownBlock.toList := by intro b hb hm; rw [Option.mem_toList] at hm; exact hb hm
  have hsz := h.upd.size
  refine ⟨h.sat.upd g.upd fun b hb => hn b fun he => ?_, h.steps.upd g.upd (fun k hk => hn k fun he => h.ends.apart h.steps.row (by decide) k he hk) (fun a ha b hb => hn b (h.apart a ha b hb)), h.sts, by simpa [ivs] using g.row,
    h.box.upd g.upd (hn _ (h.ends.notBox h.box (by decide))), g.updNil h.upd (fun k hk => .inr (h.envge k hk)), h.tvge, g.ge hsz h.envge, h.kge, h.xs, h.hap, ?_, h.sold, h.sfge⟩
  · have h1 := h.envge b he
    have h2 := h.sfge b hb
    omega
  · intro a ha b hb he
    rcases g.own with h1 | ⟨g', h1, h2⟩
    · exact h.apart a ha b hb (h1 ▸ he)
    · rw [he] at h1; cases h1
      have := ((h.steps.ok a ha).kept b hb).lt; omega
/-- a new step -/
theorem PlanInv.step {W1 : World} (h : PlanInv w s d S ev nv sts ends tv env acts W) {tv' : Value} {a : Act'} (ha : ActOk W 0 d a) (hk : ∀ b ∈ a.K, w.heap.size ≤ b ∨ b = s) (hx : ∀ b ∈ a.X, w.heap.size < b ∧ b ∈ a.K) (hnew : ∀ c ∈ acts, ∀ b ∈ c.X, b ∉ a.K) (hap : ∀ b ∈ a.K, env.ownBlock ≠ some b)
    (g : Grew W W1 120 tv tv' (acts.map (·.v) ++ [a.v])) : PlanInv w s d S ev nv (sts ++ [a.st]) ends tv' env (acts ++ [a]) W1 := by
  have hn : ∀ b, tv.ownBlock ≠ some b → b ∉ tv.ownBlock.toList := by intro b hb hm; rw [Option.mem_toList] at hm; exact hb hm
  have hsz := h.upd.size
  refine ⟨h.sat.upd g.upd fun b hb => hn b fun he => ?_, h.steps.grew (news := [a]) (by simpa using ha) g (Nat.zero_le _), by simp [h.sts], h.ends.upd g.upd (fun k hk => hn k fun he => h.steps.row.apart h.ends (by decide) k he hk),
    h.box.upd g.upd (hn _ (h.steps.row.notBox h.box (by decide))), g.updNil h.upd (fun k hk => .inr (h.tvge k hk)), g.ge hsz h.tvge, h.envge, ?_, ?_, ?_, ?_, h.sold, h.sfge⟩
  · have h1 := h.tvge b he
    have h2 := h.sfge b hb
    omega
  · intro c hc
    rcases List.mem_append.1 hc with hc | hc
    · exact h.kge c hc
    · simp at hc; subst hc; exact hk
  · intro c hc
    rcases List.mem_append.1 hc with hc | hc
    · exact h.xs c hc
    · simp at hc; subst hc; exact hx
  · rw [List.pairwise_append]
    refine ⟨h.hap, by simp, fun c hc e he => ?_⟩
    simp at he; subst he
    exact hnew c hc
  · intro c hc
    rcases List.mem_append.1 hc with hc | hc
    · exact h.apart c hc
    · simp at hc; subst hc; exact hap
def clo73 (B N : Nat) : Value := .func (.func 73) #[] #[.pointer (some ⟨B, 0, none⟩), .pointer (some ⟨N, 0, none⟩)]
def clo74 (B N b : Nat) : Value := .func (.func 74) #[] #[.pointer (some ⟨B, 0, none⟩), .pointer (some ⟨N, 0, none⟩), .pointer (some ⟨b, 0, none⟩)]
/-- the file is to be created -/
theorem PlanInv.create (h : PlanInv w s d S ev nv sts ends tv env acts W) {N : Nat} {n : Int} (hN : Boxed W N 3 (.int .i64 n)) (hNge : w.heap.size ≤ N) (hNX : ∀ c ∈ acts, ∀ b ∈ c.X, b ≠ N) (hNe : env.ownBlock ≠ some N) (hl : acts.length ≤ 100000) :
    ∃ v' W1, (Builtin.append_ #[71, 71] 71 #[tv, .slice (some ⟨W.heap.size, 0, none⟩) 1 1]).run Tryz.prog (W.alloc (.cells #[clo73 w.heap.size N] 120)) = .ok v' W1 ∧ (∃ a c, v' = .slice a (acts.length + 1) c) ∧ Upd tv.ownBlock.toList W W1 ∧
      PlanInv w s d S ev nv (sts ++ [.create n]) ends v' env (acts ++ [⟨clo73 w.heap.size N, .create n, [w.heap.size, N, s], []⟩]) W1 := by
  obtain ⟨v', W1, hrun, g⟩ := app1_step h.steps.row (clo73 w.heap.size N) rfl (by simp; omega) 71 1
  obtain ⟨a, c, hv⟩ := g.slice
  simp only [List.length_append, List.length_map, List.length_singleton] at hv
  refine ⟨v', W1, hrun, ⟨a, c, hv⟩, g.upd, h.step (a := ⟨clo73 w.heap.size N, .create n, [w.heap.size, N, s], []⟩) ⟨does_create W _ d w.heap.size N s n (by simp) (by simp) (by simp) h.box.cell hN.cell h.sat.cells.1, ?_⟩ ?_ (by simp) ?_ ?_ g⟩
  · intro b hb
    simp only [List.mem_cons, List.not_mem_nil, or_false] at hb
    rcases hb with rfl | rfl | rfl
    · exact h.box.kept' (Nat.zero_le _) (by decide)
    · exact hN.kept' (Nat.zero_le _) (by decide)
    · exact ⟨Nat.zero_le _, _, _, h.sat.blk, by decide⟩
  · intro b hb
    simp only [List.mem_cons, List.not_mem_nil, or_false] at hb
    rcases hb with rfl | rfl | rfl
    · exact .inl (Nat.le_refl _)
    · exact .inl hNge
    · exact .inr rfl
  · intro e he b hb hm
    have h1 := (h.xs e he b hb).1
    simp only [List.mem_cons, List.not_mem_nil, or_false] at hm
    rcases hm with rfl | rfl | rfl
    · omega
    · exact hNX e he _ hb rfl
    · have := h.sold; omega
  · intro b hb he
    simp only [List.mem_cons, List.not_mem_nil, or_false] at hb
    rcases hb with rfl | rfl | rfl
    · exact h.ends.notBox h.box (by decide) he
    · exact hNe he
    · have := h.envge _ he; have := h.sold; omega
/-- a text is to be appended -/
theorem PlanInv.append (h : PlanInv w s d S ev nv sts ends tv env acts W) {N bb : Nat} {n : Int} {bv' : Value} {l : List UInt8} (hl0 : l ≠ []) (hN : Boxed W N 3 (.int .i64 n)) (hb : Built W bb bv' l) (hNge : w.heap.size < N) (hbge : w.heap.size < bb) (hbvge : ∀ g, bv'.ownBlock = some g → w.heap.size < g)
    (hNX : ∀ c ∈ acts, ∀ b ∈ c.X, b ≠ N ∧ b ≠ bb ∧ bv'.ownBlock ≠ some b) (hNe : env.ownBlock ≠ some N) (hl : acts.length ≤ 100000) :
    ∃ v' W1, (Builtin.append_ #[71, 71] 71 #[tv, .slice (some ⟨W.heap.size, 0, none⟩) 1 1]).run Tryz.prog (W.alloc (.cells #[clo74 w.heap.size N bb] 120)) = .ok v' W1 ∧ (∃ a c, v' = .slice a (acts.length + 1) c) ∧ Upd tv.ownBlock.toList W W1 ∧
      PlanInv w s d S ev nv (sts ++ [.append n l]) ends v' env (acts ++ [⟨clo74 w.heap.size N bb, .append n l, [w.heap.size, N, s, bb] ++ bv'.ownBlock.toList, bv'.ownBlock.toList⟩]) W1 := by
  obtain ⟨v', W1, hrun, g⟩ := app1_step h.steps.row (clo74 w.heap.size N bb) rfl (by simp; omega) 71 1
  obtain ⟨a, c, hv⟩ := g.slice
  simp only [List.length_append, List.length_map, List.length_singleton] at hv
  obtain ⟨bp, hbp, _⟩ := hb.blk
  have hbvt : ∀ g, bv'.ownBlock = some g → ∃ cur, W.heap[g]? = some (.cells cur 5 (0, 0)) := fun g hg => hb.row.type g hg
  refine ⟨v', W1, hrun, ⟨a, c, hv⟩, g.upd, h.step (a := ⟨clo74 w.heap.size N bb, .append n l, [w.heap.size, N, s, bb] ++ bv'.ownBlock.toList, bv'.ownBlock.toList⟩) ⟨does_append W _ d w.heap.size N s bb n bv' l hl0 (by simp) (by simp) (by simp) (by simp) (by intro g hg; simp [hg]) ?_ h.box.cell hN.cell h.sat.cells.1 hb, ?_⟩ ?_ ?_ ?_ ?_ g⟩
  · intro k hk
    obtain ⟨cur, hc⟩ := hbvt k hk
    refine ⟨?_, ?_, ?_⟩
    · rintro rfl; have := h.box; unfold Boxed at this; rw [hc] at this; simp at this
    · rintro rfl; have := hN; unfold Boxed at this; rw [hc] at this; simp at this
    · rintro rfl; have := h.sat.blk; rw [hc] at this; simp at this
  · intro b hb'
    simp only [List.mem_append, List.mem_cons, List.not_mem_nil, or_false, Option.mem_toList] at hb'
    rcases hb' with (rfl | rfl | rfl | rfl) | hb'
    · exact h.box.kept' (Nat.zero_le _) (by decide)
    · exact hN.kept' (Nat.zero_le _) (by decide)
    · exact ⟨Nat.zero_le _, _, _, h.sat.blk, by decide⟩
    · exact ⟨Nat.zero_le _, _, _, hbp, by decide⟩
    · obtain ⟨cur, hc⟩ := hbvt b hb'
      exact ⟨Nat.zero_le _, _, _, hc, by decide⟩
  · intro b hb'
    simp only [List.mem_append, List.mem_cons, List.not_mem_nil, or_false, Option.mem_toList] at hb'
    rcases hb' with (rfl | rfl | rfl | rfl) | hb'
    · exact .inl (Nat.le_refl _)
    · exact .inl (Nat.le_of_lt hNge)
    · exact .inr rfl
    · exact .inl (Nat.le_of_lt hbge)
    · exact .inl (Nat.le_of_lt (hbvge b hb'))
  · intro b hb'
    have hb'' := hb'
    rw [Option.mem_toList] at hb''
    exact ⟨hbvge b hb'', by simp [hb'']⟩
  · intro e he b hbx hm
    have h1 := (h.xs e he b hbx).1
    have h2 := hNX e he b hbx
    simp only [List.mem_append, List.mem_cons, List.not_mem_nil, or_false, Option.mem_toList] at hm
    rcases hm with (rfl | rfl | rfl | rfl) | hm
    · omega
    · exact h2.1 rfl
    · have := h.sold; omega
    · exact h2.2.1 rfl
    · exact h2.2.2 hm
  · intro b hb' he
    simp only [List.mem_append, List.mem_cons, List.not_mem_nil, or_false, Option.mem_toList] at hb'
    rcases hb' with (rfl | rfl | rfl | rfl) | hb'
    · exact h.ends.notBox h.box (by decide) he
    · exact hNe he
    · have := h.envge _ he; have := h.sold; omega
    · obtain ⟨cur, hc⟩ := h.ends.type _ he
      rw [hbp] at hc; simp at hc
    · exact hb.row.apart h.ends (by decide) b hb' he
end
end Go.Proofs.YtogkdoooimcemaaGreatDoor

/- Seg14 -/
namespace Go.Proofs.YtogkdoooimcemaaGreatDoor
open Go Go.RowKit
open Go.ChangeMaps (setBlock)
set_option maxRecDepth 20000

/-- the numbers of the files that are there, apart from the ends -/
def HasAt (hv : Value) (keys : List Int) (env : Value) (W : World) : Prop := RowAt W 3 hv (ivs keys) ∧ ∀ g, hv.ownBlock = some g → env.ownBlock ≠ some g
theorem HasAt.upd {hv env : Value} {keys : List Int} {W W' : World} {fp : List Nat} (h : HasAt hv keys env W) (hu : Upd fp W W') (hn : ∀ g, hv.ownBlock = some g → g ∉ fp) : HasAt hv keys env W' := ⟨h.1.upd hu hn, h.2⟩
theorem HasAt.grew {hv env env' : Value} {keys ends : List Int} {xs : List Value} {W W' : World} (h : HasAt hv keys env W) (he : RowAt W 3 env (ivs ends)) (g : Grew W W' 3 env env' xs) : HasAt hv keys env' W' :=
  ⟨g.other h.1 (fun k hk hh => h.2 k hh hk), fun k hk he' => by
    rcases g.own with h1 | ⟨g', h1, h2⟩
    · exact h.2 k hk (h1 ▸ he')
    · rw [he'] at h1; cases h1
      have := h.1.lt k hk; omega⟩
def InnerRel (w : World) (s d : Nat) (S : Sg) (ev nv : Value) (sts : List Step) (ends : List Int) (tv hv : Value) (keys : List Int) (acts : List Act') (chunk : List (List UInt8)) (fr N : Nat) (n : Int) (env i : Value) (wr : World) : Prop :=
  ∃ (j : Nat) (bv : Value) (a : Option Addr) (c : Nat), j ≤ chunk.length ∧ i = .int .i64 j ∧ env = .slice a (ends.length + j) c ∧ PlanInv w s d S ev nv sts (ends ++ endsFrom fr (chunk.take j)) tv env acts wr ∧ HasAt hv keys env wr ∧
    Built wr (N + 1) bv ((chunk.take j).flatMap frameOf) ∧ (∀ g, bv.ownBlock = some g → N + 1 < g) ∧ Boxed wr N 3 (.int .i64 n) ∧ env.ownBlock ≠ some N ∧ N + 1 < wr.heap.size ∧ (∀ e ∈ acts, ∀ b ∈ e.K, b < N) ∧ w.heap.size < N
def PlanRel (w : World) (s d : Nat) (S : Sg) (D : Dk) (ev nv : Value) (L : List (List UInt8)) (restv tv env fv zv : Value) (wr : World) : Prop :=
  ∃ (f : Nat) (rest : List (List UInt8)) (ends : List Int) (acts : List Act') (files size : Nat) (sts : List Step) (a0 a1 a2 : Option Addr) (c0 c1 c2 : Nat),
    restv = .slice a0 rest.length c0 ∧ tv = .slice a1 acts.length c1 ∧ env = .slice a2 ends.length c2 ∧ fv = .int .i64 files ∧ zv = .int .i64 size ∧ StrsAt w restv rest ∧ rest.length ≤ f ∧ ends.length + rest.length ≤ 4096 ∧ acts.length + 2 * rest.length ≤ 8192 ∧
    files + rest.length ≤ 4096 ∧ size + 212 * rest.length ≤ 868352 ∧ (∀ x ∈ rest, x.length ≤ 200) ∧ (∀ x ∈ ends, 0 ≤ x ∧ x ≤ 1099511627776 + 212 * ends.length) ∧
    planOf D.keys L.length S.ends L = ⟨sts ++ (planOf D.keys f ends rest).steps, (planOf D.keys f ends rest).ends, files + (planOf D.keys f ends rest).files, size + (planOf D.keys f ends rest).size⟩ ∧
    PlanInv w s d S ev nv sts ends tv env acts wr
def PlanPost (w : World) (s d : Nat) (S : Sg) (D : Dk) (ev nv : Value) (L : List (List UInt8)) (e : Ending) (w' : World) : Prop :=
  ∃ tv env acts, e = .returned (.tuple #[tv, env, .int .i64 (planOf D.keys L.length S.ends L).files, .int .i64 (planOf D.keys L.length S.ends L).size]) ∧
    PlanInv w s d S ev nv (planOf D.keys L.length S.ends L).steps (planOf D.keys L.length S.ends L).ends tv env acts w' ∧ acts.length ≤ 8192 ∧ (∃ a c, tv = .slice a acts.length c)

set_option maxHeartbeats 8000000 in
theorem plan_at {w : World} {s d : Nat} {S : Sg} {D : Dk} {ev nv lv : Value} {fp : List Nat} {L : List (List UInt8)} (hs : SAt w s d S ev nv) (hd : DiskAt w d D fp) (hG : Glob w) (hl : StrsAt w lv L) (hL : S.entries.length + L.length ≤ 4096) (hlen : ∀ x ∈ L, x.length ≤ 200) (hends : ∀ x ∈ S.ends, 0 ≤ x ∧ x ≤ 1099511627776) :
    Calls Tryz.prog 34 #[.pointer (some ⟨s, 0, none⟩), lv] w (PlanPost w s d S D ev nv L) := by
  obtain ⟨W1, hW1⟩ : ∃ W1, w.alloc (.cells #[.pointer (some ⟨s, 0, none⟩)] 28) = W1 := ⟨_, rfl⟩
  have hu1 : Upd [] w W1 := by rw [← hW1]; exact (Upd.refl _ _).alloc _
  have hb1 : Boxed W1 w.heap.size 28 (.pointer (some ⟨s, 0, none⟩)) := by rw [← hW1]; exact Boxed.new _ _ _
  have hs1 := hs.upd hu1 (by simp)
  have hd1 := hd.upd hu1 (by simp)
  have hfl := files_at hd1
  have c1 := hb1.cell
  have hmanyf := hd.wf.many
  have cs0 := hs1.cells.1
  have HX := Lib.hid (And.intro hs (And.intro hG (And.intro hl (And.intro hL (And.intro hlen (And.intro hends (And.intro hu1 (And.intro hb1 hs1))))))))
  have HW := Lib.hid hW1
  obtain ⟨a0, c0, e0⟩ := hl.slice
  subst e0
  clear hs hd hG hl hL hlen hends hu1 hb1 hs1 hd1
  have hsame := HX.out.1.same
  have HM0 := Lib.hid hmanyf
  clear hmanyf
  have hfew := HX.out.1.few
  have HS := Lib.hid hsame
  clear hsame
  go_enter Tryz.func34, Tryz.ntmps34
  have f2 : ∀ w2, Below W1.heap.size W1 w2 → Upd [] w w2 ∧ w2.cell? ⟨w.heap.size, 0, none⟩ = some (.pointer (some ⟨s, 0, none⟩)) ∧ w2.cell? ⟨s, 2, none⟩ = some nv ∧ Calls Tryz.prog 67 #[nv] w2 (CloneP 3 w2 (ivs S.ends)) := by
    intro w2 hb
    have hu := Upd.of_below hb []
    obtain ⟨-, -, -, -, -, -, h7, h8, h9⟩ := HX.out
    refine ⟨h7.trans hu (by simp), (h8.upd hu (by simp)).cell, (h9.upd hu (by simp)).cells.2.2.1, clone_int (h9.upd hu (by simp)).ends.reads (by intro u hu; unfold ivs at hu; obtain ⟨x, _, rfl⟩ := List.mem_map.1 hu; rfl) (by simp [ivs]; have := HS.out; omega)⟩
  go_wp2_with (first
    | (go_at_call 27; refine hfl.mono ?_; rintro e w2 ⟨hv, rfl, hown, -, hb2⟩; obtain ⟨hu2, k1, k2, hcl⟩ := f2 w2 hb2; clear f2)
    | (go_at_call 67; refine hcl.mono ?_; rintro e w3 ⟨env, rfl, hr3, hu3, hge3, ⟨x3, d3, rfl⟩⟩))
  clear hfl hW1
  have hlen3 : (ivs S.ends).length = S.ends.length := by simp [ivs]
  rw [hlen3] at hr3 hge3 ⊢
  have hhas : RowAt w3 3 hv (ivs D.keys) := (RowAt.of_owns hown).upd hu3 (by simp)
  have hhge : HasAt hv D.keys (.slice x3 S.ends.length d3) w3 := ⟨hhas, fun g hg he => by have h1 := hge3 g he; have h2 := (RowAt.of_owns hown).lt g hg; omega⟩
  have hsz2 := hu2.size
  have hinv : PlanInv w s d S ev nv [] S.ends (.slice none 0 0) (.slice x3 S.ends.length d3) [] w3 := by
    obtain ⟨h1, -, -, -, -, -, h7, h8, h9⟩ := HX.out
    have hu23 : Upd [] W1 w3 := (Upd.of_below hb2 []).trans hu3 (by simp)
    refine ⟨h9.upd hu23 (by simp), ⟨RowAt.nil _ _, by simp, by simp [Value.ownBlock]⟩, rfl, hr3, h8.upd hu23 (by simp), hu2.trans hu3 (by simp), by simp [Value.ownBlock], fun g hg => Nat.le_trans hsz2 (hge3 g hg), by simp, by simp, by simp, by simp, lt_of_block h1.blk, h1.lt⟩
  have HI := Lib.hid (And.intro hinv (And.intro hhas hhge))
  clear hinv hhas hhge hr3 hu3 hge3 hown hb2 hu2 k1 k2 c1 cs0 hlen3 hsz2
  go_loopw [1, 4, 5, 6, 7] (fun restv tv env fv zv wr => PlanRel w s d S D ev nv L restv tv env fv zv wr ∧ HasAt hv D.keys env wr) (fun restv _ _ _ _ _ => slLen restv)
  case atStart =>
    obtain ⟨h1, h2, h3⟩ := HI.out
    refine ⟨⟨L.length, L, S.ends, [], 0, 0, [], _, _, _, _, _, _, rfl, rfl, rfl, rfl, rfl, HX.out.2.2.1, Nat.le_refl _, ?_, ?_, ?_, ?_, HX.out.2.2.2.2.1, ?_, by simp, h1⟩, h3⟩
    · have := HS.out; have := HX.out.2.2.2.1; omega
    · have := HX.out.2.2.2.1; simp; omega
    · have := HX.out.2.2.2.1; omega
    · have := HX.out.2.2.2.1; omega
    · intro x hx
      have := HX.out.2.2.2.2.2.1 x hx
      omega
  case round =>
    obtain ⟨⟨f, rest, ends, acts, files, size, sts, b0, b1, b2, d0, d1, d2, rfl, rfl, rfl, rfl, rfl, hst, hf, hcnt, hact, hfi, hsi, hrl, hen, hplan, hinv⟩, hhs⟩ := hrel
    by_cases hr0 : rest.length = 0
    · have HR := Lib.hid (And.intro hst (And.intro hf (And.intro hcnt (And.intro hact (And.intro hplan (And.intro hinv hr0))))))
      have hr0i : ¬ (0 : Int) < rest.length := by omega
      clear hst hf hcnt hact hfi hsi hrl hen hplan hinv hr0
      go_wp2
      refine bodyPost_ret (v := .tuple #[.slice b1 acts.length d1, .slice b2 ends.length d2, .int .i64 files, .int .i64 size]) (by simp [results, Tryz.results34, go_sem]) rfl ?_
      obtain ⟨hst, hf, hcnt, hact, hplan, hinv, hr0⟩ := HR.out
      have h0 : planOf D.keys f ends rest = ⟨[], ends, 0, 0⟩ := by
        cases f with
        | zero => rfl
        | succ f => unfold planOf; rw [if_pos hr0]
      rw [h0] at hplan
      simp only [List.append_nil, Nat.add_zero] at hplan
      unfold PlanPost
      rw [hplan]
      exact ⟨_, _, acts, rfl, hinv, by omega, _, _, rfl⟩
    · have hr0i : (0 : Int) < rest.length := by omega
      obtain ⟨wo, rfl⟩ : ∃ wo : World, wo = wr := ⟨_, rfl⟩
      have hat : (ends.length : Int) ≤ 4096 := by omega
      have hrn : (rest.length : Int) ≤ 4096 := by omega
      obtain ⟨many, hmany⟩ : ∃ many, many = min (64 - ends.length % 64) rest.length := ⟨_, rfl⟩
      have hm1 : 1 ≤ many := by omega
      have hm2 : many ≤ rest.length := by omega
      have hm3 : many ≤ 64 := by omega
      obtain ⟨tov, hto, htos, ax, cx, rfl⟩ := hst.to many hm2
      obtain ⟨frv, hfr, hfrs, ay, cy, rfl⟩ := hst.from_ many hm2
      have hmini : min (64 - (ends.length : Int) % 64) (rest.length : Int) = (many : Int) := by omega
      obtain ⟨W5, hW5⟩ : ∃ W5, (wo.alloc (.cells #[.int .i64 (1000 + (ends.length : Int) / 64)] 3)).alloc (.cells #[.pointer none, .slice none 0 0] 105) = W5 := ⟨_, rfl⟩
      have hu5 : Upd [] wo W5 := by rw [← hW5]; exact ((Upd.refl _ _).alloc _).alloc _
      have bN5 : Boxed W5 wo.heap.size 3 (.int .i64 (1000 + (ends.length : Int) / 64)) := by rw [← hW5]; exact (Boxed.new wo _ _).alloc _
      have hbt5 : Built W5 (wo.heap.size + 1) (.slice none 0 0) [] := by
        refine ⟨⟨.pointer none, ?_, .inl rfl⟩, RowAt.nil _ _, by simp [Value.ownBlock]⟩
        rw [← hW5]
        have := heap_alloc_new (wo.alloc (.cells #[.int .i64 (1000 + (ends.length : Int) / 64)] 3)) (.cells #[.pointer none, .slice none 0 0] 105)
        rwa [World.size_alloc] at this
      have hs5 : W5.heap.size = wo.heap.size + 2 := by rw [← hW5]; simp
      have hinv5 := hinv.upd' hu5
      have hhs5 := hhs.upd hu5 (by simp)
      have hend := end_at hinv5.ends ends.length (Nat.le_refl _) (by omega)
      have henb : Sg.endOf ends ends.length ≤ 1099511627776 + 212 * ends.length := by
        unfold Sg.endOf
        split
        · omega
        · rw [List.getD_eq_getElem?_getD, List.getElem?_eq_getElem (by omega), Option.getD_some]
          exact (hen _ (List.getElem_mem _)).2
      obtain ⟨fr, hfr0⟩ : ∃ fr : Nat, Sg.endOf ends ends.length = fr := ⟨_, (Int.toNat_of_nonneg (endOf_pos (fun x hx => (hen x hx).1) _)).symm⟩
      rw [hfr0] at hend henb
      have HFR := Lib.hid hfr0
      clear hfr0
      have hchunk : (rest.take many).length = many := by simp; omega
      have hNe5 : (Value.slice b2 ends.length d2).ownBlock ≠ some wo.heap.size := fun he => by have := hinv.ends.lt _ he; omega
      have HR := Lib.hid (And.intro hst (And.intro hf (And.intro hcnt (And.intro hact (And.intro hplan (And.intro hinv (And.intro hr0 (And.intro hmany (And.intro hfi (And.intro hsi (And.intro hrl (And.intro hen (And.intro htos (And.intro hfrs hhs))))))))))))))
      have H5 := Lib.hid (And.intro hu5 (And.intro bN5 (And.intro hbt5 (And.intro hs5 (And.intro hinv5 (And.intro hhs5 (And.intro hchunk hNe5)))))))
      clear hst hf hcnt hact hfi hsi hrl hen hplan hinv hr0 hmany htos hfrs hhs hu5 bN5 hbt5 hs5 hinv5 hhs5 hchunk hNe5
      go_wp2_with (go_at_call 68; refine hend.mono ?_; rintro e w' ⟨rfl, rfl⟩)
      clear hW5
      go_loopw [5, 49] (fun env i wr => InnerRel w s d S ev nv sts ends (.slice b1 acts.length d1) hv D.keys acts (rest.take many) fr wo.heap.size (1000 + (ends.length : Int) / 64) env i wr) (fun _ i _ => many - (intOf i).toNat)
      case atStart =>
        obtain ⟨hu5, bN5, hbt5, hs5, hinv5, hhs5, hchunk, hNe5⟩ := H5.out
        exact ⟨0, .slice none 0 0, _, _, by omega, rfl, rfl, by simpa [endsFrom] using hinv5, hhs5, by simpa using hbt5, by simp [Value.ownBlock], bN5, hNe5, by omega, fun e he b hb => ((HR.out.2.2.2.2.2.1.steps.ok e he).kept b hb).lt, HR.out.2.2.2.2.2.1.box.lt⟩
      case round =>
        obtain ⟨j, bv, a5, c5, hj, rfl, rfl, hin, hhas, hbt, hbg, hbN, hNe, hwz, hKN, hwN⟩ := hrel
        by_cases hjm : j < many
        · have hchl : (rest.take many).length = many := H5.out.2.2.2.2.2.2.1
          obtain ⟨one, hone⟩ : ∃ one, one = (rest.take many)[j]'(by omega) := ⟨_, rfl⟩
          have hol : one.length ≤ 200 := by
            rw [hone, List.getElem_take]
            exact HR.out.2.2.2.2.2.2.2.2.2.2.1 _ (List.getElem_mem _)
          have htk : (rest.take many).take (j + 1) = (rest.take many).take j ++ [one] := by rw [hone]; exact List.take_succ_eq_append_getElem (by omega)
          have hcell : ∃ g off, ax = some ⟨g, off, none⟩ ∧ wr.cell? ⟨g, off + j, none⟩ = some (.string ⟨one.toArray⟩) := by
            rcases HR.out.2.2.2.2.2.2.2.2.2.2.2.2.1 with ⟨_, h0⟩ | ⟨g, off, cap, e1, _, _, h3⟩
            · rw [h0] at hchl; simp at hchl; omega
            · simp only [Value.slice.injEq] at e1
              refine ⟨g, off, e1.1, ?_⟩
              have := h3 j (by omega)
              rw [← hone] at this
              exact (hin.upd.cell (block_lt_of_cell this) (by simp)).trans this
          obtain ⟨g1, off1, eax, hc1⟩ := hcell
          subst eax
          have hosz : (⟨one.toArray⟩ : ByteArray).size = one.length := by show one.toArray.size = _; simp
          have hput := fput_at ⟨one.toArray⟩ (by rw [hosz]; omega) wr (HX.out.2.1.upd hin.upd (by simp) (by simp))
          have hol2 : (⟨one.toArray⟩ : ByteArray).data.toList = one := by simp
          rw [hol2] at hput
          have hflat : ((rest.take many).take (j + 1)).flatMap frameOf = ((rest.take many).take j).flatMap frameOf ++ frameOf one := by rw [htk]; simp
          have htl : (((rest.take many).take j).flatMap frameOf).length ≤ j * 212 := by
            have := flat_le ((rest.take many).take j) (fun x hx => HR.out.2.2.2.2.2.2.2.2.2.2.1 x (List.mem_of_mem_take (List.mem_of_mem_take hx)))
            have hlj : ((rest.take many).take j).length = j := by rw [List.length_take]; omega
            rw [hlj] at this; exact this
          have hfl1 : (frameOf one).length = 12 + one.length := length_frameOf one
          have hends' := endsFrom_snoc fr ((rest.take many).take j) one
          rw [← htk, hflat, List.length_append, hfl1] at hends'
          obtain ⟨txt, htxt⟩ : ∃ txt, ((rest.take many).take j).flatMap frameOf = txt := ⟨_, rfl⟩
          rw [htxt] at hflat htl hbt hends'
          have hfsz : (⟨(mark one ++ one).toArray⟩ : ByteArray).size = 12 + one.length := by show (mark one ++ one).toArray.size = _; simp [length_mark]
          have hfdl : (⟨(mark one ++ one).toArray⟩ : ByteArray).data.toList = frameOf one := by simp [frameOf]
          have hwrite := fun (u : World) (hu : Upd [] wr u) => write_at (hbt.keep (hu.block _ hbt.lt (by simp)) (fun g hg => hu.block g (hbt.row.lt g hg) (by simp))) ⟨(mark one ++ one).toArray⟩ (by rw [hfsz]; omega)
          rw [hfsz, hfdl] at hwrite
          have HI2 := Lib.hid (And.intro hin (And.intro hhas (And.intro hbt (And.intro hbg (And.intro hbN (And.intro hNe (And.intro hwz (And.intro hKN hwN))))))))
          have HT := Lib.hid (And.intro hflat (And.intro htl (And.intro hends' (And.intro hchl htk))))
          have hnb : ((txt.length + (12 + one.length) : Nat) : Int) ≤ 20000 := by omega
          clear hin hhas hbt hbg hbN hNe hwz hKN hwN hflat htl hends' hone hol hosz hol2 hfl1 hfsz hfdl hchl htk htxt
          go_wp2_with (first
            | (go_at_call 69; refine hput.mono ?_; rintro e u1 ⟨rfl, hu1⟩)
            | (go_at_call 70; refine (hwrite _ hu1).mono ?_; rintro e u2 ⟨rfl, bv2, hbt2, hub2, hbo2⟩; have hlen2 := blen_at hbt2; rw [List.length_append, length_frameOf] at hlen2)
            | (go_at_call 71; refine hlen2.mono ?_; rintro e u2 ⟨rfl, rfl⟩)
            | (at_builtin; refine Stop.here ?_))
          unfold Stop
          obtain ⟨hin, hhas, hbt, hbg, hbN, hNe, hwz, hKN, hwN⟩ := HI2.out
          obtain ⟨hflat, htl, hends', hchl, htk⟩ := HT.out
          have hub : Upd ((wo.heap.size + 1) :: bv.ownBlock.toList) wr u2 := (hu1.mono (by simp)).trans hub2 (fun x hx => .inl hx)
          have hgt : ∀ b ∈ (wo.heap.size + 1) :: bv.ownBlock.toList, wo.heap.size < b := by
            intro b hb
            simp only [List.mem_cons, Option.mem_toList] at hb
            rcases hb with rfl | hb
            · omega
            · have := hbg b hb; omega
          have nbt : ∀ {e : TypeId} {v : Value} {xs : List Value}, RowAt wr e v xs → e ≠ 5 → e ≠ 105 → ∀ g, v.ownBlock = some g → g ∉ (wo.heap.size + 1) :: bv.ownBlock.toList := by
            intro e v xs hr h1 h2 g hg hm
            simp only [List.mem_cons, Option.mem_toList] at hm
            obtain ⟨cur, hc⟩ := hr.type g hg
            rcases hm with rfl | hm
            · obtain ⟨bp, hbp, _⟩ := hbt.blk
              rw [hbp] at hc; simp at hc; exact h2 hc.2.symm
            · exact hr.apart hbt.row h1 g hg hm
          have hin2 := hin.other hub (fun b hb => by have := hgt b hb; omega) (fun e he b hb hm => by have := hgt b hm; have := hKN e he b hb; omega) (nbt hin.steps.row (by decide) (by decide)) (nbt hin.ends (by decide) (by decide))
          have hhas2 := hhas.upd hub (nbt hhas.1 (by decide) (by decide))
          have hN2 := hbN.upd hub (fun hm => by have := hgt _ hm; omega)
          have hsz12 := hub.size
          have hel : (ivs (ends ++ endsFrom fr ((rest.take many).take j))).length = ends.length + j := by
            have hlj : ((rest.take many).take j).length = j := by rw [List.length_take]; omega
            simp [ivs, endsFrom_len]; omega
          obtain ⟨v3, w4, hrun3, g3⟩ := app1_int hin2.ends (.int .i64 ((fr : Int) + (txt.length + (12 + one.length)))) rfl (by rw [hel]; omega) 36 1
          obtain ⟨a6, c6, e6⟩ := g3.slice
          rw [List.length_append, hel, List.length_singleton] at e6
          have hin3 := hin2.end_ g3
          have hhas3 := hhas2.grew hin2.ends g3
          have nbe : ∀ b, (Value.slice a5 (ends.length + j) c5).ownBlock ≠ some b → b ∉ (Value.slice a5 (ends.length + j) c5).ownBlock.toList := by intro b hb hm; rw [Option.mem_toList] at hm; exact hb hm
          have hbt3 : Built w4 (wo.heap.size + 1) bv2 (txt ++ frameOf one) := hbt2.keep (g3.upd.block _ hbt2.lt (nbe _ (fun he => by
              obtain ⟨bp, hbp, _⟩ := hbt2.blk
              obtain ⟨cur, hc⟩ := hin2.ends.type _ he
              rw [hbp] at hc; simp at hc))) (fun g hg => g3.upd.block g (hbt2.row.lt g hg) (nbe g (fun he => hin2.ends.apart hbt2.row (by decide) g he hg)))
          have hN3 : Boxed w4 wo.heap.size 3 (.int .i64 (1000 + (ends.length : Int) / 64)) := hN2.upd g3.upd (nbe _ hNe)
          have hbg3 : ∀ g, bv2.ownBlock = some g → wo.heap.size + 1 < g := by
            intro g hg
            rcases hbo2 with h | ⟨g', h, h2⟩
            · exact hbg g (h ▸ hg)
            · rw [hg] at h; cases h
              have := hu1.size; omega
          have hNe3 : v3.ownBlock ≠ some wo.heap.size := by
            intro he
            rcases g3.own with h | ⟨g', h, h2⟩
            · exact hNe (h ▸ he)
            · rw [he] at h; cases h; omega
          have hsz3 := g3.upd.size
          refine wpList_append_run rfl rfl hrun3 ?_
          have HF := Lib.hid (And.intro hin3 (And.intro hhas3 (And.intro hbt3 (And.intro hbg3 (And.intro hN3 (And.intro hNe3 (And.intro hsz3 (And.intro hsz12 (And.intro e6 (And.intro hwz (And.intro hKN hwN)))))))))))
          clear hin hhas hbt hbg hbN hNe hwz hKN hwN hflat htl hends' hchl htk hub hgt hin2 hhas2 hN2 hsz12 hel hrun3 g3 e6 hin3 hhas3 nbe hbt3 hN3 hbg3 hNe3 hsz3 hbt2 hub2 hbo2 hlen2 hu1
          go_wp2
          go_roundw
          case rel =>
            obtain ⟨hin3, hhas3, hbt3, hbg3, hN3, hNe3, hsz3, hsz12, e6, hwz, hKN, hwN⟩ := HF.out
            obtain ⟨hflat, htl, hends', hchl, htk⟩ := HT.out
            refine ⟨j + 1, bv2, a6, c6, by omega, by go_num, by rw [e6, Nat.add_assoc], ?_, hhas3, by rw [hflat]; exact hbt3, hbg3, hN3, hNe3, by omega, hKN, hwN⟩
            rw [hends', ← List.append_assoc]
            have ecast : ((fr + (txt.length + (12 + one.length)) : Nat) : Int) = (fr : Int) + (txt.length + (12 + one.length)) := by omega
            rw [ecast]
            exact hin3
          case measure => simp [intOf]; omega
        · obtain rfl : j = many := by
            have := H5.out.2.2.2.2.2.2.1; omega
          have hchl : (rest.take j).length = j := H5.out.2.2.2.2.2.2.1
          have hjj : (rest.take j).take j = rest.take j := List.take_of_length_le (by omega)
          rw [hjj] at hin hbt
          have hct0 := contains_int hhas.1 (by rw [keys_len]; have := HX.out.2.2.2.2.2.2.2.2; have := HM0.out; omega) (1000 + (ends.length : Int) / 64)
          have htl : ((rest.take j).flatMap frameOf).length ≤ j * 212 := by
            have := flat_le (rest.take j) (fun x hx => HR.out.2.2.2.2.2.2.2.2.2.2.1 x (List.mem_of_mem_take hx))
            rw [hchl] at this; exact this
          obtain ⟨tl, htleq⟩ : ∃ tl, ((rest.take j).flatMap frameOf).length = tl := ⟨_, rfl⟩
          rw [htleq] at htl
          have hactb := HR.out.2.2.2.1
          have hfib := HR.out.2.2.2.2.2.2.2.2.1
          have hsib := HR.out.2.2.2.2.2.2.2.2.2.1
          have htne : (rest.take j).flatMap frameOf ≠ [] := by
            intro h0
            have h1 : rest.take j ≠ [] := by intro h; rw [h] at hchl; simp at hchl; omega
            obtain ⟨x, l, hxl⟩ := List.exists_cons_of_ne_nil h1
            rw [hxl] at h0
            have := congrArg List.length h0
            simp [length_frameOf] at this
          by_cases hmem : (1000 + (ends.length : Int) / 64) ∈ D.keys
          · have hct := hct0
            rw [decide_eq_true hmem] at hct
            have cN := hbN.cell
            have hX7 : ∀ c ∈ acts, ∀ b ∈ c.X, b ≠ wo.heap.size ∧ b ≠ wo.heap.size + 1 ∧ bv.ownBlock ≠ some b := by
              intro c hc b hb
              have h1 := hKN c hc b (hin.xs c hc b hb).2
              refine ⟨by omega, by omega, fun he => ?_⟩
              have := hbg b he; omega
            have hal7 : acts.length = acts.length := rfl
            obtain ⟨v8, w8, hrun8, ⟨a8, c8, e8⟩, hu8, hin8⟩ := hin.append htne hbN hbt (by omega) (by omega) (fun g hg => by have := hbg g hg; omega) hX7 hNe (by rw [hal7]; omega)
            rw [hal7] at e8
            have nbt8 : ∀ b, (Value.slice b1 acts.length d1).ownBlock ≠ some b → b ∉ (Value.slice b1 acts.length d1).ownBlock.toList := by intro b hb hm; rw [Option.mem_toList] at hm; exact hb hm
            have hbt8 : Built w8 (wo.heap.size + 1) bv ((rest.take j).flatMap frameOf) := hbt.keep (hu8.block _ hbt.lt (nbt8 _ (fun he => by
                obtain ⟨bp, hbp, _⟩ := hbt.blk
                obtain ⟨cur, hc⟩ := hin.steps.row.type _ he
                rw [hbp] at hc; simp at hc))) (fun g hg => hu8.block g (hbt.row.lt g hg) (nbt8 g (fun he => hin.steps.row.apart hbt.row (by decide) g he hg)))
            have hhas8 := hhas.upd hu8 (fun g hg => nbt8 g (fun he => hin.steps.row.apart hhas.1 (by decide) g he hg))
            have hlen8 := blen_at hbt8
            rw [htleq] at hlen8
            have HFF := Lib.hid (And.intro hin8 hhas8)
            have HR8 := Lib.hid hrun8
            have HM := Lib.hid hmem
            have HTL := Lib.hid htleq
            clear htleq hin hhas hbt hbg hbN hNe hwz hKN hwN hX7 hal7 hrun8 hu8 hin8 nbt8 hbt8 hhas8 hmem htne hct0
            subst e8
            go_wp2_with (first | (go_at_call 72; refine hct.mono ?_; rintro e w' ⟨rfl, rfl⟩) | (at_builtin; refine Stop.here ?_))
            unfold Stop
            refine wpList_append_run rfl rfl HR8.out ?_
            go_wp2_with (go_at_call 71; refine hlen8.mono ?_; rintro e w' ⟨rfl, rfl⟩)
            go_roundw
            case rel =>
              obtain ⟨hin8, hhas8⟩ := HFF.out
              obtain ⟨hst, hf, hcnt, hact, hplan, hinv, hr0, hmany, hfi, hsi, hrl, hen, htos, hfrs, hhs⟩ := HR.out
              obtain ⟨f', rfl⟩ : ∃ f', f = f' + 1 := ⟨f - 1, by omega⟩
              have hdl : (rest.drop j).length = rest.length - j := by simp
              have hel : (ends ++ endsFrom fr (rest.take j)).length = ends.length + j := by rw [List.length_append, endsFrom_len, List.length_take]; omega
              refine ⟨⟨f', rest.drop j, ends ++ endsFrom fr (rest.take j), (acts ++ [(⟨clo74 w.heap.size wo.heap.size (wo.heap.size + 1), .append (1000 + (ends.length : Int) / 64) ((rest.take j).flatMap frameOf), [w.heap.size, wo.heap.size, s, wo.heap.size + 1] ++ bv.ownBlock.toList, bv.ownBlock.toList⟩ : Act')]), files, size + tl, (sts ++ [.append (1000 + (ends.length : Int) / 64) ((rest.take j).flatMap frameOf)]), ay, a8, a5, cy, c8, c5, by rw [hdl], by simp, by rw [hel], rfl, by go_num, hfrs, by omega, by omega, by simp; omega, by omega, by omega, fun x hx => hrl x (List.mem_of_mem_drop hx), ?_, ?_, hin8⟩, hhas8⟩
              · intro x hx
                rw [hel]
                rcases List.mem_append.1 hx with hx | hx
                · have := hen x hx; omega
                · exact ⟨endsFrom_pos _ _ x hx, endsFrom_bd fr (rest.take j) _ (by omega) (fun y hy => hrl y (List.mem_of_mem_take hy)) x hx⟩
              · have hn1 : ((1000 + ends.length / 64 : Nat) : Int) = 1000 + (ends.length : Int) / 64 := by omega
                have hstep : planOf D.keys (f' + 1) ends rest = ⟨(Step.append (1000 + (ends.length : Int) / 64) ((rest.take j).flatMap frameOf) :: (planOf D.keys f' (ends ++ endsFrom fr (rest.take j)) (rest.drop j)).steps), (planOf D.keys f' (ends ++ endsFrom fr (rest.take j)) (rest.drop j)).ends, (planOf D.keys f' (ends ++ endsFrom fr (rest.take j)) (rest.drop j)).files, tl + (planOf D.keys f' (ends ++ endsFrom fr (rest.take j)) (rest.drop j)).size⟩ := by
                  rw [planOf, if_neg hr0]
                  simp only [← hmany, hn1, HFR.out, Int.toNat_natCast, HTL.out]
                  rw [if_pos HM.out, if_pos HM.out]
                  simp
                rw [hplan, hstep]
                simp [List.append_assoc, Nat.add_assoc]
            case measure => simp [slLen]; omega
          · have hct := hct0
            rw [decide_eq_false hmem] at hct
            have cN := hbN.cell
            obtain ⟨v7, w7, hrun7, ⟨a7, c7, e7⟩, hu7, hin7⟩ := hin.create hbN (by omega) (fun c hc b hb => by have := hKN c hc b (hin.xs c hc b hb).2; omega) hNe (by omega)
            have nbs : ∀ b, (Value.slice b1 acts.length d1).ownBlock ≠ some b → b ∉ (Value.slice b1 acts.length d1).ownBlock.toList := by intro b hb hm; rw [Option.mem_toList] at hm; exact hb hm
            have hbt7 : Built w7 (wo.heap.size + 1) bv (((rest.take j)).flatMap frameOf) := hbt.keep (hu7.block _ hbt.lt (nbs _ (fun he => by
                obtain ⟨bp, hbp, _⟩ := hbt.blk
                obtain ⟨cur, hc⟩ := hin.steps.row.type _ he
                rw [hbp] at hc; simp at hc))) (fun g hg => hu7.block g (hbt.row.lt g hg) (nbs g (fun he => hin.steps.row.apart hbt.row (by decide) g he hg)))
            have hN7 := hbN.upd hu7 (nbs _ (hin.steps.row.notBox hbN (by decide)))
            have hhas7 := hhas.upd hu7 (fun g hg => nbs g (fun he => hin.steps.row.apart hhas.1 (by decide) g he hg))
            have hX7 : ∀ c ∈ (acts ++ [(⟨clo73 w.heap.size wo.heap.size, .create (1000 + (ends.length : Int) / 64), [w.heap.size, wo.heap.size, s], []⟩ : Act')]), ∀ b ∈ c.X, b ≠ wo.heap.size ∧ b ≠ wo.heap.size + 1 ∧ bv.ownBlock ≠ some b := by
              intro c hc b hb
              rcases List.mem_append.1 hc with hc | hc
              · have h1 := hKN c hc b (hin.xs c hc b hb).2
                refine ⟨by omega, by omega, fun he => ?_⟩
                have := hbg b he; omega
              · simp only [List.mem_singleton] at hc; subst hc; simp at hb
            have hal7 : (acts ++ [(⟨clo73 w.heap.size wo.heap.size, .create (1000 + (ends.length : Int) / 64), [w.heap.size, wo.heap.size, s], []⟩ : Act')]).length = acts.length + 1 := by simp
            obtain ⟨v8, w8, hrun8, ⟨a8, c8, e8⟩, hu8, hin8⟩ := hin7.append htne hN7 hbt7 (by omega) (by omega) (fun g hg => by have := hbg g hg; omega) hX7 hNe (by rw [hal7]; omega)
            rw [hal7] at e8
            have nbt8 : ∀ b, v7.ownBlock ≠ some b → b ∉ v7.ownBlock.toList := by intro b hb hm; rw [Option.mem_toList] at hm; exact hb hm
            have hbt8 : Built w8 (wo.heap.size + 1) bv ((rest.take j).flatMap frameOf) := hbt7.keep (hu8.block _ hbt7.lt (nbt8 _ (fun he => by
                obtain ⟨bp, hbp, _⟩ := hbt7.blk
                obtain ⟨cur, hc⟩ := hin7.steps.row.type _ he
                rw [hbp] at hc; simp at hc))) (fun g hg => hu8.block g (hbt7.row.lt g hg) (nbt8 g (fun he => hin7.steps.row.apart hbt7.row (by decide) g he hg)))
            have hhas8 := hhas7.upd hu8 (fun g hg => nbt8 g (fun he => hin7.steps.row.apart hhas7.1 (by decide) g he hg))
            have hlen8 := blen_at hbt8
            rw [htleq] at hlen8
            have HFF := Lib.hid (And.intro hin8 hhas8)
            have HR7 := Lib.hid hrun7
            have HR8 := Lib.hid hrun8
            have HM := Lib.hid hmem
            have HTL := Lib.hid htleq
            clear htleq hin hhas hbt hbg hbN hNe hwz hKN hwN hX7 hal7 hrun8 hu8 hin8 nbt8 hbt8 hhas8 hmem htne hct0 hrun7 hu7 hin7 nbs hbt7 hN7 hhas7
            subst e7 e8
            go_wp2_with (first | (go_at_call 72; refine hct.mono ?_; rintro e w' ⟨rfl, rfl⟩) | (at_builtin; refine Stop.here ?_))
            unfold Stop
            refine wpList_append_run rfl rfl HR7.out ?_
            go_wp2_with (at_builtin; refine Stop.here ?_)
            unfold Stop
            refine wpList_append_run rfl rfl HR8.out ?_
            go_wp2_with (go_at_call 71; refine hlen8.mono ?_; rintro e w' ⟨rfl, rfl⟩)
            go_roundw
            case rel =>
              obtain ⟨hin8, hhas8⟩ := HFF.out
              obtain ⟨hst, hf, hcnt, hact, hplan, hinv, hr0, hmany, hfi, hsi, hrl, hen, htos, hfrs, hhs⟩ := HR.out
              obtain ⟨f', rfl⟩ : ∃ f', f = f' + 1 := ⟨f - 1, by omega⟩
              have hdl : (rest.drop j).length = rest.length - j := by simp
              have hel : (ends ++ endsFrom fr (rest.take j)).length = ends.length + j := by rw [List.length_append, endsFrom_len, List.length_take]; omega
              refine ⟨⟨f', rest.drop j, ends ++ endsFrom fr (rest.take j), (acts ++ [(⟨clo73 w.heap.size wo.heap.size, .create (1000 + (ends.length : Int) / 64), [w.heap.size, wo.heap.size, s], []⟩ : Act')] ++ [(⟨clo74 w.heap.size wo.heap.size (wo.heap.size + 1), .append (1000 + (ends.length : Int) / 64) ((rest.take j).flatMap frameOf), [w.heap.size, wo.heap.size, s, wo.heap.size + 1] ++ bv.ownBlock.toList, bv.ownBlock.toList⟩ : Act')]), files + 1, size + tl, (sts ++ [.create (1000 + (ends.length : Int) / 64)] ++ [.append (1000 + (ends.length : Int) / 64) ((rest.take j).flatMap frameOf)]), ay, a8, a5, cy, c8, c5, by rw [hdl], by simp, by rw [hel], by go_num, by go_num, hfrs, by omega, by omega, by simp; omega, by omega, by omega, fun x hx => hrl x (List.mem_of_mem_drop hx), ?_, ?_, hin8⟩, hhas8⟩
              · intro x hx
                rw [hel]
                rcases List.mem_append.1 hx with hx | hx
                · have := hen x hx; omega
                · exact ⟨endsFrom_pos _ _ x hx, endsFrom_bd fr (rest.take j) _ (by omega) (fun y hy => hrl y (List.mem_of_mem_take hy)) x hx⟩
              · have hn1 : ((1000 + ends.length / 64 : Nat) : Int) = 1000 + (ends.length : Int) / 64 := by omega
                have hstep : planOf D.keys (f' + 1) ends rest = ⟨[Step.create (1000 + (ends.length : Int) / 64)] ++ (Step.append (1000 + (ends.length : Int) / 64) ((rest.take j).flatMap frameOf) :: (planOf D.keys f' (ends ++ endsFrom fr (rest.take j)) (rest.drop j)).steps), (planOf D.keys f' (ends ++ endsFrom fr (rest.take j)) (rest.drop j)).ends, 1 + (planOf D.keys f' (ends ++ endsFrom fr (rest.take j)) (rest.drop j)).files, tl + (planOf D.keys f' (ends ++ endsFrom fr (rest.take j)) (rest.drop j)).size⟩ := by
                  rw [planOf, if_neg hr0]
                  simp only [← hmany, hn1, HFR.out, Int.toNat_natCast, HTL.out]
                  rw [if_neg HM.out, if_neg HM.out]
                rw [hplan, hstep]
                simp [List.append_assoc, Nat.add_assoc]
            case measure => simp [slLen]; omega
end Go.Proofs.YtogkdoooimcemaaGreatDoor

/- SegQ -/
namespace Go.Proofs.YtogkdoooimcemaaGreatDoor
open Go

theorem endsFrom_len' : ∀ {p : Nat} {l : List (List UInt8)}, (endsFrom p l).length = l.length := by
        intro p l
        induction l generalizing p with
        | nil => rfl
        | cons a l ih => simp [endsFrom, ih]
theorem plan_ends_len (has : List Int) : ∀ (f : Nat) (ends : List Int) (l : List (List UInt8)), l.length ≤ f → (planOf has f ends l).ends.length = ends.length + l.length
  | 0, ends, l, h => by
    have : l.length = 0 := by omega
    unfold planOf; simp [this]
  | f + 1, ends, l, h => by
    unfold planOf
    split
    · rename_i h0; simp [h0]
    · rename_i h0
      have hm : 1 ≤ min (64 - ends.length % 64) l.length := by omega
      have := plan_ends_len has f (ends ++ endsFrom (Sg.endOf ends ends.length).toNat (l.take (min (64 - ends.length % 64) l.length))) (l.drop (min (64 - ends.length % 64) l.length)) (by simp; omega)
      simp only [this, List.length_append, endsFrom_len', List.length_take, List.length_drop]
      omega
theorem plan_files (has : List Int) : ∀ (f : Nat) (ends : List Int) (l : List (List UInt8)), (planOf has f ends l).files ≤ f
  | 0, ends, l => by unfold planOf; simp
  | f + 1, ends, l => by
    unfold planOf
    split
    · simp
    · have := plan_files has f (ends ++ endsFrom (Sg.endOf ends ends.length).toNat (l.take (min (64 - ends.length % 64) l.length))) (l.drop (min (64 - ends.length % 64) l.length))
      simp only
      split <;> omega
def Lays : List Step → Prop
  | [] => True
  | .create n :: r => Dk.I64 n ∧ Lays r
  | .append _ _ :: r => Lays r
  | .sync :: r => Lays r
  | _ :: _ => False
theorem Lays.append : ∀ {l m : List Step}, Lays l → Lays m → Lays (l ++ m)
  | [], _, _, h => h
  | .create _ :: r, _, hl, hm => ⟨hl.1, Lays.append (l := r) hl.2 hm⟩
  | .append _ _ :: r, _, hl, hm => Lays.append (l := r) hl hm
  | .sync :: r, _, hl, hm => Lays.append (l := r) hl hm
  | .delete _ :: _, _, hl, _ => hl.elim
  | .trunc _ _ :: _, _, hl, _ => hl.elim
theorem plan_lays (has : List Int) : ∀ (f : Nat) (ends : List Int) (l : List (List UInt8)), ends.length + l.length ≤ 1000000 → Lays (planOf has f ends l).steps ∧ (planOf has f ends l).steps.length ≤ 2 * f
  | 0, ends, l, _ => by unfold planOf; exact ⟨trivial, by simp⟩
  | f + 1, ends, l, h => by
    unfold planOf
    split
    · exact ⟨trivial, by simp⟩
    · have h2 := plan_lays has f (ends ++ endsFrom (Sg.endOf ends ends.length).toNat (l.take (min (64 - ends.length % 64) l.length))) (l.drop (min (64 - ends.length % 64) l.length)) (by
        simp only [List.length_append, endsFrom_len', List.length_take, List.length_drop]; omega)
      simp only
      split
      · exact ⟨h2.1, by simp; omega⟩
      · exact ⟨⟨by unfold Dk.I64; omega, h2.1⟩, by simp; omega⟩
theorem step_loose {D : Dk} {f : Dk → Dk} (h : (D.step f).2 = 0) (hf : ∀ E : Dk, E.loose = D.loose → (f E).loose.length ≤ E.loose.length) : (D.step f).1.loose.length ≤ D.loose.length := by
  rw [(step_ok h).1]
  have ht := (tick_files D).2.1
  have := hf D.tick ht
  rw [ht] at this; exact this
theorem lays_pre : ∀ (l : List Step) (D : Dk), Lays l → D.loose.length + l.length ≤ 1000000 → Step.PreAll l D
  | [], _, _, _ => trivial
  | .create n :: r, D, hl, h => by
    refine ⟨hl.1, fun h0 => lays_pre r _ hl.2 ?_⟩
    simp only [List.length_cons] at h
    have : ((Step.create n).run D).1.loose.length ≤ D.loose.length := by
      show (D.create n).1.loose.length ≤ _
      have h1 : (D.create n).2 = 0 := h0
      unfold Dk.create at h1 ⊢
      split
      · exact Nat.le_refl _
      · split
        · exact Nat.le_refl _
        · split
          · exact Nat.le_refl _
          · split
            · exact Nat.le_refl _
            · rename_i a b c e
              rw [if_neg a, if_neg b, if_neg c, if_neg e] at h1
              exact step_loose h1 (fun E _ => Nat.le_refl _)
    omega
  | .append n s :: r, D, hl, h => by
    simp only [List.length_cons] at h
    refine ⟨by show D.loose.length < _; omega, fun h0 => lays_pre r _ hl ?_⟩
    have : ((Step.append n s).run D).1.loose.length ≤ D.loose.length + 1 := by
      show (D.append n s).1.loose.length ≤ _
      have h1 : (D.append n s).2 = 0 := h0
      unfold Dk.append at h1 ⊢
      split
      · exact Nat.le_succ _
      · split
        · exact Nat.le_succ _
        · rename_i a b
          rw [if_neg a, if_neg b] at h1
          have := step_loose (D := D.put n s) (f := id) h1 (fun E _ => Nat.le_refl _)
          have h2 : (D.put n s).loose.length = D.loose.length + 1 := by simp [Dk.put]
          omega
    omega
  | .sync :: r, D, hl, h => by
    simp only [List.length_cons] at h
    refine ⟨trivial, fun h0 => lays_pre r _ hl ?_⟩
    rw [show (Step.sync.run D).1 = D.sync.1 from rfl, (sync_ok h0).2]
    simp; omega
  | .delete _ :: _, _, hl, _ => hl.elim
  | .trunc _ _ :: _, _, hl, _ => hl.elim
theorem append_pre (D : Dk) (ends : List Int) (l : List (List UInt8)) (h : D.loose.length ≤ 900000) (hl : ends.length + l.length ≤ 4096) : Step.PreAll ((planOf D.keys l.length ends l).steps ++ [.sync]) D := by
  have h2 := plan_lays D.keys l.length ends l (by omega)
  exact lays_pre _ D (h2.1.append trivial) (by simp; omega)
end Go.Proofs.YtogkdoooimcemaaGreatDoor

/- Seg15 -/
namespace Go.Proofs.YtogkdoooimcemaaGreatDoor
open Go Go.RowKit
open Go.ChangeMaps (setBlock)
set_option maxRecDepth 20000

theorem StrsAt.block {w w' : World} {v : Value} {L : List (List UInt8)} (h : StrsAt w v L) (hk : ∀ g, v.ownBlock = some g → g < w.heap.size → w'.heap[g]? = w.heap[g]?) : StrsAt w' v L := by
  rcases h with h | ⟨g, off, cap, rfl, h1, h2, h3⟩
  · exact .inl h
  · exact .inr ⟨g, off, cap, rfl, h1, h2, fun j hj => (World.cell?_of_block (a := ⟨g, off + j, none⟩) (hk g rfl (block_lt_of_cell (h3 j hj)))).trans (h3 j hj)⟩
/-- both rows stored -/
theorem SAt.store2 {w w1 : World} {s d : Nat} {S : Sg} {ev nv v' env : Value} {l : List (List UInt8)} {E : List Int} (h : SAt w s d S ev nv) (g : Grew w w1 9 ev v' (svs S.entries ++ svs l)) (he : RowAt w 3 env (ivs E)) (hl : S.entries.length + l.length ≤ 4096) (hE : E.length = S.entries.length + l.length) :
    SAt ((w1.setCell ⟨s, 1, none⟩ v').setCell ⟨s, 2, none⟩ env) s d { S with entries := S.entries ++ l, ends := E } v' env := by
  have hse : ev.ownBlock ≠ some s := h.type_s h.ents (by decide)
  have hsl := lt_of_block h.blk
  have hn : ∀ b, ev.ownBlock ≠ some b → b ∉ ev.ownBlock.toList := by intro b hb hm; rw [Option.mem_toList] at hm; exact hb hm
  have hblk1 := (g.upd.block s hsl (hn s hse)).trans h.blk
  have he1 := g.other he (h.ents.apart he (by decide))
  have fin : ∀ b, b ≠ s → ((w1.setCell ⟨s, 1, none⟩ v').setCell ⟨s, 2, none⟩ env).heap[b]? = w1.heap[b]? := fun b hb =>
    (heap_setCell_other _ ⟨s, 2, none⟩ b _ (fun e => hb e)).trans (heap_setCell_other _ ⟨s, 1, none⟩ b _ (fun e => hb e))
  have hvs : v'.ownBlock ≠ some s := by
    intro hv
    rcases g.own with h1 | ⟨g', h1, h2⟩
    · exact hse (h1 ▸ hv)
    · rw [hv] at h1; cases h1; omega
  have hes : env.ownBlock ≠ some s := h.type_s he (by decide)
  refine ⟨?_, ?_, he1.keep fun k hk _ => fin k (by rintro rfl; exact hes hk), by simpa using hl, by simp [hE]⟩
  · have e1 := heap_setCell_same w1 s 1 _ _ v' hblk1
    have e2 := heap_setCell_same _ s 2 _ _ env e1
    rw [e2]; simp [scells]
  · have : RowAt ((w1.setCell ⟨s, 1, none⟩ v').setCell ⟨s, 2, none⟩ env) 9 v' (svs S.entries ++ svs l) := g.row.keep fun k hk _ => fin k (by rintro rfl; exact hvs hk)
    simpa [svs] using this
theorem sapp_nil (w : World) (v : Value) : Calls Tryz.prog 10 #[.pointer none, v] w fun e w' => e = .returned (.int .i64 1) ∧ w = w' := by
  go_enter Tryz.func10, Tryz.ntmps10
  go_wp2_with (go_at_call 33; refine (sready_nil _).mono ?_; rintro e w' ⟨rfl, rfl⟩)
  go_ret
  exact ⟨rfl, rfl⟩
theorem sapp_void (w : World) (s : Nat) (v : Value) (h : w.cell? ⟨s, 0, none⟩ = some (.pointer none)) : Calls Tryz.prog 10 #[.pointer (some ⟨s, 0, none⟩), v] w fun e w' => e = .returned (.int .i64 1) ∧ w = w' := by
  have hr := sready_void w s h
  go_enter Tryz.func10, Tryz.ntmps10
  go_wp2_with (go_at_call 33; refine hr.mono ?_; rintro e w' ⟨rfl, rfl⟩)
  go_ret
  exact ⟨rfl, rfl⟩
def AppP (w : World) (s d : Nat) (S : Sg) (D : Dk) (L : List (List UInt8)) (sf df : List Nat) (e : Ending) (w' : World) : Prop :=
  e = .returned (.int .i64 (S.append D L).2.2) ∧ SMoves w s d sf df (S.append D L).1 (S.append D L).2.1 w'
theorem sapp_off {w : World} {s d : Nat} {S : Sg} {D : Dk} {sf df : List Nat} (h : SegAt w s d S D sf df) (lv : Value) (L : List (List UInt8)) (hr : S.ready D = false) :
    Calls Tryz.prog 10 #[.pointer (some ⟨s, 0, none⟩), lv] w (AppP w s d S D L sf df) := by
  have hr1 : Calls Tryz.prog 33 #[.pointer (some ⟨s, 0, none⟩)] w fun e w' => e = .returned (.int .i64 61) ∧ ∃ n, w' = (w.drewN n).setCell ⟨s, 4, none⟩ (.bool true) := by
    obtain ⟨⟨ev, nv, h1, rfl⟩, h2, h3⟩ := h
    exact sready_no h1 h2 hr
  have e1 : S.append D L = ({ S with dead := true }, D, 61) := by unfold Sg.append; rw [if_pos hr]
  have HX := Lib.hid (And.intro h e1)
  clear h hr e1
  go_enter Tryz.func10, Tryz.ntmps10
  go_wp2_with (go_at_call 33; refine hr1.mono ?_; rintro e w' ⟨rfl, k, rfl⟩)
  go_ret
  unfold AppP
  rw [HX.out.2]
  exact ⟨rfl, HX.out.1.died (drewN_upd w k) true⟩
theorem sapp_none {w : World} {s d : Nat} {S : Sg} {D : Dk} {sf df : List Nat} (h : SegAt w s d S D sf df) (a : Option Addr) (c : Nat) (hr : S.ready D = true) :
    Calls Tryz.prog 10 #[.pointer (some ⟨s, 0, none⟩), .slice a 0 c] w (AppP w s d S D [] sf df) := by
  have hr1 : Calls Tryz.prog 33 #[.pointer (some ⟨s, 0, none⟩)] w fun e w' => e = .returned (.int .i64 0) ∧ ∃ n, w' = w.drewN n := by
    obtain ⟨⟨ev, nv, h1, rfl⟩, h2, h3⟩ := h
    exact sready_yes h1 h2 hr
  have e1 : S.append D [] = (S, D, 0) := by unfold Sg.append; rw [if_neg (by simp [hr])]; rfl
  have HX := Lib.hid (And.intro h e1)
  clear h hr e1
  go_enter Tryz.func10, Tryz.ntmps10
  go_wp2_with (go_at_call 33; refine hr1.mono ?_; rintro e w' ⟨rfl, k, rfl⟩)
  go_ret
  unfold AppP
  rw [HX.out.2]
  exact ⟨rfl, HX.out.1.same (drewN_upd w k)⟩
set_option maxHeartbeats 2000000 in
theorem sapp_long {w : World} {s d : Nat} {S : Sg} {D : Dk} {sf df : List Nat} {lv : Value} {L : List (List UInt8)} (h : SegAt w s d S D sf df) (hl : StrsAt w lv L) (hLb : L.length ≤ 1099511627776) (hsz : ∀ x ∈ L, x.length ≤ 140737488355328) (hr : S.ready D = true) (hlong : L.any (fun s => decide (200 < s.length)) = true) :
    Calls Tryz.prog 10 #[.pointer (some ⟨s, 0, none⟩), lv] w (AppP w s d S D L sf df) := by
  have hr1 : Calls Tryz.prog 33 #[.pointer (some ⟨s, 0, none⟩)] w fun e w' => e = .returned (.int .i64 0) ∧ ∃ n, w' = w.drewN n := by
    obtain ⟨⟨ev, nv, h1, rfl⟩, h2, h3⟩ := h
    exact sready_yes h1 h2 hr
  have hpos : 0 < L.length := by
    cases L with
    | nil => simp at hlong
    | cons a l => simp
  have e1 : S.append D L = (S, D, 3) := by unfold Sg.append; rw [if_neg (by simp [hr]), if_neg (by omega), if_pos hlong]
  obtain ⟨g, off, cap, rfl, hcell⟩ : ∃ g off cap, lv = .slice (some ⟨g, off, none⟩) L.length cap ∧ ∀ j (hj : j < L.length), w.cell? ⟨g, off + j, none⟩ = some (.string ⟨L[j].toArray⟩) := by
    rcases hl with ⟨_, h0⟩ | ⟨g, off, cap, h1, _, _, h3⟩
    · rw [h0] at hpos; simp at hpos
    · exact ⟨g, off, cap, h1, h3⟩
  have HX := Lib.hid (And.intro h (And.intro e1 (And.intro hlong (And.intro hcell (And.intro hl hsz)))))
  clear h hr e1 hlong hcell hl hsz
  go_enter Tryz.func10, Tryz.ntmps10
  go_wp2_with (go_at_call 33; refine hr1.mono ?_; rintro e w' ⟨rfl, k, rfl⟩)
  go_loop [25] (fun i => ∃ j : Nat, j ≤ L.length ∧ i = .int .i64 j ∧ (L.take j).any (fun s => decide (200 < s.length)) = false) (fun i => L.length - (intOf i).toNat)
  case atStart => exact ⟨0, Nat.zero_le _, rfl, by simp⟩
  case round =>
    obtain ⟨j, hj, rfl, hno⟩ := hrel
    have HN := Lib.hid hno
    clear hno
    by_cases hlt : j < L.length
    · have hc : (w.drewN k).cell? ⟨g, off + j, none⟩ = some (.string ⟨L[j].toArray⟩) := HX.out.2.2.2.1 j hlt
      have hjl : (j : Int) < L.length := by omega
      have hosz : (⟨L[j].toArray⟩ : ByteArray).size = L[j].length := by show L[j].toArray.size = _; simp
      have htk := Lib.hid (show L.take (j + 1) = L.take j ++ [L[j]] from List.take_succ_eq_append_getElem hlt)
      have hlen1 := HX.out.2.2.2.2.2 L[j] (List.getElem_mem hlt)
      generalize L[j] = one at *
      have HO := Lib.hid hosz
      by_cases hb : 200 < one.length
      · have hbi : (200 : Int) < one.length := by omega
        go_wp2
        go_ret
        unfold AppP
        rw [HX.out.2.1]
        exact ⟨rfl, HX.out.1.same (drewN_upd w k)⟩
      · have hbi : ¬ (200 : Int) < one.length := by omega
        go_wp2
        go_round
        case rel => exact ⟨j + 1, by omega, by go_num, by rw [htk.out, List.any_append, HN.out]; simp; omega⟩
        case measure => simp [intOf]; omega
    · exfalso
      have hje : j = L.length := by omega
      have := HN.out
      rw [hje, List.take_length, HX.out.2.2.1] at this
      simp at this
end Go.Proofs.YtogkdoooimcemaaGreatDoor
