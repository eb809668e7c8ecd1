/- segments.drop. Conditions: the disk lies in memory.
  What stands in memory while segments.Open gathers. Conditions: those of each lemma.
  Open's round: what its appends do. Conditions: those of each lemma.
  The steps of Open, Cut and Append may be done as they stand. Plain. -/
import Derived.Test.YtogkdoooimcemaaGreatDoorC08
import Derived.Test.YtogkdoooimcemaaGreatDoorC07
/- Seg6 -/
namespace Go.Proofs.YtogkdoooimcemaaGreatDoor
open Go Go.RowKit Go.Shelf
open Go.ChangeMaps (setBlock)
set_option maxRecDepth 20000
attribute [local go_sem] Oper.semAt_some

theorem RowAt.grown {W W' : World} {e : TypeId} {v : Value} {xs : List Value} {row : Option Nat} (h : RowAt W e v xs) (hg : W.grownBy W' row) (hr : ∀ r, row = some r → ∃ o : Obj, W.heap[r]? = some o ∧ o.isCells = false) : RowAt W' e v xs :=
  h.keep fun g hv hl => hg.block g hl (fun er => by
    obtain ⟨o, ho, hc⟩ := hr g er.symm
    obtain ⟨cur, hcur⟩ := h.type g hv
    rw [hcur] at ho; cases ho; cases hc)
theorem _root_.Go.Boxed.grown {W W' : World} {B : Nat} {t : TypeId} {v : Value} {row : Option Nat} (h : Boxed W B t v) (hg : W.grownBy W' row) (hr : ∀ r, row = some r → ∃ o : Obj, W.heap[r]? = some o ∧ o.isCells = false) : Boxed W' B t v :=
  h.kept hg (fun er => by
    obtain ⟨o, ho, hc⟩ := hr B er.symm
    rw [show W.heap[B]? = _ from h] at ho; cases ho; cases hc)
theorem _root_.Go.Boxed.upd {W W' : World} {B : Nat} {t : TypeId} {v : Value} {fp : List Nat} (h : Boxed W B t v) (hu : Upd fp W W') (hn : B ∉ fp) : Boxed W' B t v := (hu.block B h.lt hn).trans h
/-- a row and a box of another type -/
theorem RowAt.notBox {W : World} {e t : TypeId} {v u : Value} {xs : List Value} {B : Nat} (h : RowAt W e v xs) (k : Boxed W B t u) (het : e ≠ t) : v.ownBlock ≠ some B := by
  intro hg
  obtain ⟨cur, hc⟩ := h.type B hg
  rw [show W.heap[B]? = _ from k] at hc
  simp at hc
  exact het hc.2.symm
theorem All2.mono {α β : Type} {R S : α → β → Prop} {l : List α} {m : List β} (h : All2 R l m) (hi : ∀ a b, R a b → S a b) : All2 S l m := All2.imp (fun a _ b _ => hi a b) h
theorem All2.snoc {α β : Type} {R : α → β → Prop} {l : List α} {m : List β} {a : α} {b : β} (h : All2 R l m) (hab : R a b) : All2 R (l ++ [a]) (m ++ [b]) := h.append ⟨hab, trivial⟩

theorem keepsFrom_upd {fp : List Nat} {W W' : World} (hu : Upd fp W W') (B : Nat) (hc : ∀ b ∈ fp, ∃ o : Obj, W.heap[b]? = some o ∧ o.isCells = true) : KeepsFrom B W W' :=
  ⟨hu.size, fun k o _ hk ho => (hu.block k (lt_of_block hk) (fun hm => by
    obtain ⟨o', h1, h2⟩ := hc k hm
    rw [hk] at h1; cases h1
    rw [ho] at h2; cases h2)).trans hk⟩

theorem Does.rebase {w w' : World} {K X : List Nat} {d : Nat} {pre : Dk → Prop} {v : Value} {st : Step} (h : Does w K X d pre v st) (hk : ∀ b ∈ K, w'.heap[b]? = w.heap[b]?) : Does w' K X d pre v st := by
  obtain ⟨k, bound, free, rfl, h1, h2⟩ := h
  exact ⟨k, bound, free, rfl, h1, fun u D fp hu => h2 u D fp fun b hb => (hu b hb).trans (hk b hb)⟩
/-- block b lies from base on, and holds no row of steps -/
def KeptAt (w : World) (base b : Nat) : Prop := base ≤ b ∧ ∃ cur t, w.heap[b]? = some (.cells cur t (0, 0)) ∧ t ≠ 120
theorem KeptAt.lt {w : World} {base b : Nat} (h : KeptAt w base b) : b < w.heap.size := by
  obtain ⟨_, cur, t, h, _⟩ := h; exact lt_of_block h
theorem KeptAt.keep {w w' : World} {base b : Nat} (h : KeptAt w base b) (hk : w'.heap[b]? = w.heap[b]?) : KeptAt w' base b := by
  obtain ⟨h1, cur, t, h, h2⟩ := h; exact ⟨h1, cur, t, hk.trans h, h2⟩
theorem KeptAt.apart {w : World} {base b : Nat} (h : KeptAt w base b) {v : Value} {xs : List Value} (hr : RowAt w 120 v xs) : v.ownBlock ≠ some b := by
  intro hg
  obtain ⟨_, cur, t, h, h2⟩ := h
  obtain ⟨cur', hc⟩ := hr.type b hg
  rw [h] at hc; simp at hc; exact h2 hc.2
theorem _root_.Go.Boxed.kept' {w : World} {base b : Nat} {t : TypeId} {v : Value} (h : Boxed w b t v) (hb : base ≤ b) (ht : t ≠ 120) : KeptAt w base b := ⟨hb, _, t, h, ht⟩
/-- a function value that does its step -/
structure ActOk (w : World) (base d : Nat) (a : Act') : Prop where
  does : Does w a.K a.X d a.st.Pre a.v a.st
  kept : ∀ b ∈ a.K, KeptAt w base b
theorem ActOk.keep {w w' : World} {base d : Nat} {a : Act'} (h : ActOk w base d a) (hk : ∀ b ∈ a.K, w'.heap[b]? = w.heap[b]?) : ActOk w' base d a := ⟨h.does.rebase hk, fun b hb => (h.kept b hb).keep (hk b hb)⟩
/-- steps in memory: a row of function values that do them -/
structure StepsAt (w : World) (base d : Nat) (v : Value) (acts : List Act') : Prop where
  row : RowAt w 120 v (acts.map (·.v))
  ok : ∀ a ∈ acts, ActOk w base d a
  own : ∀ g, v.ownBlock = some g → base ≤ g
theorem StepsAt.mono {w : World} {base base' d : Nat} {v : Value} {acts : List Act'} (h : StepsAt w base d v acts) (hb : base' ≤ base) : StepsAt w base' d v acts :=
  ⟨h.row, fun a ha => ⟨(h.ok a ha).does, fun b hb' => by obtain ⟨h1, h2⟩ := (h.ok a ha).kept b hb'; exact ⟨Nat.le_trans hb h1, h2⟩⟩, fun g hg => Nat.le_trans hb (h.own g hg)⟩
/-- further steps are appended -/
theorem StepsAt.grew {w w1 : World} {base d : Nat} {v v' : Value} {acts news : List Act'} (h : StepsAt w base d v acts) (hn : ∀ a ∈ news, ActOk w base d a) (g : Grew w w1 120 v v' (acts.map (·.v) ++ news.map (·.v))) (hb : base ≤ w.heap.size) : StepsAt w1 base d v' (acts ++ news) := by
  have hk : ∀ a, ActOk w base d a → ActOk w1 base d a := fun a ha => ha.keep fun b hb' => g.upd.block b (ha.kept b hb').lt (by
    have := (ha.kept b hb').apart h.row
    simpa using this)
  refine ⟨by rw [List.map_append]; exact g.row, fun a ha => ?_, g.ge hb h.own⟩
  rcases List.mem_append.1 ha with ha | ha
  · exact hk a (h.ok a ha)
  · exact hk a (hn a ha)
theorem StepsAt.upd {w w' : World} {base d : Nat} {v : Value} {acts : List Act'} {fp : List Nat} (h : StepsAt w base d v acts) (hu : Upd fp w w') (hv : ∀ g, v.ownBlock = some g → g ∉ fp) (hK : ∀ a ∈ acts, ∀ b ∈ a.K, b ∉ fp) : StepsAt w' base d v acts :=
  ⟨h.row.upd hu hv, fun a ha => (h.ok a ha).keep fun b hb => hu.block b ((h.ok a ha).kept b hb).lt (hK a ha b hb), h.own⟩

def clo77 (B b : Nat) : Value := .func (.func 77) #[] #[.pointer (some ⟨B, 0, none⟩), .pointer (some ⟨b, 0, none⟩)]
def flt (n : Int) (pre : List (Nat × Int)) : List Int := (pre.map (·.2)).filter (fun m => decide (n ≤ m))
theorem flt_hit (n : Int) (pre : List (Nat × Int)) (x : Nat × Int) (h : n ≤ x.2) : flt n (pre ++ [x]) = flt n pre ++ [x.2] := by simp [flt, h]
theorem flt_miss (n : Int) (pre : List (Nat × Int)) (x : Nat × Int) (h : ¬ n ≤ x.2) : flt n (pre ++ [x]) = flt n pre := by
  have : ¬ n ≤ x.2 := h
  simp [flt]
  omega

structure DropInv (w : World) (d : Nat) (n : Int) (xs : List Int) (W : World) (v : Value) (bs : List Nat) : Prop where
  res : Boxed W (w.heap.size + 2) 71 v
  row : RowAt W 120 v (bs.map (clo77 w.heap.size))
  vars : All2 (fun b x => Boxed W b 3 (.int .i64 x) ∧ w.heap.size ≤ b) bs xs
  disk : Boxed W w.heap.size 35 (.pointer (some ⟨d, 0, none⟩))
  from_ : Boxed W (w.heap.size + 1) 3 (.int .i64 n)
  upd : Upd [] w W
  own : ∀ g, v.ownBlock = some g → w.heap.size ≤ g
theorem DropInv.grown {w : World} {d : Nat} {n : Int} {xs : List Int} {W W' : World} {v : Value} {bs : List Nat} {row : Option Nat} (h : DropInv w d n xs W v bs) (hg : W.grownBy W' row) (hr : ∀ r, row = some r → w.heap.size ≤ r ∧ ∃ o : Obj, W.heap[r]? = some o ∧ o.isCells = false) : DropInv w d n xs W' v bs :=
  have hr' := fun r e => (hr r e).2
  ⟨h.res.grown hg hr', h.row.grown hg hr', h.vars.mono fun _ _ hb => ⟨hb.1.grown hg hr', hb.2⟩, h.disk.grown hg hr', h.from_.grown hg hr', h.upd.grown hg fun k e => .inr (hr k e).1, h.own⟩
theorem DropInv.alloc {w : World} {d : Nat} {n : Int} {xs : List Int} {W : World} {v : Value} {bs : List Nat} (h : DropInv w d n xs W v bs) (o : Obj) : DropInv w d n xs (W.alloc o) v bs :=
  h.grown (World.grownBy_alloc W o none) (by simp)
theorem DropInv.upd' {w : World} {d : Nat} {n : Int} {xs : List Int} {W W' : World} {v : Value} {bs : List Nat} (h : DropInv w d n xs W v bs) (hu : Upd [] W W') : DropInv w d n xs W' v bs :=
  ⟨h.res.upd hu (by simp), h.row.upd hu (by simp), h.vars.mono fun _ _ hb => ⟨hb.1.upd hu (by simp), hb.2⟩, h.disk.upd hu (by simp), h.from_.upd hu (by simp), h.upd.trans hu (by simp), h.own⟩
/-- a further step is appended -/
theorem DropInv.more {w : World} {d : Nat} {n : Int} {xs : List Int} {W w1 : World} {v v' : Value} {bs : List Nat} {b : Nat} {x : Int} (h : DropInv w d n xs W v bs) (hb : Boxed W b 3 (.int .i64 x)) (hbg : w.heap.size ≤ b) (g : Grew W w1 120 v v' (bs.map (clo77 w.heap.size) ++ [clo77 w.heap.size b])) :
    DropInv w d n (xs ++ [x]) (w1.setCell ⟨w.heap.size + 2, 0, none⟩ v') v' (bs ++ [b]) ∧ Boxed w1 (w.heap.size + 2) 71 v := by
  have nb : ∀ {B : Nat} {t : TypeId} {u : Value}, Boxed W B t u → 120 ≠ t → Boxed w1 B t u := fun hB ht => hB.upd g.upd (by
    have := h.row.notBox hB ht
    simpa using this)
  have r1 := nb h.res (by decide)
  have set : ∀ {B : Nat} {t : TypeId} {u : Value}, Boxed w1 B t u → t ≠ 71 → Boxed (w1.setCell ⟨w.heap.size + 2, 0, none⟩ v') B t u := fun hB ht => hB.other (by
    rintro rfl
    have := hB.symm.trans r1
    simp at this
    exact ht this.2) _
  refine ⟨⟨r1.set v', ?_, ?_, set (nb h.disk (by decide)) (by decide), set (nb h.from_ (by decide)) (by decide), ?_, g.ge h.upd.size h.own⟩, r1⟩
  · rw [List.map_append]
    exact g.row.keep fun k hk _ => heap_setCell_other w1 ⟨w.heap.size + 2, 0, none⟩ k v' (by
      rintro rfl
      exact g.row.notBox r1 (by decide) hk)
  · exact (h.vars.snoc ⟨hb, hbg⟩).mono fun _ _ hB => ⟨set (nb hB.1 (by decide)) (by decide), hB.2⟩
  · exact (g.updNil h.upd fun k hk => .inr (h.own k hk)).setCell (.inr (by simp)) _

theorem DropInv.again {w : World} {d : Nat} {n : Int} {xs : List Int} {W : World} {v : Value} {bs : List Nat} (h : DropInv w d n xs W v bs) : DropInv w d n xs (W.setCell ⟨w.heap.size + 2, 0, none⟩ v) v bs := by
  have set : ∀ {B : Nat} {t : TypeId} {u : Value}, Boxed W B t u → t ≠ 71 → Boxed (W.setCell ⟨w.heap.size + 2, 0, none⟩ v) B t u := fun hB ht => hB.other (by
    rintro rfl
    have := hB.symm.trans h.res
    simp at this
    exact ht this.2) _
  refine ⟨h.res.set v, ?_, h.vars.mono fun _ _ hB => ⟨set hB.1 (by decide), hB.2⟩, set h.disk (by decide), set h.from_ (by decide), h.upd.setCell (.inr (by simp)) _, h.own⟩
  exact h.row.keep fun k hk _ => heap_setCell_other W ⟨w.heap.size + 2, 0, none⟩ k v (by
    rintro rfl
    exact h.row.notBox h.res (by decide) hk)
theorem all2_acts {W : World} {B d : Nat} (hB : Boxed W B 35 (.pointer (some ⟨d, 0, none⟩))) : ∀ {bs : List Nat} {xs : List Int}, All2 (fun b x => Boxed W b 3 (.int .i64 x) ∧ B ≤ b) bs xs →
    ∃ acts : List Act', acts.map (·.v) = bs.map (clo77 B) ∧ acts.map (·.st) = xs.map Step.delete ∧ ∀ a ∈ acts, ActOk W B d a ∧ a.X = []
  | [], [], _ => ⟨[], rfl, rfl, by simp⟩
  | b :: bs, x :: xs, h => by
    obtain ⟨acts, h1, h2, h3⟩ := all2_acts hB h.2
    refine ⟨⟨clo77 B b, .delete x, [B, b], []⟩ :: acts, by simp [h1], by simp [h2], ?_⟩
    intro a ha
    rcases List.mem_cons.1 ha with rfl | ha
    · refine ⟨⟨does_delete W [B, b] d B b x (by simp) (by simp) hB.cell h.1.1.cell, ?_⟩, rfl⟩
      intro k hk
      simp at hk
      rcases hk with rfl | rfl
      · exact hB.kept' (Nat.le_refl _) (by decide)
      · exact h.1.1.kept' h.1.2 (by decide)
    · exact h3 a ha
theorem DropInv.acts {w : World} {d : Nat} {n : Int} {xs : List Int} {W : World} {v : Value} {bs : List Nat} (h : DropInv w d n xs W v bs) :
    ∃ acts, StepsAt W w.heap.size d v acts ∧ acts.map (·.st) = xs.map Step.delete ∧ ∀ a ∈ acts, a.X = [] := by
  obtain ⟨acts, h1, h2, h3⟩ := all2_acts h.disk h.vars
  exact ⟨acts, ⟨by rw [h1]; exact h.row, fun a ha => (h3 a ha).1, h.own⟩, h2, fun a ha => (h3 a ha).2⟩

/-- the loop's invariant: what has come so far is in the box; the row lies apart from S -/
def DropI (w : World) (d : Nat) (n : Int) (S : List Nat) (N : Nat) (pre : List (Nat × Int)) (W : World) : Prop :=
  ∃ v bs, DropInv w d n (flt n pre) W v bs ∧ (∀ g, v.ownBlock = some g → g ∉ S) ∧ N ≤ W.heap.size
/-- the loop's variable is boxed -/
def DropX (w : World) (x : Int) (f : Nat → Act) (a' : Act) (W : World) : Prop := ∃ Bx, w.heap.size ≤ Bx ∧ Boxed W Bx 3 (.int .i64 x) ∧ a' = f Bx

set_option maxHeartbeats 4000000 in
theorem drop_steps {w : World} {p : Nat} {D : Dk} {fp : List Nat} (h : DiskAt w p D fp) (n : Int) :
    Calls Tryz.prog 37 #[.pointer (some ⟨p, 0, none⟩), .int .i64 n] w fun e w' => ∃ v acts, e = .returned v ∧ StepsAt w' w.heap.size p v acts ∧ acts.map (·.st) = dropSteps D n ∧ (∀ a ∈ acts, a.X = []) ∧ Upd [] w w' := by
  have hfl := fun (u : World) (hu : Upd [] w u) => files_at (h.upd hu (by simp))
  have hmany := h.wf.many
  have hklen : D.keys.length = D.files.length := by simp [Dk.keys]
  have HD := Lib.hid h
  clear h
  refine (callsIn_wide (n := 7)).1 ?_
  refine callsIn_of_wp_marks Tryz.func37 rfl trivial ?_ rfl
  simp only [Tryz.ntmps37, List.size_toArray, List.length_cons, List.length_nil, Nat.reduceAdd, Nat.reduceSub, Array.replicate_succ, Array.replicate_zero, List.push_toArray, List.append_toArray, List.nil_append, List.cons_append]
  obtain ⟨W3, hW3⟩ : ∃ W3, (((w.alloc (.cells #[.pointer (some ⟨p, 0, none⟩)] 35)).alloc (.cells #[.int .i64 n] 3)).alloc (.cells #[.slice none 0 0] 71)) = W3 := ⟨_, rfl⟩
  have hs3 : W3.heap.size = w.heap.size + 3 := by rw [← hW3]; simp
  have hinv3 : DropInv w p n [] W3 (.slice none 0 0) [] := by
    have b0 := ((Boxed.new w 35 (.pointer (some ⟨p, 0, none⟩))).alloc (.cells #[.int .i64 n] 3)).alloc (.cells #[.slice none 0 0] 71)
    have b1 := (Boxed.new (w.alloc (.cells #[.pointer (some ⟨p, 0, none⟩)] 35)) 3 (.int .i64 n)).alloc (.cells #[.slice none 0 0] 71)
    have b2 := Boxed.new ((w.alloc (.cells #[.pointer (some ⟨p, 0, none⟩)] 35)).alloc (.cells #[.int .i64 n] 3)) 71 (.slice none 0 0)
    rw [hW3] at b0 b1 b2
    simp only [World.size_alloc] at b1 b2
    refine ⟨b2, RowAt.nil _ _, trivial, b0, b1, ?_, by simp [Value.ownBlock]⟩
    rw [← hW3]
    exact (((Upd.refl [] w).alloc _).alloc _).alloc _
  have hf1 := (callsIn_wide (n := 6)).2 (hfl _ hinv3.upd)
  have cd := hinv3.disk.cell
  have HI := Lib.hid hinv3
  clear hinv3 hfl
  have HW := Lib.hid hW3
  have HS := Lib.hid hs3
  clear hs3
  gi_wp2_with (refine ⟨trivial, ?_⟩; gi_at_call 27; refine hf1.mono ?_; rintro e w1 ⟨fv, rfl, hown, -, hb1⟩)
  have hrow1 : RowAt w1 3 fv (D.keys.map (.int .i64)) := RowAt.of_owns hown
  have hsl : ∃ a n c, fv = .slice a n c := by
    obtain ⟨a, c, e⟩ := row_len hrow1
    exact ⟨a, _, c, e⟩
  have hi1 := HI.out.upd' (Upd.of_below hb1 [])
  have hs1 := hb1.size
  have hbk := back_in (F := Fence.wide) (n := 6) trivial rfl fv w1 hsl
  have HR := Lib.hid (And.intro hrow1 (And.intro hi1 hown))
  clear hown hrow1 hi1 hsl hb1 hf1 cd hs1
  clear hW3
  gi_wp2_with (refine ⟨trivial, ?_⟩; gi_at_call 76; refine hbk.mono ?_; rintro e w2 ⟨rfl, rfl⟩)
  clear hbk
  obtain ⟨hrow1, hi1, hown⟩ := HR.out
  have hs1 := hi1.res.lt
  obtain ⟨S, hS⟩ : ∃ S, S = fv.ownBlock.toList ++ [w1.heap.size] := ⟨_, rfl⟩
  have hS1 : w1.heap.size ∈ S := by rw [hS]; simp
  have hSl : ∀ b ∈ S, w.heap.size + 2 < b ∧ b < w1.heap.size + 1 := by
    intro b hb
    rw [hS] at hb
    simp only [List.mem_append, Option.mem_toList, List.mem_singleton] at hb
    rcases hb with hb | rfl
    · have h1 := hrow1.lt b hb
      rcases hown.2 with ⟨rfl, _⟩ | ⟨g, cap, cur, rfl, h2, _⟩
      · simp [Value.ownBlock] at hb
      · simp [Value.ownBlock] at hb
        subst hb
        have := HS.out
        omega
    · omega
  have HSS := Lib.hid hS
  clear hS
  have hints : Ints S (w1.alloc (.cells #[fv] 36)) fv D.keys := (hrow1.alloc _).ints (fun g hg => by rw [HSS.out]; simp [hg])
  have hcs := cell_new1 w1 36 fv
  refine wpIn_rangeFunc_ownH rfl (by omega) (gf := 93) (lb := #[.pointer (some ⟨w1.heap.size, 0, none⟩)]) rfl trivial (enters_of Tryz.func93 (by kernel_rfl) rfl)
    (back_stops (F := Fence.wide) trivial rfl (by omega) w1.heap.size S fv D.keys (by omega) _ hS1 hcs hints) KeepB.trans (keepB_b (by intro b hb; simp; exact (hSl b hb).2)) (Below.refl _ _) (fun _ => rfl)
    (DropI w p n S (w1.heap.size + 1))
    (fun _ _ _ => False)
    (fun pre A B row hs hg hr => by
      obtain ⟨v, bs, h1, h2, h3⟩ := hs
      exact ⟨v, bs, h1.grown hg fun r e => ⟨by have := (hr r e).1; simp at this; omega, (hr r e).2⟩, h2, Nat.le_trans h3 hg.size⟩)
    (fun _ _ _ _ _ hs _ _ => hs)
    ⟨.slice none 0 0, [], hi1.alloc _, by intro g hg; simp [Value.ownBlock] at hg, by simp⟩
    (fun x a' W => DropX w x.2 (fun Bx => { tmps := #[.pointer (some ⟨p, 0, none⟩), .int .i64 n, .pointer (some ⟨w.heap.size, 0, none⟩), .pointer (some ⟨w.heap.size + 1, 0, none⟩), .pointer (some ⟨w.heap.size + 1 + 1, 0, none⟩), undef, .pointer (some ⟨Bx, 0, none⟩), .pointer (some ⟨p, 0, none⟩), fv, .func (.func 93) #[] #[.pointer (some ⟨w1.heap.size, 0, none⟩)], .int .i64 (x.1 : Int), .int .i64 x.2, undef, undef, undef, undef, undef, undef, undef, undef], defers := [] }) a' W)
    (fun x a' _ X Y row hs hg hr => by obtain ⟨Bx, h1, h2, h3⟩ := hs; exact ⟨Bx, h1, h2.grown hg fun r e => (hr r e).2, h3⟩)
    ?assign ?body ?done ?stop
  case assign =>
    rintro l pre x W K ⟨v, bs, h1, h2, h3⟩ hK
    have hWs := h1.upd.size
    gi_wp2
    exact hK _ _ ((KeepsOthers.alloc _ _).from _) (KeepB.upd ((Upd.refl [] W).alloc _) (fun b hb => ⟨by have := hSl b hb; omega, by simp⟩)) ⟨v, bs, h1.alloc _, h2, by simp; omega⟩ ⟨W.heap.size, hWs, Boxed.new W _ _, rfl⟩
  case body =>
    rintro l pre x a' W hl ⟨r, hr⟩ ⟨v, bs, h1, h2, h3⟩ ⟨Bx, hBx, bX, rfl⟩ hlt
    obtain ⟨a0, c0, hv⟩ := row_len h1.row
    rw [List.length_map] at hv
    have cr := h1.res.cell
    have cf := h1.from_.cell
    have cx := bX.cell
    by_cases hx : n ≤ x.2
    · have hbl : (bs.map (clo77 w.heap.size)).length < 1099511627776 := by
        have e1 := h1.vars.length
        have e2 : (flt n pre).length ≤ pre.length := by unfold flt; refine Nat.le_trans (List.length_filter_le _ _) (by simp)
        simp; omega
      obtain ⟨v', w', hrun, g⟩ := app1_step h1.row (clo77 w.heap.size Bx) rfl hbl 71 1
      obtain ⟨a1, c1, hv'⟩ := g.slice
      rw [List.length_append, List.length_map, List.length_singleton] at hv'
      obtain ⟨hi2, hr1⟩ := h1.more bX hBx g
      have cr1 := hr1.cell
      have fr1 := hr1.frozen
      have hty := h1.row.type
      have hres := h1.res
      have hgu := g.upd
      have hown := g.own
      have HX := Lib.hid (And.intro hi2 (And.intro hty (And.intro hgu (And.intro hown (And.intro hres (And.intro h2 h3))))))
      clear h1 h2 h3 hi2 hr1 g hty hres hgu hown hbl
      subst hv hv'
      have HR := Lib.hid hrun
      clear hrun
      gi_wp2_with (gi_at_builtin; refine Stop.here ?_)
      unfold Stop
      refine wpListIn_append_run rfl rfl HR.out ?_
      gi_wp2
      obtain ⟨hi2, hty, hgu, hown, hres, h2, h3⟩ := HX.out
      have hall : Upd ((Value.slice a0 bs.length c0).ownBlock.toList ++ [w.heap.size + 2]) W (w'.setCell ⟨w.heap.size + 2, 0, none⟩ (.slice a1 (bs.length + 1) c1)) :=
        (hgu.mono (by intro b hb; simp only [List.mem_append]; exact .inl hb)).setCell (.inl (by simp)) _
      refine ⟨keepsFrom_upd hall _ ?_, KeepB.upd hall ?_, .slice a1 (bs.length + 1) c1, bs ++ [Bx], ?_, ?_, ?_⟩
      · intro b hb
        simp only [List.mem_append, Option.mem_toList, List.mem_singleton] at hb
        rcases hb with hb | rfl
        · obtain ⟨cur, hc⟩ := hty b hb
          exact ⟨_, hc, rfl⟩
        · exact ⟨_, hres, rfl⟩
      · intro b hb
        have := hSl b hb
        refine ⟨by omega, ?_⟩
        simp only [List.mem_append, Option.mem_toList, List.mem_singleton]
        rintro (hm | rfl)
        · exact h2 b hm hb
        · omega
      · rw [flt_hit _ _ _ hx]; exact hi2
      · intro g hg hm
        rcases hown with h | ⟨g', h, hge⟩
        · exact h2 g (h ▸ hg) hm
        · rw [hg] at h; cases h
          have := hSl g hm; omega
      · exact Nat.le_trans h3 hall.size
    · have HX := Lib.hid (And.intro h1 (And.intro h2 h3))
      clear h1 h2 h3
      gi_wp2
      obtain ⟨h1, h2, h3⟩ := HX.out
      exact ⟨KeepsFrom.refl _ _, KeepB.refl _ _, v, bs, by rw [flt_miss _ _ _ (by omega)]; exact h1, h2, h3⟩
  case done =>
    rintro Dd zs W hD rfl ⟨v, bs, h1, h2, h3⟩ hK
    have cS := h1.res.cell
    have fS := h1.res.frozen
    obtain ⟨a0, c0, hv⟩ := row_len h1.row
    have HX := Lib.hid (And.intro h1 (And.intro h2 h3))
    clear h1 h2 h3
    have hv' := hv
    subst hv'
    have hK2 := (KeepsOthers.setCell W ⟨w.heap.size + 1 + 1, 0, none⟩ (Value.slice a0 bs.length c0)).same Dd _ hK rfl
    gi_wp2
    refine ⟨by simp, .inl ⟨_, _, rfl, run_takeDeferred hK2, ?_⟩⟩
    obtain ⟨h1, h2, h3⟩ := HX.out
    have hK3 := hK2
    rw [show bs.length = (List.map (clo77 w.heap.size) bs).length from by simp] at hK3
    have hq := h1.again.grown (grownBy_putObj' _ Dd (.deferred none)) (fun r e => by cases e; exact ⟨by simp at hD; omega, _, hK3, rfl⟩)
    obtain ⟨acts, ha1, ha2, ha3⟩ := hq.acts
    have hcell := hq.res.cell
    have hflt : flt n (upto (backs D.keys) D.keys.length) = D.keys.reverse.filter (fun m => decide (n ≤ m)) := by unfold flt; rw [backs_all]
    rw [hflt] at ha2
    have hup := hq.upd
    rw [List.length_map] at hcell ha1
    refine ⟨_, ?_, _, acts, rfl, ha1, ha2, ha3, ?_⟩
    · simp [results, Tryz.results37, go_sem, hcell]
    · simpa using hup
  case stop =>
    rintro Dd c pre W _ _ h _
    exact h.elim
end Go.Proofs.YtogkdoooimcemaaGreatDoor

/- Seg7 -/
namespace Go.Proofs.YtogkdoooimcemaaGreatDoor
open Go Go.RowKit
open Go.ChangeMaps (setBlock)
set_option maxRecDepth 20000

theorem _root_.Go.Boxed.cells {W : World} {B : Nat} {t : TypeId} {v : Value} (h : Boxed W B t v) : W.cell? ⟨B, 0, none⟩ = some v ∧ W.frozen? ⟨B, 0, none⟩ = false := ⟨h.cell, h.frozen⟩
theorem SAt.keep {w w' : World} {s d : Nat} {S : Sg} {ev nv : Value} (h : SAt w s d S ev nv) (hk : ∀ b ∈ sfoot s ev nv, w'.heap[b]? = w.heap[b]?) : SAt w' s d S ev nv :=
  ⟨(hk s (by simp [sfoot])).trans h.blk, h.ents.keep fun g hg _ => hk g (by simp [sfoot, hg]), h.ends.keep fun g hg _ => hk g (by simp [sfoot, hg]), h.few, h.same⟩
theorem SAt.lt {w : World} {s d : Nat} {S : Sg} {ev nv : Value} (h : SAt w s d S ev nv) : ∀ b ∈ sfoot s ev nv, b < w.heap.size := by
  intro b hb
  simp only [sfoot, List.mem_cons, List.mem_append, Option.mem_toList] at hb
  rcases hb with rfl | hb | hb
  · exact lt_of_block h.blk
  · exact h.ents.lt b hb
  · exact h.ends.lt b hb
theorem SAt.upd {w w' : World} {s d : Nat} {S : Sg} {ev nv : Value} {fp : List Nat} (h : SAt w s d S ev nv) (hu : Upd fp w w') (hn : ∀ b ∈ sfoot s ev nv, b ∉ fp) : SAt w' s d S ev nv :=
  h.keep fun b hb => hu.block b (h.lt b hb) (hn b hb)
structure OpenInv (w : World) (d s : Nat) (S : Sg) (sts : List Step) (tv ev nv : Value) (acts : List Act') (W : World) : Prop where
  sat : SAt W s d S ev nv
  steps : StepsAt W w.heap.size d tv acts
  sts : acts.map (·.st) = sts
  xs : ∀ a ∈ acts, a.X = []
  box : Boxed W w.heap.size 35 (.pointer (some ⟨d, 0, none⟩))
  upd : Upd [] w W
  sge : w.heap.size < s
  evge : ∀ g, ev.ownBlock = some g → w.heap.size ≤ g
  nvge : ∀ g, nv.ownBlock = some g → w.heap.size ≤ g
  apart : ∀ a ∈ acts, ∀ b ∈ a.K, ev.ownBlock ≠ some b ∧ nv.ownBlock ≠ some b ∧ b ≠ s
theorem OpenInv.upd' {w : World} {d s : Nat} {S : Sg} {sts : List Step} {tv ev nv : Value} {acts : List Act'} {W W' : World} (h : OpenInv w d s S sts tv ev nv acts W) (hu : Upd [] W W') : OpenInv w d s S sts tv ev nv acts W' :=
  ⟨h.sat.upd hu (by simp), h.steps.upd hu (by simp) (by simp), h.sts, h.xs, h.box.upd hu (by simp), h.upd.trans hu (by simp), h.sge, h.evge, h.nvge, h.apart⟩
section
variable {w : World} {d s : Nat} {S : Sg} {sts : List Step} {tv ev nv : Value} {acts : List Act'} {W W' : World}
theorem SAt.type_s (h : SAt W s d S ev nv) {e : TypeId} {v : Value} {xs : List Value} (hr : RowAt W e v xs) (he : e ≠ 38) : v.ownBlock ≠ some s := by
  intro hg
  obtain ⟨cur, hc⟩ := hr.type s hg
  rw [h.blk] at hc
  simp at hc
  exact he hc.2.symm
/-- a step is appended to the row of steps -/
theorem OpenInv.torn {W1 : World} (h : OpenInv w d s S sts tv ev nv acts W) {tv' : Value} {st : Step} {K : List Nat} {v : Value} (hd : ActOk W w.heap.size d ⟨v, st, K, []⟩) (g : Grew W W1 120 tv tv' (acts.map (·.v) ++ [v]))
    (hKt : ∀ b ∈ K, ev.ownBlock ≠ some b ∧ nv.ownBlock ≠ some b ∧ b ≠ s) : OpenInv w d s S (sts ++ [st]) tv' ev nv (acts ++ [⟨v, st, K, []⟩]) W1 := by
  have hn : ∀ b, tv.ownBlock ≠ some b → b ∉ tv.ownBlock.toList := by intro b hb hm; rw [Option.mem_toList] at hm; exact hb hm
  have hsz := h.upd.size
  refine ⟨h.sat.upd g.upd ?_, h.steps.grew (news := [⟨v, st, K, []⟩]) (by simpa using hd) g hsz, by simp [h.sts], ?_, h.box.upd g.upd (hn _ (h.steps.row.notBox h.box (by decide))), g.updNil h.upd (fun k hk => .inr (h.steps.own k hk)), h.sge, h.evge, h.nvge, ?_⟩
  · intro b hb
    simp only [sfoot, List.mem_cons, List.mem_append, Option.mem_toList] at hb
    rcases hb with rfl | hb | hb
    · exact hn _ (h.sat.type_s h.steps.row (by decide))
    · exact hn _ (fun ht => h.steps.row.apart h.sat.ents (by decide) b ht hb)
    · exact hn _ (fun ht => h.steps.row.apart h.sat.ends (by decide) b ht hb)
  · intro a ha
    rcases List.mem_append.1 ha with ha | ha
    · exact h.xs a ha
    · simp at ha; subst ha; rfl
  · intro a ha b hb
    rcases List.mem_append.1 ha with ha | ha
    · exact h.apart a ha b hb
    · simp at ha; subst ha
      exact hKt b hb
/-- entries and ends are appended, and stored -/
theorem OpenInv.more {W1 W2 : World} (h : OpenInv w d s S sts tv ev nv acts W) {ev' nv' : Value} {l : List (List UInt8)} {m : List Int} (g1 : Grew W W1 9 ev ev' (svs S.entries ++ svs l)) (g2 : Grew W1 W2 3 nv nv' (ivs S.ends ++ ivs m)) (hl : S.entries.length + l.length ≤ 4096) (hm : m.length = l.length) :
    OpenInv w d s { S with entries := S.entries ++ l, ends := S.ends ++ m } sts tv ev' nv' acts ((W2.setCell ⟨s, 1, none⟩ ev').setCell ⟨s, 2, none⟩ nv') := by
  have hn1 : ∀ b, ev.ownBlock ≠ some b → b ∉ ev.ownBlock.toList := by intro b hb hm; rw [Option.mem_toList] at hm; exact hb hm
  have hn2 : ∀ b, nv.ownBlock ≠ some b → b ∉ nv.ownBlock.toList := by intro b hb hm; rw [Option.mem_toList] at hm; exact hb hm
  have hsz := h.upd.size
  have hs1 := g1.upd.size
  have hs2 := g2.upd.size
  have hse : ev.ownBlock ≠ some s := h.sat.type_s h.sat.ents (by decide)
  have hsn : nv.ownBlock ≠ some s := h.sat.type_s h.sat.ends (by decide)
  have hsl := lt_of_block h.sat.blk
  -- what neither of the two rows is lies as it lay
  have keep : ∀ b, b < W.heap.size → ev.ownBlock ≠ some b → nv.ownBlock ≠ some b → W2.heap[b]? = W.heap[b]? := fun b hb h1 h2 =>
    (g2.upd.block b (Nat.lt_of_lt_of_le hb hs1) (hn2 b h2)).trans (g1.upd.block b hb (hn1 b h1))
  have fin : ∀ b, b ≠ s → ((W2.setCell ⟨s, 1, none⟩ ev').setCell ⟨s, 2, none⟩ nv').heap[b]? = W2.heap[b]? := fun b hb =>
    (heap_setCell_other _ ⟨s, 2, none⟩ b _ (fun e => hb e)).trans (heap_setCell_other _ ⟨s, 1, none⟩ b _ (fun e => hb e))
  have hblk2 := (keep s hsl hse hsn).trans h.sat.blk
  have hev' : RowAt W2 9 ev' (svs S.entries ++ svs l) := g2.other g1.row (fun g hg he => by
    have hne := h.sat.ents.apart h.sat.ends (by decide)
    rcases g1.own with h1 | ⟨g', h1, h2⟩
    · exact hne g (h1 ▸ he) hg
    · rw [he] at h1; cases h1
      have := h.sat.ends.lt g hg
      omega)
  have hev's : ev'.ownBlock ≠ some s := by
    intro he
    rcases g1.own with h1 | ⟨g', h1, h2⟩
    · exact hse (h1 ▸ he)
    · rw [he] at h1; cases h1; omega
  have hnv's : nv'.ownBlock ≠ some s := by
    intro he
    rcases g2.own with h1 | ⟨g', h1, h2⟩
    · exact hsn (h1 ▸ he)
    · rw [he] at h1; cases h1; omega
  have new1 : ∀ b, b < W.heap.size → ev.ownBlock ≠ some b → ev'.ownBlock ≠ some b := by
    intro b hb ht he
    rcases g1.own with h | ⟨g', h, h2⟩
    · exact ht (h ▸ he)
    · rw [he] at h; cases h; omega
  have new2 : ∀ b, b < W.heap.size → nv.ownBlock ≠ some b → nv'.ownBlock ≠ some b := by
    intro b hb ht he
    rcases g2.own with h | ⟨g', h, h2⟩
    · exact ht (h ▸ he)
    · rw [he] at h; cases h; omega
  have ktv : ∀ g, tv.ownBlock = some g → ((W2.setCell ⟨s, 1, none⟩ ev').setCell ⟨s, 2, none⟩ nv').heap[g]? = W.heap[g]? := by
    intro g hg
    refine (fin g ?_).trans (keep g (h.steps.row.lt g hg) (fun he => h.sat.ents.apart h.steps.row (by decide) g he hg) (fun he => h.sat.ends.apart h.steps.row (by decide) g he hg))
    rintro rfl
    exact h.sat.type_s h.steps.row (by decide) hg
  have kK : ∀ a ∈ acts, ∀ b ∈ a.K, ((W2.setCell ⟨s, 1, none⟩ ev').setCell ⟨s, 2, none⟩ nv').heap[b]? = W.heap[b]? := by
    intro a ha b hb
    have h1 := h.apart a ha b hb
    exact (fin b h1.2.2).trans (keep b ((h.steps.ok a ha).kept b hb).lt h1.1 h1.2.1)
  have hu1 := g1.updNil h.upd (fun k hk => .inr (h.evge k hk))
  have hu2 := g2.updNil hu1 (fun k hk => .inr (h.nvge k hk))
  have hu3 := (hu2.setCell (p := ⟨s, 1, none⟩) (.inr (by simp; have := h.sge; omega)) ev').setCell (p := ⟨s, 2, none⟩) (.inr (by simp; have := h.sge; omega)) nv'
  refine ⟨⟨?_, ?_, ?_, by simpa using hl, ?_⟩, ⟨h.steps.row.keep fun g hg _ => ktv g hg, ?_, h.steps.own⟩, h.sts, h.xs, ?_, hu3, h.sge, g1.ge hsz h.evge, g2.ge hu1.size h.nvge, ?_⟩
  · have e1 := heap_setCell_same W2 s 1 _ _ ev' hblk2
    have e2 := heap_setCell_same _ s 2 _ _ nv' e1
    rw [e2]
    simp [scells]
  · have : RowAt ((W2.setCell ⟨s, 1, none⟩ ev').setCell ⟨s, 2, none⟩ nv') 9 ev' (svs S.entries ++ svs l) := hev'.keep fun g hg _ => fin g (by rintro rfl; exact hev's hg)
    simpa [svs] using this
  · have : RowAt ((W2.setCell ⟨s, 1, none⟩ ev').setCell ⟨s, 2, none⟩ nv') 3 nv' (ivs S.ends ++ ivs m) := g2.row.keep fun g hg _ => fin g (by rintro rfl; exact hnv's hg)
    simpa [ivs] using this
  · have := h.sat.same
    simp; omega
  · intro a ha
    exact (h.steps.ok a ha).keep (kK a ha)
  · have hb := h.box
    refine (fin _ ?_).trans ((keep _ hb.lt (h.sat.ents.notBox hb (by decide)) (h.sat.ends.notBox hb (by decide))).trans hb)
    have := h.sge; omega
  · intro a ha b hb
    have h1 := h.apart a ha b hb
    have hl := ((h.steps.ok a ha).kept b hb).lt
    exact ⟨new1 b hl h1.1, new2 b hl h1.2.1, h1.2.2⟩
end
end Go.Proofs.YtogkdoooimcemaaGreatDoor

/- Seg7b -/
namespace Go.Proofs.YtogkdoooimcemaaGreatDoor
open Go Go.RowKit
open Go.ChangeMaps (setBlock)
set_option maxRecDepth 20000

variable {w : World} {d s : Nat} {S : Sg} {sts : List Step} {tv ev nv : Value} {acts : List Act'} {W W' : World}
def clo43 (B N E : Nat) : Value := .func (.func 43) #[] #[.pointer (some ⟨B, 0, none⟩), .pointer (some ⟨N, 0, none⟩), .pointer (some ⟨E, 0, none⟩)]
theorem torn_prep (h : OpenInv w d s S sts tv ev nv acts W) (n : Int) (le : Nat) (x : Int) (hx : x = le) (hl : acts.length ≤ 1000) :
    ∃ v4 w4 a4 c4, (Builtin.append_ #[71, 71] 71 #[tv, .slice (some ⟨W.heap.size + 1 + 1, 0, none⟩) 1 1]).run Tryz.prog
        (((W.alloc (.cells #[.int .i64 x] 3)).alloc (.cells #[.int .i64 n] 3)).alloc (.cells #[clo43 w.heap.size (W.heap.size + 1) W.heap.size] 120)) = .ok v4 w4 ∧ v4 = .slice a4 (acts.length + 1) c4 ∧
      OpenInv w d s S (sts ++ [.trunc n le]) v4 ev nv (acts ++ [⟨clo43 w.heap.size (W.heap.size + 1) W.heap.size, .trunc n le, [w.heap.size, W.heap.size + 1, W.heap.size], []⟩]) w4 ∧
      ∀ e v xs, e ≠ 120 → RowAt W e v xs → RowAt w4 e v xs := by
  subst hx
  obtain ⟨W3, hW3⟩ : ∃ W3, (W.alloc (.cells #[.int .i64 (le : Nat)] 3)).alloc (.cells #[.int .i64 n] 3) = W3 := ⟨_, rfl⟩
  have hu3 : Upd [] W W3 := by rw [← hW3]; exact ((Upd.refl [] W).alloc _).alloc _
  have h3 := h.upd' hu3
  have bE : Boxed W3 W.heap.size 3 (.int .i64 (le : Nat)) := by rw [← hW3]; exact (Boxed.new W _ _).alloc _
  have bN : Boxed W3 (W.heap.size + 1) 3 (.int .i64 n) := by
    rw [← hW3]
    have := Boxed.new (W.alloc (.cells #[.int .i64 (le : Nat)] 3)) 3 (.int .i64 n)
    rwa [World.size_alloc] at this
  have hsz := h.upd.size
  have hok : ActOk W3 w.heap.size d ⟨clo43 w.heap.size (W.heap.size + 1) W.heap.size, .trunc n le, [w.heap.size, W.heap.size + 1, W.heap.size], []⟩ := by
    refine ⟨does_trunc W3 _ d w.heap.size (W.heap.size + 1) W.heap.size n le (by simp) (by simp) (by simp) h3.box.cell bN.cell bE.cell, ?_⟩
    intro b hb
    simp only [List.mem_cons, List.not_mem_nil, or_false] at hb
    rcases hb with rfl | rfl | rfl
    · exact h3.box.kept' (Nat.le_refl _) (by decide)
    · exact bN.kept' (by omega) (by decide)
    · exact bE.kept' hsz (by decide)
  obtain ⟨v4, w4, hrun, g⟩ := app1_step h3.steps.row (clo43 w.heap.size (W.heap.size + 1) W.heap.size) rfl (by simp; omega) 71 1
  obtain ⟨a4, c4, hv⟩ := g.slice
  simp only [List.length_append, List.length_map, List.length_singleton] at hv
  have hs3 : W3.heap.size = W.heap.size + 1 + 1 := by rw [← hW3]; simp
  rw [hs3] at hrun
  rw [hW3]
  refine ⟨v4, w4, a4, c4, hrun, hv, h3.torn hok g ?_, fun e v xs he hr => g.other (hr.upd hu3 (by simp)) (h3.steps.row.apart (hr.upd hu3 (by simp)) (fun e' => he e'.symm))⟩
  intro b hb
  simp only [List.mem_cons, List.not_mem_nil, or_false] at hb
  have hs := lt_of_block h.sat.blk
  rcases hb with rfl | rfl | rfl
  · refine ⟨h.sat.ents.notBox h.box (by decide), h.sat.ends.notBox h.box (by decide), ?_⟩
    have := h.sge; omega
  · exact ⟨fun hm => by have := h.sat.ents.lt _ hm; omega, fun hm => by have := h.sat.ends.lt _ hm; omega, by omega⟩
  · exact ⟨fun hm => by have := h.sat.ents.lt _ hm; omega, fun hm => by have := h.sat.ends.lt _ hm; omega, by omega⟩

theorem more_prep (h : OpenInv w d s S sts tv ev nv acts W) {lv gv : Value} {l : List (List UInt8)} {m : List Int} (hr1 : RowAt W 9 lv (svs l)) (hr2 : RowAt W 3 gv (ivs m)) (hl : S.entries.length + l.length ≤ 4096) (hm : m.length = l.length) :
    ∃ v5 w5 v6 w6, (Builtin.append_ #[22, 22] 22 #[ev, lv]).run Tryz.prog W = .ok v5 w5 ∧ (Builtin.append_ #[36, 36] 36 #[nv, gv]).run Tryz.prog w5 = .ok v6 w6 ∧
      (w5.cell? ⟨s, 1, none⟩ = some ev ∧ w5.cell? ⟨s, 2, none⟩ = some nv) ∧ (w6.cell? ⟨s, 1, none⟩ = some ev ∧ w6.cell? ⟨s, 2, none⟩ = some nv ∧ ∀ i, w6.frozen? ⟨s, i, none⟩ = false) ∧
      (∃ a c, v5 = .slice a (S.entries.length + l.length) c) ∧ (∃ a c, v6 = .slice a (S.ends.length + m.length) c) ∧
      OpenInv w d s { S with entries := S.entries ++ l, ends := S.ends ++ m } sts tv v5 v6 acts ((w6.setCell ⟨s, 1, none⟩ v5).setCell ⟨s, 2, none⟩ v6) := by
  have hfew := h.sat.few
  have hsame := h.sat.same
  obtain ⟨i, z, q1, q2, q3, q4, q5⟩ := info_string
  obtain ⟨v5, w5, hrun5, g5⟩ := run_appends Tryz.underlying22 q1 q2 q3 q4 q5 h.sat.ents hr1.reads (by simp [svs, Value.oneCell']) (by simp [svs]; omega) 22
  have hn5 : RowAt w5 3 nv (ivs S.ends) := g5.other h.sat.ends (h.sat.ents.apart h.sat.ends (by decide))
  have hg5 : RowAt w5 3 gv (ivs m) := g5.other hr2 (h.sat.ents.apart hr2 (by decide))
  obtain ⟨i, z, q1, q2, q3, q4, q5⟩ := info_int
  obtain ⟨v6, w6, hrun6, g6⟩ := run_appends Tryz.underlying36 q1 q2 q3 q4 q5 hn5 hg5.reads (by simp [ivs, Value.oneCell']) (by simp [ivs]; omega) 36
  have hsl := lt_of_block h.sat.blk
  have hb5 : w5.heap[s]? = W.heap[s]? := g5.upd.block s hsl (by
    have := h.sat.type_s h.sat.ents (by decide)
    simpa using this)
  have hb6 : w6.heap[s]? = w5.heap[s]? := g6.upd.block s (Nat.lt_of_lt_of_le hsl g5.upd.size) (by
    have := h.sat.type_s h.sat.ends (by decide)
    simpa using this)
  obtain ⟨-, c1, c2, -, -, cf⟩ := h.sat.cells
  have k5 := fun i => World.cell?_of_block (a := ⟨s, i, none⟩) hb5
  have k6 := fun i => World.cell?_of_block (a := ⟨s, i, none⟩) hb6
  have f6 := fun i => World.frozen?_of_block (a := ⟨s, i, none⟩) (hb6.trans hb5)
  obtain ⟨a5, c5, e5⟩ := g5.slice
  obtain ⟨a6, c6, e6⟩ := g6.slice
  simp only [List.length_append] at e5 e6
  rw [show (svs S.entries).length + (svs l).length = S.entries.length + l.length by simp [svs]] at e5
  rw [show (ivs S.ends).length + (ivs m).length = S.ends.length + m.length by simp [ivs]] at e6
  exact ⟨v5, w5, v6, w6, hrun5, hrun6, ⟨(k5 1).trans c1, (k5 2).trans c2⟩, ⟨(k6 1).trans ((k5 1).trans c1), (k6 2).trans ((k5 2).trans c2), fun i => (f6 i).trans (cf i)⟩, ⟨a5, c5, e5⟩, ⟨a6, c6, e6⟩, h.more g5 g6 hl hm⟩
end Go.Proofs.YtogkdoooimcemaaGreatDoor

/- SegP -/
namespace Go.Proofs.YtogkdoooimcemaaGreatDoor
open Go

theorem getF_setF' (l : List (Int × List UInt8)) (n m : Int) (b : List UInt8) : Dk.getF (Dk.setF l n b) m = if m = n then (Dk.getF l n).map (fun _ => b) else Dk.getF l m := getF_setF l n m b
theorem step_ok {D : Dk} {f : Dk → Dk} (h : (D.step f).2 = 0) : (D.step f).1 = f D.tick ∧ D.sinks = false := by
  unfold Dk.step at h ⊢
  split
  · rename_i hs; rw [if_pos hs] at h; simp at h
  · rename_i hs; exact ⟨rfl, by simpa using hs⟩
theorem has_zero {D : Dk} {n : Int} (h : D.has n = 0) : D.down = false ∧ ∃ b, D.get n = some b := by
  unfold Dk.has at h
  split at h
  · simp at h
  · rename_i hd
    split at h
    · simp at h
    · rename_i hg
      refine ⟨by simpa using hd, ?_⟩
      cases hb : D.get n with
      | none => simp [hb] at hg
      | some b => exact ⟨b, rfl⟩
theorem delete_ok {D : Dk} {n : Int} (h : (D.delete n).2 = 0) : D.has n = 0 ∧ (D.delete n).1 = { D.tick with files := Dk.delF D.tick.files n, loose := Dk.drop D.tick.loose n 0 } := by
  unfold Dk.delete at h ⊢
  split
  · rename_i h0; rw [if_pos h0] at h; exact absurd h h0
  · rename_i h0
    rw [if_neg h0] at h
    exact ⟨by simpa using h0, (step_ok h).1⟩
theorem delete_get {D : Dk} {n : Int} (h : (D.delete n).2 = 0) (m : Int) : (D.delete n).1.get m = if m = n then none else D.get m := by
  rw [(delete_ok h).2]
  show Dk.getF (Dk.delF D.tick.files n) m = _
  rw [getF_delF, (tick_files D).1]; rfl
theorem truncate_ok {D : Dk} {n k : Int} (h : (D.truncate n k).2 = 0) : D.has n = 0 ∧ 0 ≤ k ∧ k ≤ (((D.get n).getD []).length : Int) ∧ (D.truncate n k).1 = D.tick.cut n k.toNat := by
  unfold Dk.truncate at h ⊢
  split
  · rename_i h0; rw [if_pos h0] at h; exact absurd h h0
  · rename_i h0
    rw [if_neg h0] at h
    split
    · rename_i h1; rw [if_pos h1] at h; simp at h
    · rename_i h1
      rw [if_neg h1] at h
      exact ⟨by simpa using h0, by omega, by omega, (step_ok h).1⟩
theorem truncate_get {D : Dk} {n k : Int} (h : (D.truncate n k).2 = 0) (m : Int) : (D.truncate n k).1.get m = if m = n then (D.get n).map (·.take k.toNat) else D.get m := by
  rw [(truncate_ok h).2.2.2]
  show Dk.getF (Dk.setF D.tick.files n _) m = _
  rw [getF_setF, tick_get, (tick_files D).1]
  show (if m = n then (D.get n).map _ else D.get m) = _
  cases D.get n <;> simp
theorem sync_ok {D : Dk} (h : D.sync.2 = 0) : D.down = false ∧ D.sync.1 = { D.tick with loose := [] } := by
  unfold Dk.sync at h ⊢
  split
  · rename_i h0; rw [if_pos h0] at h; simp at h
  · rename_i h0
    rw [if_neg h0] at h
    exact ⟨by simpa using h0, (step_ok h).1⟩
theorem sync_get {D : Dk} (h : D.sync.2 = 0) (m : Int) : D.sync.1.get m = D.get m := by
  rw [(sync_ok h).2]
  show Dk.getF D.tick.files m = _
  rw [(tick_files D).1]; rfl

/-- steps that delete, truncate or sync; no file is truncated twice -/
def Mends : List Step → Prop
  | [] => True
  | .delete _ :: r => Mends r
  | .sync :: r => Mends r
  | .trunc n _ :: r => (∀ k, Step.trunc n k ∉ r) ∧ Mends r
  | _ :: _ => False
theorem Mends.append : ∀ {l m : List Step}, Mends l → Mends m → (∀ n k k', Step.trunc n k ∈ l → Step.trunc n k' ∈ m → False) → Mends (l ++ m)
  | [], _, _, hm, _ => hm
  | .delete _ :: r, m, hl, hm, h => Mends.append (l := r) hl hm (fun n k k' h1 => h n k k' (by simp [h1]))
  | .sync :: r, m, hl, hm, h => Mends.append (l := r) hl hm (fun n k k' h1 => h n k k' (by simp [h1]))
  | .trunc n k :: r, m, hl, hm, h => ⟨fun k' hk => by
      rcases List.mem_append.1 hk with hk | hk
      · exact hl.1 k' hk
      · exact h n k k' (by simp) hk, Mends.append hl.2 hm (fun n' k k' h1 => h n' k k' (by simp [h1]))⟩
  | .create _ :: _, _, hl, _, _ => hl.elim
  | .append _ _ :: _, _, hl, _, _ => hl.elim
def Fits (l : List Step) (D : Dk) : Prop := ∀ n k, Step.trunc n k ∈ l → ∀ b, D.get n = some b → k ≤ b.length
theorem mends_pre : ∀ (l : List Step) (D : Dk), Mends l → Fits l D → Step.PreAll l D
  | [], _, _, _ => trivial
  | .delete n :: r, D, hm, hf => by
    refine ⟨trivial, fun h => mends_pre r _ hm fun m k hk b hb => ?_⟩
    have h1 := delete_get (n := n) h m
    rw [show ((Step.delete n).run D).1 = (D.delete n).1 from rfl] at hb
    rw [h1] at hb
    split at hb
    · simp at hb
    · exact hf m k (by simp [hk]) b hb
  | .sync :: r, D, hm, hf => by
    refine ⟨trivial, fun h => mends_pre r _ hm fun m k hk b hb => ?_⟩
    rw [show (Step.sync.run D).1 = D.sync.1 from rfl, sync_get h] at hb
    exact hf m k (by simp [hk]) b hb
  | .trunc n k :: r, D, hm, hf => by
    refine ⟨fun h0 => ?_, fun h => mends_pre r _ hm.2 fun m k' hk b hb => ?_⟩
    · obtain ⟨_, b, hb⟩ := has_zero h0
      exact ⟨b, hb, hf n k (by simp) b hb⟩
    · rw [show ((Step.trunc n k).run D).1 = (D.truncate n k).1 from rfl, truncate_get h] at hb
      split at hb
      · rename_i e; subst e; exact absurd hk (hm.1 k')
      · exact hf m k' (by simp [hk]) b hb
  | .create _ :: _, _, hm, _ => hm.elim
  | .append _ _ :: _, _, hm, _ => hm.elim
theorem mends_drop (D : Dk) (n : Int) : Mends (dropSteps D n) ∧ ∀ m k, Step.trunc m k ∉ dropSteps D n := by
  unfold dropSteps
  constructor
  · generalize D.keys.reverse.filter (fun m => decide (n ≤ m)) = l
    induction l with
    | nil => trivial
    | cons a l ih => exact ih
  · intro m k h
    simp at h
theorem torn_mem : ∀ (k : Nat) (g : List (List (List UInt8 × Nat) × Nat)) (n : Int) (z : Nat), Step.trunc n z ∈ tornOf k g → ∃ i x, g[i]? = some x ∧ n = ((1000 + (k + i) : Nat) : Int) ∧ z = lastEnd x.1
  | _, [], _, _, h => by simp [tornOf] at h
  | k, x :: r, n, z, h => by
    unfold tornOf at h
    rcases List.mem_append.1 h with h | h
    · split at h
      · simp at h
        exact ⟨0, x, rfl, by rw [h.1]; simp, h.2⟩
      · simp at h
    · obtain ⟨i, y, h1, h2, h3⟩ := torn_mem (k + 1) r n z h
      exact ⟨i + 1, y, by simpa using h1, by rw [h2]; congr 2; omega, h3⟩
theorem mends_torn : ∀ (k : Nat) (g : List (List (List UInt8 × Nat) × Nat)), Mends (tornOf k g)
  | _, [] => trivial
  | k, x :: r => by
    unfold tornOf
    split
    · refine ⟨fun z hz => ?_, mends_torn (k + 1) r⟩
      obtain ⟨i, y, _, h2, _⟩ := torn_mem (k + 1) r _ z hz
      omega
    · exact mends_torn (k + 1) r
theorem gather_get (D : Dk) : ∀ (f k i : Nat) x, (gather D f k)[i]? = some x → ∃ b, D.get ((1000 + (k + i) : Nat) : Int) = some b ∧ x = (fileEnts b, b.length)
  | 0, _, _, _, h => by simp [gather] at h
  | f + 1, k, i, x, h => by
    unfold gather at h
    split at h
    · simp at h
    · rename_i b hb
      cases i with
      | zero => simp at h; exact ⟨b, hb, h.symm⟩
      | succ i =>
        simp at h
        split at h
        · obtain ⟨b', h1, h2⟩ := gather_get D f (k + 1) i x h
          exact ⟨b', by rw [← h1]; congr 2; omega, h2⟩
        · simp at h
theorem gather_len (D : Dk) : ∀ (f k : Nat), (gather D f k).length ≤ f
  | 0, _ => by simp [gather]
  | f + 1, k => by
    unfold gather
    split
    · simp
    · split
      · have := gather_len D f (k + 1); simp; omega
      · simp
theorem torn_len : ∀ (k : Nat) (g : List (List (List UInt8 × Nat) × Nat)), (tornOf k g).length ≤ g.length
  | _, [] => by simp [tornOf]
  | k, x :: r => by
    have := torn_len (k + 1) r
    unfold tornOf
    split <;> simp <;> omega
theorem open_pre (D : Dk) : Step.PreAll (openSteps D) D := by
  unfold openSteps
  refine mends_pre _ _ (Mends.append (Mends.append (mends_drop D _).1 (mends_torn _ _) (fun n k k' h _ => (mends_drop D _).2 n k h)) trivial (by simp)) ?_
  intro n k hk b hb
  rcases List.mem_append.1 hk with hk | hk
  · rcases List.mem_append.1 hk with hk | hk
    · exact absurd hk ((mends_drop D _).2 n k)
    · obtain ⟨i, x, h1, h2, h3⟩ := torn_mem _ _ n k hk
      obtain ⟨b', h4, h5⟩ := gather_get D 64 0 i x h1
      rw [← h2, hb] at h4
      cases h4
      rw [h3, h5]
      exact lastEnd_le b
  · simp at hk
theorem keys_len (D : Dk) : D.keys.length = D.files.length := by simp [Dk.keys]
theorem open_len (D : Dk) (h : D.files.length ≤ 100) : (openSteps D).length ≤ 165 := by
  have h1 := gather_len D 64 0
  have h2 := torn_len 0 (gather D 64 0)
  have h3 : (dropSteps D ((1000 + (gather D 64 0).length : Nat) : Int)).length ≤ 100 := by
    unfold dropSteps
    rw [List.length_map]
    exact Nat.le_trans (List.length_filter_le _ _) (by simp [keys_len]; exact h)
  unfold openSteps
  simp only [List.length_append, List.length_singleton]; omega
end Go.Proofs.YtogkdoooimcemaaGreatDoor
