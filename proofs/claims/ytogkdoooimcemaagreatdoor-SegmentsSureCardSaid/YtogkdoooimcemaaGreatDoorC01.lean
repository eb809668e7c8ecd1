/- The disk as data: files, loose bytes, what each act does. Plain; no program in sight.
  What a call leaves of memory ('Upd'), bytes in memory, maps keyed by int: laws at the operations. Conditions: those of each lemma.
  A disk in memory. Conditions: those of each lemma.
  The disk's reads: each answers what the disk as data says, and leaves memory alone (a range over the files lays its iterator). Conditions: the disk lies in memory.
  The disk's further reads, a new disk, Start and Fail. Conditions: the disk lies in memory.
  What keeps a disk in memory, and what turns it. Conditions: those of each lemma.
  Start, Fail, the count of changes. Conditions: the disk lies in memory. -/
import Derived.WalkKit
import Derived.WalkSpells
import Derived.Maps.RangeRun
import Derived.Lib.AppendStr
import Derived.Test.YtogkdoooimcemaaGreatDoorProg
import Derived.Lib.Hide
import Derived.WalkLawsBesides
/- Mdl -/
namespace Go.Proofs.YtogkdoooimcemaaGreatDoor

def All2 {α β : Type} (R : α → β → Prop) : List α → List β → Prop
  | [], [] => True
  | a :: l, b :: m => R a b ∧ All2 R l m
  | _, _ => False
theorem All2.length {α β : Type} {R : α → β → Prop} : ∀ {l : List α} {m : List β}, All2 R l m → l.length = m.length
  | [], [], _ => rfl
  | _ :: _, _ :: _, h => by simp [All2.length h.2]
theorem All2.imp {α β : Type} {R S : α → β → Prop} : ∀ {l : List α} {m : List β}, (∀ a ∈ l, ∀ b ∈ m, R a b → S a b) → All2 R l m → All2 S l m
  | [], [], _, _ => trivial
  | a :: l, b :: m, h, k => ⟨h a (by simp) b (by simp) k.1, All2.imp (fun x hx y hy => h x (by simp [hx]) y (by simp [hy])) k.2⟩
theorem All2.append {α β : Type} {R : α → β → Prop} : ∀ {l l' : List α} {m m' : List β}, All2 R l m → All2 R l' m' → All2 R (l ++ l') (m ++ m')
  | [], _, [], _, _, h => h
  | _ :: _, _, _ :: _, _, h, k => ⟨h.1, All2.append h.2 k⟩
theorem All2.get {α β : Type} {R : α → β → Prop} : ∀ {l : List α} {m : List β}, All2 R l m → ∀ {i : Nat} {a : α} {b : β}, l[i]? = some a → m[i]? = some b → R a b
  | _ :: _, _ :: _, h, 0, _, _, e, f => by simp at e f; subst e f; exact h.1
  | _ :: _, _ :: _, h, i + 1, _, _, e, f => All2.get h.2 (i := i) (by simpa using e) (by simpa using f)
theorem All2.mem {α β : Type} {R : α → β → Prop} : ∀ {l : List α} {m : List β}, All2 R l m → ∀ a ∈ l, ∃ b ∈ m, R a b
  | a :: _, b :: _, h, x, hx => by
    rcases List.mem_cons.1 hx with rfl | hx
    · exact ⟨b, by simp, h.1⟩
    · obtain ⟨y, hy, hr⟩ := All2.mem h.2 x hx; exact ⟨y, by simp [hy], hr⟩

structure Dk where
  files : List (Int × List UInt8)
  loose : List (Int × Nat)
  cap : Nat
  down : Bool
  starts : Nat
  fails : Bool
  left : Int
  keep : Int

namespace Dk
def getF (l : List (Int × List UInt8)) (n : Int) : Option (List UInt8) := (l.find? (·.1 == n)).map (·.2)
def get (D : Dk) (n : Int) : Option (List UInt8) := getF D.files n
def total (l : List (Int × List UInt8)) : Nat := (l.map (·.2.length)).sum
def free (D : Dk) : Int := (D.cap : Int) - total D.files
def setF (l : List (Int × List UInt8)) (n : Int) (b : List UInt8) : List (Int × List UInt8) := l.map fun f => if f.1 = n then (f.1, b) else f
def delF (l : List (Int × List UInt8)) (n : Int) : List (Int × List UInt8) := l.filter (·.1 != n)
/-- how many bytes of a file are lost in a crash that keeps so many -/
def lost : List (Int × Nat) → Int → Int → Nat
  | [], _, _ => 0
  | (m, s) :: r, k, n => (if m = n then s - min (max k 0).toNat s else 0) + lost r (k - min (max k 0).toNat s) n
def crash (D : Dk) (k : Int) : Dk :=
  { D with files := D.files.map fun f => (f.1, f.2.take (f.2.length - lost D.loose k f.1)), loose := [], down := true, fails := false }
/-- a change is counted; does it sink the disk? -/
def tick (D : Dk) : Dk := if D.fails then { D with left := D.left - 1 } else D
def sinks (D : Dk) : Bool := D.fails && decide (D.left - 1 < 0)
def of (l : List (Int × Nat)) (n : Int) : Nat := (l.map fun p => if p.1 = n then p.2 else 0).sum
def drop : List (Int × Nat) → Int → Nat → List (Int × Nat)
  | [], _, _ => []
  | (m, s) :: r, n, k => if m = n then (m, min s k) :: drop r n (k - min s k) else (m, s) :: drop r n k
def ready (D : Dk) : Int := if D.down then 61 else 0
def has (D : Dk) (n : Int) : Int := if D.down then 61 else if (D.get n).isNone then 4 else 0
/-- what a change that is counted does: the disk sinks, or f. -/
def step (D : Dk) (f : Dk → Dk) : Dk × Int := if D.sinks then (D.tick.crash D.keep, 61) else (f D.tick, 0)
def create (D : Dk) (n : Int) : Dk × Int :=
  if D.down then (D, 61) else if n < 0 then (D, 2) else if (D.get n).isSome then (D, 62) else if 100 ≤ D.files.length then (D, 60) else
  D.step fun D => { D with files := D.files ++ [(n, [])] }
def put (D : Dk) (n : Int) (s : List UInt8) : Dk := { D with files := setF D.files n (((D.get n).getD []) ++ s), loose := D.loose ++ [(n, s.length)] }
def append (D : Dk) (n : Int) (s : List UInt8) : Dk × Int :=
  if D.has n ≠ 0 then (D, D.has n) else if (s.length : Int) > D.free then (D, 60) else (D.put n s).step id
def sync (D : Dk) : Dk × Int := if D.down then (D, 61) else D.step fun D => { D with loose := [] }
def cut (D : Dk) (n : Int) (k : Nat) : Dk :=
  { D with files := setF D.files n (((D.get n).getD []).take k), loose := drop D.loose n (k - (((D.get n).getD []).length - of D.loose n)) }
def truncate (D : Dk) (n k : Int) : Dk × Int :=
  if D.has n ≠ 0 then (D, D.has n) else if k < 0 ∨ k > (((D.get n).getD []).length : Int) then (D, 2) else D.step fun D => D.cut n k.toNat
def delete (D : Dk) (n : Int) : Dk × Int :=
  if D.has n ≠ 0 then (D, D.has n) else D.step fun D => { D with files := delF D.files n, loose := drop D.loose n 0 }
def crashed (D : Dk) (k : Int) : Dk × Int := if D.down then (D, 61) else (D.crash k, 0)
def start (D : Dk) : Dk × Int := if D.down then ({ D with down := false, starts := D.starts + 1 }, 0) else (D, 2)
def fail (D : Dk) (n k : Int) : Dk × Int := if D.down then (D, 61) else if n < 0 then (D, 2) else ({ D with fails := true, left := n, keep := k }, 0)

def I64 (n : Int) : Prop := -9223372036854775808 ≤ n ∧ n ≤ 9223372036854775807
structure WF (D : Dk) : Prop where
  keys : (D.files.map (·.1)).Nodup
  size : total D.files ≤ D.cap
  cap : D.cap ≤ 1048576
  offs : ∀ n, of D.loose n ≤ ((getF D.files n).getD []).length
  long : D.loose.length ≤ 1000000
  many : D.files.length ≤ 100
  left : I64 D.left
  keep : I64 D.keep
  fails : D.fails = true → -1 ≤ D.left
  starts : D.starts ≤ 1000000000
  ints : ∀ f ∈ D.files.map (·.1), I64 f
/-- the count of changes has not run out -/
def Ok (D : Dk) : Prop := D.fails = true → 0 ≤ D.left
end Dk
end Go.Proofs.YtogkdoooimcemaaGreatDoor

/- Base -/
namespace Go.Proofs.YtogkdoooimcemaaGreatDoor
open Go Go.RowKit
open Go.ChangeMaps (setBlock)

/-- w' is w with new blocks, and with changes in the blocks fp alone. -/
structure Upd (fp : List Nat) (w w' : World) : Prop where
  os : w'.os = w.os
  tape : w'.tape = w.tape
  output : w'.output = w.output
  size : w.heap.size ≤ w'.heap.size
  block : ∀ k, k < w.heap.size → k ∉ fp → w'.heap[k]? = w.heap[k]?

theorem Upd.refl (fp : List Nat) (w : World) : Upd fp w w := ⟨rfl, rfl, rfl, Nat.le_refl _, fun _ _ _ => rfl⟩
theorem Upd.trans {f g : List Nat} {a b c : World} (h : Upd f a b) (k : Upd g b c) (hg : ∀ x ∈ g, x ∈ f ∨ a.heap.size ≤ x) : Upd f a c :=
  ⟨k.os.trans h.os, k.tape.trans h.tape, k.output.trans h.output, Nat.le_trans h.size k.size, fun i hi hn =>
    (k.block i (Nat.lt_of_lt_of_le hi h.size) (fun hm => (hg i hm).elim hn (fun h => by omega))).trans (h.block i hi hn)⟩
theorem Upd.mono {f g : List Nat} {a b : World} (h : Upd f a b) (hg : ∀ x ∈ f, x ∈ g) : Upd g a b :=
  ⟨h.os, h.tape, h.output, h.size, fun i hi hn => h.block i hi (fun hm => hn (hg i hm))⟩
theorem Upd.of_below {w w' : World} (h : Below w.heap.size w w') (fp : List Nat) : Upd fp w w' := ⟨h.os, h.tape, h.output, h.size, fun i hi _ => h.block i hi⟩
theorem Upd.below {w w' : World} (h : Upd [] w w') : Below w.heap.size w w' := ⟨h.os, h.tape, h.output, h.size, fun i hi => h.block i hi (by simp)⟩
theorem Upd.below_of {fp : List Nat} {w w' : World} {B : Nat} (h : Upd fp w w') (hB : B ≤ w.heap.size) (hf : ∀ x ∈ fp, B ≤ x) : Below B w w' :=
  ⟨h.os, h.tape, h.output, h.size, fun i hi => h.block i (by omega) (fun hm => by have := hf i hm; omega)⟩
theorem Upd.drew {fp : List Nat} {a w : World} (h : Upd fp a w) : Upd fp a w.drew := ⟨h.os, h.tape, h.output, h.size, h.block⟩
theorem Upd.alloc {fp : List Nat} {a w : World} (h : Upd fp a w) (o : Obj) : Upd fp a (w.alloc o) :=
  ⟨h.os, h.tape, h.output, Nat.le_trans h.size (by simp), fun k hk hn => (Below.heap_alloc w o k (Nat.lt_of_lt_of_le hk h.size)).trans (h.block k hk hn)⟩
theorem Upd.setCell {fp : List Nat} {a w : World} (h : Upd fp a w) {p : Addr} (hp : p.block ∈ fp ∨ a.heap.size ≤ p.block) (u : Value) : Upd fp a (w.setCell p u) :=
  ⟨h.os, h.tape, h.output, Nat.le_trans h.size (by simp), fun k hk hn => (Below.heap_setCell w p u k (by rintro rfl; rcases hp with hp | hp; exact hn hp; omega)).trans (h.block k hk hn)⟩
theorem Upd.setBlock {fp : List Nat} {a w : World} (h : Upd fp a w) {b : Nat} (hp : b ∈ fp ∨ a.heap.size ≤ b) (o : Obj) : Upd fp a (setBlock w b o) :=
  ⟨h.os, h.tape, h.output, Nat.le_trans h.size (by simp [ChangeMaps.setBlock]), fun k hk hn => by
    have : b ≠ k := by rintro rfl; rcases hp with hp | hp; exact hn hp; omega
    have e : (ChangeMaps.setBlock w b o).heap[k]? = w.heap[k]? := by simp [ChangeMaps.setBlock, Array.getElem?_setIfInBounds_ne this]
    exact e.trans (h.block k hk hn)⟩
theorem Upd.grown {fp : List Nat} {a w w' : World} {row : Option Nat} (h : Upd fp a w) (hg : w.grownBy w' row) (hr : ∀ k, row = some k → k ∈ fp ∨ a.heap.size ≤ k) : Upd fp a w' :=
  ⟨hg.os.trans h.os, hg.tape.trans h.tape, hg.output.trans h.output, Nat.le_trans h.size hg.size, fun k hk hn =>
    (hg.block k (Nat.lt_of_lt_of_le hk h.size) (fun e => by rcases hr k e.symm with h1 | h1; exact hn h1; omega)).trans (h.block k hk hn)⟩
theorem Upd.cell {fp : List Nat} {w w' : World} (h : Upd fp w w') {p : Addr} (hp : p.block < w.heap.size) (hn : p.block ∉ fp) : w'.cell? p = w.cell? p := World.cell?_of_block (h.block _ hp hn)
theorem Upd.frozen {fp : List Nat} {w w' : World} (h : Upd fp w w') {p : Addr} (hp : p.block < w.heap.size) (hn : p.block ∉ fp) : w'.frozen? p = w.frozen? p := World.frozen?_of_block (h.block _ hp hn)
theorem Upd.heap {fp : List Nat} {w w' : World} {b : Nat} {o : Obj} (h : Upd fp w w') (hb : w.heap[b]? = some o) (hn : b ∉ fp) : w'.heap[b]? = some o := (h.block b (lt_of_block hb) hn).trans hb

theorem _root_.Go.RowKit.Below.setBlock' {B : Nat} {a w : World} (h : Below B a w) {b : Nat} (hp : B ≤ b) (o : Obj) : Below B a (ChangeMaps.setBlock w b o) :=
  ⟨h.os, h.tape, h.output, Nat.le_trans h.size (by simp [ChangeMaps.setBlock]), fun k hk => by
    have : b ≠ k := by omega
    have e : (ChangeMaps.setBlock w b o).heap[k]? = w.heap[k]? := by simp [ChangeMaps.setBlock, Array.getElem?_setIfInBounds_ne this]
    exact e.trans (h.block k hk)⟩
theorem _root_.Go.RowKit.Below.setRow' {B : Nat} {a w : World} (h : Below B a w) {b : Nat} (hp : B ≤ b) (cs : Array Value) : Below B a (w.setRow b cs) := by
  refine ⟨h.os, h.tape, h.output, by simpa [World.setRow] using h.size, fun i hi => ?_⟩
  rw [← h.block i hi]
  simp [World.setRow, Array.getElem?_modify]
  omega
theorem heap_setBlock_same {w : World} {b : Nat} {o o' : Obj} (h : w.heap[b]? = some o') : (setBlock w b o).heap[b]? = some o := by
  have := lt_of_block h
  simp [ChangeMaps.setBlock, this]
theorem heap_setBlock_other {w : World} {b k : Nat} {o : Obj} (h : b ≠ k) : (setBlock w b o).heap[k]? = w.heap[k]? := by
  simp [ChangeMaps.setBlock, Array.getElem?_setIfInBounds_ne h]
theorem size_setBlock (w : World) (b : Nat) (o : Obj) : (setBlock w b o).heap.size = w.heap.size := by simp [ChangeMaps.setBlock]

/-! ### Bytes -/
def bv (b : UInt8) : Value := .int .u8 b.toNat
def bvs (l : List UInt8) : List Value := l.map bv

theorem nodup_inj {α : Type} {l : List α} (h : l.Nodup) {i j : Nat} (hi : i < l.length) (hj : j < l.length) (e : l[i] = l[j]) : i = j := by
  rcases Nat.lt_trichotomy i j with h1 | h1 | h1
  · exact absurd e (List.pairwise_iff_getElem.1 h i j hi hj h1)
  · exact h1
  · exact absurd e.symm (List.pairwise_iff_getElem.1 h j i hj hi h1)

/-! ### A map keyed by int -/
/-- the first entry of a key -/
def lookE (es : List MapEntry) (n : Int) : Option Value := (es.find? (fun e => match e.key with | .int _ k => k == n | _ => false)).map (·.val)
def IntKeys (es : List MapEntry) : Prop := ∀ e ∈ es, ∃ k, e.key = .int .i64 k
theorem findNow_int (n : Int) : ∀ (es : List MapEntry) (i : Nat), IntKeys es → (∃ j v, Instr.findNow (.int .i64) (.int .i64 n) es i = some (some (j, v)) ∧ lookE es n = some v ∧ i ≤ j ∧ ∃ e, es[j - i]? = some e ∧ e.key = .int .i64 n ∧ e.val = v ∧ ∀ x ∈ es.take (j - i), x.key ≠ .int .i64 n) ∨
      (Instr.findNow (.int .i64) (.int .i64 n) es i = some none ∧ lookE es n = none ∧ ∀ x ∈ es, x.key ≠ .int .i64 n)
  | [], i, _ => .inr ⟨rfl, rfl, by simp⟩
  | e :: es, i, h => by
    obtain ⟨k, hk⟩ := h e (by simp)
    by_cases hkn : n = k
    · left
      subst hkn
      exact ⟨i, e.val, by simp [Instr.findNow, Instr.sameNow, hk], by simp [lookE, hk], Nat.le_refl _, e, by simp, hk, rfl, by simp⟩
    · have ih := findNow_int n es (i + 1) (fun x hx => h x (by simp [hx]))
      have hne : (n == k) = false := by simp [hkn]
      have hne' : (k == n) = false := by simp; exact fun e => hkn e.symm
      have e1 : ∀ j, Instr.findNow (.int .i64) (.int .i64 n) (e :: es) j = Instr.findNow (.int .i64) (.int .i64 n) es (j + 1) := fun j => by
        simp [Instr.findNow, Instr.sameNow, hk, hne]
      have e2 : lookE (e :: es) n = lookE es n := by simp [lookE, hk, hne']
      have hk' : e.key ≠ .int .i64 n := by rw [hk]; simp; exact fun e => hkn e.symm
      rcases ih with ⟨j, v, h1, h2, h3, x, h4, h5, h6, h7⟩ | ⟨h1, h2, h3⟩
      · left
        have : j - i = (j - (i + 1)) + 1 := by omega
        refine ⟨j, v, (e1 i).trans h1, e2.trans h2, by omega, x, by rw [this]; exact h4, h5, h6, ?_⟩
        rw [this]
        intro y hy
        rcases List.mem_cons.1 (by simpa using hy) with rfl | hy
        · exact hk'
        · exact h7 y hy
      · right
        exact ⟨(e1 i).trans h1, e2.trans h2, fun y hy => by rcases List.mem_cons.1 hy with rfl | hy; exact hk'; exact h3 y hy⟩

theorem run_checkKey_int {P : Program} {w : World} {k : Nat} (hk : P.underlying k = some (.int .i64)) (b : Bool) (n : Int) : (Instr.checkKey b 10000 k (.int .i64 n)).run P w = .ok () w := by
  show (Instr.checkKey b (9999 + 1) k (.int .i64 n)).run P w = .ok () w
  rw [Instr.checkKey]
  simp [run_underlying hk]
section
variable {P : Program} {w : World} {t k e mb : Nat} {es : Array MapEntry} {clk : Nat}
theorem run_look_yes (ht : P.underlying t = some (.map k e)) (hk : P.underlying k = some (.int .i64)) (hm : w.heap[mb]? = some (.map es clk)) (hi : IntKeys es.toList)
    (n : Int) (v : Value) (hv : lookE es.toList n = some v) :
    (Instr.lookup t (.map (some mb)) (.int .i64 n) false).run P w = .ok v w ∧ (Instr.lookup t (.map (some mb)) (.int .i64 n) true).run P w = .ok (.tuple #[v, .bool true]) w := by
  rcases findNow_int n es.toList 0 hi with ⟨j, u, h1, h2, _⟩ | ⟨_, h2, _⟩
  · rw [h2] at hv; cases hv
    constructor <;> simp [Instr.lookup, run_underlying ht, run_underlying hk, getObj, Sem.run, hm, run_checkKey_int hk, Instr.findKey, h1]
  · rw [h2] at hv; cases hv
theorem run_look_no (ht : P.underlying t = some (.map k e)) (hk : P.underlying k = some (.int .i64)) (hm : w.heap[mb]? = some (.map es clk)) (hi : IntKeys es.toList)
    (n : Int) (hv : lookE es.toList n = none) (z : Value) (hz : (zeroValue e).run P w = .ok z w) :
    (Instr.lookup t (.map (some mb)) (.int .i64 n) false).run P w = .ok z w ∧ (Instr.lookup t (.map (some mb)) (.int .i64 n) true).run P w = .ok (.tuple #[z, .bool false]) w := by
  rcases findNow_int n es.toList 0 hi with ⟨j, u, h1, h2, _⟩ | ⟨h1, _, _⟩
  · rw [h2] at hv; cases hv
  · constructor <;> simp [Instr.lookup, run_underlying ht, run_underlying hk, getObj, Sem.run, hm, run_checkKey_int hk, Instr.findKey, h1, hz]

/-- the entries with the one of a key turned -/
def putE (es : List MapEntry) (n : Int) (v : Value) : List MapEntry := es.map fun e => match e.key with | .int _ k => if k = n then { e with val := v } else e | _ => e
theorem run_mapUpdate_yes (ht : P.underlying t = some (.map k e)) (hk : P.underlying k = some (.int .i64)) (hm : w.heap[mb]? = some (.map es clk)) (hi : IntKeys es.toList)
    (hn : (es.toList.map (·.key)).Nodup) (n : Int) (u v : Value) (hv : lookE es.toList n = some u) :
    (Instr.mapUpdate t (.map (some mb)) (.int .i64 n) v).run P w = .ok () (setBlock w mb (.map (putE es.toList n v).toArray clk)) := by
  rcases findNow_int n es.toList 0 hi with ⟨j, u', h1, h2, _, x, h4, h5, h6, h7⟩ | ⟨_, h2, _⟩
  · simp only [Nat.sub_zero] at h4 h7
    have hx : es[j]? = some x := by rw [← Array.getElem?_toList]; exact h4
    have e1 : es.modify j (fun e => { e with key := .int .i64 n, val := v }) = (putE es.toList n v).toArray := by
      apply Array.ext'
      rw [Array.toList_modify]
      apply List.ext_getElem?
      intro i
      rw [List.getElem?_modify, putE, List.getElem?_map]
      by_cases hij : j = i
      · subst hij
        rw [h4]
        simp [h5]
      · cases hy : es.toList[i]? with
        | none => simp
        | some y =>
          obtain ⟨q, hq⟩ := hi y (List.mem_of_getElem? hy)
          have hqn : q ≠ n := by
            rintro rfl
            have hjl : j < es.toList.length := (List.getElem?_eq_some_iff.1 h4).1
            have hil : i < es.toList.length := (List.getElem?_eq_some_iff.1 hy).1
            apply hij
            have a1 := (List.getElem?_eq_some_iff.1 h4).2
            have a2 := (List.getElem?_eq_some_iff.1 hy).2
            exact nodup_inj hn (i := j) (j := i) (by simpa using hjl) (by simpa using hil) (by simp [a1, a2, h5, hq])
          simp [hij, hq, hqn]
    simp [Instr.mapUpdate, run_underlying ht, run_underlying hk, getObj, Sem.run, hm, run_checkKey_int hk, Instr.findKey, h1, hx, h5, Instr.keyThatStays, Instr.sameBits, setObj, ← e1, ChangeMaps.setBlock]
  · rw [h2] at hv; cases hv
theorem run_mapUpdate_no (ht : P.underlying t = some (.map k e)) (hk : P.underlying k = some (.int .i64)) (hm : w.heap[mb]? = some (.map es clk)) (hi : IntKeys es.toList)
    (n : Int) (v : Value) (hv : lookE es.toList n = none) :
    (Instr.mapUpdate t (.map (some mb)) (.int .i64 n) v).run P w = .ok () (setBlock w mb (.map (es.push { key := .int .i64 n, val := v, born := clk }) (clk + 1))) := by
  rcases findNow_int n es.toList 0 hi with ⟨j, u, h1, h2, _⟩ | ⟨h1, _, _⟩
  · rw [h2] at hv; cases hv
  · simp [Instr.mapUpdate, run_underlying ht, run_underlying hk, getObj, Sem.run, hm, run_checkKey_int hk, Instr.findKey, h1, setObj, ChangeMaps.setBlock]
end
end Go.Proofs.YtogkdoooimcemaaGreatDoor

/- DkAt -/
namespace Go.Proofs.YtogkdoooimcemaaGreatDoor
open Go Go.RowKit
open Go.ChangeMaps (setBlock)

/-- v is a slice of just these bytes, in a row of its own. -/
def FileAt (w : World) (v : Value) (l : List UInt8) : Prop :=
  ∃ g cap cur, v = .slice (some ⟨g, 0, none⟩) l.length cap ∧ w.heap[g]? = some (.cells cur 5 (0, 0)) ∧ l.length ≤ cap ∧ cap ≤ cur.size ∧ cur.size ≤ maxLen ∧ cur.toList.take l.length = bvs l
def EntAt (w : World) (e : MapEntry) (f : Int × List UInt8) : Prop := e.key = .int .i64 f.1 ∧ FileAt w e.val f.2
def lcells (l : List (Int × Nat)) : List Value := l.flatMap fun p => [.int .i64 p.1, .int .i64 p.2]
def dcells (mb : Nat) (lv : Value) (D : Dk) : Array Value :=
  #[.map (some mb), lv, .int .i64 D.cap, .bool D.down, .int .i64 D.starts, .bool D.fails, .int .i64 D.left, .int .i64 D.keep]
structure DAt (w : World) (p : Nat) (D : Dk) (mb : Nat) (es : Array MapEntry) (clk : Nat) (lv : Value) : Prop where
  blk : w.heap[p]? = some (.cells (dcells mb lv D) 46 (0, 0))
  map : w.heap[mb]? = some (.map es clk)
  ents : All2 (EntAt w) es.toList D.files
  born : (es.toList.map (·.born)).Nodup
  clk : ∀ e ∈ es.toList, e.born < clk
  blocks : (es.toList.filterMap (·.val.ownBlock)).Nodup
  loose : w.ownsRow 0 83 2 lv D.loose.length (lcells D.loose)
  wf : D.WF
def foot (p mb : Nat) (lv : Value) (es : List MapEntry) : List Nat := p :: mb :: (lv.ownBlock.toList ++ es.filterMap (·.val.ownBlock))
def DiskAt (w : World) (p : Nat) (D : Dk) (fp : List Nat) : Prop := ∃ mb es clk lv, DAt w p D mb es clk lv ∧ fp = foot p mb lv es.toList

theorem DAt.cells {w : World} {p : Nat} {D : Dk} {mb : Nat} {es : Array MapEntry} {clk : Nat} {lv : Value} (h : DAt w p D mb es clk lv) :
    w.cell? ⟨p, 0, none⟩ = some (.map (some mb)) ∧ w.cell? ⟨p, 1, none⟩ = some lv ∧ w.cell? ⟨p, 2, none⟩ = some (.int .i64 D.cap) ∧ w.cell? ⟨p, 3, none⟩ = some (.bool D.down) ∧
    w.cell? ⟨p, 4, none⟩ = some (.int .i64 D.starts) ∧ w.cell? ⟨p, 5, none⟩ = some (.bool D.fails) ∧ w.cell? ⟨p, 6, none⟩ = some (.int .i64 D.left) ∧ w.cell? ⟨p, 7, none⟩ = some (.int .i64 D.keep) ∧
    ∀ i, w.frozen? ⟨p, i, none⟩ = false := by
  have hb := h.blk
  refine ⟨?_, ?_, ?_, ?_, ?_, ?_, ?_, ?_, fun i => frozen_of_row w p i _ _ hb⟩ <;> (rw [cell_of_row w p _ _ _ _ hb]; rfl)

theorem getF_cons (f : Int × List UInt8) (l : List (Int × List UInt8)) (n : Int) : Dk.getF (f :: l) n = if f.1 = n then some f.2 else Dk.getF l n := by
  unfold Dk.getF
  by_cases h : f.1 = n
  · simp [h]
  · simp [h, List.find?_cons]
theorem ents_keys {w : World} : ∀ {es : List MapEntry} {l : List (Int × List UInt8)}, All2 (EntAt w) es l → IntKeys es
  | [], [], _ => by intro e he; cases he
  | e :: es, f :: l, h => by
    intro x hx
    rcases List.mem_cons.1 hx with rfl | hx
    · exact ⟨_, h.1.1⟩
    · exact ents_keys h.2 x hx
theorem ents_look {w : World} (n : Int) : ∀ {es : List MapEntry} {l : List (Int × List UInt8)}, All2 (EntAt w) es l →
    (∃ v b, lookE es n = some v ∧ Dk.getF l n = some b ∧ FileAt w v b) ∨ (lookE es n = none ∧ Dk.getF l n = none)
  | [], [], _ => .inr ⟨rfl, rfl⟩
  | e :: es, f :: l, h => by
    have hk : e.key = .int .i64 f.1 := h.1.1
    rw [getF_cons]
    by_cases hn : f.1 = n
    · left; exact ⟨e.val, f.2, by simp [lookE, hk, hn], by simp [hn], h.1.2⟩
    · have e2 : lookE (e :: es) n = lookE es n := by simp [lookE, hk, hn]
      rw [e2, if_neg hn]
      exact ents_look n h.2
theorem ents_nodup {w : World} : ∀ {es : List MapEntry} {l : List (Int × List UInt8)}, All2 (EntAt w) es l → (l.map (·.1)).Nodup → (es.map (·.key)).Nodup
  | [], [], _, _ => by simp
  | e :: es, f :: l, h, hn => by
    simp only [List.map_cons, List.nodup_cons] at hn ⊢
    refine ⟨?_, ents_nodup h.2 hn.2⟩
    intro hm
    obtain ⟨x, hx, hxe⟩ := List.mem_map.1 hm
    obtain ⟨g, hg, hr⟩ := h.2.mem x hx
    apply hn.1
    rw [hr.1, h.1.1] at hxe
    simp at hxe
    exact List.mem_map.2 ⟨g, hg, hxe⟩
end Go.Proofs.YtogkdoooimcemaaGreatDoor

/- Disk1 -/
namespace Go.Proofs.YtogkdoooimcemaaGreatDoor
open Go Go.RowKit
set_option maxRecDepth 20000
open Go.ChangeMaps (setBlock)

theorem zero_bytes (w : World) : (zeroValue 61).run Tryz.prog w = .ok (.slice none 0 0) w := by kernel_rfl

theorem none_nil (w : World) : Calls Tryz.prog 64 #[.pointer none] w fun e w' => e = .returned (.bool true) ∧ w = w' := by
  go_enter Tryz.func64, Tryz.ntmps64
  go_wp2
  go_ret
  exact ⟨rfl, rfl⟩
theorem none_ptr (w : World) (p : Nat) (m : Option Nat) (h : w.cell? ⟨p, 0, none⟩ = some (.map m)) : Calls Tryz.prog 64 #[.pointer (some ⟨p, 0, none⟩)] w fun e w' => e = .returned (.bool m.isNone) ∧ w = w' := by
  have q := fun (w : World) (r : Option Nat) => run_eql_map_nil (P := Tryz.prog) w _ _ _ r Tryz.underlying43
  go_enter Tryz.func64, Tryz.ntmps64
  go_wp2
  go_ret
  exact ⟨rfl, rfl⟩
theorem ready_nil (w : World) : Calls Tryz.prog 46 #[.pointer none] w fun e w' => e = .returned (.int .i64 1) ∧ w = w' := by
  go_enter Tryz.func46, Tryz.ntmps46
  go_wp2_with (go_at_call 64; refine (none_nil _).mono ?_; rintro e w' ⟨rfl, rfl⟩)
  go_ret
  exact ⟨rfl, rfl⟩
theorem ready_void (w : World) (p : Nat) (h : w.cell? ⟨p, 0, none⟩ = some (.map none)) : Calls Tryz.prog 46 #[.pointer (some ⟨p, 0, none⟩)] w fun e w' => e = .returned (.int .i64 1) ∧ w = w' := by
  go_enter Tryz.func46, Tryz.ntmps46
  go_wp2_with (go_at_call 64; refine (none_ptr _ _ _ h).mono ?_; rintro e w' ⟨rfl, rfl⟩)
  go_ret
  exact ⟨rfl, rfl⟩
theorem none_at {w : World} {p : Nat} {D : Dk} {fp : List Nat} (h : DiskAt w p D fp) : Calls Tryz.prog 64 #[.pointer (some ⟨p, 0, none⟩)] w fun e w' => e = .returned (.bool false) ∧ w = w' := by
  obtain ⟨mb, es, clk, lv, h, -⟩ := h
  exact none_ptr w p (some mb) h.cells.1
theorem ready_at {w : World} {p : Nat} {D : Dk} {fp : List Nat} (h : DiskAt w p D fp) : Calls Tryz.prog 46 #[.pointer (some ⟨p, 0, none⟩)] w fun e w' => e = .returned (.int .i64 D.ready) ∧ w = w' := by
  have hn := none_at h
  obtain ⟨mb, es, clk, lv, h, -⟩ := h
  have c3 := h.cells.2.2.2.1
  unfold Dk.ready
  generalize D.down = b at *
  clear h
  cases b
  · go_enter Tryz.func46, Tryz.ntmps46
    go_wp2_with (go_at_call 64; refine hn.mono ?_; rintro e w' ⟨rfl, rfl⟩)
    go_ret
    exact ⟨rfl, rfl⟩
  · go_enter Tryz.func46, Tryz.ntmps46
    go_wp2_with (go_at_call 64; refine hn.mono ?_; rintro e w' ⟨rfl, rfl⟩)
    go_ret
    exact ⟨rfl, rfl⟩
theorem up_nil (w : World) : Calls Tryz.prog 29 #[.pointer none] w fun e w' => e = .returned (.bool false) ∧ w = w' := by
  go_enter Tryz.func29, Tryz.ntmps29
  go_wp2_with (go_at_call 46; refine (ready_nil _).mono ?_; rintro e w' ⟨rfl, rfl⟩)
  go_ret
  exact ⟨rfl, rfl⟩
theorem up_void (w : World) (p : Nat) (h : w.cell? ⟨p, 0, none⟩ = some (.map none)) : Calls Tryz.prog 29 #[.pointer (some ⟨p, 0, none⟩)] w fun e w' => e = .returned (.bool false) ∧ w = w' := by
  go_enter Tryz.func29, Tryz.ntmps29
  go_wp2_with (go_at_call 46; refine (ready_void _ _ h).mono ?_; rintro e w' ⟨rfl, rfl⟩)
  go_ret
  exact ⟨rfl, rfl⟩
theorem up_at {w : World} {p : Nat} {D : Dk} {fp : List Nat} (h : DiskAt w p D fp) : Calls Tryz.prog 29 #[.pointer (some ⟨p, 0, none⟩)] w fun e w' => e = .returned (.bool (!D.down)) ∧ w = w' := by
  have hn := ready_at h
  unfold Dk.ready at hn
  generalize D.down = b at *
  clear h
  cases b
  · go_enter Tryz.func29, Tryz.ntmps29
    go_wp2_with (go_at_call 46; refine hn.mono ?_; rintro e w' ⟨rfl, rfl⟩)
    go_ret
    exact ⟨rfl, rfl⟩
  · go_enter Tryz.func29, Tryz.ntmps29
    go_wp2_with (go_at_call 46; refine hn.mono ?_; rintro e w' ⟨rfl, rfl⟩)
    go_ret
    exact ⟨rfl, rfl⟩
theorem has_nil (w : World) (n : Int) : Calls Tryz.prog 47 #[.pointer none, .int .i64 n] w fun e w' => e = .returned (.int .i64 1) ∧ w = w' := by
  go_enter Tryz.func47, Tryz.ntmps47
  go_wp2_with (go_at_call 46; refine (ready_nil _).mono ?_; rintro e w' ⟨rfl, rfl⟩)
  go_ret
  exact ⟨rfl, rfl⟩
theorem has_void (w : World) (p : Nat) (n : Int) (h : w.cell? ⟨p, 0, none⟩ = some (.map none)) : Calls Tryz.prog 47 #[.pointer (some ⟨p, 0, none⟩), .int .i64 n] w fun e w' => e = .returned (.int .i64 1) ∧ w = w' := by
  go_enter Tryz.func47, Tryz.ntmps47
  go_wp2_with (go_at_call 46; refine (ready_void _ _ h).mono ?_; rintro e w' ⟨rfl, rfl⟩)
  go_ret
  exact ⟨rfl, rfl⟩
/-- what a look into the files gives -/
theorem look_at {w : World} {p mb clk : Nat} {D : Dk} {es : Array MapEntry} {lv : Value} (h : DAt w p D mb es clk lv) (n : Int) :
    (∃ v b, D.get n = some b ∧ lookE es.toList n = some v ∧ FileAt w v b ∧ (∀ u : World, u.heap[mb]? = some (.map es clk) → (Instr.lookup 43 (.map (some mb)) (.int .i64 n) false).run Tryz.prog u = .ok v u) ∧
      (∀ u : World, u.heap[mb]? = some (.map es clk) → (Instr.lookup 43 (.map (some mb)) (.int .i64 n) true).run Tryz.prog u = .ok (.tuple #[v, .bool true]) u)) ∨
    (D.get n = none ∧ lookE es.toList n = none ∧ (∀ u : World, u.heap[mb]? = some (.map es clk) → (Instr.lookup 43 (.map (some mb)) (.int .i64 n) true).run Tryz.prog u = .ok (.tuple #[.slice none 0 0, .bool false]) u)) := by
  have hi := ents_keys h.ents
  rcases ents_look n h.ents with ⟨v, b, h1, h2, h3⟩ | ⟨h1, h2⟩
  · left
    exact ⟨v, b, h2, h1, h3, fun u hu => (run_look_yes Tryz.underlying43 Tryz.underlying3 hu hi n v h1).1, fun u hu => (run_look_yes Tryz.underlying43 Tryz.underlying3 hu hi n v h1).2⟩
  · right
    exact ⟨h2, h1, fun u hu => (run_look_no Tryz.underlying43 Tryz.underlying3 hu hi n h1 _ (zero_bytes u)).2⟩
theorem has_at {w : World} {p : Nat} {D : Dk} {fp : List Nat} (h : DiskAt w p D fp) (n : Int) :
    Calls Tryz.prog 47 #[.pointer (some ⟨p, 0, none⟩), .int .i64 n] w fun e w' => e = .returned (.int .i64 (D.has n)) ∧ w = w' := by
  have hr := ready_at h
  obtain ⟨mb, es, clk, lv, h, -⟩ := h
  have c0 := h.cells.1
  have hl := look_at h n
  have hm := h.map
  unfold Dk.has
  unfold Dk.ready at hr
  generalize D.down = d at *
  generalize D.get n = g at *
  clear h
  cases d
  · rcases hl with ⟨v, b, rfl, -, -, -, hl⟩ | ⟨rfl, -, hl⟩
    all_goals
      have hl1 := hl w hm; clear hl
      go_enter Tryz.func47, Tryz.ntmps47
      go_wp2_with (go_at_call 46; refine hr.mono ?_; rintro e w' ⟨rfl, rfl⟩)
      go_ret
      exact ⟨rfl, rfl⟩
  · clear hl
    go_enter Tryz.func47, Tryz.ntmps47
    go_wp2_with (go_at_call 46; refine hr.mono ?_; rintro e w' ⟨rfl, rfl⟩)
    go_ret
    exact ⟨rfl, rfl⟩
end Go.Proofs.YtogkdoooimcemaaGreatDoor

/- Disk2 -/
namespace Go.Proofs.YtogkdoooimcemaaGreatDoor
open Go Go.RowKit
open Go.ChangeMaps (setBlock)
set_option maxRecDepth 20000

theorem size_nil (w : World) (n : Int) : Calls Tryz.prog 40 #[.pointer none, .int .i64 n] w fun e w' => e = .returned (.tuple #[.int .i64 0, .int .i64 1]) ∧ w = w' := by
  go_enter Tryz.func40, Tryz.ntmps40
  go_wp2_with (go_at_call 47; refine (has_nil _ _).mono ?_; rintro e w' ⟨rfl, rfl⟩)
  go_ret2
  exact ⟨rfl, rfl⟩
theorem size_void (w : World) (p : Nat) (n : Int) (h : w.cell? ⟨p, 0, none⟩ = some (.map none)) : Calls Tryz.prog 40 #[.pointer (some ⟨p, 0, none⟩), .int .i64 n] w fun e w' => e = .returned (.tuple #[.int .i64 0, .int .i64 1]) ∧ w = w' := by
  go_enter Tryz.func40, Tryz.ntmps40
  go_wp2_with (go_at_call 47; refine (has_void _ _ _ h).mono ?_; rintro e w' ⟨rfl, rfl⟩)
  go_ret2
  exact ⟨rfl, rfl⟩
def Dk.lenOf (D : Dk) (n : Int) : Nat := if D.down then 0 else ((D.get n).getD []).length
theorem size_at {w : World} {p : Nat} {D : Dk} {fp : List Nat} (h : DiskAt w p D fp) (n : Int) :
    Calls Tryz.prog 40 #[.pointer (some ⟨p, 0, none⟩), .int .i64 n] w fun e w' => e = .returned (.tuple #[.int .i64 (D.lenOf n), .int .i64 (D.has n)]) ∧ w = w' := by
  have hr := has_at h n
  obtain ⟨mb, es, clk, lv, h, -⟩ := h
  have c0 := h.cells.1
  have hl := look_at h n
  have hm := h.map
  unfold Dk.has at *
  unfold Dk.lenOf
  generalize D.down = d at *
  generalize D.get n = g at *
  clear h
  cases d
  · rcases hl with ⟨v, b, rfl, -, ⟨gb, cap, cur, rfl, -⟩, hl, -⟩ | ⟨rfl, -, hl⟩
    · have hl1 := hl w hm; clear hl hm
      go_enter Tryz.func40, Tryz.ntmps40
      go_wp2_with (go_at_call 47; refine hr.mono ?_; rintro e w' ⟨rfl, rfl⟩)
      go_ret2
      exact ⟨rfl, rfl⟩
    · clear hl hm
      go_enter Tryz.func40, Tryz.ntmps40
      go_wp2_with (go_at_call 47; refine hr.mono ?_; rintro e w' ⟨rfl, rfl⟩)
      go_ret2
      exact ⟨rfl, rfl⟩
  · clear hl hm
    go_enter Tryz.func40, Tryz.ntmps40
    go_wp2_with (go_at_call 47; refine hr.mono ?_; rintro e w' ⟨rfl, rfl⟩)
    go_ret2
    exact ⟨rfl, rfl⟩
theorem starts_at {w : World} {p : Nat} {D : Dk} {fp : List Nat} (h : DiskAt w p D fp) :
    Calls Tryz.prog 41 #[.pointer (some ⟨p, 0, none⟩)] w fun e w' => e = .returned (.int .i64 D.starts) ∧ w = w' := by
  have hn := none_at h
  obtain ⟨mb, es, clk, lv, h, -⟩ := h
  have c4 := h.cells.2.2.2.2.1
  clear h
  go_enter Tryz.func41, Tryz.ntmps41
  go_wp2_with (go_at_call 64; refine hn.mono ?_; rintro e w' ⟨rfl, rfl⟩)
  go_ret
  exact ⟨rfl, rfl⟩

/-- a file's bytes, cell by cell -/
theorem FileAt.cell {w : World} {g : Nat} {l : List UInt8} {cur : Array Value} (hg : w.heap[g]? = some (.cells cur 5 (0, 0))) (ht : cur.toList.take l.length = bvs l) :
    ∀ j (hj : j < l.length), w.cell? ⟨g, j, none⟩ = some (bv l[j]) := by
  intro j hj
  rw [cell_of_row w g j _ _ _ hg]
  have h1 : (cur.toList.take l.length)[j]? = some (bv l[j]) := by rw [ht]; simp [bvs, hj]
  rw [List.getElem?_take_of_lt hj] at h1
  simpa using h1
theorem addr_add (g a j : Nat) : (⟨g, a, none⟩ : Addr).add j = ⟨g, a + j, none⟩ := by unfold Addr.add; split <;> simp_all

theorem read_no {w : World} {p : Nat} {D : Dk} {fp : List Nat} (h : DiskAt w p D fp) (n a k : Int) (hn : D.has n ≠ 0) :
    Calls Tryz.prog 61 #[.pointer (some ⟨p, 0, none⟩), .int .i64 n, .int .i64 a, .int .i64 k] w fun e w' => e = .returned (.tuple #[.string ⟨#[]⟩, .int .i64 (D.has n)]) ∧ w = w' := by
  have hr := has_at h n
  generalize D.has n = x at *
  clear h
  have hx : (x != 0) = true := by simpa using hn
  clear hn
  go_enter Tryz.func61, Tryz.ntmps61
  go_wp2_with (go_at_call 47; refine hr.mono ?_; rintro e w' ⟨rfl, rfl⟩)
  go_ret2
  exact ⟨rfl, rfl⟩
theorem read_yes {w : World} {p : Nat} {D : Dk} {fp : List Nat} (h : DiskAt w p D fp) (n a k : Int) (hd : D.down = false) (b : List UInt8) (hb : D.get n = some b)
    (h0 : 0 ≤ a) (h1 : a ≤ b.length) (h2 : 0 ≤ k) (h3 : k ≤ b.length - a) :
    Calls Tryz.prog 61 #[.pointer (some ⟨p, 0, none⟩), .int .i64 n, .int .i64 a, .int .i64 k] w fun e w' => e = .returned (.tuple #[.string ⟨((b.drop a.toNat).take k.toNat).toArray⟩, .int .i64 0]) ∧ w = w' := by
  have hr := has_at h n
  obtain ⟨mb, es, clk, lv, h, -⟩ := h
  have c0 := h.cells.1
  have hl := look_at h n
  have hm := h.map
  have hx : D.has n = 0 := by simp [Dk.has, hd, hb]
  rw [hx] at hr
  rw [hb] at hl
  clear h hx hb hd
  rcases hl with ⟨v, b', e1, -, ⟨g, cap, cur, rfl, hg, hc1, hc2, hc3, ht⟩, hl, -⟩ | ⟨e1, -⟩
  · cases e1
    have hl1 := hl w hm; clear hl hm
    obtain ⟨a, rfl⟩ := Int.eq_ofNat_of_zero_le h0
    obtain ⟨k, rfl⟩ := Int.eq_ofNat_of_zero_le h2
    simp only [Int.toNat_natCast]
    have hkl : ((b.drop a).take k).length = k := by simp; omega
    have hcv : ∀ A : Addr, (A = ⟨g, a, none⟩ ∨ k = 0) → ∀ c, (convert 61 9 (.slice (some A) k c)).run Tryz.prog w = .ok (.string ⟨((b.drop a).take k).toArray⟩) w := by
      intro A hA c
      have := run_convert_bytes_back (P := Tryz.prog) w 61 9 _ A c ((b.drop a).take k) Tryz.underlying61 Tryz.underlying5 Tryz.underlying9 (by
        intro j hj
        rw [hkl] at hj
        rcases hA with rfl | rfl
        · rw [addr_add, FileAt.cell hg ht (a + j) (by omega)]
          simp [bv]
        · omega)
      rwa [hkl] at this
    by_cases hca : cap = a
    · subst hca
      obtain rfl : k = 0 := by omega
      have hcv1 := hcv ⟨g, 0, none⟩ (.inr rfl) 0
      unfold maxLen at hc3
      have hb : cap ≤ 9223372036854775807 := by omega
      have hb' : cap ≤ b.length := by omega
      clear hcv hg ht hkl hc2 hc3
      go_enter Tryz.func61, Tryz.ntmps61
      go_wp2_with (go_at_call 47; refine hr.mono ?_; rintro e w' ⟨rfl, rfl⟩)
      go_ret2
      exact ⟨rfl, rfl⟩
    · have hcv1 := hcv ⟨g, a, none⟩ (.inl rfl) (cap - a)
      have hle : a + k ≤ cap := by omega
      unfold maxLen at hc3
      have hb : b.length ≤ 9223372036854775807 := by omega
      clear hcv hg ht hkl
      go_enter Tryz.func61, Tryz.ntmps61
      go_wp2_with (go_at_call 47; refine hr.mono ?_; rintro e w' ⟨rfl, rfl⟩)
      go_ret2
      exact ⟨rfl, rfl⟩
  · cases e1

/-! ### A new disk, Start, Fail, the count of changes -/
def Dk.new (cap : Nat) : Dk := { files := [], loose := [], cap := cap, down := false, starts := 0, fails := false, left := 0, keep := 0 }
theorem new_at (w : World) (cap : Nat) (hc : cap ≤ 1048576) :
    Calls Tryz.prog 13 #[.int .i64 cap] w fun e w' => ∃ p, e = .returned (.tuple #[.pointer (some ⟨p, 0, none⟩), .int .i64 0]) ∧ w.heap.size ≤ p ∧ (∃ fp, DiskAt w' p (Dk.new cap) fp ∧ ∀ b ∈ fp, w.heap.size ≤ b) ∧ Upd [] w w' := by
  have hmm := @run_makeMap Tryz.prog
  go_enter Tryz.func13, Tryz.ntmps13
  go_wp2
  go_ret2
  have e1 : ((w.alloc (.map #[] 0)).alloc (.cells (dcells w.heap.size (.slice none 0 0) (Dk.new cap)) 46)).heap[w.heap.size + 1]? = some (.cells (dcells w.heap.size (.slice none 0 0) (Dk.new cap)) 46 (0, 0)) := heap_alloc2_new w _ _
  have e2 : ((w.alloc (.map #[] 0)).alloc (.cells (dcells w.heap.size (.slice none 0 0) (Dk.new cap)) 46)).heap[w.heap.size]? = some (.map #[] 0) := heap_alloc2_old w _ _
  refine ⟨w.heap.size + 1, rfl, by omega, ⟨_, ⟨w.heap.size, #[], 0, .slice none 0 0, ⟨e1, e2, trivial, by simp, by simp, by simp, World.ownsRow_nil _ _ _ _, ?_⟩, rfl⟩, ?_⟩, ?_⟩
  · constructor <;> simp [Dk.new, Dk.total, Dk.of, Dk.I64]
    exact hc
  · intro b hb
    simp [foot, Value.ownBlock] at hb
    omega
  · exact ((Upd.refl _ w).alloc _).alloc _
end Go.Proofs.YtogkdoooimcemaaGreatDoor

/- DkMove -/
namespace Go.Proofs.YtogkdoooimcemaaGreatDoor
open Go Go.RowKit
open Go.ChangeMaps (setBlock)

theorem FileAt.block {w : World} {v : Value} {l : List UInt8} (h : FileAt w v l) : ∃ g, v.ownBlock = some g ∧ ∃ cur, w.heap[g]? = some (.cells cur 5 (0, 0)) := by
  obtain ⟨g, cap, cur, rfl, hg, _⟩ := h
  exact ⟨g, rfl, cur, hg⟩
theorem FileAt.keep {w w' : World} {v : Value} {l : List UInt8} (h : FileAt w v l) (hk : ∀ g, v.ownBlock = some g → g < w.heap.size → w'.heap[g]? = w.heap[g]?) : FileAt w' v l := by
  obtain ⟨g, cap, cur, rfl, hg, h1⟩ := h
  exact ⟨g, cap, cur, rfl, (hk g rfl (lt_of_block hg)).trans hg, h1⟩
theorem ents_keep {w w' : World} {es : List MapEntry} {l : List (Int × List UInt8)} (h : All2 (EntAt w) es l)
    (hk : ∀ e ∈ es, ∀ g, e.val.ownBlock = some g → g < w.heap.size → w'.heap[g]? = w.heap[g]?) : All2 (EntAt w') es l :=
  All2.imp (fun e he _ _ hr => ⟨hr.1, hr.2.keep (hk e he)⟩) h
theorem row_keep {w w' : World} {base e size n : Nat} {v : Value} {xs : List Value} (h : w.ownsRow base e size v n xs)
    (hk : ∀ g, v.ownBlock = some g → g < w.heap.size → w'.heap[g]? = w.heap[g]?) : w'.ownsRow base e size v n xs := by
  refine ⟨h.1, ?_⟩
  rcases h.2 with h | ⟨g, cap, cur, rfl, h1, h2, h3⟩
  · exact .inl h
  · exact .inr ⟨g, cap, cur, rfl, h1, (hk g rfl (lt_of_block h2)).trans h2, h3⟩

section
variable {w w' : World} {p : Nat} {D D' : Dk} {mb : Nat} {es : Array MapEntry} {clk : Nat} {lv : Value}
/-- the blocks of a disk are of different makes -/
theorem DAt.apart (h : DAt w p D mb es clk lv) : p ≠ mb ∧ (∀ g, lv.ownBlock = some g → g ≠ p ∧ g ≠ mb ∧ g < w.heap.size) ∧
    (∀ e ∈ es.toList, ∀ g, e.val.ownBlock = some g → g ≠ p ∧ g ≠ mb ∧ g < w.heap.size ∧ lv.ownBlock ≠ some g) := by
  have hp := h.blk
  have hm := h.map
  have hl : ∀ g, lv.ownBlock = some g → ∃ cur, w.heap[g]? = some (.cells cur 83 (0, 0)) := by
    intro g hg
    rcases h.loose.2 with ⟨rfl, _⟩ | ⟨g', cap, cur, rfl, _, h2, _⟩
    · simp [Value.ownBlock] at hg
    · simp [Value.ownBlock] at hg; subst hg; exact ⟨cur, h2⟩
  refine ⟨?_, ?_, ?_⟩
  · rintro rfl; rw [hp] at hm; simp at hm
  · intro g hg
    obtain ⟨cur, hc⟩ := hl g hg
    refine ⟨?_, ?_, lt_of_block hc⟩
    · rintro rfl; rw [hp] at hc; simp at hc
    · rintro rfl; rw [hm] at hc; simp at hc
  · intro e he g hg
    obtain ⟨f, _, hr⟩ := h.ents.mem e he
    obtain ⟨g', h1, cur, hc⟩ := hr.2.block
    rw [hg] at h1; cases h1
    refine ⟨?_, ?_, lt_of_block hc, ?_⟩
    · rintro rfl; rw [hp] at hc; simp at hc
    · rintro rfl; rw [hm] at hc; simp at hc
    · intro hlg
      obtain ⟨cur', hc'⟩ := hl g hlg
      rw [hc'] at hc; simp at hc
theorem DAt.lt (h : DAt w p D mb es clk lv) : ∀ b ∈ foot p mb lv es.toList, b < w.heap.size := by
  have ha := h.apart
  intro b hb
  simp only [foot, List.mem_cons, List.mem_append, Option.mem_toList, List.mem_filterMap] at hb
  rcases hb with rfl | rfl | hb | ⟨e, he, hb⟩
  · exact lt_of_block h.blk
  · exact lt_of_block h.map
  · exact (ha.2.1 b hb).2.2
  · exact (ha.2.2 e he b hb).2.2.1
/-- memory that keeps the disk's blocks keeps the disk -/
theorem DAt.keep (h : DAt w p D mb es clk lv) (hk : ∀ b ∈ foot p mb lv es.toList, w'.heap[b]? = w.heap[b]?) : DAt w' p D mb es clk lv := by
  have hm : ∀ b, b ∈ foot p mb lv es.toList ↔ b = p ∨ b = mb ∨ lv.ownBlock = some b ∨ ∃ e ∈ es.toList, e.val.ownBlock = some b := by
    intro b; simp only [foot, List.mem_cons, List.mem_append, Option.mem_toList, List.mem_filterMap]
  refine ⟨(hk p (by simp [hm])).trans h.blk, (hk mb (by simp [hm])).trans h.map, ents_keep h.ents fun e he g hg _ => hk g ((hm g).2 (.inr (.inr (.inr ⟨e, he, hg⟩)))), h.born, h.clk, h.blocks,
    row_keep h.loose fun g hg _ => hk g ((hm g).2 (.inr (.inr (.inl hg)))), h.wf⟩
/-- the struct alone is turned -/
theorem DAt.header (h : DAt w p D mb es clk lv) (hp : w'.heap[p]? = some (.cells (dcells mb lv D') 46 (0, 0))) (hk : ∀ b, b ≠ p → w'.heap[b]? = w.heap[b]?)
    (hf : D'.files = D.files) (hl : D'.loose = D.loose) (hw : D'.WF) : DAt w' p D' mb es clk lv := by
  have ha := h.apart
  refine ⟨hp, (hk mb (Ne.symm ha.1)).trans h.map, ?_, h.born, h.clk, h.blocks, ?_, hw⟩
  · rw [hf]; exact ents_keep h.ents fun e he g hg _ => hk g (ha.2.2 e he g hg).1
  · rw [hl]; exact row_keep h.loose fun g hg _ => hk g (ha.2.1 g hg).1
end
theorem DiskAt.lt {w : World} {p : Nat} {D : Dk} {fp : List Nat} (h : DiskAt w p D fp) : ∀ b ∈ fp, b < w.heap.size := by
  obtain ⟨mb, es, clk, lv, h, rfl⟩ := h; exact h.lt
theorem DiskAt.keep {w w' : World} {p : Nat} {D : Dk} {fp : List Nat} (h : DiskAt w p D fp) (hk : ∀ b ∈ fp, w'.heap[b]? = w.heap[b]?) : DiskAt w' p D fp := by
  obtain ⟨mb, es, clk, lv, h, rfl⟩ := h; exact ⟨mb, es, clk, lv, h.keep hk, rfl⟩
theorem DiskAt.upd {w w' : World} {p : Nat} {D : Dk} {fp gp : List Nat} (h : DiskAt w p D fp) (hu : Upd gp w w') (hd : ∀ b ∈ fp, b ∉ gp) : DiskAt w' p D fp :=
  h.keep fun b hb => hu.block b (h.lt b hb) (hd b hb)
theorem DiskAt.mem {w : World} {p : Nat} {D : Dk} {fp : List Nat} (h : DiskAt w p D fp) : p ∈ fp := by
  obtain ⟨mb, es, clk, lv, h, rfl⟩ := h; simp [foot]
theorem DiskAt.wf {w : World} {p : Nat} {D : Dk} {fp : List Nat} (h : DiskAt w p D fp) : D.WF := by
  obtain ⟨mb, es, clk, lv, h, rfl⟩ := h; exact h.wf

/-- What an act leaves: the disk, as data D', in blocks of its own; all other memory as it was. -/
def Moves (w : World) (p : Nat) (fp : List Nat) (D' : Dk) (w' : World) : Prop := ∃ fp', DiskAt w' p D' fp' ∧ Upd fp w w' ∧ ∀ b ∈ fp', b ∈ fp ∨ w.heap.size ≤ b
theorem Moves.refl {w : World} {p : Nat} {D : Dk} {fp : List Nat} (h : DiskAt w p D fp) : Moves w p fp D w := ⟨fp, h, Upd.refl _ _, fun _ h => .inl h⟩
theorem Moves.trans {w w1 w2 : World} {p : Nat} {D2 : Dk} {fp fp1 : List Nat} (h1 : Upd fp w w1) (h2 : ∀ b ∈ fp1, b ∈ fp ∨ w.heap.size ≤ b) (h : Moves w1 p fp1 D2 w2) : Moves w p fp D2 w2 := by
  obtain ⟨fp2, hd, hu, hf⟩ := h
  refine ⟨fp2, hd, h1.trans hu h2, fun b hb => ?_⟩
  rcases hf b hb with h | h
  · exact h2 b h
  · exact .inr (Nat.le_trans h1.size h)
theorem Moves.below {w w1 w2 : World} {p : Nat} {D2 : Dk} {fp : List Nat} (h1 : Upd [] w w1) (h : Moves w1 p fp D2 w2) : Moves w p fp D2 w2 :=
  Moves.trans (h1.mono (by simp)) (fun _ h => .inl h) h
end Go.Proofs.YtogkdoooimcemaaGreatDoor

/- Disk3 -/
namespace Go.Proofs.YtogkdoooimcemaaGreatDoor
open Go Go.RowKit
open Go.ChangeMaps (setBlock)
set_option maxRecDepth 20000

theorem start_at {w : World} {p : Nat} {D : Dk} {fp : List Nat} (h : DiskAt w p D fp) (hs : D.starts < 1000000000) :
    Calls Tryz.prog 25 #[.pointer (some ⟨p, 0, none⟩)] w fun e w' => e = .returned (.int .i64 D.start.2) ∧ Moves w p fp D.start.1 w' := by
  have hn := none_at h
  have h0 := h
  obtain ⟨mb, es, clk, lv, h, rfl⟩ := h
  obtain ⟨-, -, -, c3, c4, -, -, -, fz⟩ := h.cells
  have f3 := fz 3
  have f4 := fz 4
  unfold Dk.start
  by_cases hd : D.down = true
  · rw [hd] at c3
    rw [if_pos hd]
    have b1 := heap_setCell_same w p 3 _ _ (.bool false) h.blk
    have b2 := heap_setCell_same _ p 4 _ _ (.int .i64 ((D.starts : Int) + 1)) b1
    clear fz
    have H := Lib.hid h; have H0 := Lib.hid h0; have B2 := Lib.hid b2; have HS := Lib.hid hs; clear h h0 b1 b2 hs
    have hs' : (D.starts : Int) < 1000000000 := by have := HS.out; omega
    go_enter Tryz.func25, Tryz.ntmps25
    go_wp2_with (go_at_call 64; refine hn.mono ?_; rintro e w' ⟨rfl, rfl⟩)
    go_ret
    refine ⟨rfl, _, ⟨mb, es, clk, lv, H.out.header (D' := { D with down := false, starts := D.starts + 1 }) ?_ ?_ rfl rfl ?_, rfl⟩, ?_, fun b hb => .inl hb⟩
    · exact B2.out
    · intro b hb
      rw [heap_setCell_other _ _ _ _ (by simpa using hb), heap_setCell_other _ _ _ _ (by simpa using hb)]
    · have hw := H.out.wf
      exact ⟨hw.keys, hw.size, hw.cap, hw.offs, hw.long, hw.many, hw.left, hw.keep, hw.fails, by have := HS.out; show D.starts + 1 ≤ _; omega, hw.ints⟩
    · exact ((Upd.refl _ _).setCell (.inl (by simp [foot])) _).setCell (.inl (by simp [foot])) _
  · have hd' : D.down = false := by simpa using hd
    rw [hd'] at c3
    rw [if_neg hd]
    clear fz
    have H0 := Lib.hid h0; clear h h0 hd hd' hs
    go_enter Tryz.func25, Tryz.ntmps25
    go_wp2_with (go_at_call 64; refine hn.mono ?_; rintro e w' ⟨rfl, rfl⟩)
    go_ret
    exact ⟨rfl, Moves.refl H0.out⟩

theorem fail_at {w : World} {p : Nat} {D : Dk} {fp : List Nat} (h : DiskAt w p D fp) (n k : Int) (hn : Dk.I64 n) (hk : Dk.I64 k) :
    Calls Tryz.prog 28 #[.pointer (some ⟨p, 0, none⟩), .int .i64 n, .int .i64 k] w fun e w' => e = .returned (.int .i64 (D.fail n k).2) ∧ Moves w p fp (D.fail n k).1 w' := by
  have hr := ready_at h
  have h0 := h
  obtain ⟨mb, es, clk, lv, h, rfl⟩ := h
  obtain ⟨-, -, -, -, -, c5, c6, c7, fz⟩ := h.cells
  have f5 := fz 5
  have f6 := fz 6
  have f7 := fz 7
  unfold Dk.fail
  by_cases hd : D.down = true
  · rw [if_pos hd]
    have e0 : D.ready = 61 := by simp [Dk.ready, hd]
    rw [e0] at hr
    clear fz f5 f6 f7 c5 c6 c7 hd e0
    have H0 := Lib.hid h0; clear h h0
    go_enter Tryz.func28, Tryz.ntmps28
    go_wp2_with (go_at_call 46; refine hr.mono ?_; rintro e w' ⟨rfl, rfl⟩)
    go_ret
    exact ⟨rfl, Moves.refl H0.out⟩
  · rw [if_neg hd]
    have hd' : D.down = false := by simpa using hd
    have e0 : D.ready = 0 := by simp [Dk.ready, hd']
    rw [e0] at hr
    by_cases hn0 : n < 0
    · rw [if_pos hn0]
      clear fz f5 f6 f7 c5 c6 c7 hd e0 hd'
      have H0 := Lib.hid h0; clear h h0
      go_enter Tryz.func28, Tryz.ntmps28
      go_wp2_with (go_at_call 46; refine hr.mono ?_; rintro e w' ⟨rfl, rfl⟩)
      go_ret
      exact ⟨rfl, Moves.refl H0.out⟩
    · rw [if_neg hn0]
      have b1 := heap_setCell_same w p 5 _ _ (.bool true) h.blk
      have b2 := heap_setCell_same _ p 6 _ _ (.int .i64 n) b1
      have b3 := heap_setCell_same _ p 7 _ _ (.int .i64 k) b2
      clear fz e0 hd hd'
      have H := Lib.hid h; have H0 := Lib.hid h0; have B3 := Lib.hid b3; clear h h0 b1 b2 b3
      go_enter Tryz.func28, Tryz.ntmps28
      go_wp2_with (go_at_call 46; refine hr.mono ?_; rintro e w' ⟨rfl, rfl⟩)
      go_ret
      refine ⟨rfl, _, ⟨mb, es, clk, lv, H.out.header (D' := { D with fails := true, left := n, keep := k }) ?_ ?_ rfl rfl ?_, rfl⟩, ?_, fun b hb => .inl hb⟩
      · exact B3.out
      · intro b hb
        rw [heap_setCell_other _ _ _ _ (by simpa using hb), heap_setCell_other _ _ _ _ (by simpa using hb), heap_setCell_other _ _ _ _ (by simpa using hb)]
      · have hw := H.out.wf
        exact ⟨hw.keys, hw.size, hw.cap, hw.offs, hw.long, hw.many, hn, hk, fun _ => by show (-1 : Int) ≤ n; omega, hw.starts, hw.ints⟩
      · exact (((Upd.refl _ _).setCell (.inl (by simp [foot])) _).setCell (.inl (by simp [foot])) _).setCell (.inl (by simp [foot])) _

theorem sinks_no {w : World} {p : Nat} {D : Dk} {fp : List Nat} (h : DiskAt w p D fp) (hs : D.sinks = false) :
    Calls Tryz.prog 48 #[.pointer (some ⟨p, 0, none⟩)] w fun e w' => e = .returned (.bool false) ∧ Moves w p fp D.tick w' := by
  have h0 := h
  obtain ⟨mb, es, clk, lv, h, rfl⟩ := h
  obtain ⟨-, -, -, -, -, c5, c6, -, fz⟩ := h.cells
  have f6 := fz 6
  have hw := h.wf
  unfold Dk.tick
  by_cases hd : D.fails = true
  · rw [if_pos hd]
    rw [hd] at c5
    have hl : 1 ≤ D.left := by
      simp [Dk.sinks, hd] at hs
      omega
    have hl2 := hw.left.2
    have b1 := heap_setCell_same w p 6 _ _ (.int .i64 (D.left - 1)) h.blk
    have H := Lib.hid h; have H0 := Lib.hid h0; have B1 := Lib.hid b1; have HD := Lib.hid hd; have HW := Lib.hid hw; clear h h0 b1 hd hs fz hw
    go_enter Tryz.func48, Tryz.ntmps48
    go_wp2
    go_ret
    refine ⟨by simp; omega, _, ⟨mb, es, clk, lv, H.out.header (D' := { D with left := D.left - 1 }) ?_ ?_ rfl rfl ?_, rfl⟩, ?_, fun b hb => .inl hb⟩
    · exact B1.out
    · intro b hb
      rw [heap_setCell_other _ _ _ _ (by simpa using hb)]
    · have hw := HW.out
      exact ⟨hw.keys, hw.size, hw.cap, hw.offs, hw.long, hw.many, ⟨by show _ ≤ D.left - 1; omega, by show D.left - 1 ≤ _; omega⟩, hw.keep, fun _ => by show (-1 : Int) ≤ D.left - 1; omega, hw.starts, hw.ints⟩
    · exact (Upd.refl _ _).setCell (.inl (by simp [foot])) _
  · rw [if_neg hd]
    have hd' : D.fails = false := by simpa using hd
    rw [hd'] at c5
    have H0 := Lib.hid h0; clear h h0 hd hd' hs fz c6 f6 hw
    go_enter Tryz.func48, Tryz.ntmps48
    go_wp2
    go_ret
    exact ⟨rfl, Moves.refl H0.out⟩

theorem sinks_yes {w : World} {p : Nat} {D : Dk} {fp : List Nat} (h : DiskAt w p D fp) (ho : D.Ok) (hs : D.sinks = true) :
    Calls Tryz.prog 48 #[.pointer (some ⟨p, 0, none⟩)] w fun e w' => e = .returned (.bool true) ∧ Moves w p fp D.tick w' := by
  obtain ⟨mb, es, clk, lv, h, rfl⟩ := h
  obtain ⟨-, -, -, -, -, c5, c6, -, fz⟩ := h.cells
  have f6 := fz 6
  have hw := h.wf
  have hd : D.fails = true := by simp [Dk.sinks] at hs; exact hs.1
  have hl : D.left = 0 := by
    have := ho hd
    simp [Dk.sinks, hd] at hs
    omega
  unfold Dk.tick
  rw [if_pos hd]
  rw [hd] at c5
  rw [hl] at c6
  have b1 := heap_setCell_same w p 6 _ _ (.int .i64 (D.left - 1)) h.blk
  rw [hl] at b1
  have H := Lib.hid h; have B1 := Lib.hid b1; have HD := Lib.hid hd; have HW := Lib.hid hw; have HL := Lib.hid hl; clear h b1 hd hs fz hw ho hl
  go_enter Tryz.func48, Tryz.ntmps48
  go_wp2
  go_ret
  refine ⟨rfl, _, ⟨mb, es, clk, lv, H.out.header (D' := { D with left := D.left - 1 }) ?_ ?_ rfl rfl ?_, rfl⟩, ?_, fun b hb => .inl hb⟩
  · rw [HL.out]; exact B1.out
  · intro b hb
    rw [heap_setCell_other _ _ _ _ (by simpa using hb)]
  · have hw := HW.out
    have hl := HL.out
    exact ⟨hw.keys, hw.size, hw.cap, hw.offs, hw.long, hw.many, ⟨by show _ ≤ D.left - 1; omega, by show D.left - 1 ≤ _; omega⟩, hw.keep, fun _ => by show (-1 : Int) ≤ D.left - 1; omega, hw.starts, hw.ints⟩
  · exact (Upd.refl _ _).setCell (.inl (by simp [foot])) _
end Go.Proofs.YtogkdoooimcemaaGreatDoor
