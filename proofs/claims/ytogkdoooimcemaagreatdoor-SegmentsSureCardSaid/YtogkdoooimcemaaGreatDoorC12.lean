/- A slice of strings in memory, and its slices. Conditions: those of each lemma.
  A region that draws its order, walked in ONE order, where an operation that looks at memory may come as late as among the stores of the tail: it looks by a condition S0 that the tail keeps. Conditions: those of 'wp_region_can3'.
  Segments.Cut. Conditions: those of each lemma.
  A region that draws its order, walked in ONE order: light operations by a condition S on the world (0) or, where they may come as late as among the tail's stores, by a condition S0 that the tail keeps (2); those that act (1); then the tail. Conditions: those of 'wp_region_can4'. -/
import Derived.Test.YtogkdoooimcemaaGreatDoorC08
import Derived.Test.YtogkdoooimcemaaGreatDoorC11
import Derived.Test.YtogkdoooimcemaaGreatDoorC10
/- SegS -/
namespace Go.Proofs.YtogkdoooimcemaaGreatDoor
open Go Go.RowKit
open Go.ChangeMaps (setBlock)
set_option maxRecDepth 20000

/-- v is a slice of these strings -/
def StrsAt (w : World) (v : Value) (L : List (List UInt8)) : Prop :=
  (v = .slice none 0 0 ∧ L = []) ∨ ∃ g off cap, v = .slice (some ⟨g, off, none⟩) L.length cap ∧ L.length ≤ cap ∧ cap ≤ maxLen ∧ ∀ j (hj : j < L.length), w.cell? ⟨g, off + j, none⟩ = some (.string ⟨L[j].toArray⟩)
theorem StrsAt.reads {w : World} {v : Value} {L : List (List UInt8)} (h : StrsAt w v L) : ReadAt w v (svs L) := by
  rcases h with ⟨rfl, rfl⟩ | ⟨g, off, cap, rfl, h1, h2, h3⟩
  · exact .inl ⟨_, _, rfl, rfl⟩
  · refine .inr ⟨⟨g, off, none⟩, cap, by simp [svs], fun j u hj => ?_⟩
    rw [addr_add]
    unfold svs at hj
    rw [List.getElem?_map] at hj
    cases hl : L[j]? with
    | none => rw [hl] at hj; simp at hj
    | some x =>
      rw [hl] at hj
      simp only [Option.map_some, Option.some.injEq] at hj
      obtain ⟨hlt, hx⟩ := List.getElem?_eq_some_iff.1 hl
      rw [h3 j hlt, hx, hj]
theorem StrsAt.keep {w w' : World} {v : Value} {L : List (List UInt8)} (h : StrsAt w v L) (hk : ∀ p u, w.cell? p = some u → w'.cell? p = some u) : StrsAt w' v L := by
  rcases h with h | ⟨g, off, cap, rfl, h1, h2, h3⟩
  · exact .inl h
  · exact .inr ⟨g, off, cap, rfl, h1, h2, fun j hj => hk _ _ (h3 j hj)⟩
theorem StrsAt.upd {w w' : World} {v : Value} {L : List (List UInt8)} (h : StrsAt w v L) (hu : Upd [] w w') : StrsAt w' v L := h.keep fun p u hp => (hu.cell (block_lt_of_cell hp) (by simp)).trans hp
theorem RowAt.strs {w : World} {v : Value} {L : List (List UInt8)} (h : RowAt w 9 v (svs L)) : StrsAt w v L := by
  rcases h with ⟨rfl, h0⟩ | ⟨g, cap, cur, rfl, h1, h2, h3, h4, h5⟩
  · refine .inl ⟨rfl, ?_⟩
    cases L with
    | nil => rfl
    | cons a l => simp [svs] at h0
  · have hl : (svs L).length = L.length := by simp [svs]
    refine .inr ⟨g, 0, cap, by rw [hl], by omega, h4, fun j hj => ?_⟩
    rw [Nat.zero_add]
    exact RowAt.cell (.inr ⟨g, cap, cur, rfl, h1, h2, h3, h4, h5⟩ : RowAt w 9 (.slice (some ⟨g, 0, none⟩) (svs L).length cap) (svs L)) j _ (by simp [svs, hj])
theorem StrsAt.slice {w : World} {v : Value} {L : List (List UInt8)} (h : StrsAt w v L) : ∃ a c, v = .slice a L.length c := by
  rcases h with ⟨rfl, rfl⟩ | ⟨g, off, cap, rfl, _⟩
  · exact ⟨_, _, rfl⟩
  · exact ⟨_, _, rfl⟩
/-- the first ones -/
theorem StrsAt.to {w : World} {v : Value} {L : List (List UInt8)} (h : StrsAt w v L) (k : Nat) (hk : k ≤ L.length) :
    ∃ v', (∀ u, (Instr.slice 22 v none (some (.int .i64 k)) none).run Tryz.prog u = .ok v' u) ∧ StrsAt w v' (L.take k) ∧ ∃ a c, v' = .slice a k c := by
  have hsz := fun (u : World) => Tryz.sizeOf9 u
  rcases h with ⟨rfl, rfl⟩ | ⟨g, off, cap, rfl, h1, h2, h3⟩
  · simp at hk
    subst hk
    refine ⟨.slice none 0 0, fun u => ?_, .inl ⟨rfl, rfl⟩, _, _, rfl⟩
    rw [run_slice_h u 22 none 0 0 Tryz.underlying22 .i64 ((0 : Nat) : Int) (by omega) (by omega)]
    rw [show (sizeOf (Tryz.prog.elem 22)).run Tryz.prog u = .ok 1 u from hsz u]
    simp [Result.andThen, sliced]
  · refine ⟨.slice (some ⟨g, off, none⟩) k cap, fun u => ?_, .inr ⟨g, off, cap, by simp; omega, by simp; omega, h2, fun j hj => ?_⟩, _, _, rfl⟩
    · rw [run_slice_h u 22 (some ⟨g, off, none⟩) L.length cap Tryz.underlying22 .i64 k (by omega) (by omega)]
      rw [show (sizeOf (Tryz.prog.elem 22)).run Tryz.prog u = .ok 1 u from hsz u]
      simp [Result.andThen, sliced, addr_add]
    · simp at hj
      rw [h3 j (by omega)]; simp
/-- those from one on -/
theorem StrsAt.from_ {w : World} {v : Value} {L : List (List UInt8)} (h : StrsAt w v L) (k : Nat) (hk : k ≤ L.length) :
    ∃ v', (∀ u, (Instr.slice 22 v (some (.int .i64 k)) none none).run Tryz.prog u = .ok v' u) ∧ StrsAt w v' (L.drop k) ∧ ∃ a c, v' = .slice a (L.length - k) c := by
  have hsz := fun (u : World) => Tryz.sizeOf9 u
  rcases h with ⟨rfl, rfl⟩ | ⟨g, off, cap, rfl, h1, h2, h3⟩
  · simp at hk
    subst hk
    refine ⟨.slice none 0 0, fun u => ?_, .inl ⟨rfl, rfl⟩, _, _, rfl⟩
    rw [run_slice_l u 22 none 0 0 Tryz.underlying22 .i64 ((0 : Nat) : Int) (by omega) (by omega)]
    rw [show (sizeOf (Tryz.prog.elem 22)).run Tryz.prog u = .ok 1 u from hsz u]
    simp [Result.andThen, sliced]
  · refine ⟨.slice (some (if cap = k then ⟨g, off, none⟩ else ⟨g, off + k, none⟩)) (L.length - k) (cap - k), fun u => ?_, ?_, _, _, rfl⟩
    · rw [run_slice_l u 22 (some ⟨g, off, none⟩) L.length cap Tryz.underlying22 .i64 k (by omega) (by omega)]
      rw [show (sizeOf (Tryz.prog.elem 22)).run Tryz.prog u = .ok 1 u from hsz u]
      simp only [Result.andThen, sliced, Int.toNat_natCast, Nat.mul_one, Option.map_some, addr_add]
      by_cases hc : cap = k <;> simp [hc]
    · by_cases hc : cap = k
      · rw [if_pos hc]
        exact .inr ⟨g, off, cap - k, by simp, by simp; omega, by omega, fun j hj => by simp at hj; omega⟩
      · rw [if_neg hc]
        refine .inr ⟨g, off + k, cap - k, by simp, by simp; omega, by omega, fun j hj => ?_⟩
        simp at hj
        have := h3 (k + j) (by omega)
        rw [← Nat.add_assoc] at this
        rw [this]; simp

theorem endsFrom_snoc : ∀ (p : Nat) (l : List (List UInt8)) (x : List UInt8), endsFrom p (l ++ [x]) = endsFrom p l ++ [((p + ((l ++ [x]).flatMap frameOf).length : Nat) : Int)]
  | p, [], x => by simp [endsFrom, length_frameOf]
  | p, a :: l, x => by
    have := endsFrom_snoc (p + (12 + a.length)) l x
    simp only [List.cons_append, endsFrom, this, List.flatMap_cons, List.length_append, length_frameOf]
    rw [Nat.add_assoc]
theorem endsFrom_len : ∀ (p : Nat) (l : List (List UInt8)), (endsFrom p l).length = l.length
  | _, [] => rfl
  | p, a :: l => by simp [endsFrom, endsFrom_len]
theorem endsFrom_pos : ∀ (p : Nat) (l : List (List UInt8)), ∀ x ∈ endsFrom p l, 0 ≤ x
  | _, [], x, h => by simp [endsFrom] at h
  | p, a :: l, x, h => by
    simp only [endsFrom, List.mem_cons] at h
    rcases h with rfl | h
    · omega
    · exact endsFrom_pos _ l x h
theorem endsFrom_bd : ∀ (p : Nat) (l : List (List UInt8)) (n : Int), ((p + 212 * l.length : Nat) : Int) ≤ n → (∀ x ∈ l, x.length ≤ 200) → ∀ x ∈ endsFrom p l, x ≤ n
  | _, [], n, _, _, x, h => by simp [endsFrom] at h
  | p, a :: l, n, hn, hl, x, h => by
    have h2 := hl a (by simp)
    simp only [List.length_cons] at hn
    simp only [endsFrom, List.mem_cons] at h
    rcases h with rfl | h
    · omega
    · exact endsFrom_bd _ l n (by omega) (fun y hy => hl y (by simp [hy])) x h
theorem flat_le : ∀ (l : List (List UInt8)), (∀ x ∈ l, x.length ≤ 200) → (l.flatMap frameOf).length ≤ l.length * 212
  | [], _ => by simp
  | a :: l, h => by
    have h1 := flat_le l (fun x hx => h x (by simp [hx]))
    have h2 := h a (by simp)
    simp only [List.flatMap_cons, List.length_append, length_frameOf, List.length_cons]
    omega
theorem endOf_pos {ends : List Int} (h : ∀ x ∈ ends, 0 ≤ x) (n : Nat) : 0 ≤ Sg.endOf ends n := by
  unfold Sg.endOf
  split
  · omega
  · rw [List.getD_eq_getElem?_getD]
    cases hx : ends[n - 1]? with
    | none => simp
    | some y => exact h y (List.mem_of_getElem? hx)
end Go.Proofs.YtogkdoooimcemaaGreatDoor

/- Reg3 -/
namespace Go
section
variable {P : Program} {ops : Array Oper} {Q : Exit → Act → World → Prop} {md : Region.Mode} {S S0 : World → Prop} {T : Nat → World → Prop}

/-- the tail, each operation keeping S0 -/
def wpTail (P : Program) (ops : Array Oper) (Q : Exit → Act → World → Prop) (S0 : World → Prop) : List Nat → Act → World → Prop
  | [], a, w => Q .normal a w
  | i :: r, a, w => wpOp P ops Q i (fun a' w' => S0 w' ∧ wpTail P ops Q S0 r a' w') a w
theorem canTail3_sound : ∀ (k n : Nat) (l : Array Bool) (a : Act) (w : World), canTail md ops k n l = true → (∀ j w, n ≤ j → S0 w → T j w) →
    wpTail P ops Q S0 (List.range' n k) a w → wpAnyT P md ops Q T k l a w
  | 0, n, l, a, w, h, _, hw => ⟨by simpa [canTail] using h, hw⟩
  | k + 1, n, l, a, w, h, hT, hw => by
    simp only [canTail, Bool.and_eq_true, beq_iff_eq] at h
    refine ⟨fun h0 => (by rw [h.1] at h0; cases h0), fun i hi => ?_⟩
    rw [h.1] at hi
    obtain rfl : i = n := by simpa using hi
    rw [List.range'_succ] at hw
    exact wpOp_mono (fun a' w' h' => ⟨hT i w' (Nat.le_refl _) h'.1, canTail3_sound k (i + 1) _ a' w' h.2 (fun j w hj => hT j w (by omega)) h'.2⟩) hw

def wpCan3 (P : Program) (ops : Array Oper) (Q : Exit → Act → World → Prop) (S S0 : World → Prop) (K : Act → World → Prop) : List (Nat × Nat) → Act → World → Prop
  | [], a, w => K a w
  | (i, 0) :: r, a, w => ∃ o v, ops[i]? = some o ∧ YieldsIf P ops S o v a ∧ wpCan3 P ops Q S S0 K r (a.put o.dst v) w
  | (i, 1) :: r, a, w => wpOp P ops Q i (fun a' w' => S w' ∧ wpCan3 P ops Q S S0 K r a' w') a w
  | (i, _ + 2) :: r, a, w => ∃ o v, ops[i]? = some o ∧ YieldsIf P ops S0 o v a ∧ wpCan3 P ops Q S S0 K r (a.put o.dst v) w
theorem canHead3_rest (hs : Region.noSelect ops = true) (hQ : ∀ c a d v w, Q (.panic c) (a.put d v) w → Q (.panic c) a w) (n k : Nat) {Inv : Array Bool → Prop}
    (hInv : ∀ (l : Array Bool) j, Inv l → j ∈ Region.ready md ops l → Inv (l.setIfInBounds j true))
    (hST : ∀ j w, S w → T j w) (hT : ∀ j w, n ≤ j → S0 w → T j w) :
    ∀ (hd : List (Nat × Nat)) (l : Array Bool) (a : Act) (w : World), (∀ x ∈ hd, x.2 < 2) → canHead2 md ops hd l = true → canTail md ops k n (allListed2 hd l) = true → Inv l →
      (∀ x ∈ hd, ∀ (l : Array Bool) j w, Inv l → j ∈ Region.ready md ops l → l.getD x.1 true = false → T j w → S w) →
      S w → wpCan3 P ops Q S S0 (wpTail P ops Q S0 (List.range' n k)) hd a w → wpAnyT P md ops Q T (hd.length + k) l a w
  | [], l, a, w, _, _, ht, _, _, _, hw => by
    rw [List.length_nil, Nat.zero_add]; exact canTail3_sound k n l a w ht hT hw
  | (i, 0) :: r, l, a, w, h2, h, ht, hI, hx, hS, hw => by
    obtain ⟨hri, hf, hr⟩ := canHead2_light rfl h
    obtain ⟨o, v, ho, hy, hw⟩ := hw
    rw [List.length_cons, Nat.add_right_comm]
    refine wpAnyT.first2 (Inv := Inv) ho (Region.noSelect_spec hs) (fun c a w => hQ c a o.dst v w) (hST i) hInv (fun l j w hI hj hl ht' => hx (i, 0) (by simp) l j w hI hj hl ht') _ l a w hI (Region.free_spec ho hf) hri hy hS ?_
    exact canHead3_rest hs hQ n k hInv hST hT r _ _ w (fun x hm => h2 x (by simp [hm])) hr ht (hInv _ _ hI hri) (fun x hm => hx x (by simp [hm])) hS hw
  | (i, 1) :: r, l, a, w, h2, h, ht, hI, hx, hS, hw => by
    simp only [canHead2, beq_self_eq_true, if_true, Bool.and_eq_true, beq_iff_eq] at h
    rw [List.length_cons, Nat.add_right_comm]
    refine ⟨fun h0 => (by rw [h.1] at h0; cases h0), fun j hj => ?_⟩
    have hj' := hj
    rw [h.1] at hj
    obtain rfl : j = i := by simpa using hj
    refine wpOp_mono (fun a' w' h' => ⟨hST _ _ h'.1, ?_⟩) hw
    exact canHead3_rest hs hQ n k hInv hST hT r _ a' w' (fun x hm => h2 x (by simp [hm])) h.2 ht (hInv _ _ hI hj') (fun x hm => hx x (by simp [hm])) h'.1 h'.2
  | (i, m + 2) :: r, l, a, w, h2, _, _, _, _, _, _ => by
    have := h2 (i, m + 2) (by simp)
    exact absurd this (by simp)

theorem canHead3_sound (hs : Region.noSelect ops = true) (hQ : ∀ c a d v w, Q (.panic c) (a.put d v) w → Q (.panic c) a w) (n k : Nat) (pures : List Nat)
    (hST : ∀ j w, S w → T j w) (hT : ∀ j w, n ≤ j → S0 w → T j w) (hTp : ∀ j w, j ∈ pures → S0 w → T j w) (hT0 : ∀ j w, T j w → S0 w) (hSS : ∀ w, S w → S0 w) :
    ∀ (hd : List (Nat × Nat)) (done : List Nat) (l : Array Bool) (a : Act) (w : World), puresFirst hd = true → (∀ x ∈ hd, x.2 ≤ 2) → (∀ x ∈ hd, x.2 = 2 → x.1 ∈ pures) → (∀ p ∈ pures, p ∈ done ∨ ∃ x ∈ hd, x.2 = 2 ∧ x.1 = p) → canHead2 md ops hd l = true → canTail md ops k n (allListed2 hd l) = true → Closed md ops l → (∀ p ∈ done, l.getD p false = true) →
      (∀ x ∈ hd, x.2 < 2 → ∀ (l : Array Bool) j w, Closed md ops l → (∀ p ∈ pures, l.getD p false = true) → j ∈ Region.ready md ops l → l.getD x.1 true = false → T j w → S w) →
      S w → wpCan3 P ops Q S S0 (wpTail P ops Q S0 (List.range' n k)) hd a w → wpAnyT P md ops Q T (hd.length + k) l a w
  | (i, 2) :: r, done, l, a, w, hp, h2, hin, hcov, h, ht, hc, hd, hx, hS, hw => by
    obtain ⟨hri, hf, hr⟩ := canHead2_light rfl h
    obtain ⟨o, v, ho, hy, hw⟩ := hw
    have hip : i ∈ pures := hin (i, 2) (by simp) rfl
    rw [List.length_cons, Nat.add_right_comm]
    refine wpAnyT.first2 (S := S0) (Inv := fun _ => True) ho (Region.noSelect_spec hs) (fun c a w => hQ c a o.dst v w) (fun w h => hTp i w hip h) (fun _ _ _ _ => trivial) (fun _ j w _ _ _ h => hT0 j w h) _ l a w trivial (Region.free_spec ho hf) hri hy (hSS w hS) ?_
    have hl : i < l.size ∨ l.size ≤ i := Nat.lt_or_ge i l.size
    refine canHead3_sound hs hQ n k pures hST hT hTp hT0 hSS r (i :: done) _ _ w (by simpa [puresFirst] using hp) (fun x hm => h2 x (by simp [hm])) (fun x hm => hin x (by simp [hm])) (fun p hpp => ?_) hr ht (hc.set hri) (fun p hpp => ?_) (fun x hm => hx x (by simp [hm])) hS hw
    · rcases hcov p hpp with h | ⟨x, hm, h1, h3⟩
      · exact .inl (by simp [h])
      · rcases List.mem_cons.1 hm with rfl | hm
        · exact .inl (by simp [← h3])
        · exact .inr ⟨x, hm, h1, h3⟩
    · rcases List.mem_cons.1 hpp with rfl | hpp
      · have hlt : p < l.size := by
          have := (mem_ready.1 hri).1
          rcases hl with h | h
          · exact h
          · simp [Array.getElem?_eq_none h] at this
        simp [hlt]
      · exact getD_set_true (hd p hpp)
  | [], done, l, a, w, _, _, _, _, h, ht, _, _, _, hS, hw => by
    rw [List.length_nil, Nat.zero_add]; exact canTail3_sound k n l a w ht hT hw
  | (i, 0) :: r, done, l, a, w, hp, h2, _, hcov, h, ht, hc, hd, hx, hS, hw => by
    have hlt : ∀ x ∈ (i, 0) :: r, x.2 < 2 := by
      intro x hm
      rcases List.mem_cons.1 hm with rfl | hm
      · simp
      · simp [puresFirst] at hp; exact hp x.1 x.2 hm
    have hpd : ∀ p ∈ pures, l.getD p false = true := fun p hpp => by
      rcases hcov p hpp with h | ⟨x, hm, h1, _⟩
      · exact hd p h
      · have := hlt x hm; omega
    exact canHead3_rest hs hQ n k (Inv := fun l => Closed md ops l ∧ ∀ p ∈ pures, l.getD p false = true) (fun l j hI hj => ⟨hI.1.set hj, fun p hpp => getD_set_true (hI.2 p hpp)⟩) hST hT _ l a w hlt h ht ⟨hc, hpd⟩
      (fun x hm l j w hI hj hl ht' => hx x hm (hlt x hm) l j w hI.1 hI.2 hj hl ht') hS hw
  | (i, 1) :: r, done, l, a, w, hp, h2, _, hcov, h, ht, hc, hd, hx, hS, hw => by
    have hlt : ∀ x ∈ (i, 1) :: r, x.2 < 2 := by
      intro x hm
      rcases List.mem_cons.1 hm with rfl | hm
      · simp
      · simp [puresFirst] at hp; exact hp x.1 x.2 hm
    have hpd : ∀ p ∈ pures, l.getD p false = true := fun p hpp => by
      rcases hcov p hpp with h | ⟨x, hm, h1, _⟩
      · exact hd p h
      · have := hlt x hm; omega
    exact canHead3_rest hs hQ n k (Inv := fun l => Closed md ops l ∧ ∀ p ∈ pures, l.getD p false = true) (fun l j hI hj => ⟨hI.1.set hj, fun p hpp => getD_set_true (hI.2 p hpp)⟩) hST hT _ l a w hlt h ht ⟨hc, hpd⟩
      (fun x hm l j w hI hj hl ht' => hx x hm (hlt x hm) l j w hI.1 hI.2 hj hl ht') hS hw
  | (i, m + 3) :: r, _, _, _, _, _, h2, _, _, _, _, _, _, _, _, _ => by
    have := h2 (i, m + 3) (by simp)
    exact absurd this (by simp)

theorem wp_region_can3' {id : Nat} {a : Act} {w : World} (hd : List (Nat × Nat)) (n : Nat) (S S0 : World → Prop) (hm : P.follows .mixedOrders = true)
    (hSS : ∀ w, S w → S0 w) (hok : canRegion2 ops hd n = true) (hQ : ∀ c a d v w, Q (.panic c) (a.put d v) w → Q (.panic c) a w) (hS : S w.drew)
    (h : wpCan3 P ops Q S S0 (wpTail P ops Q S0 (List.range' n (ops.size - n))) hd a w.drew) : (Code.region id ops true).wp P Q a w := by
  simp only [canRegion2, Bool.and_eq_true, decide_eq_true_eq, List.all_eq_true] at hok
  obtain ⟨⟨⟨⟨⟨⟨⟨⟨⟨h1, h2⟩, h3⟩, h4⟩, h5⟩, h6⟩, _⟩, h8⟩, h9⟩, h10⟩ := hok
  obtain ⟨pures, hpures⟩ : ∃ pures, pures = (hd.filter fun x => x.2 == 2).map (·.1) := ⟨_, rfl⟩
  have hpm : ∀ p, p ∈ pures ↔ ∃ x ∈ hd, x.2 = 2 ∧ x.1 = p := by
    intro p; rw [hpures]
    simp only [List.mem_map, List.mem_filter, beq_iff_eq]
    constructor
    · rintro ⟨x, ⟨a, b⟩, c⟩; exact ⟨x, a, b, c⟩
    · rintro ⟨x, a, b, c⟩; exact ⟨x, ⟨a, b⟩, c⟩
  refine wp_region_any hm (wpAnyT.any (T := fun j w => S0 w ∧ ((j < n ∧ j ∉ pures) → S w)) _ _ _ _ ?_)
  have key := canHead3_sound (P := P) (Q := Q) (md := .any) (S := S) (T := fun j w => S0 w ∧ ((j < n ∧ j ∉ pures) → S w)) h1 hQ n (ops.size - n) pures (fun j w hS => ⟨hSS w hS, fun _ => hS⟩)
    (fun j w hj h0 => ⟨h0, fun hlt => absurd hlt.1 (by omega)⟩) (fun j w hj h0 => ⟨h0, fun hlt => absurd hj hlt.2⟩) (fun j w h => h.1) hSS hd [] (Array.replicate ops.size false) a w.drew h8 h9 (fun x hx h => (hpm x.1).2 ⟨x, hx, h, rfl⟩) (fun p hp => .inr ((hpm p).1 hp)) h2 h3 (closed_none _) (by simp) ?_ hS ?_
  · rw [h5] at key; exact key
  · intro x hx hx2 l j w hc hpl hj hl hT
    refine hT.2 ⟨?_, ?_⟩
    · rcases Nat.lt_or_ge j n with hlt | hge
      · exact hlt
      · exfalso
        obtain ⟨_, o, ho, hall⟩ := mem_ready.1 hj
        simp only [tailWaits2, List.all_eq_true, List.mem_range] at h4
        have hjs : j < ops.size := by
          rcases Nat.lt_or_ge j ops.size with h' | h'
          · exact h'
          · simp [Array.getElem?_eq_none h'] at ho
        have h7 := h4 j hjs
        simp only [Bool.or_eq_true, decide_eq_true_eq, List.all_eq_true] at h7
        rcases h7 with h7 | h7
        · omega
        · rcases h7 x hx with h7 | h7
          · omega
          · have h11 := hc.reach _ j x.1 o ho hall h7
            rcases Nat.lt_or_ge x.1 l.size with h' | h'
            · simp [h'] at h11 hl; rw [hl] at h11; cases h11
            · simp [Array.getElem?_eq_none h'] at h11
    · intro hjp
      have h11 := hpl j hjp
      have h12 := (mem_ready.1 hj).1
      rcases Nat.lt_or_ge j l.size with h' | h'
      · simp [h'] at h11 h12; rw [h12] at h11; cases h11
      · simp [Array.getElem?_eq_none h'] at h11
  · exact h

/-- The head, by its operations. -/
def wpGo3 (P : Program) (ops : Array Oper) (Q : Exit → Act → World → Prop) (S S0 : World → Prop) (K : Act → World → Prop) : List (Oper × Nat) → Act → World → Prop
  | [], a, w => K a w
  | (o, 0) :: r, a, w => ∃ v, YieldsIf P ops S o v a ∧ wpGo3 P ops Q S S0 K r (a.put o.dst v) w
  | (o, 1) :: r, a, w => if Region.wanted o (yielded ops a.tmps) then o.wp P a w (fun a' w' => S w' ∧ wpGo3 P ops Q S S0 K r a' w') Q ∨ (o.asks P a w ∧ LetsOut Q) else S w ∧ wpGo3 P ops Q S S0 K r (a.put o.dst undef) w
  | (o, _ + 2) :: r, a, w => ∃ v, YieldsIf P ops S0 o v a ∧ wpGo3 P ops Q S S0 K r (a.put o.dst v) w
theorem wpCan3_of_go {K : Act → World → Prop} : ∀ (hd : List (Nat × Nat)) (a : Act) (w : World), (∀ x ∈ hd, x.1 < ops.size) → wpGo3 P ops Q S S0 K (canOps2 ops hd) a w → wpCan3 P ops Q S S0 K hd a w
  | [], _, _, _, h => h
  | (i, b) :: r, a, w, hn, h => by
    have hi' : i < ops.size := hn (i, b) (by simp)
    have hi : ops[i]? = some ops[i] := Array.getElem?_eq_getElem hi'
    have ih := fun a w => wpCan3_of_go (K := K) r a w (fun x hx => hn x (by simp [hx]))
    simp only [canOps2, List.filterMap_cons, hi, Option.map_some] at h
    match b, h with
    | 0, h =>
      obtain ⟨v, hy, h⟩ := h
      exact ⟨_, v, hi, hy, ih _ _ h⟩
    | m + 2, h =>
      obtain ⟨v, hy, h⟩ := h
      exact ⟨_, v, hi, hy, ih _ _ h⟩
    | 1, h =>
      show wpOp P ops Q i _ a w
      unfold wpOp
      simp only [hi]
      simp only [wpGo3] at h
      split at h
      · rename_i hw; rw [if_pos hw]; exact h.imp (Oper.wp_mono fun _ _ h' => ⟨h'.1, ih _ _ h'.2⟩) id
      · rename_i hw; rw [if_neg hw]; exact ⟨h.1, ih _ _ h.2⟩
/-- A REGION THAT DRAWS, IN ONE ORDER. hd: the head's order (2: pure, these first; 0: light under S; 1: acts); n: where the tail begins. -/
theorem wp_region_can3 {id : Nat} {a : Act} {w : World} (hd : List (Nat × Nat)) (n : Nat) (S S0 : World → Prop) (hm : P.follows .mixedOrders = true)
    (hSS : ∀ w, S w → S0 w) (hok : canRegion2 ops hd n = true) (hQ : ∀ c a d v w, Q (.panic c) (a.put d v) w → Q (.panic c) a w) (hS : S w.drew)
    (h : wpGo3 P ops Q S S0 (wpTail P ops Q S0 (List.range' n (ops.size - n))) (canOps2 ops hd) a w.drew) : (Code.region id ops true).wp P Q a w := by
  refine wp_region_can3' hd n S S0 hm hSS hok hQ hS (wpCan3_of_go hd a w.drew ?_ h)
  simp only [canRegion2, Bool.and_eq_true, decide_eq_true_eq, List.all_eq_true] at hok
  intro x hx
  exact hok.1.1.1.2 x hx

variable {K : Act → World → Prop} {r : List (Oper × Nat)} {o : Oper} {a : Act} {w : World}
theorem can3_nil (h : K a w) : wpGo3 P ops Q S S0 K [] a w := h
theorem can3_light {v : Value} (hg : o.guard = none) (hy : ∀ u, S u → (execOp a.eval o).run P u = .ok (.value v) u)
    (h : wpGo3 P ops Q S S0 K r (a.put o.dst v) w) : wpGo3 P ops Q S S0 K ((o, 0) :: r) a w :=
  ⟨v, .inl ⟨by simp [Region.wanted, hg], hy⟩, h⟩
theorem can3_late {v : Value} (hg : o.guard = none) (hy : ∀ u, S0 u → (execOp a.eval o).run P u = .ok (.value v) u)
    (h : wpGo3 P ops Q S S0 K r (a.put o.dst v) w) : wpGo3 P ops Q S S0 K ((o, 2) :: r) a w :=
  ⟨v, .inl ⟨by simp [Region.wanted, hg], hy⟩, h⟩
theorem can3_acts (hg : o.guard = none)
    (h : ∀ K' : Act → World → Prop, (∀ a' w', S w' → wpGo3 P ops Q S S0 K r a' w' → K' a' w') → o.wp P a w K' Q) : wpGo3 P ops Q S S0 K ((o, 1) :: r) a w := by
  simp only [wpGo3, Region.wanted, hg, if_true]
  exact .inl (h _ fun _ _ h1 h2 => ⟨h1, h2⟩)
theorem tail_nil (h : Q .normal a w) : wpTail P ops Q S0 [] a w := h
theorem tail_cons {i : Nat} {l : List Nat} (hi : ops[i]? = some o) (hg : o.guard = none) (h : ∀ K' : Act → World → Prop, (∀ a' w', S0 w' → wpTail P ops Q S0 l a' w' → K' a' w') → o.wp P a w K' Q) : wpTail P ops Q S0 (i :: l) a w := by
  simp only [wpTail, wpOp, hi, Region.wanted, hg, if_true]
  exact .inl (h _ fun _ _ h1 h2 => ⟨h1, h2⟩)
end
end Go

/- Seg11 -/
namespace Go.Proofs.YtogkdoooimcemaaGreatDoor
open Go Go.RowKit
open Go.ChangeMaps (setBlock)
set_option maxRecDepth 20000

theorem sfoot_mem {s : Nat} {ev nv : Value} {b : Nat} : b ∈ sfoot s ev nv ↔ b = s ∨ ev.ownBlock = some b ∨ nv.ownBlock = some b := by
  simp [sfoot]
/-- what an act with segments leaves -/
def SMoves (w : World) (s d : Nat) (sf df : List Nat) (S' : Sg) (D' : Dk) (w' : World) : Prop :=
  ∃ sf' df', SegAt w' s d S' D' sf' df' ∧ Upd (sf ++ df) w w' ∧ (∀ b ∈ sf', b ∈ sf ∨ w.heap.size ≤ b) ∧ (∀ b ∈ df', b ∈ df ∨ w.heap.size ≤ b)
theorem SegAt.upd {w w' : World} {s d : Nat} {S : Sg} {D : Dk} {sf df fp : List Nat} (h : SegAt w s d S D sf df) (hu : Upd fp w w') (hs : ∀ b ∈ sf, b ∉ fp) (hd : ∀ b ∈ df, b ∉ fp) : SegAt w' s d S D sf df := by
  obtain ⟨⟨ev, nv, h1, rfl⟩, h2, h3⟩ := h
  exact ⟨⟨ev, nv, h1.upd hu hs, rfl⟩, h2.upd hu hd, h3⟩
theorem SegAt.lt {w : World} {s d : Nat} {S : Sg} {D : Dk} {sf df : List Nat} (h : SegAt w s d S D sf df) : (∀ b ∈ sf, b < w.heap.size) ∧ (∀ b ∈ df, b < w.heap.size) := by
  obtain ⟨⟨ev, nv, h1, rfl⟩, h2, h3⟩ := h
  exact ⟨h1.lt, h2.lt⟩
theorem SegAt.same {w w' : World} {s d : Nat} {S : Sg} {D : Dk} {sf df : List Nat} (h : SegAt w s d S D sf df) (hu : Upd [] w w') : SMoves w s d sf df S D w' :=
  ⟨sf, df, h.upd hu (by simp) (by simp), hu.mono (by simp), fun _ h => .inl h, fun _ h => .inl h⟩
theorem SegAt.died {w u : World} {s d : Nat} {S : Sg} {D : Dk} {sf df : List Nat} (h : SegAt w s d S D sf df) (hu : Upd [] w u) (b : Bool) : SMoves w s d sf df { S with dead := b } D (u.setCell ⟨s, 4, none⟩ (.bool b)) := by
  obtain ⟨⟨ev, nv, h1, rfl⟩, h2, h3⟩ := h
  have hs : s ∈ sfoot s ev nv := by simp [sfoot]
  refine ⟨_, df, ⟨⟨ev, nv, h1.dead u hu b, rfl⟩, ?_, h3⟩, (hu.mono (by simp)).setCell (.inl (by simp [sfoot])) _, fun _ h => .inl h, fun _ h => .inl h⟩
  exact (h2.upd hu (by simp)).keep fun k hk => heap_setCell_other u ⟨s, 4, none⟩ k _ (by rintro rfl; exact h3 _ hs hk)

theorem cut_nil (w : World) (n : Int) : Calls Tryz.prog 11 #[.pointer none, .int .i64 n] w fun e w' => e = .returned (.int .i64 1) ∧ Upd [] w w' := by
  go_enter Tryz.func11, Tryz.ntmps11
  go_wp2_with (go_at_call 33; refine (sready_nil _).mono ?_; rintro e w' ⟨rfl, rfl⟩)
  go_ret
  exact ⟨rfl, ((Upd.refl _ _).alloc _).alloc _⟩
theorem cut_void (w : World) (s : Nat) (n : Int) (h : w.cell? ⟨s, 0, none⟩ = some (.pointer none)) : Calls Tryz.prog 11 #[.pointer (some ⟨s, 0, none⟩), .int .i64 n] w fun e w' => e = .returned (.int .i64 1) ∧ Upd [] w w' := by
  have hr := fun o o' => sready_void ((w.alloc o).alloc o') s (cell_alloc_any (cell_alloc_any h o) o')
  go_enter Tryz.func11, Tryz.ntmps11
  go_wp2_with (go_at_call 33; refine (hr _ _).mono ?_; rintro e w' ⟨rfl, rfl⟩)
  go_ret
  exact ⟨rfl, ((Upd.refl _ _).alloc _).alloc _⟩

def CutP (w : World) (s d : Nat) (S : Sg) (D : Dk) (n : Int) (sf df : List Nat) (e : Ending) (w' : World) : Prop :=
  e = .returned (.int .i64 (S.cut D n).2.2) ∧ SMoves w s d sf df (S.cut D n).1 (S.cut D n).2.1 w'

/-- the parameters' boxes -/
theorem two_boxes (w : World) (t1 t2 : TypeId) (v1 v2 : Value) : ∃ W, (w.alloc (.cells #[v1] t1)).alloc (.cells #[v2] t2) = W ∧ Upd [] w W ∧ Boxed W w.heap.size t1 v1 ∧ Boxed W (w.heap.size + 1) t2 v2 ∧ W.heap.size = w.heap.size + 2 := by
  refine ⟨_, rfl, ((Upd.refl _ _).alloc _).alloc _, (Boxed.new w t1 v1).alloc _, ?_, by simp⟩
  have := Boxed.new (w.alloc (.cells #[v1] t1)) t2 v2
  rwa [World.size_alloc] at this

set_option maxHeartbeats 1000000 in
theorem cut_off {w : World} {s d : Nat} {S : Sg} {D : Dk} {sf df : List Nat} (h : SegAt w s d S D sf df) (n : Int) (hr : S.ready D = false) :
    Calls Tryz.prog 11 #[.pointer (some ⟨s, 0, none⟩), .int .i64 n] w (CutP w s d S D n sf df) := by
  obtain ⟨W, hW, hu, b1, b2, hsz⟩ := two_boxes w 28 3 (.pointer (some ⟨s, 0, none⟩)) (.int .i64 n)
  have hr1 : Calls Tryz.prog 33 #[.pointer (some ⟨s, 0, none⟩)] W fun e w' => e = .returned (.int .i64 61) ∧ ∃ n, w' = (W.drewN n).setCell ⟨s, 4, none⟩ (.bool true) := by
    obtain ⟨⟨ev, nv, h1, rfl⟩, h2, h3⟩ := h
    exact sready_no (h1.upd hu (by simp)) (h2.upd hu (by simp)) hr
  have c1 := b1.cell
  have HX := Lib.hid (And.intro h (And.intro hu hr))
  have HW := Lib.hid hW
  clear h hu hr b2 hsz b1
  go_enter Tryz.func11, Tryz.ntmps11
  go_wp2_with (go_at_call 33; refine hr1.mono ?_; rintro e w' ⟨rfl, k, rfl⟩)
  go_ret
  unfold CutP
  have e1 : S.cut D n = ({ S with dead := true }, D, 61) := by unfold Sg.cut; rw [if_pos HX.out.2.2]
  rw [e1]
  exact ⟨rfl, HX.out.1.died (HX.out.2.1.trans (drewN_upd W k) (by simp)) true⟩
set_option maxHeartbeats 1000000 in
theorem cut_arg {w : World} {s d : Nat} {S : Sg} {D : Dk} {sf df : List Nat} (h : SegAt w s d S D sf df) (n : Int) (hr : S.ready D = true) (hn : n < 0 ∨ n > S.entries.length) :
    Calls Tryz.prog 11 #[.pointer (some ⟨s, 0, none⟩), .int .i64 n] w (CutP w s d S D n sf df) := by
  obtain ⟨W, hW, hu, b1, b2, hsz⟩ := two_boxes w 28 3 (.pointer (some ⟨s, 0, none⟩)) (.int .i64 n)
  have hr1 : Calls Tryz.prog 33 #[.pointer (some ⟨s, 0, none⟩)] W fun e w' => e = .returned (.int .i64 0) ∧ ∃ n, w' = W.drewN n := by
    obtain ⟨⟨ev, nv, h1, rfl⟩, h2, h3⟩ := h
    exact sready_yes (h1.upd hu (by simp)) (h2.upd hu (by simp)) hr
  have hc : ∃ a c, W.cell? ⟨s, 1, none⟩ = some (.slice a S.entries.length c) := by
    obtain ⟨⟨ev, nv, h1, rfl⟩, h2, h3⟩ := h
    obtain ⟨a, c, hv⟩ := row_len h1.ents
    rw [show (svs S.entries).length = S.entries.length by simp [svs]] at hv
    have := (h1.upd hu (by simp)).cells.2.1
    rw [hv] at this
    exact ⟨a, c, this⟩
  obtain ⟨a, c, cs1⟩ := hc
  have c1 := b1.cell
  have c2 := b2.cell
  have e1 : S.cut D n = (S, D, 2) := by unfold Sg.cut; rw [if_neg (by simp [hr]), if_pos hn]
  have HX := Lib.hid (And.intro h (And.intro hu (And.intro hr e1)))
  have HW := Lib.hid hW
  clear h hu hr b2 hsz b1 e1
  generalize S.entries.length = m at *
  by_cases h0 : n < 0
  · have h0' : decide (n < 0) = true := by simpa using h0
    clear hn
    go_enter Tryz.func11, Tryz.ntmps11
    go_wp2_with (go_at_call 33; refine hr1.mono ?_; rintro e w' ⟨rfl, k, rfl⟩)
    clear hW
    go_quiet (fail)
    go_wp2
    go_ret
    unfold CutP
    rw [HX.out.2.2.2]
    exact ⟨rfl, HX.out.1.same (Upd.trans (g := []) HX.out.2.1 ⟨rfl, rfl, rfl, Nat.le_refl _, fun _ _ _ => rfl⟩ (by simp))⟩
  · have h1 : (m : Int) < n := by omega
    have h0' : decide (n < 0) = false := by simpa using h0
    have h1' : decide ((m : Int) < n) = true := by simpa using h1
    clear hn
    go_enter Tryz.func11, Tryz.ntmps11
    go_wp2_with (go_at_call 33; refine hr1.mono ?_; rintro e w' ⟨rfl, k, rfl⟩)
    clear hW
    go_quiet (fail)
    go_wp2
    go_ret
    unfold CutP
    rw [HX.out.2.2.2]
    exact ⟨rfl, HX.out.1.same (Upd.trans (g := []) HX.out.2.1 ⟨rfl, rfl, rfl, Nat.le_refl _, fun _ _ _ => rfl⟩ (by simp))⟩
end Go.Proofs.YtogkdoooimcemaaGreatDoor

/- Reg4 -/
namespace Go
section
variable {P : Program} {ops : Array Oper} {Q : Exit → Act → World → Prop} {md : Region.Mode} {S S0 : World → Prop} {T : Nat → World → World → Prop}

def wpAnyR (P : Program) (md : Region.Mode) (ops : Array Oper) (Q : Exit → Act → World → Prop) (T : Nat → World → World → Prop) : Nat → Array Bool → Act → World → Prop
  | 0, l, a, w => Region.ready md ops l = [] ∧ Q .normal a w
  | f + 1, l, a, w => (Region.ready md ops l = [] → Q .normal a w) ∧
      ∀ i ∈ Region.ready md ops l, wpOp P ops Q i (fun a' w' => T i w w' ∧ wpAnyR P md ops Q T f (l.setIfInBounds i true) a' w') a w
theorem wpAnyR.any : ∀ (f : Nat) (l : Array Bool) (a : Act) (w : World), wpAnyR P md ops Q T f l a w → wpAny P md ops Q f l a w
  | 0, _, _, _, h => h
  | f + 1, _, _, _, h => ⟨h.1, fun i hi => wpOp_mono (fun _ _ h' => wpAnyR.any f _ _ _ h'.2) (h.2 i hi)⟩
theorem wpAnyR.first {C : World → Prop} {Inv : Array Bool → Prop} {i : Nat} {oi : Oper} {v : Value} (hi : ops[i]? = some oi) (hsel : ∀ (j : Nat) (o : Oper) cs b, ops[j]? = some o → o.op ≠ .select cs b)
    (hQ : ∀ c a w, Q (.panic c) (a.put oi.dst v) w → Q (.panic c) a w) (hT : ∀ w, T i w w) (hInv : ∀ (l : Array Bool) j, Inv l → j ∈ Region.ready md ops l → Inv (l.setIfInBounds j true))
    (hTS : ∀ (l : Array Bool) j w w', Inv l → j ∈ Region.ready md ops l → l.getD i true = false → C w → T j w w' → C w') :
    ∀ (f : Nat) (l : Array Bool) (a : Act) (w : World), Inv l →
      (∀ j oj, ops[j]? = some oj → j ≠ i → l.getD j true = false → (∀ e ∈ oj.after, Region.binds md e = true → e.on ≠ i) → oi.apart ops oj = true) →
      i ∈ Region.ready md ops l → YieldsIf P ops C oi v a → C w →
      wpAnyR P md ops Q T f (l.setIfInBounds i true) (a.put oi.dst v) w → wpAnyR P md ops Q T (f + 1) l a w := by
  intro f
  induction f with
  | zero =>
    intro l a w _ _ hr hy hS H
    refine ⟨fun h => (by rw [h] at hr; cases hr), fun j hj => ?_⟩
    by_cases hji : j = i
    · subst hji; exact hy.wpOp hi hS ⟨hT _, H⟩
    · have h0 := ready_mono hj hji
      rw [H.1] at h0; cases h0
  | succ f ih =>
    intro l a w hI hfree hr hy hS H
    refine ⟨fun h => (by rw [h] at hr; cases hr), fun j hj => ?_⟩
    by_cases hji : j = i
    · subst hji; exact hy.wpOp hi hS ⟨hT _, H⟩
    · obtain ⟨hjun, oj, hoj, _⟩ := mem_ready.1 hj
      have hiF : l.getD i true = false := by simpa using (mem_ready.1 hr).1
      have h2 := wpOp_putIf hoj (hfree j oj hoj hji hjun (ready_waits hj hoj hiF)) (fun cs b => hsel i oi cs b hi) (fun cs b => hsel j oj cs b hoj) hQ hy (H.2 j (ready_mono hj hji))
      refine wpOp_mono (fun a' w' h3 => ⟨h3.2.1, ih (l.setIfInBounds j true) a' w' (hInv l j hI hj) ?_ (ready_mono hr (Ne.symm hji)) h3.1 (hTS l j w w' hI hj hiF hS h3.2.1) ?_⟩) h2
      · intro k ok hk hki hun hno
        refine hfree k ok hk hki ?_ hno
        by_cases hjk : j = k
        · subst hjk; exact hjun
        · rw [getD_set_ne true hjk] at hun; exact hun
      · rw [Array.setIfInBounds_comm _ _ hji]; exact h3.2.2

theorem canTail4_sound : ∀ (k n : Nat) (l : Array Bool) (a : Act) (w : World), canTail md ops k n l = true → (∀ j w w', n ≤ j → S0 w' → T j w w') →
    wpTail P ops Q S0 (List.range' n k) a w → wpAnyR P md ops Q T k l a w
  | 0, n, l, a, w, h, _, hw => ⟨by simpa [canTail] using h, hw⟩
  | k + 1, n, l, a, w, h, hT, hw => by
    simp only [canTail, Bool.and_eq_true, beq_iff_eq] at h
    refine ⟨fun h0 => (by rw [h.1] at h0; cases h0), fun i hi => ?_⟩
    rw [h.1] at hi
    obtain rfl : i = n := by simpa using hi
    rw [List.range'_succ] at hw
    exact wpOp_mono (fun a' w' h' => ⟨hT i w w' (Nat.le_refl _) h'.1, canTail4_sound k (i + 1) _ a' w' h.2 (fun j w w' hj => hT j w w' (by omega)) h'.2⟩) hw

def actsIn (hd : List (Nat × Nat)) (j : Nat) : Bool := hd.any fun x => x.1 == j && x.2 == 1
def lightIn (hd : List (Nat × Nat)) (j : Nat) : Bool := hd.any fun x => x.1 == j && x.2 != 1
def canRegion4 (ops : Array Oper) (hd : List (Nat × Nat)) (n : Nat) : Bool :=
  Region.noSelect ops && canHead2 .any ops hd (Array.replicate ops.size false) && canTail .any ops (ops.size - n) n (allListed2 hd (Array.replicate ops.size false)) && tailWaits2 .any ops hd n && decide (hd.length + (ops.size - n) = ops.size) && hd.all (fun x => x.1 < n) && hd.all (fun x => x.1 < ops.size) && hd.all (fun x => decide (x.2 ≤ 2)) && hd.all (fun x => x.2 == 1 || !actsIn hd x.1) && (List.range n).all (fun j => actsIn hd j || lightIn hd j)

theorem canHead4_sound (hs : Region.noSelect ops = true) (hQ : ∀ c a d v w, Q (.panic c) (a.put d v) w → Q (.panic c) a w) (n k : Nat) (hSS : ∀ w, S w → S0 w)
    (hTt : ∀ j w w', n ≤ j → S0 w' → T j w w') :
    ∀ (hd : List (Nat × Nat)) (l : Array Bool) (a : Act) (w : World), (∀ x ∈ hd, x.2 ≤ 2) → (∀ x ∈ hd, x.2 ≠ 1 → ∀ w, T x.1 w w) → (∀ x ∈ hd, x.2 = 1 → ∀ w w', S w' → T x.1 w w') →
      canHead2 md ops hd l = true → canTail md ops k n (allListed2 hd l) = true → Closed md ops l →
      (∀ x ∈ hd, x.2 = 0 → ∀ (l : Array Bool) j w w', Closed md ops l → j ∈ Region.ready md ops l → l.getD x.1 true = false → S w → T j w w' → S w') →
      (∀ (l : Array Bool) j w w', j ∈ Region.ready md ops l → S0 w → T j w w' → S0 w') →
      S w → wpCan3 P ops Q S S0 (wpTail P ops Q S0 (List.range' n k)) hd a w → wpAnyR P md ops Q T (hd.length + k) l a w
  | [], l, a, w, _, _, _, _, ht, _, _, _, _, hw => by
    rw [List.length_nil, Nat.zero_add]; exact canTail4_sound k n l a w ht hTt hw
  | (i, 0) :: r, l, a, w, h2, hl, ha, h, ht, hc, hx, hx0, hS, hw => by
    obtain ⟨hri, hf, hr⟩ := canHead2_light rfl h
    obtain ⟨o, v, ho, hy, hw⟩ := hw
    rw [List.length_cons, Nat.add_right_comm]
    refine wpAnyR.first (C := S) (Inv := Closed md ops) ho (Region.noSelect_spec hs) (fun c a w => hQ c a o.dst v w) (hl (i, 0) (by simp) (by simp)) (fun l j hI hj => hI.set hj) (fun l j w w' hI hj hli hS hT => hx (i, 0) (by simp) rfl l j w w' hI hj hli hS hT) _ l a w hc (Region.free_spec ho hf) hri hy hS ?_
    exact canHead4_sound hs hQ n k hSS hTt r _ _ w (fun x hm => h2 x (by simp [hm])) (fun x hm => hl x (by simp [hm])) (fun x hm => ha x (by simp [hm])) hr ht (hc.set hri) (fun x hm => hx x (by simp [hm])) hx0 hS hw
  | (i, 2) :: r, l, a, w, h2, hl, ha, h, ht, hc, hx, hx0, hS, hw => by
    obtain ⟨hri, hf, hr⟩ := canHead2_light rfl h
    obtain ⟨o, v, ho, hy, hw⟩ := hw
    rw [List.length_cons, Nat.add_right_comm]
    refine wpAnyR.first (C := S0) (Inv := fun _ => True) ho (Region.noSelect_spec hs) (fun c a w => hQ c a o.dst v w) (hl (i, 2) (by simp) (by simp)) (fun l j hI hj => trivial) (fun l j w w' hI hj hli hS hT => hx0 l j w w' hj hS hT) _ l a w trivial (Region.free_spec ho hf) hri hy (hSS w hS) ?_
    exact canHead4_sound hs hQ n k hSS hTt r _ _ w (fun x hm => h2 x (by simp [hm])) (fun x hm => hl x (by simp [hm])) (fun x hm => ha x (by simp [hm])) hr ht (hc.set hri) (fun x hm => hx x (by simp [hm])) hx0 hS hw
  | (i, 1) :: r, l, a, w, h2, hl, ha, h, ht, hc, hx, hx0, hS, hw => by
    simp only [canHead2, beq_self_eq_true, if_true, Bool.and_eq_true, beq_iff_eq] at h
    rw [List.length_cons, Nat.add_right_comm]
    refine ⟨fun h0 => (by rw [h.1] at h0; cases h0), fun j hj => ?_⟩
    have hj' := hj
    rw [h.1] at hj
    obtain rfl : j = i := by simpa using hj
    refine wpOp_mono (fun a' w' h' => ⟨ha (j, 1) (by simp) rfl _ _ h'.1, ?_⟩) hw
    exact canHead4_sound hs hQ n k hSS hTt r _ a' w' (fun x hm => h2 x (by simp [hm])) (fun x hm => hl x (by simp [hm])) (fun x hm => ha x (by simp [hm])) h.2 ht (hc.set hj') (fun x hm => hx x (by simp [hm])) hx0 h'.1 h'.2
  | (i, m + 3) :: r, _, _, _, h2, _, _, _, _, _, _, _, _, _ => by
    have := h2 (i, m + 3) (by simp)
    exact absurd this (by simp)

/-- A REGION THAT DRAWS, IN ONE ORDER. hd: the head's order (0: light under S; 1: acts; 2: light under S0); n: where the tail begins. -/
theorem wp_region_can4 {id : Nat} {a : Act} {w : World} (hd : List (Nat × Nat)) (n : Nat) (S S0 : World → Prop) (hm : P.follows .mixedOrders = true) (hSS : ∀ w, S w → S0 w)
    (hok : canRegion4 ops hd n = true) (hQ : ∀ c a d v w, Q (.panic c) (a.put d v) w → Q (.panic c) a w) (hS : S w.drew)
    (h : wpGo3 P ops Q S S0 (wpTail P ops Q S0 (List.range' n (ops.size - n))) (canOps2 ops hd) a w.drew) : (Code.region id ops true).wp P Q a w := by
  simp only [canRegion4, Bool.and_eq_true, decide_eq_true_eq, List.all_eq_true, List.mem_range] at hok
  obtain ⟨⟨⟨⟨⟨⟨⟨⟨⟨h1, h2⟩, h3⟩, h4⟩, h5⟩, h6⟩, h7⟩, h8⟩, h9⟩, h10⟩ := hok
  have h := wpCan3_of_go hd a w.drew (fun x hx => h7 x hx) h
  have hact : ∀ x ∈ hd, x.2 = 1 → actsIn hd x.1 = true := fun x hx e => by
    unfold actsIn; rw [List.any_eq_true]; exact ⟨x, hx, by simp [e]⟩
  have hlig : ∀ x ∈ hd, x.2 ≠ 1 → actsIn hd x.1 = false := fun x hx e => by
    have := h9 x hx
    simp only [Bool.or_eq_true, beq_iff_eq, Bool.not_eq_true'] at this
    rcases this with h | h
    · exact absurd h e
    · exact h
  refine wp_region_any hm (wpAnyR.any (T := fun j w w' => if actsIn hd j = true then S w' else if j < n then w' = w else S0 w') _ _ _ _ ?_)
  have key := canHead4_sound (P := P) (Q := Q) (md := .any) (S := S) (S0 := S0) (T := fun j w w' => if actsIn hd j = true then S w' else if j < n then w' = w else S0 w') h1 hQ n (ops.size - n) hSS
    (fun j w w' hj h0 => by
      show if actsIn hd j = true then S w' else if j < n then w' = w else S0 w'
      have : actsIn hd j = false := by
        cases hc : actsIn hd j with
        | false => rfl
        | true =>
          unfold actsIn at hc; rw [List.any_eq_true] at hc
          obtain ⟨x, hx, hxe⟩ := hc
          simp only [Bool.and_eq_true, beq_iff_eq] at hxe
          have := h6 x hx; omega
      rw [this, if_neg (by simp), if_neg (by omega)]; exact h0)
    hd (Array.replicate ops.size false) a w.drew h8 (fun x hx e w => by
      show if actsIn hd x.1 = true then S w else if x.1 < n then w = w else S0 w
      rw [hlig x hx e, if_neg (by simp), if_pos (h6 x hx)]) (fun x hx e w w' h => by
      show if actsIn hd x.1 = true then S w' else if x.1 < n then w' = w else S0 w'
      rw [if_pos (hact x hx e)]; exact h) h2 h3 (closed_none _) ?_ ?_ hS h
  · rw [h5] at key; exact key
  · intro x hx hx0 l j w w' hc hj hl hS hT
    split at hT
    · exact hT
    · split at hT
      · rw [hT]; exact hS
      · exfalso
        rename_i hjn
        obtain ⟨_, o, ho, hall⟩ := mem_ready.1 hj
        simp only [tailWaits2, List.all_eq_true, List.mem_range] at h4
        have hjs : j < ops.size := by
          rcases Nat.lt_or_ge j ops.size with h' | h'
          · exact h'
          · simp [Array.getElem?_eq_none h'] at ho
        have h7 := h4 j hjs
        simp only [Bool.or_eq_true, decide_eq_true_eq, List.all_eq_true] at h7
        rcases h7 with h7 | h7
        · omega
        · rcases h7 x hx with h7 | h7
          · omega
          · have h11 := hc.reach _ j x.1 o ho hall h7
            rcases Nat.lt_or_ge x.1 l.size with h' | h'
            · simp [h'] at h11 hl; rw [hl] at h11; cases h11
            · simp [Array.getElem?_eq_none h'] at h11
  · intro l j w w' hj hS hT
    split at hT
    · exact hSS _ hT
    · split at hT
      · rw [hT]; exact hS
      · exact hT
end
end Go
