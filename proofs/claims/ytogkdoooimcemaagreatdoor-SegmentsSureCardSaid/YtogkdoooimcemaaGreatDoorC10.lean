/- A region that draws its order, walked in ONE order: pure operations (moves) first, then light ones by a condition S on the world, and those that act; then the tail. Conditions: those of 'wp_region_can2'. -/
import Derived.Test.YtogkdoooimcemaaGreatDoorC02
/- Reg2 -/
namespace Go
section
variable {P : Program} {ops : Array Oper} {Q : Exit → Act → World → Prop} {md : Region.Mode} {S : World → Prop} {T : Nat → World → Prop}

theorem wpAnyT.first2 {Inv : Array Bool → Prop} {i : Nat} {oi : Oper} {v : Value} (hi : ops[i]? = some oi) (hsel : ∀ (j : Nat) (o : Oper) cs b, ops[j]? = some o → o.op ≠ .select cs b)
    (hQ : ∀ c a w, Q (.panic c) (a.put oi.dst v) w → Q (.panic c) a w) (hST : ∀ w, S w → T i w) (hInv : ∀ (l : Array Bool) j, Inv l → j ∈ Region.ready md ops l → Inv (l.setIfInBounds j true))
    (hTS : ∀ (l : Array Bool) j w, Inv l → j ∈ Region.ready md ops l → l.getD i true = false → T j w → S w) :
    ∀ (f : Nat) (l : Array Bool) (a : Act) (w : World), Inv l →
      (∀ j oj, ops[j]? = some oj → j ≠ i → l.getD j true = false → (∀ e ∈ oj.after, Region.binds md e = true → e.on ≠ i) → oi.apart ops oj = true) →
      i ∈ Region.ready md ops l → YieldsIf P ops S oi v a → S w →
      wpAnyT P md ops Q T f (l.setIfInBounds i true) (a.put oi.dst v) w → wpAnyT P md ops Q T (f + 1) l a w := by
  intro f
  induction f with
  | zero =>
    intro l a w _ _ hr hy hS H
    refine ⟨fun h => (by rw [h] at hr; cases hr), fun j hj => ?_⟩
    by_cases hji : j = i
    · subst hji; exact hy.wpOp hi hS ⟨hST _ hS, H⟩
    · have h0 := ready_mono hj hji
      rw [H.1] at h0; cases h0
  | succ f ih =>
    intro l a w hI hfree hr hy hS H
    refine ⟨fun h => (by rw [h] at hr; cases hr), fun j hj => ?_⟩
    by_cases hji : j = i
    · subst hji; exact hy.wpOp hi hS ⟨hST _ hS, H⟩
    · obtain ⟨hjun, oj, hoj, _⟩ := mem_ready.1 hj
      have hiF : l.getD i true = false := by simpa using (mem_ready.1 hr).1
      have h2 := wpOp_putIf hoj (hfree j oj hoj hji hjun (ready_waits hj hoj hiF)) (fun cs b => hsel i oi cs b hi) (fun cs b => hsel j oj cs b hoj) hQ hy (H.2 j (ready_mono hj hji))
      refine wpOp_mono (fun a' w' h3 => ⟨h3.2.1, ih (l.setIfInBounds j true) a' w' (hInv l j hI hj) ?_ (ready_mono hr (Ne.symm hji)) h3.1 (hTS l j w' hI hj hiF h3.2.1) ?_⟩) h2
      · intro k ok hk hki hun hno
        refine hfree k ok hk hki ?_ hno
        by_cases hjk : j = k
        · subst hjk; exact hjun
        · rw [getD_set_ne true hjk] at hun; exact hun
      · rw [Array.setIfInBounds_comm _ _ hji]; exact h3.2.2

/-- x is waited for by j, directly or through others -/
def reaches (md : Region.Mode) (ops : Array Oper) : Nat → Nat → Nat → Bool
  | 0, _, _ => false
  | f + 1, j, x => match ops[j]? with
    | some o => o.after.any fun e => Region.binds md e && (e.on == x || reaches md ops f e.on x)
    | none => false
/-- what is listed has all that it waits for listed -/
def Closed (md : Region.Mode) (ops : Array Oper) (l : Array Bool) : Prop := ∀ k o, ops[k]? = some o → l.getD k false = true → ∀ e ∈ o.after, Region.binds md e = true → l.getD e.on false = true
theorem Closed.reach {l : Array Bool} (hc : Closed md ops l) : ∀ (f j x : Nat) (o : Oper), ops[j]? = some o → (∀ e ∈ o.after, Region.binds md e = true → l.getD e.on false = true) → reaches md ops f j x = true → l.getD x false = true
  | 0, _, _, _, _, _, h => by simp [reaches] at h
  | f + 1, j, x, o, ho, hall, h => by
    unfold reaches at h
    rw [ho] at h
    simp only [Array.any_eq_true'] at h
    obtain ⟨e, he, h⟩ := h
    simp only [Bool.and_eq_true, Bool.or_eq_true, beq_iff_eq] at h
    have hl := hall e he h.1
    rcases h.2 with rfl | h2
    · exact hl
    · cases hoe : ops[e.on]? with
      | none =>
        exfalso
        cases f with
        | zero => simp [reaches] at h2
        | succ f => simp [reaches, hoe] at h2
      | some o' => exact hc.reach f e.on x o' hoe (hc e.on o' hoe hl) h2
theorem Closed.set {l : Array Bool} (hc : Closed md ops l) {j : Nat} (hj : j ∈ Region.ready md ops l) : Closed md ops (l.setIfInBounds j true) := by
  intro k o hk hl e he hb
  by_cases hjk : j = k
  · subst hjk
    obtain ⟨_, o', ho', hall⟩ := mem_ready.1 hj
    rw [hk] at ho'; cases ho'
    exact getD_set_true (hall e he hb)
  · rw [getD_set_ne false hjk] at hl
    exact getD_set_true (hc k o hk hl e he hb)
theorem closed_none (n : Nat) : Closed md ops (Array.replicate n false) := by
  intro k o _ hl
  simp only [Array.getD_eq_getD_getElem?, Array.getElem?_replicate] at hl
  split at hl <;> simp at hl

def wpCan2 (P : Program) (ops : Array Oper) (Q : Exit → Act → World → Prop) (S : World → Prop) (K : Act → World → Prop) : List (Nat × Nat) → Act → World → Prop
  | [], a, w => K a w
  | (i, 0) :: r, a, w => ∃ o v, ops[i]? = some o ∧ YieldsIf P ops S o v a ∧ wpCan2 P ops Q S K r (a.put o.dst v) w
  | (i, 1) :: r, a, w => wpOp P ops Q i (fun a' w' => S w' ∧ wpCan2 P ops Q S K r a' w') a w
  | (i, _ + 2) :: r, a, w => ∃ o v, ops[i]? = some o ∧ YieldsIf P ops (fun _ => True) o v a ∧ wpCan2 P ops Q S K r (a.put o.dst v) w
def canHead2 (md : Region.Mode) (ops : Array Oper) : List (Nat × Nat) → Array Bool → Bool
  | [], _ => true
  | (i, k) :: r, l => (if k == 1 then Region.ready md ops l == [i] else (Region.ready md ops l).contains i && Region.free md ops l i) && canHead2 md ops r (l.setIfInBounds i true)
def allListed2 : List (Nat × Nat) → Array Bool → Array Bool
  | [], l => l
  | (i, _) :: r, l => allListed2 r (l.setIfInBounds i true)
def tailWaits2 (md : Region.Mode) (ops : Array Oper) (hd : List (Nat × Nat)) (n : Nat) : Bool :=
  (List.range ops.size).all fun j => j < n || hd.all (fun x => decide (2 ≤ x.2) || reaches md ops ops.size j x.1)
def puresFirst : List (Nat × Nat) → Bool
  | [] => true
  | (_, k) :: r => if 2 ≤ k then puresFirst r else r.all (fun x => x.2 < 2)
def canRegion2 (ops : Array Oper) (hd : List (Nat × Nat)) (n : Nat) : Bool :=
  Region.noSelect ops && canHead2 .any ops hd (Array.replicate ops.size false) && canTail .any ops (ops.size - n) n (allListed2 hd (Array.replicate ops.size false)) && tailWaits2 .any ops hd n && decide (hd.length + (ops.size - n) = ops.size) && hd.all (fun x => x.1 < n) && hd.all (fun x => x.1 < ops.size) && puresFirst hd && hd.all (fun x => decide (x.2 ≤ 2)) && (hd.map (·.1)).Nodup

theorem canHead2_light {i k : Nat} {r : List (Nat × Nat)} {l : Array Bool} (hk : (k == 1) = false) (h : canHead2 md ops ((i, k) :: r) l = true) : i ∈ Region.ready md ops l ∧ Region.free md ops l i = true ∧ canHead2 md ops r (l.setIfInBounds i true) = true := by
  unfold canHead2 at h
  rw [hk] at h
  simp only [Bool.false_eq_true, if_false, Bool.and_eq_true] at h
  exact ⟨by simpa using h.1.1, h.1.2, h.2⟩
theorem canHead2_rest (hs : Region.noSelect ops = true) (hQ : ∀ c a d v w, Q (.panic c) (a.put d v) w → Q (.panic c) a w) (n k : Nat) {Inv : Array Bool → Prop}
    (hInv : ∀ (l : Array Bool) j, Inv l → j ∈ Region.ready md ops l → Inv (l.setIfInBounds j true))
    (hST : ∀ j w, S w → T j w) (hT : ∀ j w, n ≤ j → T j w) :
    ∀ (hd : List (Nat × Nat)) (l : Array Bool) (a : Act) (w : World), (∀ x ∈ hd, x.2 < 2) → canHead2 md ops hd l = true → canTail md ops k n (allListed2 hd l) = true → Inv l →
      (∀ x ∈ hd, ∀ (l : Array Bool) j w, Inv l → j ∈ Region.ready md ops l → l.getD x.1 true = false → T j w → S w) →
      S w → wpCan2 P ops Q S (fun a w => wpOps P ops Q (List.range' n k) a w) hd a w → wpAnyT P md ops Q T (hd.length + k) l a w
  | [], l, a, w, _, _, ht, _, _, _, hw => by
    rw [List.length_nil, Nat.zero_add]; exact canTail_sound k n l a w ht hT hw
  | (i, 0) :: r, l, a, w, h2, h, ht, hI, hx, hS, hw => by
    obtain ⟨hri, hf, hr⟩ := canHead2_light rfl h
    obtain ⟨o, v, ho, hy, hw⟩ := hw
    rw [List.length_cons, Nat.add_right_comm]
    refine wpAnyT.first2 (Inv := Inv) ho (Region.noSelect_spec hs) (fun c a w => hQ c a o.dst v w) (hST i) hInv (fun l j w hI hj hl ht' => hx (i, 0) (by simp) l j w hI hj hl ht') _ l a w hI (Region.free_spec ho hf) hri hy hS ?_
    exact canHead2_rest hs hQ n k hInv hST hT r _ _ w (fun x hm => h2 x (by simp [hm])) hr ht (hInv _ _ hI hri) (fun x hm => hx x (by simp [hm])) hS hw
  | (i, 1) :: r, l, a, w, h2, h, ht, hI, hx, hS, hw => by
    simp only [canHead2, beq_self_eq_true, if_true, Bool.and_eq_true, beq_iff_eq] at h
    rw [List.length_cons, Nat.add_right_comm]
    refine ⟨fun h0 => (by rw [h.1] at h0; cases h0), fun j hj => ?_⟩
    have hj' := hj
    rw [h.1] at hj
    obtain rfl : j = i := by simpa using hj
    refine wpOp_mono (fun a' w' h' => ⟨hST _ _ h'.1, ?_⟩) hw
    exact canHead2_rest hs hQ n k hInv hST hT r _ a' w' (fun x hm => h2 x (by simp [hm])) h.2 ht (hInv _ _ hI hj') (fun x hm => hx x (by simp [hm])) h'.1 h'.2
  | (i, m + 2) :: r, l, a, w, h2, _, _, _, _, _, _ => by
    have := h2 (i, m + 2) (by simp)
    exact absurd this (by simp)

theorem canHead2_sound (hs : Region.noSelect ops = true) (hQ : ∀ c a d v w, Q (.panic c) (a.put d v) w → Q (.panic c) a w) (n k : Nat) (pures : List Nat)
    (hST : ∀ j w, S w → T j w) (hT : ∀ j w, n ≤ j → T j w) (hTp : ∀ j w, j ∈ pures → T j w) :
    ∀ (hd : List (Nat × Nat)) (done : List Nat) (l : Array Bool) (a : Act) (w : World), puresFirst hd = true → (∀ x ∈ hd, x.2 ≤ 2) → (∀ x ∈ hd, x.2 = 2 → x.1 ∈ pures) → (∀ p ∈ pures, p ∈ done ∨ ∃ x ∈ hd, x.2 = 2 ∧ x.1 = p) → canHead2 md ops hd l = true → canTail md ops k n (allListed2 hd l) = true → Closed md ops l → (∀ p ∈ done, l.getD p false = true) →
      (∀ x ∈ hd, x.2 < 2 → ∀ (l : Array Bool) j w, Closed md ops l → (∀ p ∈ pures, l.getD p false = true) → j ∈ Region.ready md ops l → l.getD x.1 true = false → T j w → S w) →
      S w → wpCan2 P ops Q S (fun a w => wpOps P ops Q (List.range' n k) a w) hd a w → wpAnyT P md ops Q T (hd.length + k) l a w
  | (i, 2) :: r, done, l, a, w, hp, h2, hin, hcov, h, ht, hc, hd, hx, hS, hw => by
    obtain ⟨hri, hf, hr⟩ := canHead2_light rfl h
    obtain ⟨o, v, ho, hy, hw⟩ := hw
    have hip : i ∈ pures := hin (i, 2) (by simp) rfl
    rw [List.length_cons, Nat.add_right_comm]
    refine wpAnyT.first2 (S := fun _ => True) (Inv := fun _ => True) ho (Region.noSelect_spec hs) (fun c a w => hQ c a o.dst v w) (fun w _ => hTp i w hip) (fun _ _ _ _ => trivial) (fun _ _ _ _ _ _ _ => trivial) _ l a w trivial (Region.free_spec ho hf) hri hy trivial ?_
    have hl : i < l.size ∨ l.size ≤ i := Nat.lt_or_ge i l.size
    refine canHead2_sound hs hQ n k pures hST hT hTp r (i :: done) _ _ w (by simpa [puresFirst] using hp) (fun x hm => h2 x (by simp [hm])) (fun x hm => hin x (by simp [hm])) (fun p hpp => ?_) hr ht (hc.set hri) (fun p hpp => ?_) (fun x hm => hx x (by simp [hm])) hS hw
    · rcases hcov p hpp with h | ⟨x, hm, h1, h3⟩
      · exact .inl (by simp [h])
      · rcases List.mem_cons.1 hm with rfl | hm
        · exact .inl (by simp [← h3])
        · exact .inr ⟨x, hm, h1, h3⟩
    · rcases List.mem_cons.1 hpp with rfl | hpp
      · have hlt : p < l.size := by
          have := (mem_ready.1 hri).1
          rcases hl with h | h
          · exact h
          · simp [Array.getElem?_eq_none h] at this
        simp [hlt]
      · exact getD_set_true (hd p hpp)
  | [], done, l, a, w, _, _, _, _, h, ht, _, _, _, hS, hw => by
    rw [List.length_nil, Nat.zero_add]; exact canTail_sound k n l a w ht hT hw
  | (i, 0) :: r, done, l, a, w, hp, h2, _, hcov, h, ht, hc, hd, hx, hS, hw => by
    have hlt : ∀ x ∈ (i, 0) :: r, x.2 < 2 := by
      intro x hm
      rcases List.mem_cons.1 hm with rfl | hm
      · simp
      · simp [puresFirst] at hp; exact hp x.1 x.2 hm
    have hpd : ∀ p ∈ pures, l.getD p false = true := fun p hpp => by
      rcases hcov p hpp with h | ⟨x, hm, h1, _⟩
      · exact hd p h
      · have := hlt x hm; omega
    exact canHead2_rest hs hQ n k (Inv := fun l => Closed md ops l ∧ ∀ p ∈ pures, l.getD p false = true) (fun l j hI hj => ⟨hI.1.set hj, fun p hpp => getD_set_true (hI.2 p hpp)⟩) hST hT _ l a w hlt h ht ⟨hc, hpd⟩
      (fun x hm l j w hI hj hl ht' => hx x hm (hlt x hm) l j w hI.1 hI.2 hj hl ht') hS hw
  | (i, 1) :: r, done, l, a, w, hp, h2, _, hcov, h, ht, hc, hd, hx, hS, hw => by
    have hlt : ∀ x ∈ (i, 1) :: r, x.2 < 2 := by
      intro x hm
      rcases List.mem_cons.1 hm with rfl | hm
      · simp
      · simp [puresFirst] at hp; exact hp x.1 x.2 hm
    have hpd : ∀ p ∈ pures, l.getD p false = true := fun p hpp => by
      rcases hcov p hpp with h | ⟨x, hm, h1, _⟩
      · exact hd p h
      · have := hlt x hm; omega
    exact canHead2_rest hs hQ n k (Inv := fun l => Closed md ops l ∧ ∀ p ∈ pures, l.getD p false = true) (fun l j hI hj => ⟨hI.1.set hj, fun p hpp => getD_set_true (hI.2 p hpp)⟩) hST hT _ l a w hlt h ht ⟨hc, hpd⟩
      (fun x hm l j w hI hj hl ht' => hx x hm (hlt x hm) l j w hI.1 hI.2 hj hl ht') hS hw
  | (i, m + 3) :: r, _, _, _, _, _, h2, _, _, _, _, _, _, _, _, _ => by
    have := h2 (i, m + 3) (by simp)
    exact absurd this (by simp)

theorem wp_region_can2' {id : Nat} {a : Act} {w : World} (hd : List (Nat × Nat)) (n : Nat) (S : World → Prop) (hm : P.follows .mixedOrders = true)
    (hok : canRegion2 ops hd n = true) (hQ : ∀ c a d v w, Q (.panic c) (a.put d v) w → Q (.panic c) a w) (hS : S w.drew)
    (h : wpCan2 P ops Q S (fun a w => wpList P ops Q (ops.toList.drop n) a w) hd a w.drew) : (Code.region id ops true).wp P Q a w := by
  simp only [canRegion2, Bool.and_eq_true, decide_eq_true_eq, List.all_eq_true] at hok
  obtain ⟨⟨⟨⟨⟨⟨⟨⟨⟨h1, h2⟩, h3⟩, h4⟩, h5⟩, h6⟩, _⟩, h8⟩, h9⟩, h10⟩ := hok
  obtain ⟨pures, hpures⟩ : ∃ pures, pures = (hd.filter fun x => x.2 == 2).map (·.1) := ⟨_, rfl⟩
  have hpm : ∀ p, p ∈ pures ↔ ∃ x ∈ hd, x.2 = 2 ∧ x.1 = p := by
    intro p; rw [hpures]
    simp only [List.mem_map, List.mem_filter, beq_iff_eq]
    constructor
    · rintro ⟨x, ⟨a, b⟩, c⟩; exact ⟨x, a, b, c⟩
    · rintro ⟨x, a, b, c⟩; exact ⟨x, ⟨a, b⟩, c⟩
  refine wp_region_any hm (wpAnyT.any (T := fun j w => (j < n ∧ j ∉ pures) → S w) _ _ _ _ ?_)
  have key := canHead2_sound (P := P) (Q := Q) (md := .any) (S := S) (T := fun j w => (j < n ∧ j ∉ pures) → S w) h1 hQ n (ops.size - n) pures (fun j w hS _ => hS)
    (fun j w hj hlt => absurd hlt.1 (by omega)) (fun j w hj hlt => absurd hj hlt.2) hd [] (Array.replicate ops.size false) a w.drew h8 h9 (fun x hx h => (hpm x.1).2 ⟨x, hx, h, rfl⟩) (fun p hp => .inr ((hpm p).1 hp)) h2 h3 (closed_none _) (by simp) ?_ hS ?_
  · rw [h5] at key; exact key
  · intro x hx hx2 l j w hc hpl hj hl hT
    refine hT ⟨?_, ?_⟩
    · rcases Nat.lt_or_ge j n with hlt | hge
      · exact hlt
      · exfalso
        obtain ⟨_, o, ho, hall⟩ := mem_ready.1 hj
        simp only [tailWaits2, List.all_eq_true, List.mem_range] at h4
        have hjs : j < ops.size := by
          rcases Nat.lt_or_ge j ops.size with h' | h'
          · exact h'
          · simp [Array.getElem?_eq_none h'] at ho
        have h7 := h4 j hjs
        simp only [Bool.or_eq_true, decide_eq_true_eq, List.all_eq_true] at h7
        rcases h7 with h7 | h7
        · omega
        · rcases h7 x hx with h7 | h7
          · omega
          · have h11 := hc.reach _ j x.1 o ho hall h7
            rcases Nat.lt_or_ge x.1 l.size with h' | h'
            · simp [h'] at h11 hl; rw [hl] at h11; cases h11
            · simp [Array.getElem?_eq_none h'] at h11
    · intro hjp
      have h11 := hpl j hjp
      have h12 := (mem_ready.1 hj).1
      rcases Nat.lt_or_ge j l.size with h' | h'
      · simp [h'] at h11 h12; rw [h12] at h11; cases h11
      · simp [Array.getElem?_eq_none h'] at h11
  · have e : wpOps P ops Q (List.range' n (ops.size - n)) = wpList P ops Q (ops.toList.drop n) := by
      have := wpOps_eq_wpList (P := P) (ops := ops) (Q := Q) (ops.toList.drop n) n (fun j => by simp [List.getElem?_drop])
      simpa using this
    rw [e]; exact h

/-- The head, by its operations. -/
def wpGo2 (P : Program) (ops : Array Oper) (Q : Exit → Act → World → Prop) (S : World → Prop) (K : Act → World → Prop) : List (Oper × Nat) → Act → World → Prop
  | [], a, w => K a w
  | (o, 0) :: r, a, w => ∃ v, YieldsIf P ops S o v a ∧ wpGo2 P ops Q S K r (a.put o.dst v) w
  | (o, 1) :: r, a, w => if Region.wanted o (yielded ops a.tmps) then o.wp P a w (fun a' w' => S w' ∧ wpGo2 P ops Q S K r a' w') Q ∨ (o.asks P a w ∧ LetsOut Q) else S w ∧ wpGo2 P ops Q S K r (a.put o.dst undef) w
  | (o, _ + 2) :: r, a, w => ∃ v, YieldsIf P ops (fun _ => True) o v a ∧ wpGo2 P ops Q S K r (a.put o.dst v) w
def canOps2 (ops : Array Oper) (hd : List (Nat × Nat)) : List (Oper × Nat) := hd.filterMap fun x => (ops[x.1]?).map fun o => (o, x.2)
theorem wpCan2_of_go {K : Act → World → Prop} : ∀ (hd : List (Nat × Nat)) (a : Act) (w : World), (∀ x ∈ hd, x.1 < ops.size) → wpGo2 P ops Q S K (canOps2 ops hd) a w → wpCan2 P ops Q S K hd a w
  | [], _, _, _, h => h
  | (i, b) :: r, a, w, hn, h => by
    have hi' : i < ops.size := hn (i, b) (by simp)
    have hi : ops[i]? = some ops[i] := Array.getElem?_eq_getElem hi'
    have ih := fun a w => wpCan2_of_go (K := K) r a w (fun x hx => hn x (by simp [hx]))
    simp only [canOps2, List.filterMap_cons, hi, Option.map_some] at h
    match b, h with
    | 0, h =>
      obtain ⟨v, hy, h⟩ := h
      exact ⟨_, v, hi, hy, ih _ _ h⟩
    | m + 2, h =>
      obtain ⟨v, hy, h⟩ := h
      exact ⟨_, v, hi, hy, ih _ _ h⟩
    | 1, h =>
      show wpOp P ops Q i _ a w
      unfold wpOp
      simp only [hi]
      simp only [wpGo2] at h
      split at h
      · rename_i hw; rw [if_pos hw]; exact h.imp (Oper.wp_mono fun _ _ h' => ⟨h'.1, ih _ _ h'.2⟩) id
      · rename_i hw; rw [if_neg hw]; exact ⟨h.1, ih _ _ h.2⟩
/-- A REGION THAT DRAWS, IN ONE ORDER. hd: the head's order (2: pure, these first; 0: light under S; 1: acts); n: where the tail begins. -/
theorem wp_region_can2 {id : Nat} {a : Act} {w : World} (hd : List (Nat × Nat)) (n : Nat) (S : World → Prop) (hm : P.follows .mixedOrders = true)
    (hok : canRegion2 ops hd n = true) (hQ : ∀ c a d v w, Q (.panic c) (a.put d v) w → Q (.panic c) a w) (hS : S w.drew)
    (h : wpGo2 P ops Q S (fun a w => wpList P ops Q (ops.toList.drop n) a w) (canOps2 ops hd) a w.drew) : (Code.region id ops true).wp P Q a w := by
  refine wp_region_can2' hd n S hm hok hQ hS (wpCan2_of_go hd a w.drew ?_ h)
  simp only [canRegion2, Bool.and_eq_true, decide_eq_true_eq, List.all_eq_true] at hok
  intro x hx
  exact hok.1.1.1.2 x hx

variable {K : Act → World → Prop} {r : List (Oper × Nat)} {o : Oper} {a : Act} {w : World}
theorem can2_nil (h : K a w) : wpGo2 P ops Q S K [] a w := h
theorem can2_light {v : Value} (hg : o.guard = none) (hy : ∀ u, S u → (execOp a.eval o).run P u = .ok (.value v) u)
    (h : wpGo2 P ops Q S K r (a.put o.dst v) w) : wpGo2 P ops Q S K ((o, 0) :: r) a w :=
  ⟨v, .inl ⟨by simp [Region.wanted, hg], hy⟩, h⟩
theorem can2_light_yes {v : Value} (hg : Region.wanted o (yielded ops a.tmps) = true) (hy : ∀ u, S u → (execOp a.eval o).run P u = .ok (.value v) u)
    (h : wpGo2 P ops Q S K r (a.put o.dst v) w) : wpGo2 P ops Q S K ((o, 0) :: r) a w :=
  ⟨v, .inl ⟨hg, hy⟩, h⟩
theorem can2_light_no (hg : Region.wanted o (yielded ops a.tmps) = false) (h : wpGo2 P ops Q S K r (a.put o.dst undef) w) : wpGo2 P ops Q S K ((o, 0) :: r) a w :=
  ⟨undef, .inr ⟨hg, rfl⟩, h⟩
theorem can2_pure {v : Value} (hg : o.guard = none) (hy : ∀ u, (execOp a.eval o).run P u = .ok (.value v) u)
    (h : wpGo2 P ops Q S K r (a.put o.dst v) w) : wpGo2 P ops Q S K ((o, 2) :: r) a w :=
  ⟨v, .inl ⟨by simp [Region.wanted, hg], fun u _ => hy u⟩, h⟩
theorem can2_acts (hg : o.guard = none)
    (h : ∀ K' : Act → World → Prop, (∀ a' w', S w' → wpGo2 P ops Q S K r a' w' → K' a' w') → o.wp P a w K' Q) : wpGo2 P ops Q S K ((o, 1) :: r) a w := by
  simp only [wpGo2, Region.wanted, hg, if_true]
  exact .inl (h _ fun _ _ h1 h2 => ⟨h1, h2⟩)
end
end Go
