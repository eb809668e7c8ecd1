/- Append where the disk may sink: all of the entries, or some first ones and perhaps a part of the next. Plain.
  Append's whole plan where the disk may sink. Plain.
  SegmentsSure's states: a disk that is up, with its segments; a disk that is down; what the acts make of them. Plain.
  SegmentsCut: what the walk needs. Conditions: those of each lemma.
  Segments in memory beside rows that are kept. Conditions: those of each lemma. -/
import Derived.Test.YtogkdoooimcemaaGreatDoorC17
import Derived.Test.YtogkdoooimcemaaGreatDoorC15
import Derived.Test.YtogkdoooimcemaaGreatDoorC16
import Derived.Laws.BitsLemmas
/- SegU4 -/
namespace Go.Proofs.YtogkdoooimcemaaGreatDoor
open Go

structure Going (D0 D : Dk) : Prop where
  up : D.down = false
  ok : D.Ok
  calm : D0.fails = false → D.fails = false
  cap : D.cap = D0.cap
  starts : D.starts = D0.starts
theorem Going.trans {D0 D1 D2 : Dk} (h : Going D0 D1) (k : Going D1 D2) : Going D0 D2 := ⟨k.up, k.ok, fun e => k.calm (h.calm e), k.cap.trans h.cap, k.starts.trans h.starts⟩
theorem Going.sunk {D0 D1 D2 : Dk} (h : Going D0 D1) (k : Sunk D1 D2) : Sunk D0 D2 := by
  refine ⟨?_, k.down, k.swept, k.fails, k.cap.trans h.cap, k.starts.trans h.starts⟩
  cases hf : D0.fails with
  | true => rfl
  | false => have h1 := h.calm hf; have h2 := k.was; rw [h1] at h2; exact absurd h2 (by simp)
def EndsG (D0 : Dk) (R : Dk × Int) (P Q : Dk → Prop) : Prop := (R.2 = 61 ∧ Sunk D0 R.1 ∧ Q R.1) ∨ (R.2 = 0 ∧ Going D0 R.1 ∧ P R.1)
theorem EndsG.seq {D0 : Dk} {l m : List Step} {P P' Q : Dk → Prop} (h : EndsG D0 (Step.all l D0) P Q) (k : ∀ D1, Going D0 D1 → P D1 → EndsG D1 (Step.all m D1) P' Q) : EndsG D0 (Step.all (l ++ m) D0) P' Q := by
  rw [all_append]
  rcases h with ⟨h1, h2, h3⟩ | ⟨h1, h2, h3⟩
  · rw [if_neg (by omega)]
    exact .inl ⟨h1, h2, h3⟩
  · rw [if_pos h1]
    rcases k _ h2 h3 with ⟨k1, k2, k3⟩ | ⟨k1, k2, k3⟩
    · exact .inl ⟨k1, h2.sunk k2, k3⟩
    · exact .inr ⟨k1, h2.trans k2, k3⟩
theorem EndsG.one {D : Dk} {s : Step} {P Q : Dk → Prop} (h : EndsG D (s.run D) P Q) : EndsG D (Step.all [s] D) P Q := by
  simp only [Step.all]
  rcases h with ⟨h1, h2, h3⟩ | ⟨h1, h2, h3⟩
  · rw [if_neg (by omega)]; exact .inl ⟨h1, h2, h3⟩
  · rw [if_pos h1]; exact .inr ⟨rfl, h2, h3⟩
theorem EndsG.nil {D : Dk} {P Q : Dk → Prop} (hu : D.down = false) (ho : D.Ok) (hP : P D) : EndsG D (Step.all [] D) P Q := .inr ⟨rfl, ⟨hu, ho, id, rfl, rfl⟩, hP⟩
theorem step_goes {D : Dk} {P Q : Dk → Prop} (f : Dk → Dk) (hu : D.down = false) (ho : D.Ok) (hf : ∀ E : Dk, (f E).down = E.down ∧ (f E).cap = E.cap ∧ (f E).starts = E.starts ∧ (f E).fails = E.fails ∧ (f E).left = E.left)
    (hP : P (f D.tick)) (hQ : Q (D.tick.crash D.keep)) : EndsG D (D.step f) P Q := by
  obtain ⟨t1, t2, t3, t4, t5⟩ := tick_files D
  unfold Dk.step
  by_cases hs : D.sinks = true
  · rw [if_pos hs]
    unfold Dk.sinks at hs
    rw [Bool.and_eq_true] at hs
    exact .inl ⟨rfl, ⟨hs.1, rfl, rfl, rfl, t5, (tick_starts D).1⟩, hQ⟩
  · rw [if_neg hs]
    obtain ⟨f1, f2, f3, f4, f5⟩ := hf D.tick
    refine .inr ⟨rfl, ⟨f1.trans (t3.trans hu), ?_, fun h => f4.trans ((tick_starts D).2 h), f2.trans t5, f3.trans (tick_starts D).1⟩, hP⟩
    intro h
    show 0 ≤ (f D.tick).left
    rw [f5]
    rw [show (f D.tick).fails = D.tick.fails from f4] at h
    have hD : D.fails = true := by
      cases hd : D.fails with
      | true => rfl
      | false => rw [(tick_starts D).2 hd] at h; exact absurd h (by simp)
    unfold Dk.sinks at hs
    rw [hD] at hs
    simp at hs
    unfold Dk.tick
    rw [if_pos hD]
    show 0 ≤ D.left - 1
    omega
/-- amid an Append: so many entries are laid -/
structure MidF (D : Dk) (E M : List (List UInt8)) (c B : Nat) : Prop where
  holds : Holds D (E ++ M) c [] (B + (flat M).length)
  hi : c ≤ (E ++ M).length / 64 + 1
  loose : LooseP E M D.loose
theorem MidF.of {D D' : Dk} {E M : List (List UInt8)} {c B : Nat} (h : MidF D E M c B) (e1 : D'.files = D.files) (e2 : D'.loose = D.loose) : MidF D' E M c B := ⟨h.holds.of_files e1, h.hi, by rw [e2]; exact h.loose⟩
/-- what a crash leaves of an Append -/
def Kept (E L0 : List (List UInt8)) (B : Nat) (D' : Dk) : Prop := ∃ j c' r, j ≤ L0.length ∧ Holds D' (E ++ L0.take j) c' r (B + (flat L0).length)
theorem MidF.crash {D : Dk} {E M R : List (List UInt8)} {c B : Nat} (h : MidF D E M c B) (K : Int) : Kept E (M ++ R) B (D.crash K) := by
  obtain ⟨j, r, h1, h2⟩ := crash_holds h.holds h.loose K
  refine ⟨j, c, r, by rw [List.length_append]; omega, ?_⟩
  rw [List.take_append_of_le_length h1]
  exact ⟨h2.get, h2.low, h2.files, h2.stop, by have := h2.total; rw [flat_append, List.length_append]; omega, h2.short, h2.keys⟩
theorem EndsG.wk {D0 : Dk} {R : Dk × Int} {P P' Q : Dk → Prop} (h : EndsG D0 R P Q) (hp : ∀ D, P D → P' D) : EndsG D0 R P' Q := by
  rcases h with h | ⟨h1, h2, h3⟩
  · exact .inl h
  · exact .inr ⟨h1, h2, hp _ h3⟩
/-- the file is created -/
theorem create_run {D : Dk} {E M R : List (List UInt8)} {c B : Nat} (h : MidF D E M c B) (hu : D.down = false) (ho : D.Ok) (hc : ¬ (E ++ M).length / 64 < c) (hsz : (E ++ M).length ≤ 4000) :
    EndsG D (Step.all [Step.create ((1000 + (E ++ M).length / 64 : Nat) : Int)] D) (fun D' => MidF D' E M ((E ++ M).length / 64 + 1) B) (Kept E (M ++ R) B) := by
  have hf := h.holds.files
  have hcq : c = (E ++ M).length / 64 := by have := h.hi; unfold nfiles at hf; omega
  have hnone : D.get ((1000 + (E ++ M).length / 64 : Nat) : Int) = none := by rw [h.holds.get, if_neg hc]
  refine EndsG.one ?_
  show EndsG D (D.create _) _ _
  unfold Dk.create
  rw [if_neg (by simp [hu]), if_neg (by omega), if_neg (by rw [hnone]; simp), if_neg (by rw [h.holds.count]; omega)]
  refine step_goes (P := fun D' => MidF D' E M ((E ++ M).length / 64 + 1) B) (Q := Kept E (M ++ R) B) (fun D => { D with files := D.files ++ [(((1000 + (E ++ M).length / 64 : Nat) : Int), [])] }) hu ho (fun E => ⟨rfl, rfl, rfl, rfl, rfl⟩) ?_ ((h.of (tick_files D).1 (tick_files D).2.1).crash _)
  have hg : ∀ m, Dk.get { D.tick with files := D.tick.files ++ [(((1000 + (E ++ M).length / 64 : Nat) : Int), [])] } m = if m = ((1000 + (E ++ M).length / 64 : Nat) : Int) then some [] else D.get m := by
    intro m
    show Dk.getF (D.tick.files ++ _) m = _
    rw [(tick_files D).1, getF_snoc _ _ _ hnone]; rfl
  refine ⟨⟨fun k => ?_, fun n hn => ?_, by omega, ahead_nil, ?_, h.holds.short, ?_⟩, Nat.le_refl _, ?_⟩
  · rw [hg, h.holds.get]
    by_cases hk : k = (E ++ M).length / 64
    · rw [if_pos (by omega), if_pos (by omega)]
      have : chunk (E ++ M) k = [] := by
        apply List.eq_nil_of_length_eq_zero
        rw [chunk_len]
        unfold nfiles at hf; omega
      rw [this]
      split <;> rfl
    · have hz : ∀ (a : Prop) [Decidable a], (if a then ([] : List UInt8) else []) = [] := by intro a _; split <;> rfl
      rw [if_neg (by omega), hz, List.append_nil]
      by_cases hk2 : k < c
      · rw [if_pos hk2, if_pos (by omega)]
      · rw [if_neg hk2, if_neg (by omega)]
  · rw [hg, if_neg (by omega)]; exact h.holds.low n hn
  · show Dk.total (D.tick.files ++ _) ≤ _
    rw [total_snoc, (tick_files D).1]; exact h.holds.total
  · show ((D.tick.files ++ _).map (·.1)).Nodup
    rw [(tick_files D).1, List.map_append, List.nodup_append]
    refine ⟨h.holds.keys, by simp, fun a ha b hb => ?_⟩
    simp only [List.map_cons, List.map_nil, List.mem_singleton] at hb
    subst hb
    rintro rfl
    have := (get_mem (D := D) _).1 ha
    rw [hnone] at this
    simp at this
  · show LooseP E M D.tick.loose
    rw [(tick_files D).2.1]; exact h.loose
/-- a file's piece is appended -/
theorem lay_run {D : Dk} {E M p R : List (List UInt8)} {c B : Nat} (h : MidF D E M c B) (hu : D.down = false) (ho : D.Ok) (hc : (E ++ M).length / 64 < c) (hp : 0 < p.length) (hm : (E ++ M).length % 64 + p.length ≤ 64) (hs : ∀ x ∈ p, x.length ≤ 200) (hcap : B + (flat (M ++ p)).length ≤ D.cap) :
    EndsG D (Step.all [Step.append ((1000 + (E ++ M).length / 64 : Nat) : Int) (flat p)] D) (fun D' => MidF D' E (M ++ p) c B) (Kept E (M ++ p ++ R) B) := by
  have hb : D.get ((1000 + (E ++ M).length / 64 : Nat) : Int) = some (flat (chunk (E ++ M) ((E ++ M).length / 64))) := by
    rw [h.holds.get, if_pos hc]
    have : (if (E ++ M).length / 64 = (E ++ M).length / 64 then ([] : List UInt8) else []) = [] := by split <;> rfl
    rw [this, List.append_nil]
  have htot := h.holds.total
  rw [flat_append, List.length_append] at hcap
  refine EndsG.one ?_
  show EndsG D (D.append _ _) _ _
  have hhas : D.has ((1000 + (E ++ M).length / 64 : Nat) : Int) = 0 := by
    unfold Dk.has
    rw [if_neg (by simp [hu]), if_neg (by rw [hb]; simp)]
  unfold Dk.append
  rw [if_neg (by rw [hhas]; simp), if_neg (by unfold Dk.free; omega)]
  have hf := h.holds.files
  have hi := h.hi
  have hlen : (E ++ (M ++ p)).length = (E ++ M).length + p.length := by rw [← List.append_assoc, List.length_append]
  have hg : ∀ m, (D.put ((1000 + (E ++ M).length / 64 : Nat) : Int) (flat p)).get m = if m = ((1000 + (E ++ M).length / 64 : Nat) : Int) then some (flat (chunk (E ++ M) ((E ++ M).length / 64)) ++ flat p) else D.get m := by
    intro m
    show Dk.getF (Dk.setF D.files _ _) m = _
    rw [getF_setF]
    split
    · show Option.map _ (D.get _) = _
      rw [hb]; rfl
    · rfl
  have hmid : MidF (D.put ((1000 + (E ++ M).length / 64 : Nat) : Int) (flat p)) E (M ++ p) c B := by
    refine ⟨⟨fun k => ?_, fun n hn => ?_, ?_, ahead_nil, ?_, fun x hx => ?_, ?_⟩, by rw [hlen]; omega, ?_⟩
    · have hz : ∀ (a : Prop) [Decidable a], (if a then ([] : List UInt8) else []) = [] := by intro a _; split <;> rfl
      rw [hg, h.holds.get, hz, hz, List.append_nil, List.append_nil, ← List.append_assoc]
      by_cases hk : k = (E ++ M).length / 64
      · rw [if_pos (by omega), if_pos (by omega), hk, chunk_more (E ++ M) p hm]
      · rw [if_neg (by omega), chunk_other (E ++ M) p k hm hk]
    · rw [hg, if_neg (by omega)]; exact h.holds.low n hn
    · rw [hlen]; unfold nfiles at *; omega
    · have ht := total_setF D.files ((1000 + (E ++ M).length / 64 : Nat) : Int) (flat (chunk (E ++ M) ((E ++ M).length / 64)) ++ flat p) _ h.holds.keys hb
      show Dk.total (Dk.setF D.files _ (((D.get _).getD []) ++ flat p)) ≤ _
      rw [hb, Option.getD_some]
      have e1 : (flat (M ++ p)).length = (flat M).length + (flat p).length := by rw [flat_append, List.length_append]
      have e2 : (flat (chunk (E ++ M) ((E ++ M).length / 64)) ++ flat p).length = (flat (chunk (E ++ M) ((E ++ M).length / 64))).length + (flat p).length := List.length_append
      omega
    · rcases List.mem_append.1 hx with hx | hx
      · exact h.holds.short x (List.mem_append.2 (.inl hx))
      · rcases List.mem_append.1 hx with hx | hx
        · exact h.holds.short x (List.mem_append.2 (.inr hx))
        · exact hs x hx
    · show ((Dk.setF D.files _ _).map (·.1)).Nodup
      rw [keys_setF]; exact h.holds.keys
    · exact LooseP.snoc M p D.loose h.loose hp hm
  have hres := step_goes (D := D.put ((1000 + (E ++ M).length / 64 : Nat) : Int) (flat p)) (P := fun D' => MidF D' E (M ++ p) c B) (Q := Kept E (M ++ p ++ R) B) id hu ho (fun E => ⟨rfl, rfl, rfl, rfl, rfl⟩) (hmid.of (tick_files _).1 (tick_files _).2.1) ((hmid.of (tick_files _).1 (tick_files _).2.1).crash _)
  rcases hres with ⟨r1, r2, r3⟩ | ⟨r1, r2, r3⟩
  · exact .inl ⟨r1, ⟨r2.was, r2.down, r2.swept, r2.fails, r2.cap, r2.starts⟩, r3⟩
  · exact .inr ⟨r1, ⟨r2.up, r2.ok, r2.calm, r2.cap, r2.starts⟩, r3⟩
end Go.Proofs.YtogkdoooimcemaaGreatDoor

/- SegU5 -/
namespace Go.Proofs.YtogkdoooimcemaaGreatDoor
open Go

theorem plan_more {has : List Int} {E L : List (List UInt8)} (f : Nat) (h0 : L.length ≠ 0) :
    planOf has (f + 1) (endsAll E) L = ⟨(if ((1000 + E.length / 64 : Nat) : Int) ∈ has then [] else [Step.create ((1000 + E.length / 64 : Nat) : Int)]) ++ (Step.append ((1000 + E.length / 64 : Nat) : Int) (flat (L.take (min (64 - E.length % 64) L.length))) :: (planOf has f (endsAll (E ++ L.take (min (64 - E.length % 64) L.length))) (L.drop (min (64 - E.length % 64) L.length))).steps),
      (planOf has f (endsAll (E ++ L.take (min (64 - E.length % 64) L.length))) (L.drop (min (64 - E.length % 64) L.length))).ends, (if ((1000 + E.length / 64 : Nat) : Int) ∈ has then 0 else 1) + (planOf has f (endsAll (E ++ L.take (min (64 - E.length % 64) L.length))) (L.drop (min (64 - E.length % 64) L.length))).files, (flat (L.take (min (64 - E.length % 64) L.length))).length + (planOf has f (endsAll (E ++ L.take (min (64 - E.length % 64) L.length))) (L.drop (min (64 - E.length % 64) L.length))).size⟩ := by
  have hel := endsAll_len E
  have hends : endsAll E ++ endsFrom (flat (E.drop (64 * (E.length / 64)))).length (L.take (min (64 - E.length % 64) L.length)) = endsAll (E ++ L.take (min (64 - E.length % 64) L.length)) := endsAll_more E _ (by rw [List.length_take]; omega)
  rw [planOf, if_neg h0]
  simp only [hel]
  rw [← hel, endOf_all', hel, Int.toNat_natCast, hends]
  rfl
theorem plan_none {has : List Int} {ends : List Int} {L : List (List UInt8)} (f : Nat) (h0 : L.length = 0) : planOf has f ends L = ⟨[], ends, 0, 0⟩ := by
  cases f with
  | zero => rfl
  | succ f => unfold planOf; rw [if_pos h0]
/-- what is planned, whatever becomes of it -/
theorem plan_shape {has : List Int} : ∀ (f : Nat) (E L : List (List UInt8)) (c : Nat), L.length ≤ f → (∀ k, E.length / 64 ≤ k → (((1000 + k : Nat) : Int) ∈ has ↔ k < c)) →
    (planOf has f (endsAll E) L).ends = endsAll (E ++ L) ∧ (planOf has f (endsAll E) L).size = (flat L).length ∧ (planOf has f (endsAll E) L).files + max c (E.length / 64) ≤ max (max c (E.length / 64)) (nfiles (E.length + L.length))
  | 0, E, L, c, hl, _ => by
    have h0 : L.length = 0 := by omega
    have : L = [] := List.eq_nil_of_length_eq_zero h0
    subst this
    rw [plan_none 0 rfl]
    exact ⟨by simp, rfl, by simp only; omega⟩
  | f + 1, E, L, c, hl, hh => by
    by_cases h0 : L.length = 0
    · have : L = [] := List.eq_nil_of_length_eq_zero h0
      subst this
      rw [plan_none (f + 1) rfl]
      exact ⟨by simp, rfl, by simp only; omega⟩
    · rw [plan_more f h0]
      obtain ⟨many, hmany⟩ : ∃ many, many = min (64 - E.length % 64) L.length := ⟨_, rfl⟩
      rw [← hmany]
      have htl : (L.take many).length = many := by rw [List.length_take]; omega
      have hdl : (L.drop many).length = L.length - many := List.length_drop
      have hE1 : (E ++ L.take many).length = E.length + many := by rw [List.length_append, htl]
      have hEL : E ++ L = (E ++ L.take many) ++ L.drop many := by rw [List.append_assoc, List.take_append_drop]
      have hflat : (flat L).length = (flat (L.take many)).length + (flat (L.drop many)).length := by
        conv => lhs; rw [← List.take_append_drop many L]
        rw [flat_append, List.length_append]
      have hx := hh (E.length / 64) (Nat.le_refl _)
      by_cases hrest : (L.drop many).length = 0
      · have hr0 : L.drop many = [] := List.eq_nil_of_length_eq_zero hrest
        rw [plan_none f hrest]
        refine ⟨by rw [hEL, hr0, List.append_nil], by simp only; rw [hflat, hr0]; rfl, ?_⟩
        simp only
        by_cases hc : E.length / 64 < c
        · rw [if_pos (hx.2 hc)]; omega
        · rw [if_neg (fun h => hc (hx.1 h))]; unfold nfiles; omega
      · obtain ⟨i1, i2, i3⟩ := plan_shape (has := has) f (E ++ L.take many) (L.drop many) (max c (E.length / 64 + 1)) (by omega) (fun k hk => by
          rw [hE1] at hk
          rw [hh k (by omega)]
          omega)
        refine ⟨by rw [i1, ← hEL], by simp only; rw [i2, hflat], ?_⟩
        simp only
        rw [hE1, hdl] at i3
        have hnf : nfiles (E.length + many + (L.length - many)) = nfiles (E.length + L.length) := by congr 1; omega
        rw [hnf] at i3
        by_cases hc : E.length / 64 < c
        · rw [if_pos (hx.2 hc)]; omega
        · rw [if_neg (fun h => hc (hx.1 h))]; unfold nfiles at *; omega
theorem plan_run {has : List Int} {E L0 : List (List UInt8)} {B : Nat} (hs : ∀ x ∈ L0, x.length ≤ 200) (hsz : E.length + L0.length ≤ 4000) : ∀ (f : Nat) (M L : List (List UInt8)) (D : Dk) (c : Nat), L.length ≤ f → L0 = M ++ L → MidF D E M c B → D.down = false → D.Ok → B + (flat L0).length ≤ D.cap →
    (∀ k, (E ++ M).length / 64 ≤ k → (((1000 + k : Nat) : Int) ∈ has ↔ k < c)) → EndsG D (Step.all (planOf has f (endsAll (E ++ M)) L).steps D) (fun D' => ∃ c', MidF D' E L0 c' B) (Kept E L0 B)
  | 0, M, L, D, c, hl, hL, hm, hu, ho, _, _ => by
    have h0 : L.length = 0 := by omega
    have : L = [] := List.eq_nil_of_length_eq_zero h0
    subst this
    rw [plan_none 0 rfl]
    rw [List.append_nil] at hL
    subst hL
    exact EndsG.nil hu ho ⟨c, hm⟩
  | f + 1, M, L, D, c, hl, hL, hm, hu, ho, hcap, hh => by
    by_cases h0 : L.length = 0
    · have : L = [] := List.eq_nil_of_length_eq_zero h0
      subst this
      rw [plan_none (f + 1) rfl]
      rw [List.append_nil] at hL
      subst hL
      exact EndsG.nil hu ho ⟨c, hm⟩
    · rw [plan_more f h0]
      obtain ⟨many, hmany⟩ : ∃ many, many = min (64 - (E ++ M).length % 64) L.length := ⟨_, rfl⟩
      rw [← hmany]
      have htl : (L.take many).length = many := by rw [List.length_take]; omega
      have hdl : (L.drop many).length = L.length - many := List.length_drop
      have hlen0 : L0.length = M.length + L.length := by rw [hL, List.length_append]
      have hEM : (E ++ M).length = E.length + M.length := List.length_append
      have hx := hh ((E ++ M).length / 64) (Nat.le_refl _)
      have hL1 : L0 = (M ++ L.take many) ++ L.drop many := by rw [List.append_assoc, List.take_append_drop]; exact hL
      have hps : ∀ x ∈ L.take many, x.length ≤ 200 := fun x hx => hs x (by rw [hL]; exact List.mem_append.2 (.inr (List.mem_of_mem_take hx)))
      have hcap1 : B + (flat (M ++ L.take many)).length ≤ D.cap := by
        have h9 : (flat L0).length = (flat (M ++ L.take many)).length + (flat (L.drop many)).length := by rw [← List.length_append, ← flat_append, ← hL1]
        omega
      -- the file
      have h1 : EndsG D (Step.all (if ((1000 + (E ++ M).length / 64 : Nat) : Int) ∈ has then [] else [Step.create ((1000 + (E ++ M).length / 64 : Nat) : Int)]) D) (fun D' => MidF D' E M (max c ((E ++ M).length / 64 + 1)) B) (Kept E L0 B) := by
        by_cases hc : (E ++ M).length / 64 < c
        · rw [if_pos (hx.2 hc), Nat.max_eq_left (by omega)]
          exact EndsG.nil hu ho hm
        · rw [if_neg (fun h => hc (hx.1 h)), Nat.max_eq_right (by omega), hL]
          exact create_run hm hu ho hc (by omega)
      have h2 : ∀ D1, Going D D1 → MidF D1 E M (max c ((E ++ M).length / 64 + 1)) B → EndsG D1 (Step.all [Step.append ((1000 + (E ++ M).length / 64 : Nat) : Int) (flat (L.take many))] D1) (fun D' => MidF D' E (M ++ L.take many) (max c ((E ++ M).length / 64 + 1)) B) (Kept E L0 B) := by
        intro D1 g1 m1
        rw [hL1]
        exact lay_run m1 g1.up g1.ok (by omega) (by omega) (by omega) hps (by rw [g1.cap]; exact hcap1)
      have h3 := EndsG.seq h1 h2
      have hsp : (if ((1000 + (E ++ M).length / 64 : Nat) : Int) ∈ has then [] else [Step.create ((1000 + (E ++ M).length / 64 : Nat) : Int)]) ++ (Step.append ((1000 + (E ++ M).length / 64 : Nat) : Int) (flat (L.take many)) :: (planOf has f (endsAll (E ++ M ++ L.take many)) (L.drop many)).steps) =
          ((if ((1000 + (E ++ M).length / 64 : Nat) : Int) ∈ has then [] else [Step.create ((1000 + (E ++ M).length / 64 : Nat) : Int)]) ++ [Step.append ((1000 + (E ++ M).length / 64 : Nat) : Int) (flat (L.take many))]) ++ (planOf has f (endsAll (E ++ M ++ L.take many)) (L.drop many)).steps := by simp
      simp only
      rw [hsp]
      refine EndsG.seq h3 ?_
      intro D1 g1 m1
      by_cases hrest : (L.drop many).length = 0
      · have hr0 : L.drop many = [] := List.eq_nil_of_length_eq_zero hrest
        rw [plan_none f hrest]
        rw [hr0, List.append_nil] at hL1
        rw [hL1]
        exact EndsG.nil g1.up g1.ok ⟨_, m1⟩
      · rw [List.append_assoc]
        refine plan_run hs hsz f (M ++ L.take many) (L.drop many) D1 _ (by omega) hL1 m1 g1.up g1.ok (by rw [g1.cap]; exact hcap) (fun k hk => ?_)
        rw [← List.append_assoc, List.length_append, htl] at hk
        rw [hh k (by omega)]
        omega
end Go.Proofs.YtogkdoooimcemaaGreatDoor

/- SegU6 -/
namespace Go.Proofs.YtogkdoooimcemaaGreatDoor
open Go

structure Head (S : Sg) (D : Dk) (T : List (List UInt8)) (B : Nat) : Prop where
  holds : ∃ c, c ≤ T.length / 64 + 1 ∧ Holds D T c [] B
  ents : S.entries = T
  ends : S.ends = endsAll T
  alive : S.dead = false
  starts : D.starts = S.starts
  up : D.down = false
  swept : D.loose = []
  ok : D.Ok
structure DownAt (D : Dk) (T : List (List UInt8)) (B : Nat) : Prop where
  holds : ∃ c r, Holds D T c r B
  down : D.down = true
  swept : D.loose = []
  fails : D.fails = false
theorem Head.ready {S : Sg} {D : Dk} {T : List (List UInt8)} {B : Nat} (h : Head S D T B) : S.ready D = true := by
  unfold Sg.ready; simp [h.alive, h.up, h.starts]
theorem Head.short {S : Sg} {D : Dk} {T : List (List UInt8)} {B : Nat} (h : Head S D T B) : ∀ x ∈ T, x.length ≤ 200 := by
  obtain ⟨c, _, k⟩ := h.holds; exact k.short
theorem Holds.mono {D : Dk} {T : List (List UInt8)} {c : Nat} {r : List UInt8} {B B' : Nat} (h : Holds D T c r B) (hb : B ≤ B') : Holds D T c r B' := ⟨h.get, h.low, h.files, h.stop, Nat.le_trans h.total hb, h.short, h.keys⟩
theorem Head.mono {S : Sg} {D : Dk} {T : List (List UInt8)} {B B' : Nat} (h : Head S D T B) (hb : B ≤ B') : Head S D T B' := by
  obtain ⟨c, h1, h2⟩ := h.holds
  exact ⟨⟨c, h1, h2.mono hb⟩, h.ents, h.ends, h.alive, h.starts, h.up, h.swept, h.ok⟩
theorem Head.ends_bd {S : Sg} {D : Dk} {T : List (List UInt8)} {B : Nat} (h : Head S D T B) : ∀ x ∈ S.ends, 0 ≤ x ∧ x ≤ 1099511627776 := by
  intro x hx
  rw [h.ends] at hx
  have := endsAll_bd T h.short x hx
  omega
theorem Good.head {S : Sg} {D : Dk} {E : List (List UInt8)} {B : Nat} (h : Good S D E B) : Head S D E B := by
  refine ⟨⟨nfiles E.length, by unfold nfiles; omega, fun k => ?_, fun n hn => ?_, Nat.le_refl _, ahead_nil, h.rep.total, h.rep.short, h.rep.wf.keys⟩, h.ents, h.ends, h.alive, h.starts, h.rep.up, h.swept, h.ok⟩
  · have hz : ∀ (a : Prop) [Decidable a], (if a then ([] : List UInt8) else []) = [] := by intro a _; split <;> rfl
    rw [h.rep.get, fileFor_at, hz, List.append_nil]
    by_cases hk : 64 * k < E.length
    · rw [if_pos hk, if_pos (nfiles_lt.2 hk)]
    · rw [if_neg hk, if_neg (fun h => hk (nfiles_lt.1 h))]
  · rw [h.rep.get]
    unfold fileFor
    rw [if_neg (by omega)]
/-- what an Append comes to -/
inductive AppEnds (S : Sg) (D : Dk) (T L : List (List UInt8)) (B : Nat) : Sg × Dk × Int → Prop
  | long : AppEnds S D T L B (S, D, 3)
  | full (S' : Sg) (D' : Dk) : (∀ x ∈ L, x.length ≤ 200) → Head S' D' (T ++ L) (B + (flat L).length) → D'.cap = D.cap → D'.starts = D.starts → AppEnds S D T L B (S', D', 0)
  | sunk (S' : Sg) (D' : Dk) (j : Nat) : (∀ x ∈ L, x.length ≤ 200) → j ≤ L.length → DownAt D' (T ++ L.take j) (B + (flat L).length) → D'.cap = D.cap → D'.starts = D.starts → AppEnds S D T L B (S', D', 61)
theorem head_append {S : Sg} {D : Dk} {T L : List (List UInt8)} {B : Nat} (h : Head S D T B) (hsz : T.length + L.length ≤ 4000) (hcap : B + 212 * L.length ≤ D.cap) : AppEnds S D T L B (S.append D L) := by
  by_cases h0 : L.length = 0
  · have : L = [] := List.eq_nil_of_length_eq_zero h0
    subst this
    have e : S.append D [] = (S, D, 0) := by
      unfold Sg.append
      rw [if_neg (by simp [h.ready]), if_pos h0]
    rw [e]
    exact .full S D (by simp) (by rw [List.append_nil]; exact h) rfl rfl
  · by_cases hany : L.any (fun s => decide (200 < s.length)) = true
    · have e : S.append D L = (S, D, 3) := by
        unfold Sg.append
        rw [if_neg (by simp [h.ready]), if_neg h0, if_pos hany]
      rw [e]
      exact .long
    · have hs : ∀ x ∈ L, x.length ≤ 200 := by
        intro x hx
        rw [Bool.not_eq_true, List.any_eq_false] at hany
        have := hany x hx
        simpa using this
      obtain ⟨c, hi, hh⟩ := h.holds
      have hfl := flat_len_le L hs
      have hkeys := hh.keyList
      have hcnt := hh.count
      have hmem : ∀ k, T.length / 64 ≤ k → (((1000 + k : Nat) : Int) ∈ D.keys ↔ k < c) := fun k _ => by rw [hkeys, names_mem]
      obtain ⟨s1, s2, s3⟩ := plan_shape (has := D.keys) L.length T L c (Nat.le_refl _) hmem
      have hm : MidF D T [] c B := ⟨by rw [List.append_nil]; exact hh, by rw [List.append_nil]; exact hi, by rw [h.swept]; exact .nil⟩
      have hrun := plan_run (has := D.keys) (E := T) (L0 := L) (B := B) hs hsz L.length [] L D c (Nat.le_refl _) rfl hm h.up h.ok (by omega) (by rw [List.append_nil]; exact hmem)
      rw [List.append_nil] at hrun
      have hall : EndsG D (Step.all ((planOf D.keys L.length (endsAll T) L).steps ++ [Step.sync]) D) (fun D' => D'.loose = [] ∧ ∃ c', c' ≤ (T ++ L).length / 64 + 1 ∧ Holds D' (T ++ L) c' [] (B + (flat L).length)) (Kept T L B) := by
        refine EndsG.seq hrun ?_
        rintro D1 g1 ⟨c', m1⟩
        refine EndsG.one ?_
        show EndsG D1 D1.sync _ _
        unfold Dk.sync
        rw [if_neg (by simp [g1.up])]
        have hk := (m1.of (tick_files D1).1 (tick_files D1).2.1).crash (R := []) D1.keep
        rw [List.append_nil] at hk
        exact step_goes (P := fun D' => D'.loose = [] ∧ ∃ c', c' ≤ (T ++ L).length / 64 + 1 ∧ Holds D' (T ++ L) c' [] (B + (flat L).length)) (Q := Kept T L B) (fun D => { D with loose := [] }) g1.up g1.ok (fun E => ⟨rfl, rfl, rfl, rfl, rfl⟩) ⟨rfl, c', m1.hi, m1.holds.of_files (tick_files D1).1⟩ hk
      have happ := append_eq h.ready h0 (by simpa using hany) (show S.entries.length + L.length ≤ 4096 by rw [h.ents]; omega)
      rw [h.ends] at happ
      have hfree : ¬ ((((planOf D.keys L.length (endsAll T) L).size : Nat) : Int) > D.free ∨ D.files.length + (planOf D.keys L.length (endsAll T) L).files > 100) := by
        rw [s2, hcnt]
        have ht := hh.total
        unfold Dk.free
        unfold nfiles at s3
        omega
      rw [if_neg hfree, s1] at happ
      rw [happ]
      generalize hR : Step.all ((planOf D.keys L.length (endsAll T) L).steps ++ [Step.sync]) D = R at *
      obtain ⟨D', e⟩ := R
      rcases hall with ⟨r1, r2, j, c', r, hj, hk⟩ | ⟨r1, r2, hl, c', hc', hk⟩
      · simp only at r1 r2 hk
        subst r1
        rw [if_neg (by simp)]
        exact .sunk _ _ j hs hj ⟨⟨c', r, hk⟩, r2.down, r2.swept, r2.fails⟩ r2.cap r2.starts
      · simp only at r1 r2 hl hk
        subst r1
        rw [if_pos rfl]
        exact .full _ _ hs ⟨⟨c', hc', hk⟩, by simp [h.ents], rfl, h.alive, r2.starts.trans h.starts, r2.up, hl, r2.ok⟩ r2.cap r2.starts
theorem head_crash {S : Sg} {D : Dk} {T : List (List UInt8)} {B : Nat} (h : Head S D T B) (k : Int) : DownAt (D.crash k) T B := by
  obtain ⟨c, _, hh⟩ := h.holds
  exact ⟨⟨c, [], hh.of_files (by rw [crash_swept h.swept])⟩, rfl, rfl, rfl⟩
theorem head_fail {S : Sg} {D : Dk} {T : List (List UInt8)} {B : Nat} (h : Head S D T B) (n k : Int) (hn : 0 ≤ n) : D.fail n k = ({ D with fails := true, left := n, keep := k }, 0) ∧ Head S (D.fail n k).1 T B := by
  have e : D.fail n k = ({ D with fails := true, left := n, keep := k }, 0) := by
    unfold Dk.fail
    rw [if_neg (by simp [h.up]), if_neg (by omega)]
  refine ⟨e, ?_⟩
  rw [e]
  obtain ⟨c, hc, hh⟩ := h.holds
  exact ⟨⟨c, hc, hh.of_files rfl⟩, h.ents, h.ends, h.alive, h.starts, h.up, h.swept, fun _ => hn⟩
/-- a start -/
structure UpAt (D : Dk) (T : List (List UInt8)) (B : Nat) : Prop where
  holds : ∃ c r, Holds D T c r B
  up : D.down = false
  swept : D.loose = []
  ok : D.Ok
theorem down_start {D : Dk} {T : List (List UInt8)} {B : Nat} (h : DownAt D T B) : D.start = ({ D with down := false, starts := D.starts + 1 }, 0) ∧ UpAt D.start.1 T B ∧ D.start.1.fails = false := by
  have e : D.start = ({ D with down := false, starts := D.starts + 1 }, 0) := by
    unfold Dk.start
    rw [if_pos h.down]
  rw [e]
  obtain ⟨c, r, hh⟩ := h.holds
  exact ⟨rfl, ⟨⟨c, r, hh.of_files rfl⟩, rfl, h.swept, fun hf => by rw [show ({ D with down := false, starts := D.starts + 1 } : Dk).fails = D.fails from rfl, h.fails] at hf; exact absurd hf (by simp)⟩, h.fails⟩
theorem up_fail {D : Dk} {T : List (List UInt8)} {B : Nat} (h : UpAt D T B) (n k : Int) (hn : 0 ≤ n) : D.fail n k = ({ D with fails := true, left := n, keep := k }, 0) ∧ UpAt (D.fail n k).1 T B := by
  have e : D.fail n k = ({ D with fails := true, left := n, keep := k }, 0) := by
    unfold Dk.fail
    rw [if_neg (by simp [h.up]), if_neg (by omega)]
  refine ⟨e, ?_⟩
  rw [e]
  obtain ⟨c, r, hh⟩ := h.holds
  exact ⟨⟨c, r, hh.of_files rfl⟩, h.up, h.swept, fun _ => hn⟩
/-- Open behind a start -/
theorem up_open {D : Dk} {T : List (List UInt8)} {B : Nat} (h : UpAt D T B) (hT : T.length ≤ 4000) :
    ((Step.all (openSteps D) D).2 = 61 ∧ D.fails = true ∧ DownAt (Step.all (openSteps D) D).1 T B ∧ (Step.all (openSteps D) D).1.cap = D.cap ∧ (Step.all (openSteps D) D).1.starts = D.starts) ∨
    ((Step.all (openSteps D) D).2 = 0 ∧ Head (opened D) (Step.all (openSteps D) D).1 T B ∧ (Step.all (openSteps D) D).1.cap = D.cap ∧ (Step.all (openSteps D) D).1.starts = D.starts) := by
  obtain ⟨c, r, hh⟩ := h.holds
  obtain ⟨o1, o2, _⟩ := holds_opened hh hT
  rcases open_run hh h.up h.swept h.ok hT with ⟨r1, r2, r3⟩ | ⟨r1, r2, r3⟩
  · exact .inl ⟨r1, r2.was, ⟨r3, r2.down, r2.swept, r2.fails⟩, r2.cap, r2.starts⟩
  · exact .inr ⟨r1, ⟨r3, o1, o2, rfl, r2.starts, r2.up, r2.swept, r2.ok⟩, r2.cap, r2.starts⟩
end Go.Proofs.YtogkdoooimcemaaGreatDoor

/- Cut1 -/
namespace Go.Proofs.YtogkdoooimcemaaGreatDoor
open Go Go.RowKit
open Go.ChangeMaps (setBlock)
set_option maxRecDepth 20000

/-- the entries: two bytes each -/
def pairL (k j : Nat) : List (List UInt8) := (List.range j).map fun i => [UInt8.ofNat i, UInt8.ofNat k]
theorem pairL_len (k j : Nat) : (pairL k j).length = j := by simp [pairL]
theorem pairL_short (k j : Nat) : ∀ x ∈ pairL k j, x.length ≤ 200 := by
  intro x hx
  obtain ⟨i, _, rfl⟩ := List.mem_map.1 hx
  simp
theorem pairL_flat (k : Nat) : ∀ j, (flat (pairL k j)).length = 14 * j
  | 0 => rfl
  | j + 1 => by
    have := pairL_flat k j
    unfold pairL at this ⊢
    rw [List.range_succ, List.map_append, flat_append, List.length_append, this, List.map_singleton, flat_cons, List.length_append, length_frameOf]
    simp [flat]; omega
theorem pairL_succ (k j : Nat) : pairL k (j + 1) = pairL k j ++ [[UInt8.ofNat j, UInt8.ofNat k]] := by simp [pairL, List.range_succ]
theorem u8_of (j : Nat) (h : j < 256) : bv (UInt8.ofNat j) = .int .u8 j := by
  simp [bv]; omega
theorem cv_pair (w : World) (j k : Nat) (hj : j < 256) (hk : k < 256) : (convert 61 9 (.slice (some ⟨w.heap.size, 0, none⟩) 2 2)).run Tryz.prog (w.alloc (.cells #[.int .u8 j, .int .u8 k] 5)) = .ok (.string ⟨#[UInt8.ofNat j, UInt8.ofNat k]⟩) (w.alloc (.cells #[.int .u8 j, .int .u8 k] 5)) := by
  have := run_text (o := 0) (cap := 2) (heap_alloc_new w (.cells #[.int .u8 j, .int .u8 k] 5)) [UInt8.ofNat j, UInt8.ofNat k] (by
    rw [← u8_of j hj, ← u8_of k hk]; rfl)
  exact this
def PairR (k : Nat) (w : World) (l i : Value) (wr : World) : Prop := ∃ (j : Nat) (a : Option Addr) (c : Nat), j ≤ k ∧ l = .slice a j c ∧ i = .int .i64 j ∧ RowAt wr 9 l (svs (pairL k j)) ∧ Upd [] w wr ∧ (∀ g, l.ownBlock = some g → w.heap.size ≤ g)
theorem off_append {S : Sg} {D : Dk} (L : List (List UInt8)) (h : D.starts ≠ S.starts) : S.append D L = ({ S with dead := true }, D, 61) := by
  unfold Sg.append
  rw [if_pos (by unfold Sg.ready; simp [h])]
theorem StrsIn.own {w : World} {v : Value} {L : List (List UInt8)} (h : StrsIn w v L) (h0 : L.length ≠ 0) : ∀ g, v.ownBlock = some g → g < w.heap.size := by
  intro g hg
  rcases h.at_ h0 with ⟨_, h1⟩ | ⟨g', off, cap, rfl, h1, h2, h3⟩
  · rw [h1] at h0; exact absurd rfl h0
  · have := h3 0 (by omega)
    simp [Value.ownBlock] at hg
    subst hg
    exact block_lt_of_cell this
end Go.Proofs.YtogkdoooimcemaaGreatDoor

/- SegV1 -/
namespace Go.Proofs.YtogkdoooimcemaaGreatDoor
open Go Go.RowKit
open Go.ChangeMaps (setBlock)

/-- the blocks that are kept: those that were there, and those of X -/
def PX (w0 : World) (X : List Nat) : Nat → Prop := fun b => b < w0.heap.size ∨ b ∈ X
structure Fr (w0 : World) (X : List Nat) (w : World) (s d : Nat) (S : Sg) (D : Dk) : Prop where
  on : OnP w (PX w0 X) w s d S D
  base : Upd [] w0 w
  lt : ∀ b ∈ X, b < w.heap.size
structure FrD (w0 : World) (X : List Nat) (w : World) (d : Nat) (D : Dk) : Prop where
  on : DOnP w (PX w0 X) w d D
  base : Upd [] w0 w
  lt : ∀ b ∈ X, b < w.heap.size
/-- from one world to a later one: X's blocks are as they were -/
structure Stays (w0 : World) (X : List Nat) (w w' : World) : Prop where
  block : ∀ b ∈ X, w'.heap[b]? = w.heap[b]?
  size : w.heap.size ≤ w'.heap.size
section
variable {w0 w w' : World} {X Y : List Nat} {s d : Nat} {S S' : Sg} {D D' : Dk}
theorem kept_base (hb : Upd [] w0 w) (hk : KeptP (PX w0 X) w w') : Upd [] w0 w' :=
  (((KeptP.refl (Old w0) w0).trans hb (by simp)).comp (hk.mono (fun _ h => .inl h)) : KeptP (Old w0) w0 w').upd
theorem kept_stays (hl : ∀ b ∈ X, b < w.heap.size) (hk : KeptP (PX w0 X) w w') : Stays w0 X w w' := ⟨fun b hb => hk.block b (hl b hb) (.inr hb), hk.size⟩
theorem DOnP.rebase {v : World} {P Q : Nat → Prop} (h : DOnP v P w d D) (hu : Upd [] w w') (hq : ∀ b, Q b → P b ∧ b < v.heap.size ∨ w.heap.size ≤ b) : DOnP w' Q w' d D := by
  obtain ⟨df, h1, h3, h4⟩ := h
  have hlt := h1.lt
  refine ⟨df, h1.upd hu (by simp), fun b hb => .inl fun hQ => ?_, KeptP.refl _ _⟩
  have hb' := hlt b hb
  rcases hq b hQ with ⟨k, k'⟩ | k
  · rcases h3 b hb with h | h
    · exact h k
    · omega
  · omega
/-- behind an act -/
theorem Fr.next (h : Fr w0 X w s d S D) (k : OnP w (PX w0 X) w' s d S' D') : Fr w0 X w' s d S' D' ∧ Stays w0 X w w' := by
  have hk := k.kept
  have hb := kept_base h.base hk
  refine ⟨⟨k.rebase (Upd.refl [] w') fun b hb' => ?_, hb, fun b hb' => Nat.lt_of_lt_of_le (h.lt b hb') hk.size⟩, kept_stays h.lt hk⟩
  rcases hb' with h1 | h1
  · exact .inl ⟨.inl h1, Nat.lt_of_lt_of_le h1 h.base.size⟩
  · exact .inl ⟨.inr h1, h.lt b h1⟩
theorem FrD.next (h : FrD w0 X w d D) (k : DOnP w (PX w0 X) w' d D') : FrD w0 X w' d D' ∧ Stays w0 X w w' := by
  have hk := k.kept
  have hb := kept_base h.base hk
  refine ⟨⟨k.rebase (Upd.refl [] w') fun b hb' => ?_, hb, fun b hb' => Nat.lt_of_lt_of_le (h.lt b hb') hk.size⟩, kept_stays h.lt hk⟩
  rcases hb' with h1 | h1
  · exact .inl ⟨.inl h1, Nat.lt_of_lt_of_le h1 h.base.size⟩
  · exact .inl ⟨.inr h1, h.lt b h1⟩
theorem FrD.opens (h : FrD w0 X w d D) (k : OnP w (PX w0 X) w' s d S' D') : Fr w0 X w' s d S' D' ∧ Stays w0 X w w' := by
  have hk := k.kept
  have hb := kept_base h.base hk
  refine ⟨⟨k.rebase (Upd.refl [] w') fun b hb' => ?_, hb, fun b hb' => Nat.lt_of_lt_of_le (h.lt b hb') hk.size⟩, kept_stays h.lt hk⟩
  rcases hb' with h1 | h1
  · exact .inl ⟨.inl h1, Nat.lt_of_lt_of_le h1 h.base.size⟩
  · exact .inl ⟨.inr h1, h.lt b h1⟩
theorem Fr.disk (h : Fr w0 X w s d S D) : FrD w0 X w d D := ⟨h.on.disk, h.base, h.lt⟩
/-- new blocks are kept from now on -/
theorem Fr.grow (h : Fr w0 X w s d S D) (hu : Upd [] w w') (hY : ∀ b ∈ Y, b ∈ X ∨ (w.heap.size ≤ b ∧ b < w'.heap.size)) : Fr w0 Y w' s d S D := by
  refine ⟨h.on.rebase hu fun b hb => ?_, h.base.trans hu (by simp), fun b hb => ?_⟩
  · rcases hb with h1 | h1
    · exact .inl ⟨.inl h1, Nat.lt_of_lt_of_le h1 h.base.size⟩
    · rcases hY b h1 with h2 | h2
      · exact .inl ⟨.inr h2, h.lt b h2⟩
      · exact .inr h2.1
  · rcases hY b hb with h2 | h2
    · exact Nat.lt_of_lt_of_le (h.lt b h2) hu.size
    · exact h2.2
theorem FrD.grow (h : FrD w0 X w d D) (hu : Upd [] w w') (hY : ∀ b ∈ Y, b ∈ X ∨ (w.heap.size ≤ b ∧ b < w'.heap.size)) : FrD w0 Y w' d D := by
  refine ⟨h.on.rebase hu fun b hb => ?_, h.base.trans hu (by simp), fun b hb => ?_⟩
  · rcases hb with h1 | h1
    · exact .inl ⟨.inl h1, Nat.lt_of_lt_of_le h1 h.base.size⟩
    · rcases hY b h1 with h2 | h2
      · exact .inl ⟨.inr h2, h.lt b h2⟩
      · exact .inr h2.1
  · rcases hY b hb with h2 | h2
    · exact Nat.lt_of_lt_of_le (h.lt b h2) hu.size
    · exact h2.2
theorem globPX (hb : Upd [] w0 w) (hG : Glob w0) : GlobP w (PX w0 X) := ⟨hG.upd hb (by simp) (by simp), .inl hG.lt.1, .inl hG.lt.2⟩
theorem Stays.cell (h : Stays w0 X w w') {p : Addr} (hp : p.block ∈ X) : w'.cell? p = w.cell? p := World.cell?_of_block (h.block _ hp)
theorem Stays.strs (h : Stays w0 X w w') {v : Value} {L : List (List UInt8)} (hs : StrsAt w v L) (hv : ∀ g, v.ownBlock = some g → g ∈ X) : StrsAt w' v L := hs.block fun g hg _ => h.block g (hv g hg)
theorem Stays.trans {w2 : World} (h : Stays w0 X w w') (k : Stays w0 X w' w2) : Stays w0 X w w2 := ⟨fun b hb => (k.block b hb).trans (h.block b hb), Nat.le_trans h.size k.size⟩
end
/-! ### the acts -/
section
variable {w0 w : World} {X : List Nat} {s d : Nat} {S : Sg} {D : Dk}
theorem fr_count {T : List (List UInt8)} {B : Nat} (h : Fr w0 X w s d S D) (hh : Head S D T B) : Calls Tryz.prog 12 #[.pointer (some ⟨s, 0, none⟩)] w fun e w' => e = .returned (.int .i64 T.length) ∧ w = w' := by
  have := on_count h.on
  rw [hh.ents] at this
  exact this.mono (fun _ _ h => ⟨h.1, h.2.symm⟩)
def FrApp (w0 w : World) (X : List Nat) (s d : Nat) (S : Sg) (D : Dk) (T L : List (List UInt8)) (B : Nat) (e : Ending) (w' : World) : Prop := ∃ S' D' g, AppEnds S D T L B (S', D', g) ∧ e = .returned (.int .i64 g) ∧ Fr w0 X w' s d S' D' ∧ Stays w0 X w w'
theorem fr_append {T L : List (List UInt8)} {B : Nat} {lv : Value} (h : Fr w0 X w s d S D) (hh : Head S D T B) (hG : Glob w0) (hl : StrsIn w lv L) (hla : L.length ≠ 0 → ∀ g, lv.ownBlock = some g → g < w0.heap.size) (hLb : L.length ≤ 20) (hsz : ∀ x ∈ L, x.length ≤ 300) (hT : T.length ≤ 3900) (hcap : B + 212 * L.length ≤ D.cap) :
    Calls Tryz.prog 10 #[.pointer (some ⟨s, 0, none⟩), lv] w (FrApp w0 w X s d S D T L B) := by
  refine (on_append h.on (Upd.refl [] w) hh.ok (globPX h.base hG) hl (fun h0 g hg => .inr ⟨.inl (hla h0 g hg), Nat.lt_of_lt_of_le (hla h0 g hg) h.base.size⟩) (by omega) (fun x hx => by have := hsz x hx; omega) hh.ends_bd (by rw [hh.swept]; simp)).mono ?_
  rintro e w' ⟨rfl, k⟩
  have ha := head_append hh (L := L) (by omega) hcap
  obtain ⟨f1, f2⟩ := h.next k
  generalize S.append D L = R at *
  obtain ⟨S', D', g⟩ := R
  exact ⟨S', D', g, ha, rfl, f1, f2⟩
theorem fr_crash {T : List (List UInt8)} {B : Nat} (h : Fr w0 X w s d S D) (hh : Head S D T B) (k : Int) (hk : Dk.I64 k) : Calls Tryz.prog 15 #[.pointer (some ⟨d, 0, none⟩), .int .i64 k] w fun e w' => e = .returned (.int .i64 0) ∧ Fr w0 X w' s d S (D.crash k) ∧ Stays w0 X w w' ∧ DownAt (D.crash k) T B :=
  (on_crash h.on hh.up k hk).mono (fun _ _ r => ⟨r.1, (h.next r.2).1, (h.next r.2).2, head_crash hh k⟩)
theorem fr_fail {T : List (List UInt8)} {B : Nat} (h : Fr w0 X w s d S D) (hh : Head S D T B) (n k : Int) (h0 : 0 ≤ n) (hn : Dk.I64 n) (hk : Dk.I64 k) : Calls Tryz.prog 28 #[.pointer (some ⟨d, 0, none⟩), .int .i64 n, .int .i64 k] w fun e w' => e = .returned (.int .i64 0) ∧ ∃ D', Fr w0 X w' s d S D' ∧ Stays w0 X w w' ∧ Head S D' T B ∧ D'.cap = D.cap ∧ D'.starts = D.starts := by
  have hf := head_fail hh n k h0
  refine (on_fail h.on n k hn hk).mono ?_
  rintro e w' ⟨rfl, r⟩
  refine ⟨by rw [hf.1], _, (h.next r).1, (h.next r).2, hf.2, ?_, ?_⟩ <;> rw [hf.1]
theorem frd_start {T : List (List UInt8)} {B : Nat} (h : FrD w0 X w d D) (hh : DownAt D T B) (hs : D.starts < 1000000000) : Calls Tryz.prog 25 #[.pointer (some ⟨d, 0, none⟩)] w fun e w' => e = .returned (.int .i64 0) ∧ ∃ D', FrD w0 X w' d D' ∧ Stays w0 X w w' ∧ UpAt D' T B ∧ D'.fails = false ∧ D'.cap = D.cap ∧ D'.starts = D.starts + 1 := by
  have hf := down_start hh
  refine (don_start h.on hs).mono ?_
  rintro e w' ⟨rfl, r⟩
  refine ⟨by rw [hf.1], _, (h.next r).1, (h.next r).2, hf.2.1, hf.2.2, ?_, ?_⟩ <;> rw [hf.1]
theorem frd_fail {T : List (List UInt8)} {B : Nat} (h : FrD w0 X w d D) (hh : UpAt D T B) (n k : Int) (h0 : 0 ≤ n) (hn : Dk.I64 n) (hk : Dk.I64 k) : Calls Tryz.prog 28 #[.pointer (some ⟨d, 0, none⟩), .int .i64 n, .int .i64 k] w fun e w' => e = .returned (.int .i64 0) ∧ ∃ D', FrD w0 X w' d D' ∧ Stays w0 X w w' ∧ UpAt D' T B ∧ D'.cap = D.cap ∧ D'.starts = D.starts := by
  have hf := up_fail hh n k h0
  refine (don_fail h.on n k hn hk).mono ?_
  rintro e w' ⟨rfl, r⟩
  refine ⟨by rw [hf.1], _, (h.next r).1, (h.next r).2, hf.2, ?_, ?_⟩ <;> rw [hf.1]
/-- Open behind a start: the disk sinks, or the segments are there -/
def FrOpen (w0 w : World) (X : List Nat) (d : Nat) (D : Dk) (T : List (List UInt8)) (B : Nat) (e : Ending) (w' : World) : Prop :=
  (e = .returned (.tuple #[.pointer none, .int .i64 61]) ∧ D.fails = true ∧ ∃ D', FrD w0 X w' d D' ∧ Stays w0 X w w' ∧ DownAt D' T B ∧ D'.cap = D.cap ∧ D'.starts = D.starts) ∨
  (∃ s S D', e = .returned (.tuple #[.pointer (some ⟨s, 0, none⟩), .int .i64 0]) ∧ Fr w0 X w' s d S D' ∧ Stays w0 X w w' ∧ Head S D' T B ∧ D'.cap = D.cap ∧ D'.starts = D.starts)
theorem frd_open {T : List (List UInt8)} {B : Nat} (h : FrD w0 X w d D) (hh : UpAt D T B) (hT : T.length ≤ 4000) (hG : Glob w0) : Calls Tryz.prog 14 #[.pointer (some ⟨d, 0, none⟩)] w (FrOpen w0 w X d D T B) := by
  refine (on_open h.on hh.up hh.ok (globPX h.base hG)).mono ?_
  intro e w' r
  rcases up_open hh hT with ⟨u1, u2, u3, u4, u5⟩ | ⟨u1, u2, u4, u5⟩
  · rcases r with ⟨r1, rfl, r3⟩ | ⟨r1, _⟩
    · rw [u1]
      exact .inl ⟨rfl, u2, _, (h.next r3).1, (h.next r3).2, u3, u4, u5⟩
    · rw [u1] at r1; exact absurd r1 (by decide)
  · rcases r with ⟨r1, _⟩ | ⟨r1, s, rfl, r3⟩
    · exact absurd u1 r1
    · exact .inr ⟨s, _, _, rfl, (h.opens r3).1, (h.opens r3).2, u2, u4, u5⟩
theorem fr_get {T : List (List UInt8)} {B : Nat} (h : Fr w0 X w s d S D) (hh : Head S D T B) : Calls Tryz.prog 9 #[.pointer (some ⟨s, 0, none⟩), .int .i64 0, .int .i64 T.length] w (GetP w (svs T)) := by
  obtain ⟨sf, df, ⟨⟨ev, nv, h1, _⟩, _, _⟩, _⟩ := h.on
  have := get_ok h1 0 T.length (by rw [hh.ents]; omega)
  rw [hh.ents, List.drop_zero, List.take_length] at this
  exact this
theorem Stays.row {w' : World} (h : Stays w0 X w w') {v : Value} {e : TypeId} {xs : List Value} (hs : RowAt w e v xs) (hv : ∀ g, v.ownBlock = some g → g ∈ X) : RowAt w' e v xs := hs.keep fun g hg _ => h.block g (hv g hg)
theorem StrsAt.lt {w : World} {v : Value} {L : List (List UInt8)} (h : StrsAt w v L) (h0 : L.length ≠ 0) : ∀ g, v.ownBlock = some g → g < w.heap.size := StrsIn.own (.inl h) h0
theorem fr_up (h : Fr w0 X w s d S D) : Calls Tryz.prog 29 #[.pointer (some ⟨d, 0, none⟩)] w fun e w' => e = .returned (.bool (!D.down)) ∧ w = w' := don_up h.on.disk
theorem frd_up (h : FrD w0 X w d D) : Calls Tryz.prog 29 #[.pointer (some ⟨d, 0, none⟩)] w fun e w' => e = .returned (.bool (!D.down)) ∧ w = w' := don_up h.on
end
theorem i64_and15 (n : Int) : bits .and .i64 n 15 = n % 16 := by
  have h127 : (BitVec.ofInt 64 15).toNat = 2 ^ 4 - 1 := by decide
  have key : (BitVec.ofInt 64 n &&& BitVec.ofInt 64 15).toNat = (n % ((2 ^ 64 : Nat) : Int)).toNat % 2 ^ 4 := by
    rw [BitVec.toNat_and, BitVec.toNat_ofInt, h127, Nat.and_two_pow_sub_one_eq_mod]
  show IntKind.i64.wrap ((BitVec.ofInt 64 n &&& BitVec.ofInt 64 15).toNat : Nat) = n % 16
  rw [key, IntKind.wrap_i64]
  omega
theorem i64_and3 (n : Int) : bits .and .i64 n 3 = n % 4 := by
  have h127 : (BitVec.ofInt 64 3).toNat = 2 ^ 2 - 1 := by decide
  have key : (BitVec.ofInt 64 n &&& BitVec.ofInt 64 3).toNat = (n % ((2 ^ 64 : Nat) : Int)).toNat % 2 ^ 2 := by
    rw [BitVec.toNat_and, BitVec.toNat_ofInt, h127, Nat.and_two_pow_sub_one_eq_mod]
  show IntKind.i64.wrap ((BitVec.ofInt 64 n &&& BitVec.ofInt 64 3).toNat : Nat) = n % 4
  rw [key, IntKind.wrap_i64]
  omega
end Go.Proofs.YtogkdoooimcemaaGreatDoor
