/- Open, Append and Cut of a disk that stands for entries, where nothing fails. Plain.
  Cut, crash and start of a disk that stands for entries, where nothing fails. Plain.
  The statements' small functions: many, Texts, files. Conditions: those of each lemma.
  The statements' small functions: files, Great. Conditions: those of each lemma.
  The statements' small functions: Great. Conditions: those of each lemma.
  Segments that began behind a world, and what the acts come to where the disk stands for entries. Conditions: those of each lemma. -/
import Derived.Test.YtogkdoooimcemaaGreatDoorC15
import Derived.Lib.SlicesS
import Derived.Test.YtogkdoooimcemaaGreatDoorC13
import Derived.Test.YtogkdoooimcemaaGreatDoorC11
/- SegL4 -/
namespace Go.Proofs.YtogkdoooimcemaaGreatDoor
open Go

/-- segments that live, and their disk, which stands for entries; nothing is loose, nothing fails -/
structure Good (S : Sg) (D : Dk) (E : List (List UInt8)) (B : Nat) : Prop where
  rep : Rep D E B
  ents : S.entries = E
  ends : S.ends = endsAll E
  alive : S.dead = false
  starts : D.starts = S.starts
  calm : D.fails = false
  swept : D.loose = []
theorem Good.ready {S : Sg} {D : Dk} {E : List (List UInt8)} {B : Nat} (h : Good S D E B) : S.ready D = true := by
  unfold Sg.ready; simp [h.alive, h.rep.up, h.starts]
theorem Good.ok {S : Sg} {D : Dk} {E : List (List UInt8)} {B : Nat} (h : Good S D E B) : D.Ok := by
  intro hf; rw [h.calm] at hf; simp at hf
theorem Good.mono {S : Sg} {D : Dk} {E : List (List UInt8)} {B B' : Nat} (h : Good S D E B) (hb : B ≤ B') : Good S D E B' := { h with rep := h.rep.mono hb }
theorem sync_calm {D : Dk} (hf : D.fails = false) (hd : D.down = false) : D.sync = ({ D with loose := [] }, 0) := by
  unfold Dk.sync
  rw [if_neg (by simp [hd]), step_calm hf]
theorem wf_swept {D : Dk} (h : D.WF) : ({ D with loose := [] } : Dk).WF := by
  refine ⟨h.keys, h.size, h.cap, fun n => ?_, by simp, h.many, h.left, h.keep, h.fails, h.starts, h.ints⟩
  simp [Dk.of]
theorem Rep.swept {D : Dk} {E : List (List UInt8)} {B : Nat} (h : Rep D E B) : Rep { D with loose := [] } E B := ⟨h.up, h.get, h.total, h.short, wf_swept h.wf⟩
theorem Good.ends_bd {S : Sg} {D : Dk} {E : List (List UInt8)} {B : Nat} (h : Good S D E B) : ∀ x ∈ S.ends, 0 ≤ x ∧ x ≤ 1099511627776 := by
  intro x hx
  rw [h.ends] at hx
  have := endsAll_bd E h.rep.short x hx
  omega
theorem names_mem (m : Nat) (k : Nat) : ((1000 + k : Nat) : Int) ∈ names m ↔ k < m := by
  unfold names
  simp only [List.mem_map, List.mem_range]
  constructor
  · rintro ⟨j, hj, e⟩; omega
  · intro h; exact ⟨k, h, rfl⟩
def Same (D D' : Dk) : Prop := D'.cap = D.cap ∧ D'.starts = D.starts
/-- Append -/
theorem good_append {S : Sg} {D : Dk} {E : List (List UInt8)} {B : Nat} (h : Good S D E B) (L : List (List UInt8)) (hs : ∀ x ∈ L, x.length ≤ 200) (hsz : E.length + L.length ≤ 4096) (hcap : B + (flat L).length ≤ D.cap) :
    ∃ S' D', S.append D L = (S', D', 0) ∧ Good S' D' (E ++ L) (B + (flat L).length) ∧ Same D D' := by
  by_cases h0 : L.length = 0
  · have : L = [] := List.eq_nil_of_length_eq_zero h0
    subst this
    refine ⟨S, D, ?_, ?_, rfl, rfl⟩
    · unfold Sg.append
      rw [if_neg (by simp [h.ready]), if_pos h0]
    · simpa [flat] using h
  · have hany : L.any (fun s => decide (200 < s.length)) = false := by
      rw [List.any_eq_false]
      intro x hx
      have := hs x hx
      simpa using this
    have hnf := h.rep.files
    have hkeys := h.rep.keys
    obtain ⟨p1, p2, p3, D1, p4, p5, p6⟩ := plan_calm (has := D.keys) L.length E L D B (Nat.le_refl _) h.rep h.calm hs hcap hsz (by rw [h.swept]; simp; omega) (fun k _ => by rw [hkeys, names_mem, nfiles_lt])
    have hfree : ¬ ((((planOf D.keys L.length (endsAll E) L).size : Nat) : Int) > D.free ∨ D.files.length + (planOf D.keys L.length (endsAll E) L).files > 100) := by
      rw [p2, hnf, ← p3]
      have ht := h.rep.total
      unfold Dk.free nfiles
      rw [List.length_append]
      omega
    have hall : Step.all ((planOf D.keys L.length (endsAll E) L).steps ++ [Step.sync]) D = ({ D1 with loose := [] }, 0) := by
      rw [all_append, p4, if_pos rfl]
      simp only [Step.all, Step.run, sync_calm p6.fails p5.up]; simp
    refine ⟨{ S with entries := S.entries ++ L, ends := endsAll (E ++ L) }, { D1 with loose := [] }, ?_, ⟨p5.swept, by rw [h.ents], rfl, h.alive, p6.starts.trans h.starts, p6.fails, rfl⟩, p6.cap, p6.starts⟩
    unfold Sg.append
    rw [if_neg (by simp [h.ready]), if_neg h0, if_neg (by simp [hany]), if_neg (by rw [h.ents]; omega)]
    simp only [h.ends]
    rw [if_neg hfree, hall, if_pos rfl, p1]
/-- Open -/
theorem good_open {D : Dk} {E : List (List UInt8)} {B : Nat} (h : Rep D E B) (hf : D.fails = false) (hsz : E.length ≤ 4096) :
    ∃ D', Step.all (openSteps D) D = (D', 0) ∧ Good (opened D) D' E B ∧ Same D D' := by
  have hg := gather_files (D := D) (E := E) h.short (fun k => h.get _) 64 0 (by omega)
  rw [Nat.sub_zero] at hg
  have h1 := ents_range E (nfiles E.length) 0 (by unfold nfiles; omega)
  have h2 := ends_range E (nfiles E.length) 0 (by unfold nfiles; omega)
  have h3 := torn_range E (nfiles E.length) 0
  have hgl : (gather D 64 0).length = nfiles E.length := by rw [hg]; simp
  have hst : openSteps D = [Step.sync] := by
    unfold openSteps
    rw [hgl]
    have hd : dropSteps D ((1000 + nfiles E.length : Nat) : Int) = [] := by
      unfold dropSteps
      rw [h.keys, List.map_eq_nil_iff, List.filter_eq_nil_iff]
      intro a ha
      rw [List.mem_reverse] at ha
      unfold names at ha
      obtain ⟨k, hk, rfl⟩ := List.mem_map.1 ha
      rw [List.mem_range] at hk
      simp; omega
    rw [hd, hg, h3]; rfl
  refine ⟨{ D with loose := [] }, ?_, ⟨h.swept, ?_, ?_, rfl, rfl, hf, rfl⟩, rfl, rfl⟩
  · rw [hst]
    simp only [Step.all, Step.run, sync_calm hf h.up]; simp
  · show entsOf (gather D 64 0) = E
    unfold entsOf
    rw [hg, h1]; rfl
  · show endsOf (gather D 64 0) = endsAll E
    unfold endsOf
    rw [hg, h2]; rfl
end Go.Proofs.YtogkdoooimcemaaGreatDoor

/- SegL5 -/
namespace Go.Proofs.YtogkdoooimcemaaGreatDoor
open Go

theorem delete_calm {D : Dk} {n : Int} {b : List UInt8} (hf : D.fails = false) (hd : D.down = false) (hl : D.loose = []) (hg : D.get n = some b) : D.delete n = ({ D with files := Dk.delF D.files n }, 0) := by
  unfold Dk.delete
  rw [if_neg (by simp [Dk.has, hd, hg]), step_calm hf]
  rw [hl]
  congr 1
theorem total_del (l : List (Int × List UInt8)) (n : Int) : Dk.total (Dk.delF l n) ≤ Dk.total l := by
  unfold Dk.total Dk.delF
  induction l with
  | nil => simp
  | cons f l ih => rw [List.filter_cons]; split <;> simp <;> omega
theorem dels_calm : ∀ (ks : List Int) (D : Dk), D.fails = false → D.down = false → D.loose = [] → D.WF → ks.Nodup → (∀ k ∈ ks, (D.get k).isSome = true) →
    ∃ D', Step.all (ks.map Step.delete) D = (D', 0) ∧ (∀ m, D'.get m = if m ∈ ks then none else D.get m) ∧ D'.down = false ∧ Calm D D' ∧ D'.loose = [] ∧ D'.WF ∧ Dk.total D'.files ≤ Dk.total D.files
  | [], D, hf, hd, hl, hw, _, _ => ⟨D, rfl, fun m => by simp, hd, ⟨rfl, rfl, hf⟩, hl, hw, Nat.le_refl _⟩
  | k :: ks, D, hf, hd, hl, hw, hn, hk => by
    obtain ⟨b, hb⟩ := Option.isSome_iff_exists.1 (hk k (by simp))
    have h1 := delete_calm hf hd hl hb
    have hw1 := wf_del hw k (by rw [hl]; rfl)
    rw [List.nodup_cons] at hn
    have hget : ∀ m, Dk.get { D with files := Dk.delF D.files k } m = if m = k then none else D.get m := fun m => getF_delF D.files k m
    obtain ⟨D', i1, i2, i3, i4, i5, i6, i7⟩ := dels_calm ks { D with files := Dk.delF D.files k } hf hd hl hw1 hn.2 (fun m hm => by
      rw [hget, if_neg (by rintro rfl; exact hn.1 hm)]
      exact hk m (by simp [hm]))
    refine ⟨D', ?_, fun m => ?_, i3, ⟨i4.cap, i4.starts, i4.fails⟩, i5, i6, Nat.le_trans i7 (total_del _ _)⟩
    · simp only [List.map_cons, Step.all, Step.run, h1, if_true]
      exact i1
    · rw [i2, hget]
      by_cases h : m ∈ ks
      · rw [if_pos h, if_pos (by simp [h])]
      · rw [if_neg h]
        by_cases h2 : m = k
        · rw [if_pos h2, if_pos (by simp [h2])]
        · rw [if_neg h2, if_neg (by simp [h, h2])]
theorem truncate_calm {D : Dk} {n : Int} {b : List UInt8} {k : Nat} (hf : D.fails = false) (hd : D.down = false) (hg : D.get n = some b) (hk : k ≤ b.length) : D.truncate n k = (D.cut n k, 0) := by
  unfold Dk.truncate
  rw [if_neg (by simp [Dk.has, hd, hg]), hg, if_neg (by simp; omega), step_calm hf]
  rfl
theorem chunk_take (E : List (List UInt8)) (m k : Nat) (h : 64 * k + 64 ≤ m) : chunk (E.take m) k = chunk E k := by
  unfold chunk
  rw [List.drop_take, List.take_take]
  congr 1; omega
theorem chunk_last (E : List (List UInt8)) (m : Nat) (_hm : m ≤ E.length) : flat (chunk (E.take m) (m / 64)) = (flat (chunk E (m / 64))).take (flat ((E.drop (64 * (m / 64))).take (m % 64))).length := by
  have e1 : chunk (E.take m) (m / 64) = (E.drop (64 * (m / 64))).take (m % 64) := by
    unfold chunk
    rw [List.drop_take, List.take_take]
    congr 1; omega
  have e2 : chunk E (m / 64) = (E.drop (64 * (m / 64))).take (m % 64) ++ ((E.drop (64 * (m / 64))).take 64).drop (m % 64) := by
    unfold chunk
    conv => lhs; rw [← List.take_append_drop (m % 64) ((E.drop (64 * (m / 64))).take 64)]
    rw [List.take_take]
    congr 2; omega
  rw [e1, e2, flat_append, List.take_left']
  rfl
theorem fileFor_take (E : List (List UInt8)) (m : Nat) (hm : m ≤ E.length) (n : Int) : fileFor (E.take m) n =
    if n = ((1000 + m / 64 : Nat) : Int) ∧ m % 64 ≠ 0 then (fileFor E n).map (·.take (flat ((E.drop (64 * (m / 64))).take (m % 64))).length) else if ((1000 + nfiles m : Nat) : Int) ≤ n then none else fileFor E n := by
  have hl : (E.take m).length = m := by rw [List.length_take]; omega
  by_cases h1 : 1000 ≤ n
  · obtain ⟨k, rfl⟩ : ∃ k : Nat, n = ((1000 + k : Nat) : Int) := ⟨(n - 1000).toNat, by omega⟩
    rw [fileFor_at, fileFor_at, hl]
    by_cases hk : k = m / 64 ∧ m % 64 ≠ 0
    · obtain ⟨rfl, h2⟩ := hk
      rw [if_pos (by omega), if_pos ⟨rfl, h2⟩, if_pos (by omega), chunk_last E m hm]; rfl
    · rw [if_neg (by omega : ¬ (((1000 + k : Nat) : Int) = ((1000 + m / 64 : Nat) : Int) ∧ m % 64 ≠ 0))]
      by_cases h3 : nfiles m ≤ k
      · rw [if_neg (by unfold nfiles at h3; omega), if_pos (by omega)]
      · have : 64 * k + 64 ≤ m := by unfold nfiles at h3; omega
        rw [if_pos (by omega), if_neg (by omega), if_pos (by omega), chunk_take E m k this]
  · rw [if_neg (by omega), if_neg (by omega)]
    unfold fileFor
    rw [if_neg (by omega), if_neg (by omega)]
theorem endsAll_last (E : List (List UInt8)) (m : Nat) (hm : m ≤ E.length) (h : m % 64 ≠ 0) : (endsAll E).getD (m - 1) 0 = (((flat ((E.drop (64 * (m / 64))).take (m % 64))).length : Nat) : Int) := by
  rw [List.getD_eq_getElem?_getD, endsAll_get E (m - 1) (by omega), Option.getD_some]
  have e1 : (m - 1) / 64 = m / 64 := by omega
  have e2 : (m - 1) % 64 + 1 = m % 64 := by omega
  rw [e1, e2]
theorem piece_le (E : List (List UInt8)) (m : Nat) : (flat ((E.drop (64 * (m / 64))).take (m % 64))).length ≤ (flat (chunk E (m / 64))).length := by
  have e2 : chunk E (m / 64) = (E.drop (64 * (m / 64))).take (m % 64) ++ ((E.drop (64 * (m / 64))).take 64).drop (m % 64) := by
    unfold chunk
    conv => lhs; rw [← List.take_append_drop (m % 64) ((E.drop (64 * (m / 64))).take 64)]
    rw [List.take_take]
    congr 2; omega
  rw [e2, flat_append, List.length_append]; omega
theorem cut_pre {S : Sg} {D : Dk} {E : List (List UInt8)} {B : Nat} (h : Good S D E B) (m : Nat) (hm : m ≤ E.length) : Step.PreAll (S.cutSteps D m ++ [.sync]) D := by
  unfold Sg.cutSteps
  have hmt : Mends (if m % 64 = 0 then ([] : List Step) else [Step.trunc ((1000 + m / 64 : Nat) : Int) (S.ends.getD (m - 1) 0).toNat]) := by
    split
    · trivial
    · exact ⟨by simp, trivial⟩
  refine mends_pre _ _ (Mends.append (Mends.append (mends_drop D _).1 hmt (fun n k k' h _ => (mends_drop D _).2 n k h)) trivial (by simp)) ?_
  intro n k hk b hb
  rcases List.mem_append.1 hk with hk | hk
  · rcases List.mem_append.1 hk with hk | hk
    · exact absurd hk ((mends_drop D _).2 n k)
    · split at hk
      · simp at hk
      · rename_i h64
        simp only [List.mem_singleton, Step.trunc.injEq] at hk
        obtain ⟨rfl, rfl⟩ := hk
        rw [h.rep.get, fileFor_at, if_pos (by omega)] at hb
        rw [h.ends, endsAll_last E m hm h64, ← Option.some.inj hb]
        have := piece_le E m
        omega
  · simp at hk
/-- Cut -/
theorem good_cut {S : Sg} {D : Dk} {E : List (List UInt8)} {B : Nat} (h : Good S D E B) (m : Nat) (hm : m ≤ E.length) :
    ∃ S' D', S.cut D m = (S', D', 0) ∧ Good S' D' (E.take m) B ∧ Same D D' := by
  have hnf := h.rep.files
  have hkeys := h.rep.keys
  obtain ⟨ks, hks⟩ : ∃ ks, ks = D.keys.reverse.filter (fun x => decide (((1000 + (m + 63) / 64 : Nat) : Int) ≤ x)) := ⟨_, rfl⟩
  have hmem : ∀ n, n ∈ ks ↔ ((1000 + nfiles m : Nat) : Int) ≤ n ∧ (fileFor E n).isSome = true := by
    intro n
    rw [hks, List.mem_filter, List.mem_reverse, hkeys, fileFor_some]
    unfold names
    simp only [List.mem_map, List.mem_range, decide_eq_true_eq]
    unfold nfiles
    constructor
    · rintro ⟨⟨k, hk, rfl⟩, h2⟩; exact ⟨by omega, k, hk, rfl⟩
    · rintro ⟨h2, k, hk, rfl⟩; exact ⟨⟨k, hk, rfl⟩, by omega⟩
  have hnd : ks.Nodup := by
    rw [hks, hkeys]
    exact List.Nodup.sublist List.filter_sublist ((List.reverse_perm _).nodup_iff.2 (names_nodup _))
  obtain ⟨D1, d1, d2, d3, d4, d5, d6, d7⟩ := dels_calm ks D h.calm h.rep.up h.swept h.rep.wf hnd (fun k hk => by rw [h.rep.get]; exact ((hmem k).1 hk).2)
  have hget1 : ∀ n, D1.get n = if ((1000 + nfiles m : Nat) : Int) ≤ n then none else fileFor E n := by
    intro n
    rw [d2, h.rep.get]
    by_cases h1 : ((1000 + nfiles m : Nat) : Int) ≤ n
    · rw [if_pos h1]
      by_cases h2 : (fileFor E n).isSome = true
      · rw [if_pos ((hmem n).2 ⟨h1, h2⟩)]
      · rw [if_neg (fun hx => h2 ((hmem n).1 hx).2)]
        simpa using h2
    · rw [if_neg h1, if_neg (fun hx => h1 ((hmem n).1 hx).1)]
  have hshort : ∀ x ∈ E.take m, x.length ≤ 200 := fun x hx => h.rep.short x (List.mem_of_mem_take hx)
  have htot := h.rep.total
  obtain ⟨D2, s1, s2, s3, s4, s5, s6, s7⟩ : ∃ D2, Step.all (S.cutSteps D m) D = (D2, 0) ∧ (∀ n, D2.get n = fileFor (E.take m) n) ∧ D2.down = false ∧ Calm D D2 ∧ D2.loose = [] ∧ D2.WF ∧ Dk.total D2.files ≤ B := by
    unfold Sg.cutSteps dropSteps
    rw [← hks, all_append, d1, if_pos rfl]
    by_cases h64 : m % 64 = 0
    · rw [if_pos h64]
      refine ⟨D1, rfl, fun n => ?_, d3, d4, d5, d6, by omega⟩
      rw [hget1, fileFor_take E m hm, if_neg (c := n = ((1000 + m / 64 : Nat) : Int) ∧ m % 64 ≠ 0) (by omega)]
    · rw [if_neg h64, h.ends, endsAll_last E m hm h64, Int.toNat_natCast]
      have hg : D1.get ((1000 + m / 64 : Nat) : Int) = some (flat (chunk E (m / 64))) := by
        rw [hget1, if_neg (by unfold nfiles; omega), fileFor_at, if_pos (by omega)]
      have hle := piece_le E m
      have ht := truncate_calm d4.fails d3 hg hle
      generalize hq : (flat ((E.drop (64 * (m / 64))).take (m % 64))).length = q at *
      have hcut : D1.cut ((1000 + m / 64 : Nat) : Int) q = { D1 with files := Dk.setF D1.files ((1000 + m / 64 : Nat) : Int) ((flat (chunk E (m / 64))).take q) } := by
        unfold Dk.cut
        rw [hg, d5]
        cases D1
        simp only at d5
        subst d5
        rfl
      have hwc := wf_cut d6 hg q hle
      rw [d5] at hwc
      refine ⟨D1.cut ((1000 + m / 64 : Nat) : Int) q, ?_, fun n => ?_, ?_, ?_, ?_, ?_, ?_⟩
      · simp only [Step.all, Step.run, ht]; simp
      · rw [hcut, fileFor_take E m hm, hq]
        show Dk.getF (Dk.setF D1.files _ _) n = _
        rw [getF_setF]
        by_cases hn : n = ((1000 + m / 64 : Nat) : Int)
        · rw [if_pos hn, if_pos ⟨hn, h64⟩, hn]
          show Option.map _ (D1.get _) = _
          rw [hg, fileFor_at, if_pos (by omega)]; rfl
        · rw [if_neg hn, if_neg (by rintro ⟨h1, _⟩; exact hn h1)]
          exact hget1 n
      · rw [hcut]; exact d3
      · rw [hcut]; exact ⟨d4.cap, d4.starts, d4.fails⟩
      · rw [hcut]; exact d5
      · rw [hcut]
        cases D1
        simp only at d5
        subst d5
        exact hwc
      · rw [hcut]
        have := total_shrink D1.files ((1000 + m / 64 : Nat) : Int) ((flat (chunk E (m / 64))).take q) _ d6.keys hg (by simp; omega)
        exact Nat.le_trans this (by omega)
  have hall : Step.all (S.cutSteps D m ++ [Step.sync]) D = ({ D2 with loose := [] }, 0) := by
    rw [all_append, s1, if_pos rfl]
    simp only [Step.all, Step.run, sync_calm s4.fails s3]; simp
  have hrep : Rep D2 (E.take m) B := ⟨s3, s2, s7, hshort, s6⟩
  refine ⟨{ S with entries := S.entries.take m, ends := S.ends.take m }, { D2 with loose := [] }, ?_, ⟨hrep.swept, by rw [h.ents], ?_, h.alive, s4.starts.trans h.starts, s4.fails, rfl⟩, s4.cap, s4.starts⟩
  · unfold Sg.cut
    rw [if_neg (by simp [h.ready]), if_neg (by rw [h.ents]; omega), Int.toNat_natCast]
    simp only [hall, if_true]
  · show S.ends.take m = _
    rw [h.ends, endsAll_take E m hm]
theorem rep_new (cap : Nat) (hc : cap ≤ 1048576) : Rep (Dk.new cap) [] 0 := by
  refine ⟨rfl, fun n => ?_, by simp [Dk.new, Dk.total], by simp, ?_⟩
  · unfold fileFor
    rw [if_neg (by simp)]; rfl
  · constructor <;> simp [Dk.new, Dk.total, Dk.of, Dk.I64, hc]
theorem lost_nil (k n : Int) : Dk.lost [] k n = 0 := rfl
theorem crash_swept {D : Dk} (hl : D.loose = []) (k : Int) : D.crash k = { D with down := true, fails := false } := by
  unfold Dk.crash
  have : (D.files.map fun f => (f.1, f.2.take (f.2.length - Dk.lost D.loose k f.1))) = D.files := by
    conv => rhs; rw [← List.map_id D.files]
    refine List.map_congr_left fun f _ => ?_
    rw [hl, lost_nil, Nat.sub_zero, List.take_length]; rfl
  rw [this]
  cases D
  simp only at hl
  subst hl
  rfl
/-- a crash and a start, where nothing is loose -/
theorem good_crash {S : Sg} {D : Dk} {E : List (List UInt8)} {B : Nat} (h : Good S D E B) (k : Int) (hw : ((D.crash k).start).1.WF) : (D.crash k).start = ({ D with down := false, fails := false, starts := D.starts + 1 }, 0) ∧ Rep ((D.crash k).start).1 E B := by
  have e : (D.crash k).start = ({ D with down := false, fails := false, starts := D.starts + 1 }, 0) := by
    unfold Dk.start
    rw [crash_swept h.swept]; rfl
  refine ⟨e, ?_⟩
  rw [e] at hw ⊢
  exact ⟨rfl, h.rep.get, h.rep.total, h.rep.short, hw⟩
end Go.Proofs.YtogkdoooimcemaaGreatDoor

/- Law1 -/
namespace Go.Proofs.YtogkdoooimcemaaGreatDoor
open Go Go.RowKit
open Go.ChangeMaps (setBlock)
set_option maxRecDepth 20000

def ManyP (w : World) (news : List Value) (e : Ending) (w' : World) : Prop := ∃ v, e = .returned v ∧ RowAt w' 9 v news ∧ Upd [] w w' ∧ (∀ g, v.ownBlock = some g → w.heap.size ≤ g) ∧ ∃ a c, v = .slice a news.length c
def ManyR (w : World) (s : ByteArray) (n : Nat) (l i : Value) (wr : World) : Prop := ∃ (j : Nat) (a : Option Addr) (c : Nat), j ≤ n ∧ l = .slice a j c ∧ i = .int .i64 j ∧ RowAt wr 9 l (List.replicate j (.string s)) ∧ Upd [] w wr ∧ (∀ g, l.ownBlock = some g → w.heap.size ≤ g)
set_option maxHeartbeats 1000000 in
theorem many_at (w : World) (n : Nat) (hn : n ≤ 100000) (s : ByteArray) : Calls Tryz.prog 30 #[.int .i64 n, .string s] w (ManyP w (List.replicate n (.string s))) := by
  go_enter Tryz.func30, Tryz.ntmps30
  go_wp2
  go_loopw [5, 6] (fun l i wr => ManyR w s n l i wr) (fun l _ _ => n - slLen l)
  case atStart => exact ⟨0, none, 0, Nat.zero_le _, rfl, rfl, RowAt.nil _ _, Upd.refl _ _, by simp [Value.ownBlock]⟩
  case round =>
    obtain ⟨j, a, c, hj, rfl, rfl, hr, hu, hg⟩ := hrel
    by_cases hlt : j < n
    · have hji : (j : Int) < n := by omega
      obtain ⟨v3, w3, hrun3, g3⟩ := app1_string hr (.string s) rfl (by simp; omega) 22 1
      have hu3 := g3.updNil hu (fun g hg' => .inr (hg g hg'))
      have hge3 := g3.ge hu.size hg
      obtain ⟨a3, c3, e3⟩ := g3.slice
      have hr3 := g3.row
      have hl3 : (List.replicate j (Value.string s) ++ [Value.string s]).length = j + 1 := by simp
      rw [hl3] at e3
      have HX := Lib.hid (And.intro hu3 (And.intro hge3 hr3))
      clear hr hu hg hu3 hge3 hr3 g3 hl3
      subst e3
      go_wp2_with (at_builtin; refine Stop.here ?_)
      unfold Stop
      refine wpList_append_run rfl rfl hrun3 ?_
      clear hrun3
      go_wp2
      go_roundw
      case rel =>
        obtain ⟨hu3, hge3, hr3⟩ := HX.out
        exact ⟨j + 1, a3, c3, by omega, rfl, by go_num, by rw [List.replicate_succ']; exact hr3, hu3, hge3⟩
      case measure => simp [slLen]; omega
    · obtain rfl : j = n := by omega
      have hji : ¬ (j : Int) < j := by omega
      have HX := Lib.hid (And.intro hr (And.intro hu hg))
      clear hr hu hg
      go_wp2
      go_ret
      obtain ⟨hr, hu, hg⟩ := HX.out
      exact ⟨.slice a j c, rfl, hr, hu, hg, a, c, by simp⟩

theorem StrsAt.cell {w : World} {v : Value} {L : List (List UInt8)} (h : StrsAt w v L) : ∃ a c, v = .slice a L.length c ∧ (∀ j (hj : j < L.length), ∃ g off, a = some ⟨g, off, none⟩ ∧ w.cell? ⟨g, off + j, none⟩ = some (.string ⟨L[j].toArray⟩)) := by
  rcases h with ⟨rfl, rfl⟩ | ⟨g, off, cap, rfl, h1, h2, h3⟩
  · exact ⟨none, 0, rfl, fun j hj => by simp at hj⟩
  · exact ⟨some ⟨g, off, none⟩, cap, rfl, fun j hj => ⟨g, off, rfl, h3 j hj⟩⟩
/-- strings that came in: an empty slice may lead anywhere -/
def StrsIn (w : World) (v : Value) (L : List (List UInt8)) : Prop := StrsAt w v L ∨ ∃ a c, v = .slice a 0 c ∧ L = []
theorem StrsIn.cell {w : World} {v : Value} {L : List (List UInt8)} (h : StrsIn w v L) : ∃ a c, v = .slice a L.length c ∧ (∀ j (hj : j < L.length), ∃ g off, a = some ⟨g, off, none⟩ ∧ w.cell? ⟨g, off + j, none⟩ = some (.string ⟨L[j].toArray⟩)) := by
  rcases h with h | ⟨a, c, rfl, rfl⟩
  · exact h.cell
  · exact ⟨a, c, rfl, fun j hj => by simp at hj⟩
theorem StrsIn.slice {w : World} {v : Value} {L : List (List UInt8)} (h : StrsIn w v L) : ∃ a c, v = .slice a L.length c := by
  obtain ⟨a, c, h, _⟩ := h.cell
  exact ⟨a, c, h⟩
theorem StrsIn.upd {w w' : World} {v : Value} {L : List (List UInt8)} (h : StrsIn w v L) (hu : Upd [] w w') : StrsIn w' v L := by
  rcases h with h | h
  · exact .inl (h.upd hu)
  · exact .inr h
theorem StrsIn.reads {w : World} {v : Value} {L : List (List UInt8)} (h : StrsIn w v L) : ReadAt w v (svs L) := by
  rcases h with h | ⟨a, c, rfl, rfl⟩
  · exact h.reads
  · exact .inl ⟨a, c, rfl, rfl⟩
theorem StrsIn.at_ {w : World} {v : Value} {L : List (List UInt8)} (h : StrsIn w v L) (h0 : L.length ≠ 0) : StrsAt w v L := by
  rcases h with h | ⟨a, c, rfl, rfl⟩
  · exact h
  · exact absurd rfl h0
def TextsP (w : World) (b : Bool) (e : Ending) (w' : World) : Prop := e = .returned (.bool b) ∧ Upd [] w w'
set_option maxHeartbeats 2000000 in
theorem texts_at {w : World} {x y : Value} {L M : List (List UInt8)} (hx : StrsIn w x L) (hy : StrsIn w y M) (hb : L.length ≤ 1099511627776 ∧ M.length ≤ 1099511627776) : Calls Tryz.prog 26 #[x, y] w (TextsP w (decide (L = M))) := by
  obtain ⟨a, c, rfl, hxc⟩ := hx.cell
  obtain ⟨a', c', rfl, hyc⟩ := hy.cell
  have hlb := hb.1
  have hmb := hb.2
  have HX := Lib.hid (And.intro hxc (And.intro hyc (And.intro hx hy)))
  clear hxc hyc hx hy hb
  by_cases hl : L.length = M.length
  · have hli : ((L.length : Int) != (M.length : Int)) = false := by simp [hl]
    have hln : (L.length != M.length) = false := by simp [hl]
    go_enter Tryz.func26, Tryz.ntmps26
    go_wp2
    go_loopw [5] (fun i wr => ∃ j : Nat, j ≤ L.length ∧ i = .int .i64 j ∧ L.take j = M.take j ∧ Upd [] w wr) (fun i _ => L.length - (intOf i).toNat)
    case atStart => exact ⟨0, Nat.zero_le _, rfl, rfl, Upd.refl _ _⟩
    case round =>
      obtain ⟨j, hj, rfl, htk, hu⟩ := hrel
      have HT := Lib.hid (And.intro htk hl)
      clear htk hl
      by_cases hlt : j < L.length
      · have hji : (j : Int) < L.length := by omega
        have hlt' : j < M.length := by have := HT.out.2; omega
        have hji' : (j : Int) < M.length := by omega
        obtain ⟨g, off, rfl, c1⟩ := HX.out.1 j hlt
        obtain ⟨g', off', rfl, c2⟩ := HX.out.2.1 j hlt'
        have d1 : ∀ n, (wr.drewN n).cell? ⟨g, off + j, none⟩ = some (.string ⟨L[j].toArray⟩) := fun n => (hu.cell (block_lt_of_cell c1) (by simp)).trans c1
        have d2 : ∀ n, (wr.drewN n).cell? ⟨g', off' + j, none⟩ = some (.string ⟨M[j].toArray⟩) := fun n => (hu.cell (block_lt_of_cell c2) (by simp)).trans c2
        have e1 : wr.cell? ⟨g, off + j, none⟩ = some (.string ⟨L[j].toArray⟩) := d1 0
        have e2 : wr.cell? ⟨g', off' + j, none⟩ = some (.string ⟨M[j].toArray⟩) := d2 0
        have hdec : L[j] = M[j] ∨ L[j] ≠ M[j] := by by_cases h : L[j] = M[j]; exact .inl h; exact .inr h
        have HU := Lib.hid hu
        clear c1 c2 hu
        by_cases heq : L[j] = M[j]
        · have hbe : ((⟨L[j].toArray⟩ : ByteArray).toList == (⟨M[j].toArray⟩ : ByteArray).toList) = true := by rw [Lib.bytes_beq_iff, heq]
          have hbn : ((⟨L[j].toArray⟩ : ByteArray).toList != (⟨M[j].toArray⟩ : ByteArray).toList) = false := by unfold bne; rw [hbe]; rfl
          have HE := Lib.hid heq
          clear heq hdec
          generalize (⟨L[j].toArray⟩ : ByteArray) = s1 at *
          generalize (⟨M[j].toArray⟩ : ByteArray) = s2 at *
          go_wp2
          go_quiet (fail)
          go_wp2
          go_roundw
          case rel =>
            refine ⟨j + 1, by omega, by go_num, ?_, ?_⟩
            · rw [List.take_succ_eq_append_getElem hlt, List.take_succ_eq_append_getElem hlt', HT.out.1, HE.out]
            · exact HU.out.trans (drewN_upd _ _) (by simp)
          case measure => simp [intOf]; omega
        · have hbe : ((⟨L[j].toArray⟩ : ByteArray).toList == (⟨M[j].toArray⟩ : ByteArray).toList) = false := by
            rw [Lib.bytes_beq_false_iff]
            intro h
            apply heq
            have := congrArg (fun b : ByteArray => b.data.toList) h
            simpa using this
          have hbn : ((⟨L[j].toArray⟩ : ByteArray).toList != (⟨M[j].toArray⟩ : ByteArray).toList) = true := by unfold bne; rw [hbe]; rfl
          have HE := Lib.hid heq
          clear heq hdec
          generalize (⟨L[j].toArray⟩ : ByteArray) = s1 at *
          generalize (⟨M[j].toArray⟩ : ByteArray) = s2 at *
          go_wp2
          go_quiet (fail)
          go_wp2
          refine bodyPost_ret (v := .bool false) (by simp [results, Tryz.results26, go_sem]) rfl ?_
          refine ⟨?_, HU.out.trans (drewN_upd _ _) (by simp)⟩
          have : decide (L = M) = false := by
            rw [decide_eq_false_iff_not]
            rintro rfl
            exact HE.out rfl
          rw [this]
      · obtain rfl : j = L.length := by omega
        have hji : ¬ (L.length : Int) < L.length := by omega
        go_wp2
        refine bodyPost_ret (v := .bool true) (by simp [results, Tryz.results26, go_sem]) rfl ?_
        refine ⟨?_, hu⟩
        have : decide (L = M) = true := by
          rw [decide_eq_true_eq]
          have h1 := HT.out.1
          rwa [List.take_length, HT.out.2, List.take_length] at h1
        rw [this]
  · have hli : ((L.length : Int) != (M.length : Int)) = true := by simp; omega
    have hln : (L.length != M.length) = true := by simpa using hl
    have HL := Lib.hid hl
    clear hl
    go_enter Tryz.func26, Tryz.ntmps26
    go_wp2
    refine bodyPost_ret (v := .bool false) (by simp [results, Tryz.results26, go_sem]) rfl ?_
    refine ⟨?_, Upd.refl _ _⟩
    have : decide (L = M) = false := by
      rw [decide_eq_false_iff_not]
      rintro rfl
      exact HL.out rfl
    rw [this]
end Go.Proofs.YtogkdoooimcemaaGreatDoor

/- Law2 -/
namespace Go.Proofs.YtogkdoooimcemaaGreatDoor
open Go Go.RowKit
open Go.ChangeMaps (setBlock)
set_option maxRecDepth 20000

def IntsAt (w : World) (v : Value) (L : List Int) : Prop := ∃ a c, v = .slice a L.length c ∧ ∀ j (hj : j < L.length), ∃ g off, a = some ⟨g, off, none⟩ ∧ w.cell? ⟨g, off + j, none⟩ = some (.int .i64 L[j])
theorem IntsAt.of_row {w : World} {v : Value} {L : List Int} (h : RowAt w 3 v (ivs L)) : IntsAt w v L := by
  have hl : (ivs L).length = L.length := by simp [ivs]
  rcases h with ⟨rfl, h0⟩ | ⟨g, cap, cur, rfl, h⟩
  · have : L = [] := by cases L with
      | nil => rfl
      | cons a l => simp [ivs] at h0
    subst this
    exact ⟨none, 0, rfl, fun j hj => by simp at hj⟩
  · refine ⟨some ⟨g, 0, none⟩, cap, by rw [hl], fun j hj => ⟨g, 0, rfl, ?_⟩⟩
    rw [Nat.zero_add]
    exact RowAt.cell (.inr ⟨g, cap, cur, rfl, h⟩) j _ (by simp [ivs, hj])
set_option maxHeartbeats 2000000 in
theorem isfiles_at {w : World} {p : Nat} {D : Dk} {fp : List Nat} (h : DiskAt w p D fp) {y : Value} {M : List Int} (hy : IntsAt w y M) (hm : M.length ≤ 1099511627776) : Calls Tryz.prog 31 #[.pointer (some ⟨p, 0, none⟩), y] w (TextsP w (decide (D.keys = M))) := by
  have hfl : Calls Tryz.prog 27 #[.pointer (some ⟨p, 0, none⟩)] w fun e w' => ∃ v, e = .returned v ∧ IntsAt w' v D.keys ∧ Upd [] w w' :=
    (files_at h).mono (by
      rintro e w' ⟨v, rfl, hown, _, hb⟩
      exact ⟨v, rfl, IntsAt.of_row (RowAt.of_owns hown), Upd.of_below hb _⟩)
  obtain ⟨a', c', rfl, hyc⟩ := hy
  have hkl : D.keys.length ≤ 1099511627776 := by rw [keys_len]; have := h.wf.many; omega
  clear h
  generalize D.keys = L at *
  have HX := Lib.hid hyc
  clear hyc
  by_cases hl : L.length = M.length
  · have hli : ((L.length : Int) != (M.length : Int)) = false := by simp [hl]
    have hln : (L.length != M.length) = false := by simp [hl]
    have HL := Lib.hid hl
    clear hl
    go_enter Tryz.func31, Tryz.ntmps31
    go_wp2_with (go_at_call 27; refine hfl.mono ?_; rintro e w1 ⟨_, rfl, ⟨a, c, rfl, hxc⟩, hu1⟩)
    have HX1 := Lib.hid hxc
    clear hxc
    go_loopw [6] (fun i wr => ∃ j : Nat, j ≤ L.length ∧ i = .int .i64 j ∧ L.take j = M.take j ∧ Upd [] w1 wr) (fun i _ => L.length - (intOf i).toNat)
    case atStart => exact ⟨0, Nat.zero_le _, rfl, rfl, Upd.refl _ _⟩
    case round =>
      obtain ⟨j, hj, rfl, htk, hu⟩ := hrel
      have HT := Lib.hid htk
      clear htk
      by_cases hlt : j < L.length
      · have hji : (j : Int) < L.length := by omega
        have hlt' : j < M.length := by have := HL.out; omega
        have hji' : (j : Int) < M.length := by omega
        obtain ⟨g, off, rfl, c1⟩ := HX1.out j hlt
        obtain ⟨g', off', rfl, c2⟩ := HX.out j hlt'
        have hu0 : Upd [] w wr := hu1.trans hu (by simp)
        have d1 : ∀ n, (wr.drewN n).cell? ⟨g, off + j, none⟩ = some (.int .i64 L[j]) := fun n => (hu.cell (block_lt_of_cell c1) (by simp)).trans c1
        have d2 : ∀ n, (wr.drewN n).cell? ⟨g', off' + j, none⟩ = some (.int .i64 M[j]) := fun n => (hu0.cell (block_lt_of_cell c2) (by simp)).trans c2
        have e1 : wr.cell? ⟨g, off + j, none⟩ = some (.int .i64 L[j]) := d1 0
        have e2 : wr.cell? ⟨g', off' + j, none⟩ = some (.int .i64 M[j]) := d2 0
        have HU := Lib.hid hu
        clear c1 c2 hu hu0
        by_cases heq : L[j] = M[j]
        · have hbn : (L[j] != M[j]) = false := by simp [heq]
          have HE := Lib.hid heq
          clear heq
          go_wp2
          go_quiet (fail)
          go_wp2
          go_roundw
          case rel =>
            refine ⟨j + 1, by omega, by go_num, ?_, ?_⟩
            · rw [List.take_succ_eq_append_getElem hlt, List.take_succ_eq_append_getElem hlt', HT.out, HE.out]
            · exact HU.out.trans (drewN_upd _ _) (by simp)
          case measure => simp [intOf]; omega
        · have hbn : (L[j] != M[j]) = true := by simpa using heq
          have HE := Lib.hid heq
          clear heq
          go_wp2
          go_quiet (fail)
          go_wp2
          refine bodyPost_ret (v := .bool false) (by simp [results, Tryz.results31, go_sem]) rfl ?_
          refine ⟨?_, hu1.trans (HU.out.trans (drewN_upd _ _) (by simp)) (by simp)⟩
          have : decide (L = M) = false := by
            rw [decide_eq_false_iff_not]
            rintro rfl
            exact HE.out rfl
          rw [this]
      · obtain rfl : j = L.length := by omega
        have hji : ¬ (L.length : Int) < L.length := by omega
        go_wp2
        refine bodyPost_ret (v := .bool true) (by simp [results, Tryz.results31, go_sem]) rfl ?_
        refine ⟨?_, hu1.trans hu (by simp)⟩
        have : decide (L = M) = true := by
          rw [decide_eq_true_eq]
          have h1 := HT.out
          rwa [List.take_length, HL.out, List.take_length] at h1
        rw [this]
  · have hli : ((L.length : Int) != (M.length : Int)) = true := by simp; omega
    have hln : (L.length != M.length) = true := by simpa using hl
    have HL := Lib.hid hl
    clear hl
    go_enter Tryz.func31, Tryz.ntmps31
    go_wp2_with (go_at_call 27; refine hfl.mono ?_; rintro e w1 ⟨_, rfl, ⟨a, c, rfl, hxc⟩, hu1⟩)
    refine bodyPost_ret (v := .bool false) (by simp [results, Tryz.results31, go_sem]) rfl ?_
    refine ⟨?_, hu1⟩
    have : decide (L = M) = false := by
      rw [decide_eq_false_iff_not]
      rintro rfl
      exact HL.out rfl
    rw [this]
end Go.Proofs.YtogkdoooimcemaaGreatDoor

/- Law3 -/
namespace Go.Proofs.YtogkdoooimcemaaGreatDoor
open Go Go.RowKit
open Go.ChangeMaps (setBlock)
set_option maxRecDepth 20000

structure GAct where
  kind : Int
  L : List (List UInt8)
  n : Int
  m : Int
def ActsAt (w : World) (v : Value) (A : List GAct) : Prop := ∃ a c, v = .slice a A.length c ∧ ∀ j (hj : j < A.length), ∃ g off lv, a = some ⟨g, off, none⟩ ∧ w.cell? ⟨g, off + j * 4, none⟩ = some (.int .u8 A[j].kind) ∧ w.cell? ⟨g, off + j * 4 + 1, none⟩ = some lv ∧ StrsIn w lv A[j].L ∧
  w.cell? ⟨g, off + j * 4 + 2, none⟩ = some (.int .i64 A[j].n) ∧ w.cell? ⟨g, off + j * 4 + 3, none⟩ = some (.int .i64 A[j].m)
def bigAct (x : GAct) : Bool := decide (20 < x.L.length) || x.L.any (fun s => decide (300 < s.length))
def greatA (A : List GAct) (most : Nat) : Bool := A.any bigAct || decide (most < A.length)
set_option maxHeartbeats 2000000 in
theorem great_at {w : World} {v : Value} {A : List GAct} (h : ActsAt w v A) (hb : A.length ≤ 9223372036854775807) (most : Nat) (hmo : most ≤ 100000) (hsz : ∀ x ∈ A, x.L.length ≤ 9223372036854775807 ∧ ∀ s ∈ x.L, s.length ≤ 9223372036854775807) :
    Calls Tryz.prog 7 #[v, .int .i64 most] w fun e w' => e = .returned (.bool (greatA A most)) ∧ w' = w := by
  obtain ⟨a, c, rfl, hc⟩ := h
  have HX := Lib.hid (And.intro hc hsz)
  clear hc hsz
  go_enter Tryz.func7, Tryz.ntmps7
  go_wp2
  go_loop [5] (fun i => ∃ j : Nat, j ≤ A.length ∧ i = .int .i64 j ∧ ∀ k (hk : k < A.length), k < j → bigAct A[k] = false) (fun i => A.length - (intOf i).toNat)
  case atStart => exact ⟨0, Nat.zero_le _, rfl, fun k _ hk => by omega⟩
  case round =>
    obtain ⟨j, hj, rfl, hok⟩ := hrel
    have HK := Lib.hid hok
    clear hok
    by_cases hlt : j < A.length
    · have hji : (j : Int) < A.length := by omega
      obtain ⟨g, off, lv, rfl, -, c1, hs, -, -⟩ := HX.out.1 j hlt
      have hz := HX.out.2 _ (List.getElem_mem hlt)
      obtain ⟨a2, c2, rfl, hc2⟩ := hs.cell
      have hz1 := hz.1
      have HS := Lib.hid (And.intro hc2 (And.intro hz.2 hs))
      clear hc2 hz hs
      by_cases hbig : 20 < A[j].L.length
      · have hbi : (20 : Int) < A[j].L.length := by omega
        go_wp2
        refine bodyPost_ret (v := .bool true) (by simp [results, Tryz.results7, go_sem]) rfl ?_
        refine ⟨?_, rfl⟩
        have : greatA A most = true := by
          unfold greatA
          rw [Bool.or_eq_true, List.any_eq_true]
          exact .inl ⟨A[j], List.getElem_mem hlt, by simp [bigAct, hbig]⟩
        rw [this]
      · have hbi : ¬ (20 : Int) < A[j].L.length := by omega
        go_wp2
        go_loop [6] (fun i => ∃ k : Nat, k ≤ A[j].L.length ∧ i = .int .i64 k ∧ ∀ q (hq : q < A[j].L.length), q < k → A[j].L[q].length ≤ 300) (fun i => A[j].L.length - (intOf i).toNat)
        case atStart => exact ⟨0, Nat.zero_le _, rfl, fun k _ hk => by omega⟩
        case round =>
          obtain ⟨k, hk, rfl, hok⟩ := hrel
          have HK2 := Lib.hid hok
          clear hok
          by_cases hkt : k < A[j].L.length
          · have hki : (k : Int) < A[j].L.length := by omega
            obtain ⟨g2, off2, rfl, c3⟩ := HS.out.1 k hkt
            have hsl : (⟨A[j].L[k].toArray⟩ : ByteArray).size = A[j].L[k].length := by show A[j].L[k].toArray.size = _; simp
            have hz2 := HS.out.2.1 _ (List.getElem_mem hkt)
            by_cases h3 : 300 < A[j].L[k].length
            · have h3i : (300 : Int) < A[j].L[k].length := by omega
              have H3 := Lib.hid h3
              go_wp2
              refine bodyPost_ret (v := .bool true) (by simp [results, Tryz.results7, go_sem]) rfl ?_
              refine ⟨?_, rfl⟩
              have : greatA A most = true := by
                unfold greatA
                rw [Bool.or_eq_true, List.any_eq_true]
                refine .inl ⟨A[j], List.getElem_mem hlt, ?_⟩
                unfold bigAct
                rw [Bool.or_eq_true, List.any_eq_true]
                exact .inr ⟨_, List.getElem_mem hkt, by simpa using h3⟩
              rw [this]
            · have h3i : ¬ (300 : Int) < A[j].L[k].length := by omega
              have H3 := Lib.hid h3
              go_wp2
              go_round
              case rel =>
                refine ⟨k + 1, by omega, by go_num, fun q hq hqk => ?_⟩
                by_cases e : q = k
                · subst e; have := H3.out; omega
                · exact HK2.out q hq (by omega)
              case measure => simp [intOf]; omega
          · obtain rfl : k = A[j].L.length := by omega
            have hki : ¬ (A[j].L.length : Int) < A[j].L.length := by omega
            go_wp2
            go_round
            case rel =>
              refine ⟨j + 1, by omega, by go_num, fun q hq hqk => ?_⟩
              by_cases e : q = j
              · subst e
                unfold bigAct
                rw [Bool.or_eq_false_iff, List.any_eq_false]
                refine ⟨by simpa using hbig, fun s hs => ?_⟩
                obtain ⟨i, hi, rfl⟩ := List.mem_iff_getElem.1 hs
                have := HK2.out i hi hi
                simpa using this
              · exact HK.out q hq (by omega)
            case measure => simp [intOf]; omega
    · obtain rfl : j = A.length := by omega
      have hji : ¬ (A.length : Int) < A.length := by omega
      have hany : A.any bigAct = false := by
        rw [List.any_eq_false]
        intro x hx
        obtain ⟨i, hi, rfl⟩ := List.mem_iff_getElem.1 hx
        have := HK.out i hi hi
        simp [this]
      by_cases hm : most < A.length
      · have hmi : (most : Int) < A.length := by omega
        go_wp2
        refine bodyPost_ret (v := .bool true) (by simp [results, Tryz.results7, go_sem, hm]) rfl ?_
        refine ⟨?_, rfl⟩
        unfold greatA
        rw [hany]; simp [hm]
      · have hmi : ¬ (most : Int) < A.length := by omega
        go_wp2
        refine bodyPost_ret (v := .bool false) (by simp [results, Tryz.results7, go_sem, hm]) rfl ?_
        refine ⟨?_, rfl⟩
        unfold greatA
        rw [hany]; simp [hm]
end Go.Proofs.YtogkdoooimcemaaGreatDoor

/- SegO -/
namespace Go.Proofs.YtogkdoooimcemaaGreatDoor
open Go Go.RowKit
open Go.ChangeMaps (setBlock)

/-- what stands in the blocks of P is as it stood in v -/
structure KeptP (P : Nat → Prop) (v w : World) : Prop where
  os : w.os = v.os
  tape : w.tape = v.tape
  output : w.output = v.output
  size : v.heap.size ≤ w.heap.size
  block : ∀ b, b < v.heap.size → P b → w.heap[b]? = v.heap[b]?
theorem KeptP.refl (P : Nat → Prop) (v : World) : KeptP P v v := ⟨rfl, rfl, rfl, Nat.le_refl _, fun _ _ _ => rfl⟩
theorem KeptP.trans {P : Nat → Prop} {v w w' : World} {fp : List Nat} (h : KeptP P v w) (hu : Upd fp w w') (hf : ∀ x ∈ fp, ¬ P x ∨ v.heap.size ≤ x) : KeptP P v w' :=
  ⟨hu.os.trans h.os, hu.tape.trans h.tape, hu.output.trans h.output, Nat.le_trans h.size hu.size, fun b hb hP => (hu.block b (Nat.lt_of_lt_of_le hb h.size) (fun hm => by
    rcases hf b hm with k | k
    · exact k hP
    · omega)).trans (h.block b hb hP)⟩
theorem KeptP.upd {v w : World} (h : KeptP (fun b => b < v.heap.size) v w) : Upd [] v w := ⟨h.os, h.tape, h.output, h.size, fun b hb _ => h.block b hb hb⟩
theorem KeptP.mono {P Q : Nat → Prop} {v w : World} (h : KeptP P v w) (hq : ∀ b, Q b → P b) : KeptP Q v w := ⟨h.os, h.tape, h.output, h.size, fun b hb hQ => h.block b hb (hq b hQ)⟩
theorem KeptP.comp {P : Nat → Prop} {u v w : World} (h : KeptP P u v) (k : KeptP P v w) : KeptP P u w :=
  ⟨k.os.trans h.os, k.tape.trans h.tape, k.output.trans h.output, Nat.le_trans h.size k.size, fun b hb hP => (k.block b (Nat.lt_of_lt_of_le hb h.size) hP).trans (h.block b hb hP)⟩
def DOnP (v : World) (P : Nat → Prop) (w : World) (d : Nat) (D : Dk) : Prop := ∃ df, DiskAt w d D df ∧ (∀ b ∈ df, ¬ P b ∨ v.heap.size ≤ b) ∧ KeptP P v w
def OnP (v : World) (P : Nat → Prop) (w : World) (s d : Nat) (S : Sg) (D : Dk) : Prop := ∃ sf df, SegAt w s d S D sf df ∧ (∀ b ∈ sf, ¬ P b ∨ v.heap.size ≤ b) ∧ (∀ b ∈ df, ¬ P b ∨ v.heap.size ≤ b) ∧ KeptP P v w
abbrev Old (v : World) : Nat → Prop := fun b => b < v.heap.size
abbrev DOn (w0 w : World) (d : Nat) (D : Dk) : Prop := DOnP w0 (Old w0) w d D
abbrev On (w0 w : World) (s d : Nat) (S : Sg) (D : Dk) : Prop := OnP w0 (Old w0) w s d S D
section
variable {v w w' : World} {P : Nat → Prop} {s d : Nat} {S S' : Sg} {D D' : Dk}
theorem OnP.disk (h : OnP v P w s d S D) : DOnP v P w d D := by
  obtain ⟨sf, df, h1, h2, h3, h4⟩ := h
  exact ⟨df, h1.disk, h3, h4⟩
theorem DOnP.wf (h : DOnP v P w d D) : D.WF := by obtain ⟨df, h1, -, -⟩ := h; exact h1.wf
theorem OnP.wf (h : OnP v P w s d S D) : D.WF := h.disk.wf
theorem DOnP.kept (h : DOnP v P w d D) : KeptP P v w := by obtain ⟨df, -, -, h1⟩ := h; exact h1
theorem OnP.kept (h : OnP v P w s d S D) : KeptP P v w := h.disk.kept
theorem DOnP.base (h : DOnP v (Old v) w d D) : Upd [] v w := h.kept.upd
theorem OnP.base (h : OnP v (Old v) w s d S D) : Upd [] v w := h.disk.base
theorem DOnP.upd (h : DOnP v P w d D) (hu : Upd [] w w') : DOnP v P w' d D := by
  obtain ⟨df, h1, h2, h3⟩ := h
  exact ⟨df, h1.upd hu (by simp), h2, h3.trans hu (by simp)⟩
theorem OnP.upd (h : OnP v P w s d S D) (hu : Upd [] w w') : OnP v P w' s d S D := by
  obtain ⟨sf, df, h1, h2, h3, h4⟩ := h
  exact ⟨sf, df, h1.upd hu (by simp) (by simp), h2, h3, h4.trans hu (by simp)⟩
theorem OnP.moves {sf df : List Nat} (h2 : ∀ b ∈ sf, ¬ P b ∨ v.heap.size ≤ b) (h3 : ∀ b ∈ df, ¬ P b ∨ v.heap.size ≤ b) (h4 : KeptP P v w) (m : SMoves w s d sf df S' D' w') : OnP v P w' s d S' D' := by
  obtain ⟨sf', df', k1, k2, k3, k4⟩ := m
  have hsz := h4.size
  refine ⟨sf', df', k1, fun b hb => ?_, fun b hb => ?_, h4.trans k2 fun x hx => ?_⟩
  · rcases k3 b hb with h | h
    · exact h2 b h
    · exact .inr (by omega)
  · rcases k4 b hb with h | h
    · exact h3 b h
    · exact .inr (by omega)
  · rcases List.mem_append.1 hx with hx | hx
    · exact h2 x hx
    · exact h3 x hx
theorem OnP.diskMoves {sf df : List Nat} (h : SegAt w s d S D sf df) (h2 : ∀ b ∈ sf, ¬ P b ∨ v.heap.size ≤ b) (h3 : ∀ b ∈ df, ¬ P b ∨ v.heap.size ≤ b) (h4 : KeptP P v w) (m : Moves w d df D' w') : OnP v P w' s d S D' := by
  obtain ⟨df', k1, k2, k3⟩ := m
  have hsz := h4.size
  have hlt := h.lt.1
  have hap := h.apart
  obtain ⟨⟨ev, nv, h1, rfl⟩, _, _⟩ := h
  refine ⟨_, df', ⟨⟨ev, nv, h1.upd k2 hap, rfl⟩, k1, fun b hb hm => ?_⟩, h2, fun b hb => ?_, h4.trans k2 fun x hx => h3 x hx⟩
  · rcases k3 b hm with h | h
    · exact hap b hb h
    · have := hlt b hb; omega
  · rcases k3 b hb with h | h
    · exact h3 b h
    · exact .inr (by omega)
theorem DOnP.moves {df : List Nat} (h3 : ∀ b ∈ df, ¬ P b ∨ v.heap.size ≤ b) (h4 : KeptP P v w) (m : Moves w d df D' w') : DOnP v P w' d D' := by
  obtain ⟨df', k1, k2, k3⟩ := m
  have hsz := h4.size
  refine ⟨df', k1, fun b hb => ?_, h4.trans k2 fun x hx => h3 x hx⟩
  rcases k3 b hb with h | h
  · exact h3 b h
  · exact .inr (by omega)
/-- another base: what has come since, and is none of the segments', is kept from now on -/
theorem OnP.rebase {Q : Nat → Prop} (h : OnP v P w s d S D) (hu : Upd [] w w') (hq : ∀ b, Q b → P b ∧ b < v.heap.size ∨ w.heap.size ≤ b) : OnP w' Q w' s d S D := by
  obtain ⟨sf, df, h1, h2, h3, h4⟩ := h
  have hlt := h1.lt
  have key : ∀ b, b < w.heap.size → (¬ P b ∨ v.heap.size ≤ b) → ¬ Q b := by
    intro b hb hn hQ
    rcases hq b hQ with ⟨k, k'⟩ | k
    · rcases hn with h | h
      · exact h k
      · omega
    · omega
  exact ⟨sf, df, h1.upd hu (by simp) (by simp), fun b hb => .inl (key b (hlt.1 b hb) (h2 b hb)), fun b hb => .inl (key b (hlt.2 b hb) (h3 b hb)), KeptP.refl _ _⟩
end
structure GlobP (v : World) (P : Nat → Prop) : Prop where
  glob : Glob v
  first : P 0
  rounds : P 1
theorem GlobP.old {v : World} (h : Glob v) : GlobP v (Old v) := ⟨h, h.lt.1, h.lt.2⟩
theorem GlobP.at_ {v w : World} {P : Nat → Prop} (h : GlobP v P) (k : KeptP P v w) : Glob w := by
  obtain ⟨h1, h2, h3⟩ := h
  have hl := h1.lt
  exact ⟨fun j hj => (World.cell?_of_block (a := ⟨0, j, none⟩) (k.block _ hl.1 h2)).trans (h1.first j hj), fun j hj => (World.cell?_of_block (a := ⟨1, j, none⟩) (k.block _ hl.2 h3)).trans (h1.rounds j hj)⟩

/-! ### the acts -/
section
variable {v w W : World} {P : Nat → Prop} {s d : Nat} {S : Sg} {D : Dk}
def NewO (v : World) (P : Nat → Prop) (cap : Nat) (e : Ending) (w' : World) : Prop := ∃ d, e = .returned (.tuple #[.pointer (some ⟨d, 0, none⟩), .int .i64 0]) ∧ DOnP v P w' d (Dk.new cap)
theorem on_newP (hu : KeptP P v w) (cap : Nat) (hc : cap ≤ 1048576) : Calls Tryz.prog 13 #[.int .i64 cap] w (NewO v P cap) :=
  (new_at w cap hc).mono (by
    rintro e w' ⟨p, rfl, hp, ⟨fp, h1, h2⟩, h3⟩
    exact ⟨p, rfl, fp, h1, fun b hb => .inr (Nat.le_trans hu.size (h2 b hb)), hu.trans h3 (by simp)⟩)
theorem on_new {w0 : World} (hu : Upd [] w0 w) (cap : Nat) (hc : cap ≤ 1048576) : Calls Tryz.prog 13 #[.int .i64 cap] w (NewO w0 (Old w0) cap) :=
  on_newP ((KeptP.refl _ _).trans hu (by simp)) cap hc
/-- what Open answers, whatever the disk's files -/
def OpenO (v : World) (P : Nat → Prop) (d : Nat) (D : Dk) (e : Ending) (w' : World) : Prop :=
  ((Step.all (openSteps D) D).2 ≠ 0 ∧ e = .returned (.tuple #[.pointer none, .int .i64 (Step.all (openSteps D) D).2]) ∧ DOnP v P w' d (Step.all (openSteps D) D).1) ∨
  ((Step.all (openSteps D) D).2 = 0 ∧ ∃ s, e = .returned (.tuple #[.pointer (some ⟨s, 0, none⟩), .int .i64 0]) ∧ OnP v P w' s d (opened D) (Step.all (openSteps D) D).1)
theorem on_open (h : DOnP v P w d D) (hd : D.down = false) (ho : D.Ok) (hG : GlobP v P) : Calls Tryz.prog 14 #[.pointer (some ⟨d, 0, none⟩)] w (OpenO v P d D) := by
  have hG' := hG.at_ h.kept
  obtain ⟨df, h1, h2, h3⟩ := h
  refine (open_up h1 hd ho hG').mono ?_
  rintro e w' ⟨fp', k1, k2, k3, k4⟩
  have hsz := h3.size
  have hm : DOnP v P w' d (Step.all (openSteps D) D).1 := DOnP.moves h2 h3 ⟨fp', k1, k2, k3⟩
  rcases k4 with ⟨k4, rfl⟩ | ⟨k4, s, ev, nv, rfl, k5, k6⟩
  · exact .inl ⟨k4, rfl, hm⟩
  · refine .inr ⟨k4, s, rfl, sfoot s ev nv, fp', ⟨⟨ev, nv, k5, rfl⟩, k1, fun b hb => (k6 b hb).2⟩, fun b hb => ?_, fun b hb => ?_, hm.kept⟩
    · have := (k6 b hb).1; exact .inr (by omega)
    · rcases k3 b hb with h | h
      · exact h2 b h
      · exact .inr (by omega)
/-- Open where nothing fails -/
def GoodO (v : World) (P : Nat → Prop) (d : Nat) (D : Dk) (E : List (List UInt8)) (B : Nat) (e : Ending) (w' : World) : Prop :=
  ∃ s S D', e = .returned (.tuple #[.pointer (some ⟨s, 0, none⟩), .int .i64 0]) ∧ OnP v P w' s d S D' ∧ Good S D' E B ∧ Same D D'
theorem on_open_good {E : List (List UInt8)} {B : Nat} (h : DOnP v P w d D) (hr : Rep D E B) (hf : D.fails = false) (hsz : E.length ≤ 4096) (hG : GlobP v P) : Calls Tryz.prog 14 #[.pointer (some ⟨d, 0, none⟩)] w (GoodO v P d D E B) := by
  obtain ⟨D', g1, g2, g3⟩ := good_open hr hf hsz
  refine (on_open h hr.up (by intro hf'; rw [hf] at hf'; simp at hf') hG).mono ?_
  rintro e w' (⟨k, -, -⟩ | ⟨-, s, rfl, k⟩)
  · rw [g1] at k; exact absurd rfl k
  · rw [g1] at k
    exact ⟨s, _, D', rfl, k, g2, g3⟩
/-- Append, whatever becomes of it -/
def AppO (v : World) (P : Nat → Prop) (s d : Nat) (S : Sg) (D : Dk) (L : List (List UInt8)) (e : Ending) (w' : World) : Prop := e = .returned (.int .i64 (S.append D L).2.2) ∧ OnP v P w' s d (S.append D L).1 (S.append D L).2.1
theorem on_append {lv : Value} {L : List (List UInt8)} (h : OnP v P W s d S D) (hu : Upd [] W w) (ho : D.Ok) (hG : GlobP v P) (hl : StrsIn w lv L) (hla : L.length ≠ 0 → ∀ g, lv.ownBlock = some g → W.heap.size ≤ g ∨ (P g ∧ g < v.heap.size)) (hLb : L.length ≤ 1000000) (hsz : ∀ x ∈ L, x.length ≤ 1000000)
    (hends : ∀ x ∈ S.ends, 0 ≤ x ∧ x ≤ 1099511627776) (hloose : D.loose.length ≤ 900000) :
    Calls Tryz.prog 10 #[.pointer (some ⟨s, 0, none⟩), lv] w (AppO v P s d S D L) := by
  have hG' := hG.at_ (h.upd hu).kept
  obtain ⟨sf, df, h1, h2, h3, h4⟩ := h
  have hlt := h1.lt
  have h1' := h1.upd hu (by simp) (by simp)
  have key : L.length ≠ 0 → ∀ g, lv.ownBlock = some g → ∀ b, b < W.heap.size → (¬ P b ∨ v.heap.size ≤ b) → g ≠ b := by
    rintro h0 g hg b hb hn rfl
    rcases hla h0 g hg with k | ⟨k, k'⟩
    · omega
    · rcases hn with h | h
      · exact h k
      · omega
  have fin : Calls Tryz.prog 10 #[.pointer (some ⟨s, 0, none⟩), lv] w (AppP w s d S D L sf df) := by
    by_cases hr : S.ready D = true
    · by_cases h0 : L.length = 0
      · have : L = [] := List.eq_nil_of_length_eq_zero h0
        subst this
        obtain ⟨a, c, rfl⟩ := hl.slice
        exact sapp_none h1' a c hr
      · by_cases hlong : L.any (fun s => decide (200 < s.length)) = true
        · exact sapp_long h1' (hl.at_ h0) (by omega) (fun x hx => by have := hsz x hx; omega) hr hlong
        · exact sapp_go h1' ho hG' (hl.at_ h0) (fun g hg => ⟨fun hm => key h0 g hg g (hlt.1 g hm) (h2 g hm) rfl, fun hm => key h0 g hg g (hlt.2 g hm) (h3 g hm) rfl⟩) (by omega) hr h0 (by simpa using hlong) hends hloose
    · exact sapp_off h1' lv L (by simpa using hr)
  refine fin.mono ?_
  rintro e w' ⟨rfl, k⟩
  exact ⟨rfl, OnP.moves h2 h3 (h4.trans hu (by simp)) k⟩
def GoodA (v : World) (P : Nat → Prop) (s d : Nat) (D : Dk) (E : List (List UInt8)) (B : Nat) (e : Ending) (w' : World) : Prop :=
  ∃ S' D', e = .returned (.int .i64 0) ∧ OnP v P w' s d S' D' ∧ Good S' D' E B ∧ Same D D'
theorem on_append_good {E : List (List UInt8)} {B : Nat} {lv : Value} {L : List (List UInt8)} (h : OnP v P W s d S D) (hg : Good S D E B) (hu : Upd [] W w) (hG : GlobP v P) (hl : StrsIn w lv L) (hla : L.length ≠ 0 → ∀ g, lv.ownBlock = some g → W.heap.size ≤ g ∨ (P g ∧ g < v.heap.size))
    (hs : ∀ x ∈ L, x.length ≤ 200) (hsz : E.length + L.length ≤ 4096) (hcap : B + (flat L).length ≤ D.cap) :
    Calls Tryz.prog 10 #[.pointer (some ⟨s, 0, none⟩), lv] w (GoodA v P s d D (E ++ L) (B + (flat L).length)) := by
  obtain ⟨S', D', g1, g2, g3⟩ := good_append hg L hs hsz hcap
  refine (on_append h hu hg.ok hG hl hla (by omega) (fun x hx => by have := hs x hx; omega) hg.ends_bd (by rw [hg.swept]; simp)).mono ?_
  rintro e w' ⟨rfl, k⟩
  rw [g1] at k ⊢
  exact ⟨S', D', rfl, k, g2, g3⟩
/-- Cut -/
theorem on_cut_good {E : List (List UInt8)} {B : Nat} (h : OnP v P w s d S D) (hg : Good S D E B) (m : Nat) (hm : m ≤ E.length) :
    Calls Tryz.prog 11 #[.pointer (some ⟨s, 0, none⟩), .int .i64 m] w (GoodA v P s d D (E.take m) B) := by
  obtain ⟨S', D', g1, g2, g3⟩ := good_cut hg m hm
  obtain ⟨sf, df, h1, h2, h3, h4⟩ := h
  refine (cut_go h1 hg.ok m hg.ready (by rw [hg.ents]; exact hm) (fun x hx => (hg.ends_bd x hx).1) (cut_pre hg m hm)).mono ?_
  rintro e w' ⟨rfl, k⟩
  rw [g1] at k ⊢
  exact ⟨S', D', rfl, OnP.moves h2 h3 h4 k, g2, g3⟩
theorem on_count (h : OnP v P w s d S D) : Calls Tryz.prog 12 #[.pointer (some ⟨s, 0, none⟩)] w fun e w' => e = .returned (.int .i64 S.entries.length) ∧ w' = w := by
  obtain ⟨sf, df, ⟨⟨ev, nv, h1, _⟩, _, _⟩, _⟩ := h
  exact count_at h1
def GetO (w : World) (L : List (List UInt8)) (e : Ending) (w' : World) : Prop := ∃ a c, e = .returned (.tuple #[.slice a L.length c, .int .i64 0]) ∧ StrsAt w' (.slice a L.length c) L ∧ Upd [] w w' ∧ ∀ g, (Value.slice a L.length c).ownBlock = some g → w.heap.size ≤ g
theorem on_get (h : OnP v P w s d S D) (f n : Nat) (hb : f + n ≤ S.entries.length) :
    Calls Tryz.prog 9 #[.pointer (some ⟨s, 0, none⟩), .int .i64 f, .int .i64 n] w (GetO w ((S.entries.drop f).take n)) := by
  obtain ⟨sf, df, ⟨⟨ev, nv, h1, _⟩, _, _⟩, _⟩ := h
  refine (get_ok h1 f n hb).mono ?_
  rintro e w' ⟨v, rfl, k1, k2, k3, a, c, rfl⟩
  have hl : (svs ((S.entries.drop f).take n)).length = ((S.entries.drop f).take n).length := by simp [svs]
  rw [hl] at k1 k3 ⊢
  exact ⟨a, c, rfl, RowAt.strs k1, k2, k3⟩
theorem on_get_bad (h : OnP v P w s d S D) (f n : Nat) (hb : f + n > S.entries.length) :
    Calls Tryz.prog 9 #[.pointer (some ⟨s, 0, none⟩), .int .i64 f, .int .i64 n] w fun e w' => e = .returned (.tuple #[.slice none 0 0, .int .i64 82]) ∧ w = w' := by
  obtain ⟨sf, df, ⟨⟨ev, nv, h1, _⟩, _, _⟩, _⟩ := h
  exact get_bad h1 f n hb
theorem on_files (h : DOnP v P w d D) {y : Value} {M : List Int} (hy : IntsAt w y M) (hm : M.length ≤ 1099511627776) : Calls Tryz.prog 31 #[.pointer (some ⟨d, 0, none⟩), y] w (TextsP w (decide (D.keys = M))) := by
  obtain ⟨df, h1, -, -⟩ := h
  exact isfiles_at h1 hy hm
/-- a crash, a start, whatever is loose -/
theorem on_crash (h : OnP v P w s d S D) (hd : D.down = false) (k : Int) (hk : Dk.I64 k) : Calls Tryz.prog 15 #[.pointer (some ⟨d, 0, none⟩), .int .i64 k] w fun e w' => e = .returned (.int .i64 0) ∧ OnP v P w' s d S (D.crash k) := by
  obtain ⟨sf, df, h1, h2, h3, h4⟩ := h
  exact (crash_up h1.disk k hk hd).mono (fun _ _ h => ⟨h.1, OnP.diskMoves h1 h2 h3 h4 h.2⟩)
theorem don_crash (h : DOnP v P w d D) (hd : D.down = false) (k : Int) (hk : Dk.I64 k) : Calls Tryz.prog 15 #[.pointer (some ⟨d, 0, none⟩), .int .i64 k] w fun e w' => e = .returned (.int .i64 0) ∧ DOnP v P w' d (D.crash k) := by
  obtain ⟨df, h1, h2, h3⟩ := h
  exact (crash_up h1 k hk hd).mono (fun _ _ h => ⟨h.1, DOnP.moves h2 h3 h.2⟩)
theorem on_start (h : OnP v P w s d S D) (hs : D.starts < 1000000000) : Calls Tryz.prog 25 #[.pointer (some ⟨d, 0, none⟩)] w fun e w' => e = .returned (.int .i64 D.start.2) ∧ OnP v P w' s d S D.start.1 := by
  obtain ⟨sf, df, h1, h2, h3, h4⟩ := h
  exact (start_at h1.disk hs).mono (fun _ _ h => ⟨h.1, OnP.diskMoves h1 h2 h3 h4 h.2⟩)
theorem don_start (h : DOnP v P w d D) (hs : D.starts < 1000000000) : Calls Tryz.prog 25 #[.pointer (some ⟨d, 0, none⟩)] w fun e w' => e = .returned (.int .i64 D.start.2) ∧ DOnP v P w' d D.start.1 := by
  obtain ⟨df, h1, h2, h3⟩ := h
  exact (start_at h1 hs).mono (fun _ _ h => ⟨h.1, DOnP.moves h2 h3 h.2⟩)
theorem on_fail (h : OnP v P w s d S D) (n k : Int) (hn : Dk.I64 n) (hk : Dk.I64 k) : Calls Tryz.prog 28 #[.pointer (some ⟨d, 0, none⟩), .int .i64 n, .int .i64 k] w fun e w' => e = .returned (.int .i64 (D.fail n k).2) ∧ OnP v P w' s d S (D.fail n k).1 := by
  obtain ⟨sf, df, h1, h2, h3, h4⟩ := h
  exact (fail_at h1.disk n k hn hk).mono (fun _ _ h => ⟨h.1, OnP.diskMoves h1 h2 h3 h4 h.2⟩)
theorem don_fail (h : DOnP v P w d D) (n k : Int) (hn : Dk.I64 n) (hk : Dk.I64 k) : Calls Tryz.prog 28 #[.pointer (some ⟨d, 0, none⟩), .int .i64 n, .int .i64 k] w fun e w' => e = .returned (.int .i64 (D.fail n k).2) ∧ DOnP v P w' d (D.fail n k).1 := by
  obtain ⟨df, h1, h2, h3⟩ := h
  exact (fail_at h1 n k hn hk).mono (fun _ _ h => ⟨h.1, DOnP.moves h2 h3 h.2⟩)
theorem don_up (h : DOnP v P w d D) : Calls Tryz.prog 29 #[.pointer (some ⟨d, 0, none⟩)] w fun e w' => e = .returned (.bool (!D.down)) ∧ w = w' := by
  obtain ⟨df, h1, h2, h3⟩ := h
  exact up_at h1
theorem on_filelist (h : DOnP v P w d D) : Calls Tryz.prog 27 #[.pointer (some ⟨d, 0, none⟩)] w fun e w' => ∃ a c, e = .returned (.slice a D.files.length c) ∧ Upd [] w w' := by
  obtain ⟨df, h1, -, -⟩ := h
  refine (files_at h1).mono ?_
  rintro e w' ⟨v, rfl, hown, _, hb⟩
  obtain ⟨a, c, hv⟩ := row_len (RowAt.of_owns hown)
  subst hv
  exact ⟨a, c, by simp [keys_len], Upd.of_below hb _⟩
end
end Go.Proofs.YtogkdoooimcemaaGreatDoor
