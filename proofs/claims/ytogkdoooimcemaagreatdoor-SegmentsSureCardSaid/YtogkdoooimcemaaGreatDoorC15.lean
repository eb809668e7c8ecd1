/- Segments.Append of texts that are short enough: the walk. Conditions: those of 'sapp_go'.
  Frames read back; what the files of entries hold. Plain.
  The canonical disk of entries: what its files hold, and what acts do with it. Plain.
  Acts with the canonical disk, where nothing fails. Plain. -/
import Derived.Test.YtogkdoooimcemaaGreatDoorC14
/- Seg16 -/
namespace Go.Proofs.YtogkdoooimcemaaGreatDoor
open Go Go.RowKit
open Go.ChangeMaps (setBlock)
set_option maxRecDepth 20000

/-- what Append comes to when its texts are planned -/
theorem append_eq {S : Sg} {D : Dk} {L : List (List UInt8)} (hr : S.ready D = true) (h0 : L.length ≠ 0) (hs : L.any (fun s => decide (200 < s.length)) = false) (hf : S.entries.length + L.length ≤ 4096) :
    S.append D L = if ((planOf D.keys L.length S.ends L).size : Int) > D.free ∨ D.files.length + (planOf D.keys L.length S.ends L).files > 100 then (S, D, 60) else
      if (Step.all ((planOf D.keys L.length S.ends L).steps ++ [.sync]) D).2 = 0 then ({ S with entries := S.entries ++ L, ends := (planOf D.keys L.length S.ends L).ends }, (Step.all ((planOf D.keys L.length S.ends L).steps ++ [.sync]) D).1, 0)
      else ({ S with dead := decide ((Step.all ((planOf D.keys L.length S.ends L).steps ++ [.sync]) D).2 = 61) }, (Step.all ((planOf D.keys L.length S.ends L).steps ++ [.sync]) D).1, (Step.all ((planOf D.keys L.length S.ends L).steps ++ [.sync]) D).2) := by
  unfold Sg.append
  rw [if_neg (by simp [hr]), if_neg h0, if_neg (by simp [hs]), if_neg (by omega)]

set_option maxHeartbeats 8000000 in
theorem sapp_go {w : World} {s d : Nat} {S : Sg} {D : Dk} {sf df : List Nat} {lv : Value} {L : List (List UInt8)} (h : SegAt w s d S D sf df) (ho : D.Ok) (hG : Glob w) (hl : StrsAt w lv L) (hla : ∀ g, lv.ownBlock = some g → g ∉ sf ∧ g ∉ df) (hLb : L.length ≤ 1099511627776) (hr : S.ready D = true) (h0 : L.length ≠ 0)
    (hshort : L.any (fun s => decide (200 < s.length)) = false) (hends : ∀ x ∈ S.ends, 0 ≤ x ∧ x ≤ 1099511627776) (hloose : D.loose.length ≤ 900000) :
    Calls Tryz.prog 10 #[.pointer (some ⟨s, 0, none⟩), lv] w (AppP w s d S D L sf df) := by
  obtain ⟨⟨ev, nv, hs, rfl⟩, hd, hap⟩ := h
  have hr1 := sready_yes hs hd hr
  have hlen : ∀ x ∈ L, x.length ≤ 200 := by
    intro x hx
    rw [List.any_eq_false] at hshort
    have := hshort x hx
    simpa using this
  obtain ⟨x1, c1, he⟩ := row_len hs.ents
  rw [show (svs S.entries).length = S.entries.length by simp [svs]] at he
  obtain ⟨g, off, cap, elv, hcell⟩ : ∃ g off cap, lv = .slice (some ⟨g, off, none⟩) L.length cap ∧ ∀ j (hj : j < L.length), w.cell? ⟨g, off + j, none⟩ = some (.string ⟨L[j].toArray⟩) := by
    rcases hl with ⟨_, h1⟩ | ⟨g, off, cap, h1, _, _, h3⟩
    · rw [h1] at h0; simp at h0
    · exact ⟨g, off, cap, h1, h3⟩
  have hdead : S.dead = false := by
    unfold Sg.ready at hr
    simp at hr
    exact hr.1.1
  have hfew := hs.few
  have HX := Lib.hid (And.intro hs (And.intro hd (And.intro hap (And.intro ho (And.intro hG (And.intro hl (And.intro hla (And.intro hr (And.intro h0 (And.intro hshort (And.intro hends (And.intro hloose (And.intro hlen (And.intro he (And.intro hdead hcell)))))))))))))))
  have cs1 := hs.cells.2.1
  rw [he] at cs1
  have hpos : (0 : Int) < L.length := by omega
  have hpos' : (L.length == 0) = false := by simpa using h0
  have hpos2 : ((L.length : Int) == 0) = false := by rw [beq_eq_false_iff_ne]; omega
  subst elv
  clear hs hd hap ho hG hl hla hr h0 hshort hends hloose hlen he hdead hcell
  go_enter Tryz.func10, Tryz.ntmps10
  go_wp2_with (go_at_call 33; refine hr1.mono ?_; rintro e w' ⟨rfl, k, rfl⟩)
  go_loop [25] (fun i => ∃ j : Nat, j ≤ L.length ∧ i = .int .i64 j) (fun i => L.length - (intOf i).toNat)
  case atStart => exact ⟨0, Nat.zero_le _, rfl⟩
  case round =>
    obtain ⟨j, hj, rfl⟩ := hrel
    by_cases hlt : j < L.length
    · have hc : (w.drewN k).cell? ⟨g, off + j, none⟩ = some (.string ⟨L[j].toArray⟩) := HX.out.2.2.2.2.2.2.2.2.2.2.2.2.2.2.2 j hlt
      have hjl : (j : Int) < L.length := by omega
      have hosz : (⟨L[j].toArray⟩ : ByteArray).size = L[j].length := by show L[j].toArray.size = _; simp
      have hlen1 := HX.out.2.2.2.2.2.2.2.2.2.2.2.2.1 L[j] (List.getElem_mem hlt)
      generalize L[j] = one at *
      have HO := Lib.hid hosz
      have hbi : ¬ (200 : Int) < one.length := by omega
      go_wp2
      go_round
      case rel => exact ⟨j + 1, by omega, by go_num⟩
      case measure => simp [intOf]; omega
    · obtain rfl : j = L.length := by omega
      have hw40 : IntKind.i64.wrap (4096 - (S.entries.length : Int)) = 4096 - (S.entries.length : Int) := by rw [IntKind.wrap_i64]; omega
      by_cases hfull : S.entries.length + L.length ≤ 4096
      · have hfi : ¬ (4096 - (S.entries.length : Int)) < L.length := by omega
        have hku := drewN_upd w k
        obtain ⟨hs, hd, hap, ho, hG, hl, hla, hr, h0, hshort, hends, hloose, hlen, he, hdead, hcell⟩ := HX.out
        have hpl := plan_at (hs.upd hku (by simp)) (hd.upd hku (by simp)) (hG.upd hku (by simp) (by simp)) (hl.upd hku) hfull hlen hends
        have happ := append_eq hr h0 hshort hfull
        have hpre := append_pre D S.ends L hloose (by rw [hs.same]; exact hfull)
        have hpel := plan_ends_len D.keys L.length S.ends L (Nat.le_refl _)
        have hfree : ∀ u, Upd [] w u → Calls Tryz.prog 35 #[.pointer (some ⟨d, 0, none⟩)] u fun e w' => e = .returned (.int .i64 D.free) ∧ Upd [] u w' := fun u hu => free_at (hd.upd hu (by simp))
        have hfils : ∀ u, Upd [] w u → Calls Tryz.prog 27 #[.pointer (some ⟨d, 0, none⟩)] u fun e w' => ∃ a c, e = .returned (.slice a D.files.length c) ∧ Upd [] u w' := fun u hu =>
          (files_at (hd.upd hu (by simp))).mono (by
            rintro e w' ⟨v, rfl, hown, _, hb⟩
            obtain ⟨a, c, hv⟩ := row_len (RowAt.of_owns hown)
            subst hv
            refine ⟨a, c, by simp [keys_len], Upd.of_below hb _⟩)
        have hmany := hd.wf.many
        have hfr : -1099511627776 ≤ D.free ∧ D.free ≤ 1099511627776 := by
          have h1 := hd.wf.size; have h2 := hd.wf.cap; unfold Dk.free; omega
        have hpf := plan_files D.keys L.length S.ends L
        unfold PlanPost at hpl
        obtain ⟨fr0, fr1⟩ := hfr
        generalize hP : planOf D.keys L.length S.ends L = P at *
        generalize D.free = free at *
        generalize D.files.length = nf at *
        have HP := Lib.hid (And.intro hP (And.intro happ (And.intro hpre hpel)))
        clear hP happ hpre hpel hs hd hap ho hG hl hla hr h0 hshort hends hloose hlen he hdead hcell hku
        by_cases hz : (P.size : Int) > free
        · have hzi : free < (P.size : Int) := hz
          have hzd : decide (free < (P.size : Int)) = true := by simpa using hz
          have HZ := Lib.hid hz
          clear hz
          go_wp2_with (first
            | (go_at_call 34; refine hpl.mono ?_; rintro e w3 ⟨tv, env, acts, rfl, hinv, hal, ⟨ta, tc, rfl⟩⟩; have hu3 : Upd [] w w3 := (drewN_upd w k).trans hinv.upd (by simp); have cs03 := hinv.sat.cells.1)
            | (go_at_call 35; refine (hfree _ hu3).mono ?_; rintro e w4 ⟨rfl, hu4⟩))
          go_ret
          unfold AppP
          rw [HP.out.2.1, if_pos (.inl HZ.out)]
          exact ⟨rfl, SegAt.same ⟨⟨ev, nv, HX.out.1, rfl⟩, HX.out.2.1, HX.out.2.2.1⟩ (hu3.trans hu4 (by simp))⟩
        · have hzd : decide (free < (P.size : Int)) = false := by simpa using hz
          have hzi : ¬ free < (P.size : Int) := hz
          have HZ := Lib.hid hz
          clear hz
          by_cases hn : nf + P.files > 100
          · have hni : (100 : Int) < nf + P.files := by omega
            have HN := Lib.hid hn
            clear hn
            go_wp2_with (first
              | (go_at_call 34; refine hpl.mono ?_; rintro e w3 ⟨tv, env, acts, rfl, hinv, hal, ⟨ta, tc, rfl⟩⟩; have hu3 : Upd [] w w3 := (drewN_upd w k).trans hinv.upd (by simp); have cs03 := hinv.sat.cells.1)
              | (go_at_call 35; refine (hfree _ hu3).mono ?_; rintro e w4 ⟨rfl, hu4⟩; have cs04 := (hinv.upd' hu4).sat.cells.1)
              | (go_at_call 27; refine (hfils _ (hu3.trans hu4 (by simp))).mono ?_; rintro e w5 ⟨fa, fc, rfl, hu5⟩))
            go_ret
            unfold AppP
            rw [HP.out.2.1, if_pos (.inr HN.out)]
            exact ⟨rfl, SegAt.same ⟨⟨ev, nv, HX.out.1, rfl⟩, HX.out.2.1, HX.out.2.2.1⟩ ((hu3.trans hu4 (by simp)).trans hu5 (by simp))⟩
          · have hni : ¬ (100 : Int) < nf + P.files := by omega
            have HN := Lib.hid hn
            clear hn
            go_wp2_with (first
              | (go_at_call 34; refine hpl.mono ?_; rintro e w3 ⟨tv, env, acts, rfl, hinv, hal, ⟨ta, tc, rfl⟩⟩; have hu3 : Upd [] w w3 := (drewN_upd w k).trans hinv.upd (by simp); have cs03 := hinv.sat.cells.1)
              | (go_at_call 35; refine (hfree _ hu3).mono ?_; rintro e w4 ⟨rfl, hu4⟩; have cs04 := (hinv.upd' hu4).sat.cells.1)
              | (go_at_call 27; refine (hfils _ (hu3.trans hu4 (by simp))).mono ?_; rintro e w5 ⟨fa, fc, rfl, hu5⟩))
            have hin5 := (hinv.upd' hu4).upd' hu5
            have hu05 : Upd [] w w5 := (hu3.trans hu4 (by simp)).trans hu5 (by simp)
            obtain ⟨hs, hd, hap, ho, hG, hl, hla, hr, h0, hshort, hends, hloose, hlen, he, hdead, hcell⟩ := HX.out
            have hsz : (w.drewN k).heap.size = w.heap.size := rfl
            have hdfl := hd.lt
            have hdn := done_at hin5.sat (hd.upd hu05 (by simp)) ho hin5.steps hdead hap (fun a ha b hb hm => by
                rcases hin5.kge a ha b hb with h | h
                · have := hdfl b hm; omega
                · exact hap b (sfoot_mem.2 (.inl h)) hm) (fun g hg hm => by have h1 := hin5.tvge g hg; have h2 := hdfl g hm; omega)
              (fun a ha b hb => ⟨(hin5.steps.ok a ha).kept b (hin5.xs a ha b hb).2, fun hm => by have h1 := (hin5.xs a ha b hb).1; have h2 := hs.lt b hm; omega⟩) hin5.hap (by rw [hin5.sts]; exact HP.out.2.2.1) (by omega)
            rw [hin5.sts] at hdn
            unfold DonePost at hdn
            have happ := HP.out.2.1
            rw [if_neg (by have h1 := HZ.out; have h2 := HN.out; omega)] at happ
            generalize Step.all (P.steps ++ [.sync]) D = R at hdn happ
            obtain ⟨D', r⟩ := R
            simp only at hdn happ
            -- what the steps turn
            have hXX : ∀ b ∈ acts.flatMap (·.X), w.heap.size < b ∧ ∃ a ∈ acts, b ∈ a.K := by
              intro b hb
              obtain ⟨a, ha, hba⟩ := List.mem_flatMap.1 hb
              exact ⟨(hin5.xs a ha b hba).1, a, ha, (hin5.xs a ha b hba).2⟩
            have fin : ∀ (w6 : World) (fp' : List Nat), Upd (s :: (df ++ ((Value.slice ta acts.length tc).ownBlock.toList ++ acts.flatMap (·.X)))) w5 w6 → (∀ b ∈ fp', b ∈ df ∨ w5.heap.size ≤ b) → Upd (sfoot s ev nv ++ df) w w6 ∧ (∀ b ∈ fp', b ∈ df ∨ w.heap.size ≤ b) ∧ (∀ b ∈ sfoot s ev nv, b ∉ fp') ∧ RowAt w6 3 env (ivs P.ends) ∧ (∀ g, env.ownBlock = some g → w.heap.size ≤ g ∧ g ∉ fp') ∧
                (∀ b, b < w.heap.size → b ≠ s → b ∉ df → w6.heap[b]? = w.heap[b]?) := by
              intro w6 fp' hu hf
              have hge : ∀ b ∈ (Value.slice ta acts.length tc).ownBlock.toList ++ acts.flatMap (·.X), w.heap.size ≤ b := by
                intro b hb
                rcases List.mem_append.1 hb with hb | hb
                · exact hin5.tvge b (by simpa using hb)
                · exact Nat.le_of_lt (hXX b hb).1
              have hsz5 := hu05.size
              refine ⟨?_, ?_, ?_, ?_, ?_, ?_⟩
              · refine (hu05.mono (by simp)).trans hu ?_
                intro x hx
                simp only [List.mem_cons, List.mem_append] at hx
                rcases hx with rfl | hx | hx
                · exact .inl (by simp [sfoot])
                · exact .inl (by simp [hx])
                · exact .inr (hge x (by simpa using hx))
              · intro b hb
                rcases hf b hb with h | h
                · exact .inl h
                · exact .inr (by omega)
              · intro b hb hm
                rcases hf b hm with h | h
                · exact hap b hb h
                · have := hs.lt b hb; omega
              · refine hin5.ends.upd hu fun g hg hm => ?_
                have h1 := hin5.envge g hg
                simp only [List.mem_cons, List.mem_append, Option.mem_toList] at hm
                rcases hm with rfl | hm | hm | hm
                · have := hin5.sold; omega
                · have := hdfl g hm; omega
                · exact hin5.steps.row.apart hin5.ends (by decide) g hm hg
                · obtain ⟨_, a, ha, hk⟩ := hXX g hm
                  exact hin5.apart a ha g hk hg
              · intro g hg
                refine ⟨hin5.envge g hg, fun hm => ?_⟩
                have h1 := hin5.envge g hg
                rcases hf g hm with h | h
                · have := hdfl g h; omega
                · have := hin5.ends.lt g hg; omega
              · intro b hb hbs hbd
                refine (hu.block b (by omega) ?_).trans (hu05.block b hb (by simp))
                simp only [List.mem_cons, List.mem_append]
                rintro (rfl | hm | hm)
                · exact hbs rfl
                · exact hbd hm
                · have := hge b (by simpa using hm); omega
            have HFN := Lib.hid fin
            have HAP := Lib.hid happ
            have HI5 := Lib.hid hin5
            clear fin happ hin5 hs hd hap ho hG hl hla hr h0 hshort hends hloose hlen he hdead hcell hdfl hXX hinv hu3 hu4 hu5 hu05 hsz
            by_cases hr0 : r = 0
            · subst hr0
              obtain ⟨ea, ec, eenv⟩ := row_len HI5.out.ends
              subst eenv
              go_wp2_with (first
                | (go_at_call 36; refine hdn.mono ?_; rintro e w6 ⟨rfl, hs6, fp', hd6, hf6, hu6⟩; obtain ⟨-, q1, q2, -, -, qf⟩ := hs6.cells; rw [HX.out.2.2.2.2.2.2.2.2.2.2.2.2.2.1] at q1)
                | (at_builtin; refine Stop.here ?_))
              unfold Stop
              obtain ⟨f1, f2, f3, f4, f5, f6⟩ := HFN.out w6 fp' hu6 hf6
              obtain ⟨hs, hd, hap, ho, hG, hl, hla, hr, h0, hshort, hends, hloose, hlen, he, hdead, hcell⟩ := HX.out
              have hl6 : StrsAt w6 (.slice (some ⟨g, off, none⟩) L.length cap) L := hl.block fun b hb hbl => f6 b hbl (by rintro rfl; exact (hla _ hb).1 (sfoot_mem.2 (.inl rfl))) (hla _ hb).2
              obtain ⟨i, z, z1, z2, z3, z4, z5⟩ := info_string
              have hone : ∀ u ∈ svs L, u.oneCell' = true := by
                intro u hu; unfold svs at hu; obtain ⟨x, _, rfl⟩ := List.mem_map.1 hu; rfl
              obtain ⟨v7, w7, hrun7, g7⟩ := run_appends Tryz.underlying22 z1 z2 z3 z4 z5 hs6.ents hl6.reads hone (by simp [svs]; omega) 22
              obtain ⟨a7, c7, e7⟩ := g7.slice
              rw [List.length_append] at e7
              have hfin := hs6.store2 g7 f4 (by exact hfull) (by show P.ends.length = S.entries.length + L.length; have h1 := HP.out.2.2.2; have h2 := hs.same; omega)
              have hsl6 := lt_of_block hs6.blk
              have hse : ev.ownBlock ≠ some s := hs6.type_s hs6.ents (by decide)
              have hn7 : ∀ b, ev.ownBlock ≠ some b → b ∉ ev.ownBlock.toList := by intro b hb hm; rw [Option.mem_toList] at hm; exact hb hm
              have hb7 : w7.heap[s]? = w6.heap[s]? := g7.upd.block s hsl6 (hn7 s hse)
              have qf1 := (World.frozen?_of_block (a := ⟨s, 1, none⟩) hb7).trans (qf 1)
              have qf2 := (World.frozen?_of_block (a := ⟨s, 2, none⟩) hb7).trans (qf 2)
              have t1 : w7.cell? ⟨s, 1, none⟩ = some (.slice x1 S.entries.length c1) := (World.cell?_of_block (a := ⟨s, 1, none⟩) hb7).trans q1
              have t2 : w7.cell? ⟨s, 2, none⟩ = some nv := (World.cell?_of_block (a := ⟨s, 2, none⟩) hb7).trans q2
              have hS : ({ { S with dead := decide ((0 : Int) = 61) } with entries := S.entries ++ L, ends := P.ends } : Sg) = { S with entries := S.entries ++ L, ends := P.ends } := by simp [hdead]
              have hfin' := hS ▸ hfin
              have hsz6 := f1.size
              have H7 := Lib.hid (And.intro hfin' (And.intro f1 (And.intro f2 (And.intro f3 (And.intro f5 (And.intro g7 (And.intro hd6 (And.intro hsz6 hse))))))))
              have HR7 := Lib.hid hrun7
              rw [HX.out.2.2.2.2.2.2.2.2.2.2.2.2.2.1] at HR7
              clear hs hd hap ho hG hl hla hr h0 hshort hends hloose hlen he hdead hcell hl6 z1 z2 z3 z4 z5 hone hrun7 g7 hfin hsl6 hse hn7 hb7 hS hfin' hsz6 f1 f2 f3 f4 f5 f6 hs6 hd6 hf6 hu6 q1 q2 qf
              subst e7
              refine wpList_append_run rfl rfl HR7.out ?_
              go_wp2
              go_ret
              obtain ⟨hfin', f1, f2, f3, f5, g7, hd6, hsz6, hse⟩ := H7.out
              unfold AppP
              have hc : S.append D L = ({ S with entries := S.entries ++ L, ends := P.ends }, D', 0) := by rw [HAP.out]; simp
              rw [hc]
              have hss : s ∈ sfoot s ev nv := sfoot_mem.2 (.inl rfl)
              have hfpl := hd6.lt
              refine ⟨rfl, _, fp', ⟨⟨_, _, hfin', rfl⟩, ?_, ?_⟩, ?_, ?_, f2⟩
              · refine hd6.keep fun b hb => ?_
                have hbs : s ≠ b := by rintro rfl; exact f3 _ hss hb
                refine ((heap_setCell_other (w7.setCell ⟨s, 1, none⟩ _) ⟨s, 2, none⟩ b _ (fun e => hbs e.symm)).trans (heap_setCell_other w7 ⟨s, 1, none⟩ b _ (fun e => hbs e.symm))).trans (g7.upd.block b (hfpl b hb) ?_)
                intro hm
                rw [Option.mem_toList] at hm
                exact f3 b (sfoot_mem.2 (.inr (.inl hm))) hb
              · intro b hb hm
                rw [sfoot_mem] at hb
                rcases hb with rfl | hb | hb
                · exact f3 _ hss hm
                · rcases g7.own with h1 | ⟨g', h1, h2⟩
                  · exact f3 b (sfoot_mem.2 (.inr (.inl (h1 ▸ hb)))) hm
                  · rw [hb] at h1; cases h1
                    have := hfpl _ hm; omega
                · exact (f5 b hb).2 hm
              · refine Upd.setCell (Upd.setCell (f1.trans g7.upd ?_) (.inl (by simp [hss])) _) (.inl (by simp [hss])) _
                intro x hx
                rw [Option.mem_toList] at hx
                exact .inl (by simp only [List.mem_append]; exact .inl (sfoot_mem.2 (.inr (.inl hx))))
              · intro b hb
                rw [sfoot_mem] at hb
                rcases hb with rfl | hb | hb
                · exact .inl hss
                · rcases g7.own with h1 | ⟨g', h1, h2⟩
                  · exact .inl (sfoot_mem.2 (.inr (.inl (h1 ▸ hb))))
                  · rw [hb] at h1; cases h1
                    exact .inr (by omega)
                · exact .inr (f5 b hb).1
            · have hb1 : (r == 0) = false := by simpa using hr0
              have HRR := Lib.hid hr0
              clear hr0
              go_wp2_with (go_at_call 36; refine hdn.mono ?_; rintro e w6 ⟨rfl, hs6, fp', hd6, hf6, hu6⟩)
              go_ret
              obtain ⟨f1, f2, f3, f4, f5, f6⟩ := HFN.out w6 fp' hu6 hf6
              unfold AppP
              rw [HAP.out, if_neg HRR.out]
              exact ⟨rfl, _, fp', ⟨⟨ev, nv, hs6, rfl⟩, hd6, f3⟩, f1, fun _ h => .inl h, f2⟩
      · have hfi : (4096 - (S.entries.length : Int)) < L.length := by omega
        obtain ⟨hs, hd, hap, ho, hG, hl, hla, hr, h0, hshort, -, -, -, he, hdead, hcell⟩ := HX.out
        have happ : S.append D L = (S, D, 60) := by
          unfold Sg.append
          rw [if_neg (by simp [hr]), if_neg h0, if_neg (by simp [hshort]), if_pos (by omega)]
        have HA := Lib.hid happ
        clear happ hs hd hap ho hG hl hla hr h0 hshort he hdead hcell
        go_wp2
        go_ret
        unfold AppP
        rw [HA.out]
        exact ⟨rfl, SegAt.same ⟨⟨ev, nv, HX.out.1, rfl⟩, HX.out.2.1, HX.out.2.2.1⟩ (drewN_upd w k)⟩
end Go.Proofs.YtogkdoooimcemaaGreatDoor

/- SegL1 -/
namespace Go.Proofs.YtogkdoooimcemaaGreatDoor
open Go

/-! ### numbers and frames -/
theorem num_app (a : Nat) (l : List UInt8) : l.foldl (fun n b => n * 256 + b.toNat) a = a * 256 ^ l.length + num l := by
  induction l generalizing a with
  | nil => simp [num]
  | cons b l ih =>
    have h1 := ih (a * 256 + b.toNat)
    have h2 := ih (0 * 256 + b.toNat)
    simp only [List.foldl_cons, List.length_cons, num]
    rw [h1, h2]
    simp only [Nat.zero_mul, Nat.zero_add, Nat.pow_succ, Nat.add_mul]
    have e : a * 256 * 256 ^ l.length = a * (256 ^ l.length * 256) := by rw [Nat.mul_assoc, Nat.mul_comm 256]
    omega
theorem num_be (n : Nat) : ∀ k, num (be n k) = n % 256 ^ k
  | 0 => by simp [be, num, Nat.mod_one]
  | k + 1 => by
    have h := num_be n k
    have h1 := num_app ((UInt8.ofNat (n / 256 ^ k)).toNat) (be n k)
    have h2 : num (be n (k + 1)) = (UInt8.ofNat (n / 256 ^ k)).toNat * 256 ^ k + n % 256 ^ k := by
      unfold num be
      rw [List.foldl_cons, Nat.zero_mul, Nat.zero_add, h1, h, length_be]
    rw [h2]
    have h3 : (UInt8.ofNat (n / 256 ^ k)).toNat = n / 256 ^ k % 256 := by simp
    rw [h3, Nat.pow_succ, Nat.mod_mul, Nat.mul_comm, Nat.add_comm]
theorem frame_take4 (x : List UInt8) : (frameOf x).take 4 = be x.length 4 := by
  unfold frameOf mark
  rw [List.append_assoc]
  exact List.take_left' (length_be _ _)
theorem frame_take12 (x : List UInt8) : (frameOf x).take 12 = mark x := by
  unfold frameOf
  exact List.take_left' (length_mark x)
theorem frame_drop12 (x : List UInt8) : (frameOf x).drop 12 = x := by
  unfold frameOf
  exact List.drop_left' (length_mark x)
theorem ahead_frame (x t : List UInt8) (hx : x.length ≤ 65536) : ahead (frameOf x ++ t) = some x.length := by
  have hl := length_frameOf x
  have h4 : (frameOf x ++ t).take 4 = be x.length 4 := by rw [List.take_append_of_le_length (by omega), frame_take4]
  have hn : num ((frameOf x ++ t).take 4) = x.length := by rw [h4, num_be]; omega
  have h12 : (frameOf x ++ t).take 12 = mark x := by rw [List.take_append_of_le_length (by omega), frame_take12]
  have hd : ((frameOf x ++ t).drop 12).take x.length = x := by
    rw [List.drop_append_of_le_length (by omega), frame_drop12]
    exact List.take_left' rfl
  unfold ahead
  rw [hn, if_neg (by simp; omega), if_neg (by simp; omega), hd, h12, if_pos rfl]
/-- a part of a frame says nothing -/
theorem ahead_part (x : List UInt8) (m : Nat) (hx : x.length ≤ 65536) (hm : m < (frameOf x).length) : ahead ((frameOf x).take m) = none := by
  have hl := length_frameOf x
  have hml : ((frameOf x).take m).length = m := by simp; omega
  unfold ahead
  rw [hml]
  by_cases h12 : m < 12
  · rw [if_pos h12]
  · have h4 : ((frameOf x).take m).take 4 = be x.length 4 := by rw [List.take_take, show min 4 m = 4 by omega, frame_take4]
    have hn : num (((frameOf x).take m).take 4) = x.length := by rw [h4, num_be]; omega
    rw [if_neg h12, hn, if_pos (by omega)]
theorem ahead_nil : ahead [] = none := by unfold ahead; simp

def flat (l : List (List UInt8)) : List UInt8 := l.flatMap frameOf
theorem flat_append (l m : List (List UInt8)) : flat (l ++ m) = flat l ++ flat m := by simp [flat]
theorem flat_cons (x : List UInt8) (l : List (List UInt8)) : flat (x :: l) = frameOf x ++ flat l := by simp [flat]
theorem flat_nil : flat [] = [] := rfl
/-- entries with the places behind them -/
def posFrom : Nat → List (List UInt8) → List (List UInt8 × Nat)
  | _, [] => []
  | p, x :: l => (x, p + (12 + x.length)) :: posFrom (p + (12 + x.length)) l
theorem posFrom_fst : ∀ (p : Nat) (l : List (List UInt8)), (posFrom p l).map (·.1) = l
  | _, [] => rfl
  | p, x :: l => by simp [posFrom, posFrom_fst]
theorem posFrom_snd : ∀ (p : Nat) (l : List (List UInt8)), (posFrom p l).map (fun e => ((e.2 : Nat) : Int)) = endsFrom p l
  | _, [] => rfl
  | p, x :: l => by simp [posFrom, endsFrom, posFrom_snd]
theorem posFrom_len (p : Nat) (l : List (List UInt8)) : (posFrom p l).length = l.length := by rw [← List.length_map (·.1), posFrom_fst]
theorem posFrom_last : ∀ (p : Nat) (l : List (List UInt8)), l ≠ [] → lastEnd (posFrom p l) = p + (flat l).length
  | p, [x], _ => by simp [posFrom, lastEnd, flat, length_frameOf]
  | p, x :: y :: l, _ => by
    have h := posFrom_last (p + (12 + x.length)) (y :: l) (by simp)
    have e : lastEnd (posFrom p (x :: y :: l)) = lastEnd (posFrom (p + (12 + x.length)) (y :: l)) := by simp [posFrom, lastEnd]
    rw [e, h, flat_cons x, List.length_append, length_frameOf]; omega
theorem lastEnd_flat (l : List (List UInt8)) : lastEnd (posFrom 0 l) = (flat l).length := by
  cases l with
  | nil => rfl
  | cons x l => rw [posFrom_last 0 (x :: l) (by simp), Nat.zero_add]
/-- entries are read back -/
theorem readN_flat : ∀ (k : Nat) (l : List (List UInt8)) (pre t : List UInt8), l.length ≤ k → (∀ x ∈ l, x.length ≤ 200) → (l.length = k ∨ ahead t = none) → readN k (pre ++ (flat l ++ t)) pre.length = posFrom pre.length l
  | 0, l, pre, t, h, _, _ => by
    have : l = [] := List.eq_nil_of_length_eq_zero (by omega)
    subst this; rfl
  | k + 1, [], pre, t, _, _, ht => by
    have h : ahead t = none := by
      rcases ht with h | h
      · simp at h
      · exact h
    unfold readN frameAt
    simp [flat, h, posFrom]
  | k + 1, x :: l, pre, t, h, hs, ht => by
    have hx := hs x (by simp)
    have hd : (pre ++ (flat (x :: l) ++ t)).drop pre.length = frameOf x ++ (flat l ++ t) := by rw [List.drop_left, flat_cons, List.append_assoc]
    have ha := ahead_frame x (flat l ++ t) (by omega)
    have hfa : frameAt (pre ++ (flat (x :: l) ++ t)) pre.length = some (x, pre.length + (12 + x.length)) := by
      unfold frameAt
      rw [hd, ha]
      simp only [Option.map_some, Option.some.injEq, Prod.mk.injEq]
      refine ⟨?_, by omega⟩
      rw [List.drop_append_of_le_length (by rw [length_frameOf]; omega), frame_drop12]
      exact List.take_left' rfl
    rw [readN, hfa]
    simp only
    rw [if_pos hx, posFrom]
    congr 1
    have e1 : pre ++ (flat (x :: l) ++ t) = (pre ++ frameOf x) ++ (flat l ++ t) := by rw [flat_cons]; simp
    have e2 : pre.length + (12 + x.length) = (pre ++ frameOf x).length := by rw [List.length_append, length_frameOf]
    rw [e1, e2]
    exact readN_flat k l _ t (by simp at h; omega) (fun y hy => hs y (by simp [hy])) (by
      rcases ht with h | h
      · left; simp at h; omega
      · exact .inr h)
theorem fileEnts_flat (l : List (List UInt8)) (t : List UInt8) (h : l.length ≤ 64) (hs : ∀ x ∈ l, x.length ≤ 200) (ht : l.length = 64 ∨ ahead t = none) : fileEnts (flat l ++ t) = posFrom 0 l := readN_flat 64 l [] t h hs ht

/-- what a frame says is what it holds -/
theorem frame_of_ahead {b : List UInt8} {n : Nat} (h : ahead b = some n) : b = frameOf ((b.drop 12).take n) ++ b.drop (12 + n) := by
  have h1 := ahead_le h
  unfold frameOf
  rw [h1.2.2.2, List.append_assoc]
  have e : (b.drop 12).take n ++ b.drop (12 + n) = b.drop 12 := by
    rw [← List.drop_drop]; exact List.take_append_drop n (b.drop 12)
  rw [e, List.take_append_drop]
theorem readN_back : ∀ (k : Nat) (s : List UInt8) (a : Nat), a ≤ s.length → ∃ t, s.drop a = flat ((readN k s a).map (·.1)) ++ t ∧ readN k s a = posFrom a ((readN k s a).map (·.1)) ∧ ((readN k s a).length = k ∨ ahead t = none ∨ ∃ n, ahead t = some n ∧ 200 < n)
  | 0, s, a, _ => ⟨s.drop a, by simp [readN, flat], rfl, .inl rfl⟩
  | k + 1, s, a, ha => by
    unfold readN
    split
    · rename_i p q hf
      have hq := frameAt_le hf ha
      have hf' := hf
      unfold frameAt at hf'
      simp only [Option.map_eq_some_iff, Prod.mk.injEq] at hf'
      obtain ⟨n, hn, hp, hq2⟩ := hf'
      have hfr := frame_of_ahead hn
      rw [hp] at hfr
      split
      · rename_i h200
        obtain ⟨t, h1, h2, h3⟩ := readN_back k s q hq.2.1
        refine ⟨t, ?_, ?_, ?_⟩
        · rw [hfr]
          simp only [List.map_cons, flat_cons, List.append_assoc]
          congr 1
          rw [List.drop_drop, ← h1]
          congr 1; omega
        · simp only [List.map_cons, posFrom]
          rw [hq.2.2] at h2 ⊢
          rw [← h2]
        · rcases h3 with h3 | h3
          · left; simp [h3]
          · exact .inr h3
      · rename_i h200
        refine ⟨s.drop a, by simp [flat], rfl, .inr (.inr ⟨n, hn, ?_⟩)⟩
        have h1 := (ahead_le hn).1
        have : p.length = n := by rw [← hp]; simp at h1 ⊢; omega
        omega
    · rename_i hf
      refine ⟨s.drop a, by simp [flat], rfl, .inr (.inl ?_)⟩
      unfold frameAt at hf
      simpa using hf
/-- the entries of a file, and what is behind them -/
theorem fileEnts_back (s : List UInt8) : ∃ l t, fileEnts s = posFrom 0 l ∧ s = flat l ++ t ∧ l.length ≤ 64 ∧ (∀ x ∈ l, x.length ≤ 200) := by
  obtain ⟨t, h1, h2, _⟩ := readN_back 64 s 0 (Nat.zero_le _)
  unfold fileEnts
  refine ⟨(readN 64 s 0).map (·.1), t, h2, by simpa using h1, by rw [List.length_map]; exact readN_length 64 s 0, ?_⟩
  intro x hx
  obtain ⟨e, he, rfl⟩ := List.mem_map.1 hx
  exact (readN_le 64 s 0 (Nat.zero_le _) e he).2
end Go.Proofs.YtogkdoooimcemaaGreatDoor

/- SegL2 -/
namespace Go.Proofs.YtogkdoooimcemaaGreatDoor
open Go

def chunk (E : List (List UInt8)) (k : Nat) : List (List UInt8) := (E.drop (64 * k)).take 64
/-- what a file holds -/
def fileFor (E : List (List UInt8)) (n : Int) : Option (List UInt8) := if 1000 ≤ n ∧ 64 * (n - 1000).toNat < E.length then some (flat (chunk E (n - 1000).toNat)) else none
/-- how many files -/
def nfiles (n : Nat) : Nat := (n + 63) / 64
theorem nfiles_lt {n k : Nat} : k < nfiles n ↔ 64 * k < n := by unfold nfiles; omega
theorem fileFor_at (E : List (List UInt8)) (k : Nat) : fileFor E ((1000 + k : Nat) : Int) = if 64 * k < E.length then some (flat (chunk E k)) else none := by
  unfold fileFor
  have e : (((1000 + k : Nat) : Int) - 1000).toNat = k := by omega
  rw [e]
  by_cases h : 64 * k < E.length
  · rw [if_pos ⟨by omega, h⟩, if_pos h]
  · rw [if_neg (by rintro ⟨_, h2⟩; exact h h2), if_neg h]
/-- where the entries end, each in its file -/
def endsAll (E : List (List UInt8)) : List Int := (List.range E.length).map fun i => (((flat ((E.drop (64 * (i / 64))).take (i % 64 + 1))).length : Nat) : Int)
theorem endsAll_len (E : List (List UInt8)) : (endsAll E).length = E.length := by simp [endsAll]
theorem endsAll_get (E : List (List UInt8)) (i : Nat) (h : i < E.length) : (endsAll E)[i]? = some (((flat ((E.drop (64 * (i / 64))).take (i % 64 + 1))).length : Nat) : Int) := by
  unfold endsAll
  rw [List.getElem?_map, List.getElem?_range h]; rfl
theorem flat_len_le : ∀ (l : List (List UInt8)), (∀ x ∈ l, x.length ≤ 200) → (flat l).length ≤ l.length * 212 := by
        intro l
        induction l with
        | nil => intro _; simp [flat]
        | cons a l ih =>
          intro h
          have h1 := ih (fun x hx => h x (by simp [hx]))
          have h2 := h a (by simp)
          rw [flat_cons, List.length_append, length_frameOf, List.length_cons]
          omega
theorem endsAll_bd (E : List (List UInt8)) (h : ∀ x ∈ E, x.length ≤ 200) : ∀ x ∈ endsAll E, 0 ≤ x ∧ x ≤ 13568 := by
  intro x hx
  unfold endsAll at hx
  obtain ⟨i, hi, rfl⟩ := List.mem_map.1 hx
  have h1 := flat_len_le ((E.drop (64 * (i / 64))).take (i % 64 + 1)) (fun x hx => h x (List.mem_of_mem_drop (List.mem_of_mem_take hx)))
  have h2 : ((E.drop (64 * (i / 64))).take (i % 64 + 1)).length ≤ 64 := by simp; omega
  omega
theorem endsFrom_get : ∀ (p : Nat) (l : List (List UInt8)) (j : Nat), j < l.length → (endsFrom p l)[j]? = some (((p + (flat (l.take (j + 1))).length : Nat)) : Int)
  | p, x :: l, 0, _ => by simp [endsFrom, flat, length_frameOf]
  | p, x :: l, j + 1, h => by
    have := endsFrom_get (p + (12 + x.length)) l j (by simp at h; omega)
    simp only [endsFrom, List.getElem?_cons_succ, this, List.take_succ_cons, flat_cons, List.length_append, length_frameOf]
    congr 2; omega
theorem endOf_all (E : List (List UInt8)) : Sg.endOf (endsAll E) E.length = (((flat (E.drop (64 * (E.length / 64)))).length : Nat) : Int) := by
  unfold Sg.endOf
  by_cases h : E.length % 64 = 0
  · rw [if_pos h, List.drop_of_length_le (by omega)]; rfl
  · rw [if_neg h, List.getD_eq_getElem?_getD, endsAll_get E (E.length - 1) (by omega), Option.getD_some]
    have e1 : (E.length - 1) / 64 = E.length / 64 := by omega
    have e2 : (E.length - 1) % 64 + 1 = E.length % 64 := by omega
    rw [e1, e2, List.take_of_length_le (by simp; omega)]
/-- entries that fit into the last file -/
theorem endsAll_more (E L : List (List UInt8)) (h : E.length % 64 + L.length ≤ 64) : endsAll E ++ endsFrom (flat (E.drop (64 * (E.length / 64)))).length L = endsAll (E ++ L) := by
  apply List.ext_getElem?
  intro i
  have hel := endsAll_len E
  rcases Nat.lt_or_ge i E.length with hi | hi
  · rw [List.getElem?_append_left (by omega), endsAll_get E i hi, endsAll_get (E ++ L) i (by simp; omega)]
    congr 4
    rw [List.drop_append_of_le_length (by omega), List.take_append_of_le_length (by simp; omega)]
  · rw [List.getElem?_append_right (by omega), hel]
    have hfl : (endsFrom (flat (E.drop (64 * (E.length / 64)))).length L).length = L.length := endsFrom_len'
    rcases Nat.lt_or_ge (i - E.length) L.length with hj | hj
    · rw [endsFrom_get _ L (i - E.length) hj, endsAll_get (E ++ L) i (by simp; omega)]
      have e1 : i / 64 = E.length / 64 := by omega
      have e2 : i % 64 + 1 = (E.length - 64 * (E.length / 64)) + (i - E.length + 1) := by omega
      rw [e1, List.drop_append_of_le_length (by omega), e2]
      have hdl : (E.drop (64 * (E.length / 64))).length = E.length - 64 * (E.length / 64) := by simp
      rw [← hdl, List.take_length_add_append, flat_append, List.length_append]
    · rw [List.getElem?_eq_none (by omega), List.getElem?_eq_none (by rw [endsAll_len]; simp; omega)]
theorem endsAll_take (E : List (List UInt8)) (m : Nat) (hm : m ≤ E.length) : (endsAll E).take m = endsAll (E.take m) := by
  apply List.ext_getElem?
  intro i
  rcases Nat.lt_or_ge i m with hi | hi
  · rw [List.getElem?_take_of_lt hi, endsAll_get E i (by omega), endsAll_get (E.take m) i (by simp; omega)]
    congr 4
    rw [List.drop_take, List.take_take]
    congr 1; omega
  · rw [List.getElem?_take_eq_none hi, List.getElem?_eq_none (by rw [endsAll_len]; simp; omega)]

/-! ### gather -/
theorem chunk_len (E : List (List UInt8)) (k : Nat) : (chunk E k).length = min 64 (E.length - 64 * k) := by simp [chunk]
theorem drop_chunk (E : List (List UInt8)) (k : Nat) : E.drop (64 * k) = chunk E k ++ E.drop (64 * (k + 1)) := by
  unfold chunk
  have : 64 * (k + 1) = 64 * k + 64 := by omega
  rw [this, ← List.drop_drop, List.take_append_drop]
theorem gather_files {D : Dk} {E : List (List UInt8)} (hs : ∀ x ∈ E, x.length ≤ 200) (hg : ∀ k, D.get ((1000 + k : Nat) : Int) = fileFor E ((1000 + k : Nat) : Int)) : ∀ (f k : Nat), E.length ≤ 64 * (k + f) →
    gather D f k = (List.range' k (nfiles E.length - k)).map fun j => (posFrom 0 (chunk E j), (flat (chunk E j)).length)
  | 0, k, h => by
    have : nfiles E.length - k = 0 := by unfold nfiles; omega
    rw [this]; rfl
  | f + 1, k, h => by
    unfold gather
    rw [hg k, fileFor_at]
    by_cases hk : 64 * k < E.length
    · rw [if_pos hk]
      simp only
      have hfe : fileEnts (flat (chunk E k)) = posFrom 0 (chunk E k) := by
        have := fileEnts_flat (chunk E k) [] (by rw [chunk_len]; omega) (fun x hx => hs x (List.mem_of_mem_drop (List.mem_of_mem_take hx))) (.inr ahead_nil)
        rwa [List.append_nil] at this
      have hn : nfiles E.length - k = (nfiles E.length - (k + 1)) + 1 := by have := nfiles_lt.2 hk; omega
      rw [hfe, posFrom_len, chunk_len, hn, List.range'_succ, List.map_cons]
      congr 1
      by_cases hf : min 64 (E.length - 64 * k) = 64
      · rw [if_pos hf]
        exact gather_files hs hg f (k + 1) (by omega)
      · rw [if_neg hf]
        have : nfiles E.length - (k + 1) = 0 := by unfold nfiles; omega
        rw [this]; rfl
    · rw [if_neg hk]
      have : nfiles E.length - k = 0 := by unfold nfiles; omega
      rw [this]; rfl
theorem ents_range (E : List (List UInt8)) : ∀ (m k : Nat), E.length ≤ 64 * (k + m) → ((List.range' k m).map fun j => (posFrom 0 (chunk E j), (flat (chunk E j)).length)).flatMap (fun x => x.1.map (·.1)) = E.drop (64 * k)
  | 0, k, h => by rw [List.drop_of_length_le (by omega)]; rfl
  | m + 1, k, h => by
    have ih := ents_range E m (k + 1) (by omega)
    rw [List.range'_succ, List.map_cons, List.flatMap_cons, ih, posFrom_fst]
    exact (drop_chunk E k).symm
theorem ends_range (E : List (List UInt8)) : ∀ (m k : Nat), E.length ≤ 64 * (k + m) → ((List.range' k m).map fun j => (posFrom 0 (chunk E j), (flat (chunk E j)).length)).flatMap (fun x => x.1.map fun e => ((e.2 : Nat) : Int)) = (endsAll E).drop (64 * k)
  | 0, k, h => by rw [List.drop_of_length_le (by rw [endsAll_len]; omega)]; rfl
  | m + 1, k, h => by
    have ih := ends_range E m (k + 1) (by omega)
    rw [List.range'_succ, List.map_cons, List.flatMap_cons, ih, posFrom_snd]
    apply List.ext_getElem?
    intro i
    have hcl := chunk_len E k
    have hfl : (endsFrom 0 (chunk E k)).length = (chunk E k).length := endsFrom_len'
    rw [List.getElem?_drop]
    rcases Nat.lt_or_ge i (chunk E k).length with hi | hi
    · rw [List.getElem?_append_left (by omega), endsFrom_get 0 _ i hi, endsAll_get E (64 * k + i) (by omega), Nat.zero_add]
      have e1 : (64 * k + i) / 64 = k := by omega
      have e2 : (64 * k + i) % 64 = i := by omega
      rw [e1, e2]
      unfold chunk
      rw [List.take_take]
      congr 5; omega
    · rw [List.getElem?_append_right (by omega), List.getElem?_drop, hfl]
      by_cases hf : 64 ≤ E.length - 64 * k
      · congr 1; omega
      · rw [List.getElem?_eq_none (by rw [endsAll_len]; omega), List.getElem?_eq_none (by rw [endsAll_len]; omega)]
theorem torn_range (E : List (List UInt8)) : ∀ (m k : Nat), tornOf k ((List.range' k m).map fun j => (posFrom 0 (chunk E j), (flat (chunk E j)).length)) = []
  | 0, _ => rfl
  | m + 1, k => by
    rw [List.range'_succ, List.map_cons, tornOf]
    simp only
    rw [lastEnd_flat, if_neg (by omega), List.nil_append]
    exact torn_range E m (k + 1)
end Go.Proofs.YtogkdoooimcemaaGreatDoor

/- SegL3 -/
namespace Go.Proofs.YtogkdoooimcemaaGreatDoor
open Go

structure Rep (D : Dk) (E : List (List UInt8)) (B : Nat) : Prop where
  up : D.down = false
  get : ∀ n, D.get n = fileFor E n
  total : Dk.total D.files ≤ B
  short : ∀ x ∈ E, x.length ≤ 200
  wf : D.WF
theorem get_mem {D : Dk} (n : Int) : n ∈ D.files.map (·.1) ↔ (D.get n).isSome = true := by
  have := Dk.getF_none (l := D.files) (n := n)
  show _ ↔ (Dk.getF D.files n).isSome = true
  cases h : Dk.getF D.files n with
  | none => rw [h] at this; simp at this; simpa using this
  | some b => rw [h] at this; simp at this; simpa using this
theorem fileFor_some (E : List (List UInt8)) (n : Int) : (fileFor E n).isSome = true ↔ ∃ k, k < nfiles E.length ∧ n = ((1000 + k : Nat) : Int) := by
  unfold fileFor
  constructor
  · intro h
    split at h
    · rename_i h1
      exact ⟨(n - 1000).toNat, nfiles_lt.2 h1.2, by omega⟩
    · simp at h
  · rintro ⟨k, hk, rfl⟩
    have e : (((1000 + k : Nat) : Int) - 1000).toNat = k := by omega
    rw [e, if_pos ⟨by omega, nfiles_lt.1 hk⟩]; rfl
def names (m : Nat) : List Int := (List.range m).map fun k => ((1000 + k : Nat) : Int)
theorem names_nodup (m : Nat) : (names m).Nodup := by
  unfold names
  rw [List.nodup_iff_pairwise_ne, List.pairwise_map]
  exact List.Pairwise.imp (fun h e => by omega) (List.pairwise_lt_range (n := m))
theorem Rep.keys {D : Dk} {E : List (List UInt8)} {B : Nat} (h : Rep D E B) : D.keys = names (nfiles E.length) := by
  have tr : ∀ a b c : Int, decide (a ≤ b) = true → decide (b ≤ c) = true → decide (a ≤ c) = true := by intro a b c; simp; omega
  have tt : ∀ a b : Int, (decide (a ≤ b) || decide (b ≤ a)) = true := by intro a b; simp; omega
  have s1 := List.pairwise_mergeSort tr tt (D.files.map (·.1))
  have s2 : (names (nfiles E.length)).Pairwise (fun a b => decide (a ≤ b) = true) := by
    unfold names
    rw [List.pairwise_map]
    exact List.Pairwise.imp (fun h => by simp; omega) (List.pairwise_lt_range (n := nfiles E.length))
  have hp : D.keys.Perm (names (nfiles E.length)) := by
    refine (List.mergeSort_perm _ _).trans ?_
    rw [List.perm_ext_iff_of_nodup h.wf.keys (names_nodup _)]
    intro n
    rw [get_mem, h.get, fileFor_some]
    unfold names
    simp only [List.mem_map, List.mem_range]
    constructor
    · rintro ⟨k, hk, rfl⟩; exact ⟨k, hk, rfl⟩
    · rintro ⟨k, hk, rfl⟩; exact ⟨k, hk, rfl⟩
  exact List.Perm.eq_of_pairwise (fun a b _ _ h1 h2 => by simp at h1 h2; omega) s1 s2 hp
theorem Rep.files {D : Dk} {E : List (List UInt8)} {B : Nat} (h : Rep D E B) : D.files.length = nfiles E.length := by
  rw [← keys_len, h.keys]; simp [names]
theorem Rep.mono {D : Dk} {E : List (List UInt8)} {B B' : Nat} (h : Rep D E B) (hb : B ≤ B') : Rep D E B' := ⟨h.up, h.get, Nat.le_trans h.total hb, h.short, h.wf⟩

/-! ### steps that do not fail -/
theorem tick_calm {D : Dk} (h : D.fails = false) : D.tick = D := by unfold Dk.tick; rw [if_neg (by simp [h])]
theorem step_calm {D : Dk} (h : D.fails = false) (f : Dk → Dk) : D.step f = (f D, 0) := by
  unfold Dk.step Dk.sinks
  rw [h]; simp [tick_calm h]
theorem chunk_more (E M : List (List UInt8)) (h : E.length % 64 + M.length ≤ 64) : flat (chunk (E ++ M) (E.length / 64)) = flat (chunk E (E.length / 64)) ++ flat M := by
  unfold chunk
  rw [List.drop_append_of_le_length (by omega), List.take_append]
  have e1 : (E.drop (64 * (E.length / 64))).length = E.length % 64 := by simp; omega
  rw [e1, List.take_of_length_le (l := M) (by omega), flat_append]
theorem fileFor_more (E M : List (List UInt8)) (hM : 0 < M.length) (h : E.length % 64 + M.length ≤ 64) (n : Int) :
    fileFor (E ++ M) n = if n = ((1000 + E.length / 64 : Nat) : Int) then some (((fileFor E n).getD []) ++ flat M) else fileFor E n := by
  by_cases hn : n = ((1000 + E.length / 64 : Nat) : Int)
  · rw [if_pos hn, hn, fileFor_at, fileFor_at, if_pos (by simp; omega), chunk_more E M h]
    by_cases he : 64 * (E.length / 64) < E.length
    · rw [if_pos he]; rfl
    · rw [if_neg he]
      have : chunk E (E.length / 64) = [] := by
        apply List.eq_nil_of_length_eq_zero
        rw [chunk_len]; omega
      rw [this]; rfl
  · rw [if_neg hn]
    unfold fileFor
    by_cases h1 : 1000 ≤ n
    · have hk : (n - 1000).toNat ≠ E.length / 64 := by omega
      generalize hkk : (n - 1000).toNat = k at hk
      by_cases h2 : 64 * k < E.length
      · have h3 : 64 * k + 64 ≤ E.length := by omega
        rw [if_pos ⟨h1, by simp; omega⟩, if_pos ⟨h1, h2⟩]
        congr 2
        unfold chunk
        rw [List.drop_append_of_le_length (by omega), List.take_append_of_le_length (by simp; omega)]
      · rw [if_neg (by rintro ⟨_, h3⟩; simp at h3; omega), if_neg (by rintro ⟨_, h3⟩; exact h2 h3)]
    · rw [if_neg (by rintro ⟨h2, _⟩; exact h1 h2), if_neg (by rintro ⟨h2, _⟩; exact h1 h2)]

theorem create_calm {D : Dk} {n : Int} (hf : D.fails = false) (hd : D.down = false) (hn : 0 ≤ n) (hg : D.get n = none) (hl : D.files.length < 100) : D.create n = ({ D with files := D.files ++ [(n, [])] }, 0) := by
  unfold Dk.create
  rw [if_neg (by simp [hd]), if_neg (by omega), if_neg (by simp [hg]), if_neg (by omega), step_calm hf]
theorem append_calm {D : Dk} {n : Int} {b s : List UInt8} (hf : D.fails = false) (hd : D.down = false) (hg : D.get n = some b) (hs : (s.length : Int) ≤ D.free) : D.append n s = (D.put n s, 0) := by
  unfold Dk.append
  rw [if_neg (by simp [Dk.has, hd, hg]), if_neg (by omega)]
  exact step_calm (D := D.put n s) hf id
theorem getF_snoc (l : List (Int × List UInt8)) (n m : Int) (h : Dk.getF l n = none) : Dk.getF (l ++ [(n, [])]) m = if m = n then some [] else Dk.getF l m := by
  unfold Dk.getF at h ⊢
  rw [List.find?_append]
  by_cases hmn : m = n
  · subst hmn
    rw [if_pos rfl]
    have : l.find? (fun x => x.1 == m) = none := by
      cases hx : l.find? (fun x => x.1 == m) with
      | none => rfl
      | some y => rw [hx] at h; simp at h
    rw [this]; simp
  · rw [if_neg hmn]
    cases hx : l.find? (fun x => x.1 == m) with
    | none => simp; omega
    | some y => simp
theorem total_snoc (l : List (Int × List UInt8)) (n : Int) : Dk.total (l ++ [(n, [])]) = Dk.total l := by simp [Dk.total]
/-- what all acts leave as it is -/
structure Calm (D D' : Dk) : Prop where
  cap : D'.cap = D.cap
  starts : D'.starts = D.starts
  fails : D'.fails = false
theorem all_append (l m : List Step) (D : Dk) : Step.all (l ++ m) D = if (Step.all l D).2 = 0 then Step.all m (Step.all l D).1 else Step.all l D := by
  induction l generalizing D with
  | nil => simp [Step.all]
  | cons a l ih =>
    simp only [List.cons_append, Step.all]
    by_cases h : (a.run D).2 = 0
    · simp only [h, if_true]; exact ih _
    · simp [h]
/-- one file's piece -/
theorem piece_calm {D : Dk} {E M : List (List UInt8)} {B : Nat} {has : List Int} (h : Rep D E B) (hf : D.fails = false) (hM : 0 < M.length) (hm : E.length % 64 + M.length ≤ 64) (hMs : ∀ x ∈ M, x.length ≤ 200) (hcap : B + (flat M).length ≤ D.cap) (hsz : E.length + M.length ≤ 4096)
    (hlo : D.loose.length < 900000) (hhas : ((1000 + E.length / 64 : Nat) : Int) ∈ has ↔ E.length % 64 ≠ 0) :
    ∃ D', Step.all ((if ((1000 + E.length / 64 : Nat) : Int) ∈ has then [] else [Step.create ((1000 + E.length / 64 : Nat) : Int)]) ++ [Step.append ((1000 + E.length / 64 : Nat) : Int) (flat M)]) D = (D', 0) ∧ Rep D' (E ++ M) (B + (flat M).length) ∧ Calm D D' ∧ D'.loose.length = D.loose.length + 1 := by
  obtain ⟨n, hn⟩ : ∃ n : Int, n = ((1000 + E.length / 64 : Nat) : Int) := ⟨_, rfl⟩
  rw [← hn] at hhas ⊢
  have hn0 : 0 ≤ n := by omega
  have hgE : D.get n = if E.length % 64 ≠ 0 then some (flat (chunk E (E.length / 64))) else none := by
    rw [h.get, hn, fileFor_at]
    by_cases he : E.length % 64 ≠ 0
    · rw [if_pos (by omega), if_pos he]
    · rw [if_neg (by omega), if_neg he]
  have hnf := h.files
  have hfl : D.files.length ≤ 64 := by rw [hnf]; unfold nfiles; omega
  -- behind the creation
  obtain ⟨D1, b, hD1, hg1, hall1, hc1, ht1, hw1, hlo1, hu1⟩ : ∃ D1 b, Step.all (if n ∈ has then [] else [Step.create n]) D = (D1, 0) ∧ D1.get n = some b ∧ (∀ m, D1.get m = if m = n then some ((fileFor E n).getD []) else fileFor E m) ∧ Calm D D1 ∧ Dk.total D1.files = Dk.total D.files ∧ D1.WF ∧ D1.loose = D.loose ∧ D1.down = false := by
    by_cases he : E.length % 64 ≠ 0
    · rw [if_pos (hhas.2 he)]
      rw [if_pos he] at hgE
      refine ⟨D, _, rfl, hgE, fun m => ?_, ⟨rfl, rfl, hf⟩, rfl, h.wf, rfl, h.up⟩
      by_cases hmn : m = n
      · rw [if_pos hmn, hmn, hgE, ← h.get, hgE]; rfl
      · rw [if_neg hmn, h.get]
    · rw [if_neg (by rw [hhas]; exact he)]
      rw [if_neg he] at hgE
      have hcr := create_calm hf h.up hn0 hgE (by omega)
      refine ⟨{ D with files := D.files ++ [(n, [])] }, [], ?_, ?_, fun m => ?_, ⟨rfl, rfl, hf⟩, total_snoc _ _, wf_push h.wf (by unfold Dk.I64; omega) hgE (by omega), rfl, h.up⟩
      · simp only [Step.all, Step.run, hcr]; simp
      · show Dk.getF (D.files ++ [(n, [])]) n = _
        rw [getF_snoc _ _ _ hgE, if_pos rfl]
      · show Dk.getF (D.files ++ [(n, [])]) m = _
        rw [getF_snoc _ _ _ hgE]
        by_cases hmn : m = n
        · rw [if_pos hmn, if_pos hmn, ← h.get, hgE]; rfl
        · rw [if_neg hmn, if_neg hmn]; exact h.get m
  have hfree : ((flat M).length : Int) ≤ D1.free := by
    unfold Dk.free
    rw [ht1, hc1.cap]
    have := h.total; omega
  have hap := append_calm (s := flat M) hc1.fails hu1 hg1 hfree
  have htot := total_setF D1.files n (b ++ flat M) b hw1.keys hg1
  refine ⟨D1.put n (flat M), ?_, ⟨hu1, fun m => ?_, ?_, ?_, wf_put hw1 hg1 hfree (by rw [hlo1]; omega)⟩, ⟨hc1.cap, hc1.starts, hc1.fails⟩, by simp [Dk.put, hlo1]⟩
  · rw [all_append, hD1, if_pos rfl]
    simp only [Step.all, Step.run, hap]; simp
  · rw [fileFor_more E M hM hm m, ← hn]
    show Dk.getF (Dk.setF D1.files n _) m = _
    rw [getF_setF, hg1]
    by_cases hmn : m = n
    · rw [if_pos hmn, if_pos hmn, hmn]
      show Option.map _ (D1.get n) = _
      have := hall1 n
      rw [if_pos rfl, hg1] at this
      rw [hg1, Option.map_some, ← Option.some.inj this]; rfl
    · rw [if_neg hmn, if_neg hmn]
      have := hall1 m
      rw [if_neg hmn] at this
      exact this
  · have ht2 : Dk.total (D1.put n (flat M)).files = Dk.total (Dk.setF D1.files n (b ++ flat M)) := by
      show Dk.total (Dk.setF D1.files n (((D1.get n).getD []) ++ flat M)) = _
      rw [hg1]; rfl
    rw [ht2]
    rw [List.length_append] at htot
    have := h.total
    omega
  · intro x hx
    rcases List.mem_append.1 hx with hx | hx
    · exact h.short x hx
    · exact hMs x hx
theorem endOf_all' (E : List (List UInt8)) : Sg.endOf (endsAll E) (endsAll E).length = (((flat (E.drop (64 * (E.length / 64)))).length : Nat) : Int) := by rw [endsAll_len]; exact endOf_all E
/-- all pieces -/
theorem plan_calm {has : List Int} : ∀ (f : Nat) (E L : List (List UInt8)) (D : Dk) (B : Nat), L.length ≤ f → Rep D E B → D.fails = false → (∀ x ∈ L, x.length ≤ 200) → B + (flat L).length ≤ D.cap → E.length + L.length ≤ 4096 → D.loose.length + L.length ≤ 900000 →
    (∀ k, E.length / 64 ≤ k → (((1000 + k : Nat) : Int) ∈ has ↔ 64 * k < E.length)) →
    (planOf has f (endsAll E) L).ends = endsAll (E ++ L) ∧ (planOf has f (endsAll E) L).size = (flat L).length ∧ nfiles (E ++ L).length = nfiles E.length + (planOf has f (endsAll E) L).files ∧
    ∃ D', Step.all (planOf has f (endsAll E) L).steps D = (D', 0) ∧ Rep D' (E ++ L) (B + (flat L).length) ∧ Calm D D'
  | 0, E, L, D, B, hl, hr, hf, _, _, _, _, _ => by
    have : L = [] := List.eq_nil_of_length_eq_zero (by omega)
    subst this
    unfold planOf
    refine ⟨by simp, rfl, by simp, D, rfl, by simpa [flat] using hr, ⟨rfl, rfl, hf⟩⟩
  | f + 1, E, L, D, B, hl, hr, hf, hs, hcap, hsz, hlo, hhas => by
    by_cases h0 : L.length = 0
    · have : L = [] := List.eq_nil_of_length_eq_zero h0
      subst this
      have hp0 : planOf has (f + 1) (endsAll E) [] = ⟨[], endsAll E, 0, 0⟩ := by unfold planOf; simp
      rw [hp0]
      refine ⟨by simp, rfl, by simp, D, rfl, by simpa [flat] using hr, ⟨rfl, rfl, hf⟩⟩
    · have hel := endsAll_len E
      obtain ⟨many, hmany⟩ : ∃ many, many = min (64 - E.length % 64) L.length := ⟨_, rfl⟩
      have hm1 : 0 < many := by omega
      have hsplit : L = L.take many ++ L.drop many := (List.take_append_drop many L).symm
      have hflat : (flat L).length = (flat (L.take many)).length + (flat (L.drop many)).length := by
        have := congrArg (fun l => (flat l).length) hsplit
        simp only [flat_append, List.length_append] at this
        exact this
      have htl : (L.take many).length = many := by rw [List.length_take]; omega
      have hdl : (L.drop many).length = L.length - many := List.length_drop
      have hh : ((1000 + E.length / 64 : Nat) : Int) ∈ has ↔ E.length % 64 ≠ 0 := by
        rw [hhas (E.length / 64) (Nat.le_refl _)]; omega
      obtain ⟨D1, h1, r1, c1, l1⟩ := piece_calm (M := L.take many) hr hf (by rw [htl]; exact hm1) (by rw [htl]; omega) (fun x hx => hs x (List.mem_of_mem_take hx)) (by omega) (by rw [htl]; omega) (by omega) hh
      have hends : endsAll E ++ endsFrom (flat (E.drop (64 * (E.length / 64)))).length (L.take many) = endsAll (E ++ L.take many) := endsAll_more E (L.take many) (by rw [htl]; omega)
      have hE1 : (E ++ L.take many).length = E.length + many := by rw [List.length_append, htl]
      have hpl : planOf has (f + 1) (endsAll E) L = ⟨(if ((1000 + E.length / 64 : Nat) : Int) ∈ has then [] else [Step.create ((1000 + E.length / 64 : Nat) : Int)]) ++ (Step.append ((1000 + E.length / 64 : Nat) : Int) (flat (L.take many)) :: (planOf has f (endsAll (E ++ L.take many)) (L.drop many)).steps),
          (planOf has f (endsAll (E ++ L.take many)) (L.drop many)).ends, (if ((1000 + E.length / 64 : Nat) : Int) ∈ has then 0 else 1) + (planOf has f (endsAll (E ++ L.take many)) (L.drop many)).files, (flat (L.take many)).length + (planOf has f (endsAll (E ++ L.take many)) (L.drop many)).size⟩ := by
        rw [planOf, if_neg h0]
        simp only [hel, ← hmany]
        rw [← hel, endOf_all', hel, Int.toNat_natCast, hends]
        rfl
      have hnf : nfiles (E.length + many) = nfiles E.length + (if ((1000 + E.length / 64 : Nat) : Int) ∈ has then 0 else 1) := by
        by_cases he : E.length % 64 ≠ 0
        · rw [if_pos (hh.2 he)]; unfold nfiles; omega
        · rw [if_neg (by rw [hh]; exact he)]; unfold nfiles; omega
      have hrec : (planOf has f (endsAll (E ++ L.take many)) (L.drop many)).ends = endsAll (E ++ L) ∧ (planOf has f (endsAll (E ++ L.take many)) (L.drop many)).size = (flat (L.drop many)).length ∧
          nfiles (E ++ L).length = nfiles (E.length + many) + (planOf has f (endsAll (E ++ L.take many)) (L.drop many)).files ∧
          ∃ D', Step.all (planOf has f (endsAll (E ++ L.take many)) (L.drop many)).steps D1 = (D', 0) ∧ Rep D' (E ++ L) (B + (flat L).length) ∧ Calm D1 D' := by
        have hEL : E ++ L = (E ++ L.take many) ++ L.drop many := by rw [List.append_assoc, List.take_append_drop]
        by_cases hrest : (L.drop many).length = 0
        · have hr0 : L.drop many = [] := List.eq_nil_of_length_eq_zero hrest
          have hp0 : planOf has f (endsAll (E ++ L.take many)) (L.drop many) = ⟨[], endsAll (E ++ L.take many), 0, 0⟩ := by
            cases f with
            | zero => rfl
            | succ f => unfold planOf; simp [hr0]
          have hfl0 : (flat (L.drop many)).length = 0 := by rw [hr0]; rfl
          rw [hp0]
          refine ⟨by rw [hEL, hr0, List.append_nil], hfl0.symm, by rw [List.length_append]; simp; congr 1; omega, D1, rfl, ?_, ⟨rfl, rfl, c1.fails⟩⟩
          rw [hEL, hr0, List.append_nil]
          exact r1.mono (by omega)
        · obtain ⟨i1, i2, i3, D2, i4, i5, i6⟩ := plan_calm (has := has) f (E ++ L.take many) (L.drop many) D1 (B + (flat (L.take many)).length) (by omega) r1 c1.fails (fun x hx => hs x (List.mem_of_mem_drop hx)) (by rw [c1.cap]; omega) (by omega) (by omega) (by
            intro k hk
            rw [hE1] at hk ⊢
            rw [hhas k (by omega)]
            omega)
          rw [← hEL] at i1 i3 i5
          refine ⟨i1, i2, by rw [i3, hE1], D2, i4, i5.mono (by omega), i6⟩
      obtain ⟨i1, i2, i3, D2, i4, i5, i6⟩ := hrec
      rw [hpl]
      refine ⟨i1, by simp only [i2]; omega, by simp only; rw [i3, hnf]; omega, D2, ?_, i5, ⟨i6.cap.trans c1.cap, i6.starts.trans c1.starts, i6.fails⟩⟩
      have hsp : ((if ((1000 + E.length / 64 : Nat) : Int) ∈ has then [] else [Step.create ((1000 + E.length / 64 : Nat) : Int)]) ++ (Step.append ((1000 + E.length / 64 : Nat) : Int) (flat (L.take many)) :: (planOf has f (endsAll (E ++ L.take many)) (L.drop many)).steps)) =
          ((if ((1000 + E.length / 64 : Nat) : Int) ∈ has then [] else [Step.create ((1000 + E.length / 64 : Nat) : Int)]) ++ [Step.append ((1000 + E.length / 64 : Nat) : Int) (flat (L.take many))]) ++ (planOf has f (endsAll (E ++ L.take many)) (L.drop many)).steps := by simp
      rw [hsp, all_append, h1, if_pos rfl]
      exact i4
end Go.Proofs.YtogkdoooimcemaaGreatDoor
