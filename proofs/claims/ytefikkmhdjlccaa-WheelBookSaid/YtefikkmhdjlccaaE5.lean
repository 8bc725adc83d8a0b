/- WheelBook: the law's walk. -/
import Derived.Test.YtefikkmhdjlccaaE4
import Derived.Test.YtefikkmhdjlccaaO2
namespace Go.Proofs.Ytefikkmhdjlccaa
open Go.RowKit

set_option maxRecDepth 100000
set_option maxHeartbeats 8000000 in
theorem c6 (now : Int) (v1 v2 v3 : Value) (ids ats ticks : List Int) (w : World) (h1 : IntsAt w v1 ids) (h2 : IntsAt w v2 ats) (h3 : IntsAt w v3 ticks) (l1 : ids.length ≤ 17592186043904) (hwf : ∀ n ∈ ids, wfI n) :
    Calls Try.prog 6 #[.int .i64 now, v1, v2, v3] w fun e w' => e = .returned (.bool true) ∧ Below w.heap.size w w' := by
  obtain ⟨a1, c1, rfl, hc1, _, _⟩ := id h1
  obtain ⟨a2, c2, rfl, hc2, _, _⟩ := id h2
  obtain ⟨a3, c3, rfl, hc3, _, _⟩ := id h3
  generalize hB : w.heap.size = B at *
  obtain ⟨w1, hW⟩ : ∃ w1, w1 = w.alloc (.cells (Cw now nilV) 25) := ⟨_, rfl⟩
  have hs1 : w1.heap.size = B + 1 := by rw [hW]; simp [hB]
  have hb1 : Below B w w1 := by rw [hW]; exact (Below.refl B w).alloc (by omega) _
  have k0 : Blk w1 B now nilV := by rw [hW, Blk, ← hB]; exact heap_alloc_new w _
  have r0 : (w.alloc (.cells (Cw 0 nilV) 25)).heap[B]? = some (.cells (Cw 0 nilV) 25 (0, 0)) := by rw [← hB]; exact heap_alloc_new w _
  have R0 := Lib.hid r0
  have Hb1 := Lib.hid hb1
  have K0 := Lib.hid k0
  have H1 := Lib.hid h1
  have H2 := Lib.hid h2
  have H3 := Lib.hid h3
  have HW := Lib.hid hW
  have hs1l : B + 1 ≤ w1.heap.size := by omega
  have Hwf := Lib.hid hwf
  clear hb1 k0 hW hs1 h1 h2 h3 r0 hwf
  have zv := zv25
  go_enter Try.func6, Try.ntmps6
  go_wp2_with (refine wpList_store_row rfl 25 (.tmp 9) (.tmp 28) rfl B ((Cw 0 nilV).setIfInBounds 0 (.int .i64 now)) rfl rfl 25 (Cw 0 nilV) R0.out (by rw [Cw_tick, Cw_size]; exact info25) (by rw [Cw_tick, Cw_size, Cw_size]) (by rw [Cw_tick]; exact Cw_one _ _ (fun _ _ => rfl)) ?_; rw [Cw_tick, setRow_alloc_at _ _ _ _ _ (by simp [hB])])
  rw [← HW.out]
  refine (c8 w1).mono ?_
  rintro e w2 ⟨rfl, hb2⟩
  have hs2 := hb2.size
  have K0 := Lib.hid (K0.out.below hb2 (by omega))
  have Hb2 := Lib.hid (Hb1.out.trans (hb2.mono (by omega)))
  clear hb2
  go_wp2_with (refine wpList_load_roww rfl 25 (.tmp 9) rfl B rfl 25 (Cw now nilV) (0, 0) _ K0.out Try.underlying25 rfl (by rw [Cw_size]; exact info25) ?_)
  refine (c16 now nilV (fun _ => []) w2 (WheelAt.zero w2) (fun _ _ => by simp) (fun _ _ d hd => by simp at hd)).mono ?_
  rintro e w3 ⟨⟨r, rfl, hr⟩, hb3⟩
  have hs3 := hb3.size
  have K0 := Lib.hid (K0.out.below hb3 (by omega))
  have Hb3 := Lib.hid (Hb2.out.trans (hb3.mono (by omega)))
  have Hr := Lib.hid hr
  clear hb3 hr
  by_cases hr0 : r = 0
  · have hR : Right now (fun _ => []) := Hr.out.1 hr0
    subst hr0
    by_cases hlen : ids.length ≤ 200
    · have d0 : decide ((ids.length : Int) > 200) = false := decide_eq_false (by omega)
      have hBK : BK w B now nilV (fun _ => []) [] w3 := ⟨K0.out, (Own.zero w3 B 97).ext (fun _ _ => rfl) (fun i hi => by unfold slots; split; rfl; split <;> rfl), Hb3.out, hR, fun _ _ d hd => by simp at hd, fun t => by simp [timeL, all_empty]⟩
      have HBK := Lib.hid hBK
      clear hBK hR Hr K0 Hb3
      go_wp2_with fail
      go_loopw [10, 44] (fun b i wr => ∃ k : Nat, k ≤ ids.length ∧ i = .int .i64 k ∧ ∃ now' V' f' book, b = V' 96 ∧ BK w B now' V' f' book wr ∧ book.length ≤ k) (fun _ i _ => ids.length - (intOf i).toNat)
      case atStart => exact ⟨0, by omega, rfl, now, nilV, _, [], rfl, HBK.out, by simp⟩
      case round =>
        clear HBK
        obtain ⟨k, hk, rfl, now', V', f', book, rfl, hBK, hbl⟩ := hrel
        obtain ⟨ab, cb, hvb⟩ := hBK.bookAt.shape
        rw [hvb]
        have Hvb := Lib.hid hvb
        clear hvb
        have hsz := hBK.size
        have hbw := hBK.below
        have hfew := hBK.few
        have hn0 := hBK.right.now0
        have hn1 := hBK.right.now1
        by_cases hlt : k < ids.length
        · have hwid := Hwf.out (ids.getD k 0) (by simp [List.getD, hlt])
          obtain ⟨b1, o1, rfl, q1⟩ : ∃ b o, a1 = some ⟨b, o, none⟩ ∧ wr.cell? ⟨b, o + k, none⟩ = some (.int .i64 (ids.getD k 0)) := by
            obtain ⟨a', c', e0, _, _, hc⟩ := H1.out.below hB.symm hbw
            simp only [Value.slice.injEq, true_and] at e0
            obtain ⟨rfl, rfl⟩ := e0
            obtain ⟨b, o, hbo, hcc⟩ := hc (by intro e; rw [e] at hlt; simp at hlt)
            exact ⟨b, o, hbo, hcc k hlt⟩
          generalize hid : ids.getD k 0 = id at *
          obtain ⟨w4, hW4⟩ : ∃ w4, wr.alloc (.cells #[.int .i64 id] 3) = w4 := ⟨_, rfl⟩
          have hb4 : Below wr.heap.size wr w4 := by rw [← hW4]; exact Below.of_alloc _ _
          have kid : w4.heap[wr.heap.size]? = some (.cells #[.int .i64 id] 3 (0, 0)) := by rw [← hW4]; exact heap_alloc_new _ _
          have hs4 : wr.heap.size + 1 ≤ w4.heap.size := by rw [← hW4]; simp
          have BK4 := Lib.hid (hBK.move hb4)
          obtain ⟨gid, hgid⟩ : ∃ g, wr.heap.size = g := ⟨_, rfl⟩
          rw [hgid] at kid hs4 hsz
          have Kid := Lib.hid kid
          have Hgid := Lib.hid hgid
          have HW4 := Lib.hid hW4
          have A2 := Lib.hid (H2.out.below hB.symm (BK4.out.below))
          have A3 := Lib.hid (H3.out.below hB.symm (BK4.out.below))
          have hwid := Lib.hid hwid
          have hg0 : (k : Int) < ids.length := by omega
          have Hbl := Lib.hid hbl
          clear hBK hbw hb4 kid hgid hW4 hid hbl
          have hnow : w4.cell? ⟨B, 0, none⟩ = some (.int .i64 now') := BK4.out.cellNow
          have hnow0 : wr.cell? ⟨B, 0, none⟩ = some (.int .i64 now') := by
            have := BK4.out.cellNow
            rw [← HW4.out, World.cell?_alloc_past _ _ _ (by have := Hgid.out; show B < _; omega)] at this
            exact this
          have hBl : B < wr.heap.size := by have := Hgid.out; omega
          go_upto_if 55 with fail
          rw [HW4.out, Hgid.out]
          clear q1 hnow0 hBl HW4
          have hgl4 : gid < w4.heap.size := by omega
          go_cut [13] from 55 to 64 (fun x wx => ∃ tm : Int, x = .int .i64 tm ∧ now' < tm ∧ tm ≤ now' + 8388608 ∧ ∃ n, wx = w4.drewN n)
          case first =>
            by_cases hka : k < ats.length
            · have hka' : (k : Int) < ats.length := by omega
              obtain ⟨b2, o2, hb2, q2⟩ : ∃ b o, a2 = some ⟨b, o, none⟩ ∧ w4.cell? ⟨b, o + k, none⟩ = some (.int .i64 (ats.getD k 0)) := by
                obtain ⟨a', c', e0, _, _, hc⟩ := A2.out
                simp only [Value.slice.injEq, true_and] at e0
                obtain ⟨rfl, rfl⟩ := e0
                obtain ⟨b, o, hbo, hcc⟩ := hc (by intro e; rw [e] at hka; simp at hka)
                exact ⟨b, o, hbo, hcc k hka⟩
              subst hb2
              generalize ats.getD k 0 = at1 at *
              clear A2 A3 Hwf hwid
              go_wp2_with fail
              go_region
              all_goals
                go_wp2_with fail
                go_meet
                case rel => exact ⟨_, rfl, by omega, by omega, 1, rfl⟩
            · have hka' : ¬ (k : Int) < ats.length := by omega
              go_wp2_with fail
              go_meet
              case rel => exact ⟨now' + 1, rfl, by omega, by omega, 0, rfl⟩
          case rest =>
            obtain ⟨tm, rfl, htm0, htm1, nq, rfl⟩ := hcut
            obtain ⟨w5, hW5⟩ : ∃ w5, w4.drewN nq = w5 := ⟨_, rfl⟩
            have hb5 : Below w4.heap.size w4 w5 := by rw [← hW5]; exact (Below.refl _ _).drewN' nq
            rw [hW5]
            have BK5 := Lib.hid (BK4.out.move hb5)
            have Kid := Lib.hid ((hb5.block gid hgl4).trans Kid.out)
            have hs5 := hb5.size
            have A3 := Lib.hid (A3.out.below rfl hb5)
            clear A2 hb5 hW5 BK4 hnow
            go_upto_if 68 with fail
            go_cut [14] from 68 to 74 (fun x wx => ∃ n : Nat, x = .int .i64 (n : Int) ∧ n ≤ 10000 ∧ wx = w5)
            case first =>
              by_cases hka : k < ticks.length
              · have hka' : (k : Int) < ticks.length := by omega
                obtain ⟨b2, o2, hb2, q2⟩ : ∃ b o, a3 = some ⟨b, o, none⟩ ∧ w5.cell? ⟨b, o + k, none⟩ = some (.int .i64 (ticks.getD k 0)) := by
                  obtain ⟨a', c', e0, _, _, hc⟩ := A3.out
                  simp only [Value.slice.injEq, true_and] at e0
                  obtain ⟨rfl, rfl⟩ := e0
                  obtain ⟨b, o, hbo, hcc⟩ := hc (by intro e; rw [e] at hka; simp at hka)
                  exact ⟨b, o, hbo, hcc k hka⟩
                subst hb2
                generalize ticks.getD k 0 = n1 at *
                clear A3 Hwf hwid
                go_wp2_with fail
                go_meet
                case rel => exact ⟨(max 0 (min n1 10000)).toNat, congrArg (Value.int .i64) (by omega), by omega, rfl⟩
              · have hka' : ¬ (k : Int) < ticks.length := by omega
                go_wp2_with fail
                go_meet
                case rel => exact ⟨0, rfl, by omega, rfl⟩
            case rest =>
              obtain ⟨n, rfl, hn, rfl⟩ := hcut
              clear A3
              obtain ⟨w5, hW5⟩ : ∃ w5, w5 = wc := ⟨_, rfl⟩
              rw [← hW5] at BK5 Kid hs5 ⊢
              clear hW5
              have hgl5 : gid < w5.heap.size := by omega
              go_wp2_with fail
              have hbk5 := BK5.out.bookAt.at
              rw [Hvb.out] at hbk5
              refine (c17 _ book 18 gid (fun d => d.id == id) w5 hbk5 (by omega) hgl5 (asks18 gid id w5 Kid.out) ent18).mono ?_
              rintro e w6 ⟨rfl, hb6⟩
              have BK6 := Lib.hid (BK5.out.move hb6)
              have hs6 := hb6.size
              have Kid := Lib.hid ((hb6.block gid hgl5).trans Kid.out)
              have hgl6 : gid < w6.heap.size := by omega
              clear hb6 hbk5 BK5
              obtain ⟨ki, hki⟩ : ∃ ki, idxF (fun d : Du => d.id == id) book = ki := ⟨_, rfl⟩
              rw [hki]
              go_upto_if 79 with fail
              go_cut [10, 16, 17, 18, 19] from 79 to 111 (fun b x16 x17 x18 x19 wx => ∃ V2 f2 book2, b = V2 96 ∧ BK w B now' V2 f2 book2 wx ∧ book2.length ≤ k + 1)
              case first =>
                have hkid := cell_of_blk (o := 0) Kid.out
                rcases idxF_cases (fun d : Du => d.id == id) book with ⟨k2, hk2, hp2, hidx⟩ | ⟨hno, hidx⟩
                · obtain rfl : ki = (k2 : Int) := hki.symm.trans hidx
                  have hp2 : (book.getD k2 default).id = id := by simpa using hp2
                  have Hp2 := Lib.hid hp2
                  clear hidx hp2 hki
                  go_wp2_with (refine wpList_load_row rfl 25 (.tmp 9) rfl B rfl 25 (Cw now' V') (0, 0) _ BK6.out.blk Try.underlying25 rfl (by rw [Cw_size]; exact info25) ?_)
                  refine (c13 now' id V' f' w6 BK6.out.at BK6.out.lens BK6.out.wf).mono ?_
                  rintro e w7 ⟨hb7, ⟨hno, _⟩ | ⟨hR7, i7, k7, V7, hi7, hk7, he7, rfl, hO7⟩⟩
                  · exact absurd ⟨BK6.out.right, Hp2.out ▸ BK6.out.rep.has (getD_mem hk2)⟩ hno
                  clear hR7
                  have hs7 := hb7.size
                  have BK7 := Lib.hid (BK6.out.move hb7)
                  obtain ⟨w7', hE7⟩ : ∃ w7', w7.alloc (.cells (Cw now' V7) 25) = w7' := ⟨_, rfl⟩
                  have one7 := Lib.hid (hO7.at (Nat.le_refl _)).one
                  have O7 := Lib.hid hO7
                  have E7 := Lib.hid hE7
                  clear hb7 hO7 hE7 hkid
                  go_upto_if 87 with (refine wpList_store_row rfl 25 (.tmp 16) (.tmp 84) rfl w7.heap.size (Cw now' V7) rfl rfl 25 (Cw 0 nilV) (heap_alloc_new _ _) (by rw [Cw_size]; exact info25) (by rw [Cw_size, Cw_size]) (Cw_one _ _ one7.out) ?_; rw [World.setRow_alloc_new, E7.out])
                  have BK7' := Lib.hid (BK7.out.move (w' := w7') (by rw [← E7.out]; exact Below.of_alloc _ _))
                  have R16 := Lib.hid (show w7'.heap[w7.heap.size]? = some (.cells (Cw now' V7) 25 (0, 0)) by rw [← E7.out]; exact Blk.new _ _ _)
                  have O7' := Lib.hid (show Own w7' w6.heap.size 96 V7 (upd f' i7 ((f' i7).eraseIdx k7)) by rw [← E7.out]; exact O7.out.alloc _)
                  have hs7' : w7.heap.size + 1 ≤ w7'.heap.size := by rw [← E7.out]; simp
                  clear O7 E7 BK7
                  go_wp2_with fail
                  refine wp_region_held_drew (S := fun w' => w'.heap[w7.heap.size]? = some (.cells (Cw now' V7) 25 (0, 0))) (by kernel_rfl) R16.out (fun hHeld => ?_)
                  refine wpAnyH_take (i := 0) (v := .agg (Cw now' V7)) rfl (by kernel_rfl) (by kernel_rfl) (by kernel_rfl) (fun _ _ _ h => h) (yieldsIf_load_row (by rfl) 25 (.tmp 16) rfl w7.heap.size rfl 25 (Cw now' V7) (0, 0) _ (fun _ h => h) Try.underlying25 rfl (by rw [Cw_size]; exact info25)) hHeld ?_
                  simp only [List.getElem_toArray, List.getElem_cons_zero, Act.put, List.setIfInBounds_toArray, List.set_cons_zero, List.set_cons_succ]
                  refine wpAnyH_take (i := 1) (v := .slice ab book.length cb) rfl (by kernel_rfl) (by kernel_rfl) (by kernel_rfl) (fun _ _ _ h => h) (Or.inl ⟨by rfl, fun w' hSw => ?t1⟩) hHeld ?_
                  case t1 => go_simp
                  simp only [List.getElem_toArray, List.getElem_cons_succ, List.getElem_cons_zero, Act.put, List.setIfInBounds_toArray, List.set_cons_zero, List.set_cons_succ]
                  refine wpAnyH_take (i := 2) (v := .int .i64 k2) rfl (by kernel_rfl) (by kernel_rfl) (by kernel_rfl) (fun _ _ _ h => h) (Or.inl ⟨by rfl, fun w' hSw => ?t2⟩) hHeld ?_
                  case t2 => go_simp
                  simp only [List.getElem_toArray, List.getElem_cons_succ, List.getElem_cons_zero, Act.put, List.setIfInBounds_toArray, List.set_cons_zero, List.set_cons_succ]
                  refine wpAnyH_take (i := 3) (v := .int .i64 k2) rfl (by kernel_rfl) (by kernel_rfl) (by kernel_rfl) (fun _ _ _ h => h) (Or.inl ⟨by rfl, fun w' hSw => ?t3⟩) hHeld ?_
                  case t3 => go_simp
                  simp only [List.getElem_toArray, List.getElem_cons_succ, List.getElem_cons_zero, Act.put, List.setIfInBounds_toArray, List.set_cons_zero, List.set_cons_succ]
                  refine wpAnyH_take (i := 4) (v := .int .i64 ((k2 : Int) + 1)) rfl (by kernel_rfl) (by kernel_rfl) (by kernel_rfl) (fun _ _ _ h => h) (Or.inl ⟨by rfl, fun w' hSw => ?t4⟩) hHeld ?_
                  case t4 => go_simp; try (rw [IntKind.wrap_i64]; omega)
                  simp only [List.getElem_toArray, List.getElem_cons_succ, List.getElem_cons_zero, Act.put, List.setIfInBounds_toArray, List.set_cons_zero, List.set_cons_succ]
                  refine wpAnyH_ready (rs := [5]) (by kernel_rfl) (by simp) ?_
                  refine AllReadyH.cons rfl (fun K hK => ?_) AllReadyH.nil
                  simp only [List.getElem_toArray, List.getElem_cons_succ, List.getElem_cons_zero]
                  go_simp
                  have hbk7 : OwnD w7'.drew B (.slice ab book.length cb) book := by have := BK7'.out.bookAt; rw [Hvb.out] at this; exact this
                  refine (c19 _ book k2 w7'.drew B hbk7 (by omega) hk2).mono ?_
                  rintro e w8 ⟨v8, rfl, hv8, hown8, hg8⟩
                  rw [← Hvb.out] at hown8 hg8
                  have hOr : ∀ i, i < 96 → ∀ g, (V7 i).ownBlock = some g → w8.heap[g]? = w7'.heap[g]? := fun i hi g hg => hg8.block g (O7'.out.each i hi |>.lt g hg).2 (fun e => by
                    have h1 := ((O7'.out.each i hi).lt g hg).1
                    have h2 := (BK6.out.bookAt.lt g e.symm).2
                    omega)
                  have O8 := Lib.hid (O7'.out.of_same hOr)
                  have hneB : ∀ x, w7'.heap[x]? = some (.cells (Cw now' V7) 25 (0, 0)) ∨ w7'.heap[x]? = some (.cells (Cw now' V') 25 (0, 0)) → (V' 96).ownBlock ≠ some x := fun x hx => by
                    rcases hx with hx | hx
                    · exact BK7'.out.bookAt.ne hx (by decide)
                    · exact BK7'.out.bookAt.ne hx (by decide)
                  have r16 : w8.heap[w7.heap.size]? = some (.cells (Cw now' V7) 25 (0, 0)) := (hg8.block _ (by show _ < w7'.heap.size; omega) (fun e => hneB _ (.inl R16.out) e.symm)).trans R16.out
                  have rB : w8.heap[B]? = some (.cells (Cw now' V') 25 (0, 0)) := (hg8.block _ (by show _ < w7'.heap.size; omega) (fun e => hneB _ (.inr BK7'.out.blk) e.symm)).trans BK7'.out.blk
                  have Rb := Lib.hid rB
                  have hbel8 : Below B w w8 := (BK7'.out.below).grown (w' := w8) (row := (V' 96).ownBlock) ⟨hg8.os, hg8.tape, hg8.output, hg8.size, hg8.block⟩ (by omega) (fun g e => (BK7'.out.bookAt.lt g e).1)
                  have Hbel8 := Lib.hid hbel8
                  have Hv8 := Lib.hid hv8
                  have Hown8 := Lib.hid hown8
                  obtain ⟨a8, c8', rfl⟩ := hv8.shape
                  clear hbk7 hOr hneB rB hbel8 hv8 hown8 hg8
                  refine hK.out _ _ r16 (fun hHeld => ?_)
                  clear hK r16
                  refine wpAnyH_ready (rs := [6]) (by kernel_rfl) (by simp) ?_
                  refine AllReadyH.cons rfl (fun K hK => ?_) AllReadyH.nil
                  simp only [List.getElem_toArray, List.getElem_cons_succ, List.getElem_cons_zero]
                  rw [if_pos (by rfl)]
                  refine wp_store_row 25 (.tmp 9) (.tmp 88) rfl B (Cw now' V7) rfl rfl 25 (Cw now' V') Rb.out (by rw [Cw_size]; exact info25) (by rw [Cw_size, Cw_size]) (Cw_one _ _ one7.out) ?_
                  have hb16 : w7.heap.size ≠ B := by omega
                  refine hK.out _ _ ((setRow_other _ _ _ _ hb16).trans hHeld) (fun hHeld => ?_)
                  clear hK
                  simp only [Act.put]
                  refine wpAnyH_take (i := 7) (v := .slice a8 (book.eraseIdx k2).length c8') rfl (by kernel_rfl) (by kernel_rfl) (by kernel_rfl) (fun _ _ _ h => h) (Or.inl ⟨by rfl, fun w' hSw => ?t7⟩) hHeld ?_
                  case t7 => go_simp
                  simp only [List.getElem_toArray, List.getElem_cons_succ, List.getElem_cons_zero, Act.put, List.setIfInBounds_toArray, List.set_cons_zero, List.set_cons_succ]
                  refine wpAnyH_done (by kernel_rfl) ?_ _
                  go_wp2_with fail
                  go_meet
                  case rel => exact ⟨upd V7 96 (.slice a8 (book.eraseIdx k2).length c8'), upd f' i7 ((f' i7).eraseIdx k7), book.eraseIdx k2, (upd_same _ _ _).symm, BK6.out.renew (w1 := w7') O8.out Hv8.out (.inl Hown8.out) (fun i hi g hg => ((O7'.out.each i hi).lt g hg).2) Rb.out Hbel8.out (BK6.out.right.drop (List.eraseIdx_sublist _ _)) (allP_erase BK6.out.wf _ _) (BK6.out.rep.stop BK6.out.right hi7 hk7 he7 hk2 Hp2.out), by have := Hbl.out; have := List.length_eraseIdx_le book k2; omega⟩
                · obtain rfl : ki = -1 := hki.symm.trans hidx
                  have hno : ∀ d ∈ book, d.id ≠ id := fun d hd => by have := hno d hd; simpa using this
                  have Hno := Lib.hid hno
                  clear hidx hki hno
                  go_wp2_with (refine wpList_load_row rfl 25 (.tmp 9) rfl B rfl 25 (Cw now' V') (0, 0) _ BK6.out.blk Try.underlying25 rfl (by rw [Cw_size]; exact info25) ?_)
                  refine (c12 now' id tm V' f' w6 BK6.out.at BK6.out.lens BK6.out.wf).mono ?_
                  rintro e w7 ⟨hb7, ⟨hno, r7, hr7, rfl⟩ | ⟨hok, V7, rfl, hO7⟩⟩
                  · have htm : ¬ tm < 16777216 := fun h => hno ⟨BK6.out.right, htm0, h, BK6.out.rep.hasnt Hno.out, by have := BK6.out.len; have := Hbl.out; omega⟩
                    have BK7 := Lib.hid (BK6.out.move hb7)
                    have hs7 := hb7.size
                    have q7 : (r7 == 0) = false := by rw [beq_eq_false_iff_ne]; exact hr7
                    obtain ⟨w7', hE7⟩ : ∃ w7', w7.alloc (.cells (Cw 0 nilV) 25) = w7' := ⟨_, rfl⟩
                    have BK7' := Lib.hid (BK7.out.move (w' := w7') (by rw [← hE7]; exact Below.of_alloc _ _))
                    have E7 := Lib.hid hE7
                    clear hb7 hno hr7 hE7 hkid BK7
                    go_wp2_with (refine wpList_store_row rfl 25 (.tmp 18) (.tmp 99) rfl w7.heap.size (Cw 0 nilV) rfl rfl 25 (Cw 0 nilV) (heap_alloc_new _ _) (by rw [Cw_size]; exact info25) rfl (Cw_one 0 nilV (fun _ _ => rfl)) ?_; rw [World.setRow_alloc_new, E7.out])
                    go_meet
                    case rel => exact ⟨V', f', book, Hvb.out.symm, BK7'.out, by have := Hbl.out; omega⟩
                  · have hs7 := hb7.size
                    have BK7 := Lib.hid (BK6.out.move hb7)
                    obtain ⟨w7', hE7⟩ : ∃ w7', w7.alloc (.cells (Cw now' V7) 25) = w7' := ⟨_, rfl⟩
                    have one7 := Lib.hid (hO7.at (Nat.le_refl _)).one
                    have O7' := Lib.hid (show Own w7' w6.heap.size 96 V7 (setM now' f' id tm) by rw [← hE7]; exact hO7.alloc _)
                    have BK7' := Lib.hid (BK7.out.move (w' := w7') (by rw [← hE7]; exact Below.of_alloc _ _))
                    have R18 := Lib.hid (show w7'.heap[w7.heap.size]? = some (.cells (Cw now' V7) 25 (0, 0)) by rw [← hE7]; exact Blk.new _ _ _)
                    have hs7' : w7.heap.size + 1 ≤ w7'.heap.size := by rw [← hE7]; simp
                    have Kid7 : Hid (w7'.heap[gid]? = some (.cells #[.int .i64 id] 3 (0, 0))) := by
                      show _ = _
                      rw [← hE7]
                      exact (Below.heap_alloc _ _ _ (by omega)).trans ((hb7.block gid hgl6).trans Kid.out)
                    have E7 := Lib.hid hE7
                    have Hok := Lib.hid hok
                    clear hb7 hO7 hE7 hkid BK7 hok
                    go_wp2_with (refine wpList_store_row rfl 25 (.tmp 18) (.tmp 99) rfl w7.heap.size (Cw now' V7) rfl rfl 25 (Cw 0 nilV) (heap_alloc_new _ _) (by rw [Cw_size]; exact info25) (by rw [Cw_size, Cw_size]) (Cw_one _ _ one7.out) ?_; rw [World.setRow_alloc_new, E7.out])
                    refine wp_region_held_drew (S := fun w' => w'.heap[w7.heap.size]? = some (.cells (Cw now' V7) 25 (0, 0)) ∧ w'.cell? ⟨gid, 0, none⟩ = some (.int .i64 id)) (by kernel_rfl) ⟨R18.out, cell_of_blk (o := 0) (show w7'.drew.heap[gid]? = _ from Kid7.out)⟩ (fun hHeld => ?_)
                    refine wpAnyH_take (i := 0) (v := .agg (Cw now' V7)) rfl (by kernel_rfl) (by kernel_rfl) (by kernel_rfl) (fun _ _ _ h => h) (yieldsIf_load_row (by rfl) 25 (.tmp 18) rfl w7.heap.size rfl 25 (Cw now' V7) (0, 0) _ (fun _ h => h.1) Try.underlying25 rfl (by rw [Cw_size]; exact info25)) hHeld ?_
                    simp only [List.getElem_toArray, List.getElem_cons_zero, Act.put, List.setIfInBounds_toArray, List.set_cons_zero, List.set_cons_succ]
                    refine wpAnyH_take (i := 1) (v := .slice ab book.length cb) rfl (by kernel_rfl) (by kernel_rfl) (by kernel_rfl) (fun _ _ _ h => h) (Or.inl ⟨by rfl, fun w' hSw => ?t1⟩) hHeld ?_
                    case t1 => go_simp
                    simp only [List.getElem_toArray, List.getElem_cons_succ, List.getElem_cons_zero, Act.put, List.setIfInBounds_toArray, List.set_cons_zero, List.set_cons_succ]
                    refine wpAnyH_take (i := 2) (v := .int .i64 id) rfl (by kernel_rfl) (by kernel_rfl) (by kernel_rfl) (fun _ _ _ h => h) (Or.inl ⟨by rfl, fun w' hSw => ?t2⟩) hHeld ?_
                    case t2 => obtain ⟨_, hSw⟩ := hSw; go_simp
                    simp only [List.getElem_toArray, List.getElem_cons_succ, List.getElem_cons_zero, Act.put, List.setIfInBounds_toArray, List.set_cons_zero, List.set_cons_succ]
                    refine wpAnyH_take (i := 3) (v := .int .i64 tm) rfl (by kernel_rfl) (by kernel_rfl) (by kernel_rfl) (fun _ _ _ h => h) (Or.inl ⟨by rfl, fun w' hSw => ?t3⟩) hHeld ?_
                    case t3 => go_simp
                    simp only [List.getElem_toArray, List.getElem_cons_succ, List.getElem_cons_zero, Act.put, List.setIfInBounds_toArray, List.set_cons_zero, List.set_cons_succ]
                    refine wpAnyH_take (i := 4) (v := .agg #[.int .i64 id, .int .i64 tm]) rfl (by kernel_rfl) (by kernel_rfl) (by kernel_rfl) (fun _ _ _ h => h) (Or.inl ⟨by rfl, fun w' hSw => ?t4⟩) hHeld ?_
                    case t4 => go_simp
                    simp only [List.getElem_toArray, List.getElem_cons_succ, List.getElem_cons_zero, Act.put, List.setIfInBounds_toArray, List.set_cons_zero, List.set_cons_succ]
                    refine wpAnyH_ready (rs := [5]) (by kernel_rfl) (by simp) ?_
                    refine AllReadyH.cons rfl (fun K hK => ?_) AllReadyH.nil
                    simp only [List.getElem_toArray, List.getElem_cons_succ, List.getElem_cons_zero]
                    go_simp
                    obtain ⟨w8, hW8⟩ : ∃ w8, (w7'.alloc (.cells #[.int .i64 id, .int .i64 tm] 33)).drew = w8 := ⟨_, rfl⟩
                    have hb8 : Below w7'.heap.size w7' w8 := by rw [← hW8]; exact (Below.of_alloc _ _).drew
                    have hd8 : w8.heap[w7'.heap.size]? = some (.cells #[.int .i64 id, .int .i64 tm] 33 (0, 0)) := by rw [← hW8]; exact heap_alloc_new _ _
                    have hs8 : w7'.heap.size + 1 ≤ w8.heap.size := by rw [← hW8]; simp
                    rw [hW8]
                    have BK8 := Lib.hid (BK7'.out.move hb8)
                    have R18 := Lib.hid ((hb8.block _ (by omega)).trans R18.out)
                    have Kid8 := Lib.hid ((hb8.block gid (by omega)).trans Kid7.out)
                    have O8 := Lib.hid (O7'.out.below hb8 (Nat.le_refl _))
                    have hO8 : Own w8 w6.heap.size 96 V7 (setM now' f' id tm) := O8.out
                    have O8 := Lib.hid hO8
                    have Hd8 := Lib.hid hd8
                    clear hb8 hd8 hW8 hO8
                    refine hK.out _ _ ⟨R18.out, cell_of_blk (o := 0) Kid8.out⟩ (fun hHeld => ?_)
                    clear hK
                    refine wpAnyH_ready (rs := [6]) (by kernel_rfl) (by simp) ?_
                    refine AllReadyH.cons rfl (fun K hK => ?_) AllReadyH.nil
                    simp only [List.getElem_toArray, List.getElem_cons_succ, List.getElem_cons_zero, Act.put, List.setIfInBounds_toArray, List.set_cons_zero, List.set_cons_succ]
                    rw [if_pos (by rfl)]
                    have hob : OwnD w8 B (.slice ab book.length cb) book := by have := BK8.out.bookAt; rw [Hvb.out] at this; exact this
                    have Hob := Lib.hid hob
                    have hsrc : ∀ a : Addr, some (⟨w7'.heap.size, 0, none⟩ : Addr) = some a → ∀ (j : Nat) (u : Value), ([.int .i64 id, .int .i64 tm] : List Value)[j]? = some u → w8.cell? (a.add j) = some u := fun a ha j u hu => by
                      obtain rfl := Option.some.inj ha
                      rw [Addr.add_mid, Nat.zero_add, cell_of_blk Hd8.out]
                      simpa using hu
                    have Hsrc := Lib.hid hsrc
                    clear hob hsrc
                    refine wp_append_ownT w8 _ _ 22 rfl B 33 (.agg #[.int .i64 0, .int .i64 0]) 2 16 DuT Try.underlying22 info33 rfl (by decide) DuT_zero (.slice ab book.length cb) book.length (duCells book) rfl Hob.out (some ⟨w7'.heap.size, 0, none⟩) 1 1 [.int .i64 id, .int .i64 tm] rfl rfl (by intro h; cases h) Hsrc.out (one_cells [⟨id, tm⟩]) (DuT_cells [⟨id, tm⟩] _) ?c1 ?c2 ?c3 ?_
                    case c1 => unfold maxLen; omega
                    case c2 => omega
                    case c3 => omega
                    intro v9 w9 hown9 hg9 _ hv9
                    rw [← Hvb.out] at hg9 hv9
                    have ho9 : OwnD w9 B v9 (book ++ [⟨id, tm⟩]) := by
                      unfold OwnD
                      rw [duCells_append, List.length_append]
                      exact hown9
                    have hOr : ∀ i, i < 96 → ∀ g, (V7 i).ownBlock = some g → w9.heap[g]? = w8.heap[g]? := fun i hi g hg => hg9.block g ((O8.out.each i hi).lt g hg).2 (fun e => by
                      have h1 := ((O8.out.each i hi).lt g hg).1
                      have h2 := (BK6.out.bookAt.lt g e.symm).2
                      omega)
                    have O9 := Lib.hid (O8.out.of_same hOr)
                    have r18 : w9.heap[w7.heap.size]? = some (.cells (Cw now' V7) 25 (0, 0)) := (hg9.block _ (by omega) (fun e => BK8.out.bookAt.ne R18.out (by decide) e.symm)).trans R18.out
                    have rB : w9.heap[B]? = some (.cells (Cw now' V') 25 (0, 0)) := (hg9.block _ (by omega) (fun e => BK8.out.bookAt.ne BK8.out.blk (by decide) e.symm)).trans BK8.out.blk
                    have rK : w9.heap[gid]? = some (.cells #[.int .i64 id] 3 (0, 0)) := (hg9.block _ (by omega) (fun e => BK8.out.bookAt.ne Kid8.out (by decide) e.symm)).trans Kid8.out
                    have Rb := Lib.hid rB
                    have RK := Lib.hid rK
                    have Hbel9 := Lib.hid (BK8.out.below.grown hg9 (by omega) (fun g e => (BK8.out.bookAt.lt g e).1))
                    have Hv9 := Lib.hid ho9
                    have Hown9 := Lib.hid hv9
                    obtain ⟨a9, c9', rfl⟩ := ho9.shape
                    clear hOr rB ho9 hv9 hg9 hown9
                    simp only [Act.put, List.setIfInBounds_toArray, List.set_cons_zero, List.set_cons_succ]
                    refine hK.out _ _ ⟨r18, cell_of_blk (o := 0) rK⟩ (fun hHeld => ?_)
                    clear hK r18 rK
                    refine wpAnyH_ready (rs := [7]) (by kernel_rfl) (by simp) ?_
                    refine AllReadyH.cons rfl (fun K hK => ?_) AllReadyH.nil
                    simp only [List.getElem_toArray, List.getElem_cons_succ, List.getElem_cons_zero]
                    rw [if_pos (by rfl)]
                    refine wp_store_row 25 (.tmp 9) (.tmp 103) rfl B (Cw now' V7) rfl rfl 25 (Cw now' V') Rb.out (by rw [Cw_size]; exact info25) (by rw [Cw_size, Cw_size]) (Cw_one _ _ one7.out) ?_
                    have hb18 : w7.heap.size ≠ B := by omega
                    have hbg : gid ≠ B := by omega
                    refine hK.out _ _ ⟨(setRow_other _ _ _ _ hb18).trans hHeld.1, cell_of_blk (o := 0) ((setRow_other _ _ _ _ hbg).trans RK.out)⟩ (fun hHeld => ?_)
                    clear hK
                    simp only [Act.put]
                    refine wpAnyH_take (i := 8) (v := .slice a9 (book.length + 1) c9') rfl (by kernel_rfl) (by kernel_rfl) (by kernel_rfl) (fun _ _ _ h => h) (Or.inl ⟨by rfl, fun w' hSw => ?t8⟩) hHeld ?_
                    case t8 => go_simp
                    simp only [List.getElem_toArray, List.getElem_cons_succ, List.getElem_cons_zero, Act.put, List.setIfInBounds_toArray, List.set_cons_zero, List.set_cons_succ]
                    refine wpAnyH_done (by kernel_rfl) ?_ _
                    go_wp2_with fail
                    go_meet
                    case rel =>
                      have hv := Hv9.out
                      have ho := Hown9.out
                      rw [List.length_append] at hv ho
                      exact ⟨upd V7 96 (.slice a9 (book.length + 1) c9'), setM now' f' id tm, book ++ [⟨id, tm⟩], (upd_same _ _ _).symm, BK6.out.renew (w1 := w8) O9.out hv (ho.imp_right fun h => ⟨_, h, Nat.le_refl _⟩) (fun i hi g hg => ((O8.out.each i hi).lt g hg).2) Rb.out Hbel9.out Hok.out.set (allP_set BK6.out.wf hwid.out) (BK6.out.rep.set Hok.out), by have := Hbl.out; rw [List.length_append]; simp; omega⟩
              case rest =>
                obtain ⟨V2, f2, book2, rfl, hBK, hbl2⟩ := hcut
                obtain ⟨ab2, cb2, hvb2⟩ := hBK.bookAt.shape
                rw [hvb2]
                have Hvb2 := Lib.hid hvb2
                have hfew2 := hBK.few
                have hn02 := hBK.right.now0
                have hn12 := hBK.right.now1
                have BKc := Lib.hid hBK
                have Hbl2 := Lib.hid hbl2
                have hBc := hBK.size
                clear hvb2 hBK hbl2 Hbl BK6 hki Kid hgl5 hgl6 hs6
                go_wp2_with (refine wpList_load_row rfl 25 (.tmp 9) rfl B rfl 25 (Cw now' V2) (0, 0) _ BKc.out.blk Try.underlying25 rfl (by rw [Cw_size]; exact info25) ?_)
                refine (c7 now' n V2 f2 wc BKc.out.at BKc.out.lens BKc.out.wf).mono ?_
                rintro e w3 ⟨hb3, ⟨hno, r3, hr3, rfl⟩ | ⟨hok, VT, rfl, hOT⟩⟩
                · have hbig : decide (now' + n ≥ 16777216) = true := decide_eq_true (by
                    by_cases h : now' + n < 16777216
                    · exact absurd ⟨BKc.out.right, by omega, by omega, h⟩ hno
                    · omega)
                  have q3 : (r3 != 0) = true := by rw [bne_iff_ne]; exact hr3
                  have hs3 := hb3.size
                  obtain ⟨w3', hE3⟩ : ∃ w3', w3.alloc (.cells (Cw 0 nilV) 25) = w3' := ⟨_, rfl⟩
                  have BK3 := Lib.hid ((BKc.out.move hb3).move (w' := w3') (by rw [← hE3]; exact Below.of_alloc _ _))
                  have hnow3 := BK3.out.cellNow
                  have E3 := Lib.hid hE3
                  clear hb3 hno hr3 hE3
                  go_wp2_with (refine wpList_store_row rfl 25 (.tmp 20) (.tmp 116) rfl w3.heap.size (Cw 0 nilV) rfl rfl 25 (Cw 0 nilV) (heap_alloc_new _ _) (by rw [Cw_size]; exact info25) rfl (Cw_one 0 nilV (fun _ _ => rfl)) ?_; rw [World.setRow_alloc_new, E3.out])
                  go_ret
                  exact ⟨rfl, BK3.out.below⟩
                · have hs3 := hb3.size
                  obtain ⟨_, _, _, hroom⟩ := hok
                  have hT := tick_right BKc.out.right n hroom
                  have hall := tick_all BKc.out.wf n (now := now')
                  have e1 : ((n : Int)).toNat = n := by omega
                  rw [e1] at hOT
                  have hO3 : Own w3 wc.heap.size 96 VT (tickM now' f2 n).1 := (hOT.less (M := 96) (by omega)).ext (fun _ _ => rfl) (fun i hi => (slots_lt _ _ hi).symm)
                  have hD3 : OwnD w3 wc.heap.size (VT 96) (tickM now' f2 n).2 := by have := hOT.each 96 (by omega); rwa [slots_96] at this
                  have hda := fun m hm hl => dueM_all (m := m) hT rfl hm hl
                  generalize hF : (tickM now' f2 n).1 = F at *
                  generalize ho : (tickM now' f2 n).2 = o at *
                  have hdl := dueM_len BKc.out.right n hroom
                  rw [← hT.out] at hdl
                  obtain ⟨ao, co, hvo⟩ := hD3.shape
                  rw [hvo]
                  rw [hvo] at hD3
                  obtain ⟨w4', hE4⟩ : ∃ w4', w3.alloc (.cells (Cw (now' + n) VT) 25) = w4' := ⟨_, rfl⟩
                  have O4 := Lib.hid (show Own w4' wc.heap.size 96 VT F by rw [← hE4]; exact hO3.alloc _)
                  have D4 := Lib.hid (show OwnD w4' wc.heap.size (.slice ao o.length co) o by rw [← hE4]; exact OwnsT.alloc hD3 _)
                  have BK4 := Lib.hid ((BKc.out.move hb3).move (w' := w4') (by rw [← hE4]; exact Below.of_alloc _ _))
                  have R20 := Lib.hid (show w4'.heap[w3.heap.size]? = some (.cells (Cw (now' + n) VT) 25 (0, 0)) by rw [← hE4]; exact Blk.new _ _ _)
                  have hs4' : w3.heap.size + 1 ≤ w4'.heap.size := by rw [← hE4]; simp
                  have oneT := Lib.hid (hO3.at (Nat.le_refl _)).one
                  have E4 := Lib.hid hE4
                  have HT := Lib.hid hT
                  have Hall := Lib.hid hall
                  have Hda := Lib.hid hda
                  have hnow4 := BK4.out.cellNow
                  clear hb3 hOT hO3 hD3 hE4 hT hall hda hF ho hvo
                  go_upto_block 2 with (refine wpList_store_row rfl 25 (.tmp 20) (.tmp 116) rfl w3.heap.size (Cw (now' + n) VT) rfl rfl 25 (Cw 0 nilV) (heap_alloc_new _ _) (by rw [Cw_size]; exact info25) (by rw [Cw_size, Cw_size]) (Cw_one _ _ oneT.out) ?_; rw [World.setRow_alloc_new, E4.out])
                  have hBl4 : B + 1 ≤ w4'.heap.size := BK4.out.size
                  clear oneT E4
                  go_cut [23, 24, 26] from 129 to 158 (fun due t x wx => OwnD wx w4'.heap.size due o ∧ Below w4'.heap.size w4' wx)
                  case first =>
                    go_wp2_with fail
                    go_loopw [23, 24] (fun due t wr => ∃ m : Nat, m ≤ n ∧ t = .int .i64 (now' + 1 + m) ∧ OwnD wr w4'.heap.size due (dueM f2 now' m) ∧ Below w4'.heap.size w4' wr) (fun _ t _ => (now' + n + 1 - intOf t).toNat)
                    case atStart => exact ⟨0, by omega, by simp, OwnD.nil _ _, Below.refl _ _⟩
                    case round =>
                      obtain ⟨m, hm, rfl, hown, hbel⟩ := hrel
                      obtain ⟨ad, cd, rfl⟩ := hown.shape
                      have hsz := hbel.size
                      have hnow : wr.cell? ⟨B, 0, none⟩ = some (.int .i64 now') := (BK4.out.move hbel).cellNow
                      have hdml : (dueM f2 now' m).length ≤ 500 := dueM_len BKc.out.right m (by omega)
                      have hnext := dueM_succ f2 now' m
                      rw [BKc.out.rep (now' + m + 1), show now' + (m : Int) + 1 = now' + 1 + m by omega] at hnext
                      have hda := Hda.out m hm
                      have hTo := HT.out.out
                      rw [BKc.out.len] at hda
                      by_cases hmn : m < n
                      · have d1 : decide (now' + 1 + (m : Int) ≤ now' + n) = true := decide_eq_true (by omega)
                        by_cases hml : (dueM f2 now' m).length < book2.length
                        · have Hnext := Lib.hid hnext
                          clear hda hTo hnext
                          generalize dueM f2 now' m = dm at *
                          have hml' : (dm.length : Int) < book2.length := by omega
                          have Hown := Lib.hid hown
                          have Hbel := Lib.hid hbel
                          clear hown hbel
                          go_wp2_with fail
                          go_loopw [23, 146] (fun due i wz => ∃ j : Nat, j ≤ book2.length ∧ i = .int .i64 j ∧ OwnD wz w4'.heap.size due (dm ++ (book2.take j).filter (fun d => d.tm == now' + 1 + m)) ∧ Below w4'.heap.size w4' wz) (fun _ i _ => book2.length - (intOf i).toNat)
                          case atStart => exact ⟨0, by omega, rfl, by simpa using Hown.out, Hbel.out⟩
                          case round =>
                            clear Hown Hbel
                            obtain ⟨j, hj, rfl, hown, hbel⟩ := hrel
                            have hsz2 := hbel.size
                            by_cases hjl : j < book2.length
                            · have htk := filter_take_succ (q := fun d => d.tm == now' + 1 + m) hjl
                              obtain ⟨b5, o5, hb5, q1, q2⟩ : ∃ b o, ab2 = some ⟨b, o, none⟩ ∧ wr.cell? ⟨b, o + j * 2, none⟩ = some (.int .i64 (book2.getD j default).id) ∧ wr.cell? ⟨b, o + j * 2 + 1, none⟩ = some (.int .i64 (book2.getD j default).tm) := by
                                have hD := ((BK4.out.move hbel).bookAt).at
                                rw [Hvb2.out] at hD
                                obtain ⟨a', c', e0, _, _, hDc⟩ := hD
                                simp only [Value.slice.injEq, true_and] at e0
                                obtain ⟨rfl, rfl⟩ := e0
                                obtain ⟨b, o, hbo, hc⟩ := hDc (by intro e; rw [e] at hjl; simp at hjl)
                                exact ⟨b, o, hbo, (hc j hjl).1, (hc j hjl).2⟩
                              subst hb5
                              have hlj := List.length_filter_le (fun d : Du => d.tm == now' + 1 + m) (book2.take j)
                              rw [List.length_take] at hlj
                              generalize book2.getD j default = d at *
                              obtain ⟨di, dt⟩ := d
                              simp only at q1 q2 htk
                              have hjl' : (j : Int) < book2.length := by omega
                              cases hq : (dt == now' + 1 + (m : Int)) with
                              | true =>
                                rw [hq] at htk
                                have Htk := Lib.hid htk
                                obtain ⟨ad5, cd5, hu⟩ := hown.shape
                                subst hu
                                have hOw : OwnD ((wr.alloc (.cells #[.int .i64 di, .int .i64 dt] 33)).alloc (.cells #[.int .i64 di, .int .i64 dt] 33)) w4'.heap.size _ (dm ++ (book2.take j).filter (fun d => d.tm == now' + 1 + m)) := OwnsT.alloc (OwnsT.alloc hown _) _
                                generalize hlst : dm ++ (book2.take j).filter (fun d => d.tm == now' + 1 + m) = lst at *
                                have hll : lst.length ≤ 1000 := by rw [← hlst, List.length_append]; omega
                                have HOw := Lib.hid hOw
                                have Hlst := Lib.hid hlst
                                have Hbel2 := Lib.hid (((hbel.alloc hsz2 (.cells #[.int .i64 di, .int .i64 dt] 33))).alloc (by simp; omega) (.cells #[.int .i64 di, .int .i64 dt] 33))
                                clear htk hown hbel hlj hOw hlst
                                go_wp2_with (at_builtin; refine wpList_append_ownT _ rfl _ _ 22 rfl w4'.heap.size 33 (.agg #[.int .i64 0, .int .i64 0]) 2 16 DuT Try.underlying22 info33 rfl (by decide) DuT_zero (.slice ad5 lst.length cd5) lst.length (duCells lst) rfl HOw.out (some ⟨wr.heap.size + 1, 0, none⟩) 1 1 [.int .i64 di, .int .i64 dt] rfl rfl (by intro h; cases h) (src_new (wr.alloc (.cells #[.int .i64 di, .int .i64 dt] 33)) [.int .i64 di, .int .i64 dt] 33 _ (by simp)) (one_cells [⟨di, dt⟩]) (DuT_cells [⟨di, dt⟩] _) ?c1 ?c2 ?c3 ?_)
                                case c1 => unfold maxLen; omega
                                case c2 => omega
                                case c3 => first | omega | (simp only [World.size_alloc]; omega) | (simp; omega)
                                intro v9 w9 hown9 hg9 _ _
                                have ho9 : OwnD w9 w4'.heap.size v9 (lst ++ [⟨di, dt⟩]) := by
                                  unfold OwnD
                                  rw [duCells_append, List.length_append]
                                  exact hown9
                                have Hb9 := Lib.hid (Hbel2.out.grown hg9 (by simp only [World.size_alloc]; omega) (fun g e => (HOw.out.lt g e).1))
                                rw [← Hlst.out, List.append_assoc] at ho9
                                have Ho9 := Lib.hid ho9
                                obtain ⟨a9, c9', rfl⟩ := ho9.shape
                                clear ho9 hown9 hg9
                                go_wp2_with fail
                                go_roundw
                                case rel => exact ⟨j + 1, by omega, by go_num, by have e := Htk.out; simp only [if_true] at e; rw [e]; exact Ho9.out, Hb9.out⟩
                                case measure => simp [intOf]; omega
                              | false =>
                                rw [hq] at htk
                                have Htk := Lib.hid htk
                                have Hown := Lib.hid hown
                                have Hbel2 := Lib.hid (hbel.alloc hsz2 (.cells #[.int .i64 di, .int .i64 dt] 33))
                                clear htk hown hbel hlj
                                go_wp2_with fail
                                go_roundw
                                case rel => exact ⟨j + 1, by omega, by go_num, by have e := Htk.out; simp only [Bool.false_eq_true, if_false, List.append_nil] at e; rw [e]; exact OwnsT.alloc Hown.out _, Hbel2.out⟩
                                case measure => simp [intOf]; omega
                            · obtain rfl : j = book2.length := by omega
                              rw [List.take_length] at hown
                              have Hown := Lib.hid hown
                              have Hbel := Lib.hid hbel
                              clear hown hbel
                              go_wp2_with fail
                              go_roundw
                              case rel => exact ⟨m + 1, by omega, by go_num, by rw [Hnext.out]; exact Hown.out, Hbel.out⟩
                              case measure => simp [intOf]; omega
                        · have ho := hda (by omega)
                          have hml' : ¬ ((dueM f2 now' m).length : Int) < book2.length := by omega
                          have Ho := Lib.hid ho
                          have Hown := Lib.hid hown
                          have Hbel := Lib.hid hbel
                          clear ho hown hbel hnext hda hTo
                          go_wp2_with fail
                          go_meet
                          case rel => exact ⟨by rw [Ho.out]; exact Hown.out, Hbel.out⟩
                      · obtain rfl : m = n := by omega
                        have d1 : decide (now' + 1 + (m : Int) ≤ now' + m) = false := decide_eq_false (by omega)
                        have Ho := Lib.hid hTo
                        have Hown := Lib.hid hown
                        have Hbel := Lib.hid hbel
                        clear hown hbel hnext hda hTo
                        go_wp2_with fail
                        go_meet
                        case rel => exact ⟨by rw [Ho.out]; exact Hown.out, Hbel.out⟩
                  case rest =>
                    obtain ⟨hdue, hbelD⟩ := hcut
                    obtain ⟨ad, cd, rfl⟩ := hdue.shape
                    have hsD := hbelD.size
                    have hOD := O4.out.below hbelD (Nat.le_refl _)
                    have hDo := OwnsT.below D4.out hbelD (Nat.le_refl _)
                    have BKD := Lib.hid (BK4.out.move hbelD)
                    have r20 := (hbelD.block w3.heap.size (by omega)).trans R20.out
                    have OD := Lib.hid hOD
                    have Do := Lib.hid hDo
                    have Due := Lib.hid hdue
                    clear hbelD hOD hDo hdue hnow4 R20
                    go_wp2_with fail
                    refine (c10 _ _ o wc (OwnD.at Do.out) (OwnD.at Due.out) (by omega)).mono ?_
                    rintro e w5 ⟨rfl, n5, rfl⟩
                    obtain ⟨w5, hW5⟩ : ∃ w5, wc.drewN n5 = w5 := ⟨_, rfl⟩
                    have BK5 := Lib.hid (show BK w B now' V2 f2 book2 w5 by rw [← hW5]; exact BKD.out.move ((Below.refl _ _).drewN' n5))
                    have hO5 := OD.out.drewN n5
                    rw [hW5] at hO5
                    have O5 := Lib.hid hO5
                    have R5 := Lib.hid (show w5.heap[w3.heap.size]? = some (.cells (Cw (now' + n) VT) 25 (0, 0)) by rw [← hW5]; exact r20)
                    have hs5 : wc.heap.size = w5.heap.size := by rw [← hW5]; rfl
                    rw [hW5]
                    obtain ⟨w6, hW6⟩ : ∃ w6, w5.setRow B (Cw (now' + n) VT) = w6 := ⟨_, rfl⟩
                    have hblk6 : Blk w6 B (now' + n) VT := by rw [← hW6]; exact setRow_heap _ _ _ _ _ _ BK5.out.blk
                    have hne5 := BK5.out.bookNe
                    have hbook6 : OwnD w6 B (V2 96) book2 := by
                      rw [← hW6]
                      exact BK5.out.bookAt.of_same fun g hg => setRow_other _ _ _ _ (fun e => hne5 (by rw [hg, e]))
                    have hO6 := O5.out.of_same (w' := w5.setRow B (Cw (now' + n) VT)) fun i hi g hg => setRow_other _ _ _ _ (fun e => O5.out.ne_blk BK5.out.blk i hi (by rw [hg, e]))
                    rw [hW6] at hO6
                    have hbel6 : Below B w w6 := by rw [← hW6]; exact below_setRow BK5.out.below (Nat.le_refl _) _
                    have oneT := Lib.hid (O5.out.at (Nat.le_refl _)).one
                    have HW6 := Lib.hid hW6
                    have Hblk6 := Lib.hid hblk6
                    have Hbook6 := Lib.hid hbook6
                    have O6 := Lib.hid hO6
                    have Hbel6 := Lib.hid hbel6
                    clear hW5 r20 hW6 hblk6 hbook6 hO6 hbel6 hne5 hO5
                    go_wp2_with (first
                      | (refine wpList_load_row rfl 25 (.tmp 20) rfl w3.heap.size rfl 25 (Cw (now' + n) VT) (0, 0) _ R5.out Try.underlying25 rfl (by rw [Cw_size]; exact info25) ?_)
                      | (refine wpList_store_row rfl 25 (.tmp 9) (.tmp 163) rfl B (Cw (now' + n) VT) rfl rfl 25 (Cw now' V2) BK5.out.blk (by rw [Cw_size]; exact info25) (by rw [Cw_size, Cw_size]) (Cw_one _ _ oneT.out) ?_; rw [HW6.out]))
                    have hb6 := Hbook6.out
                    rw [Hvb2.out] at hb6
                    have hBl6 : B < w6.heap.size := Hblk6.out.lt
                    refine (c20 (.slice ab2 book2.length cb2) book2 21 B (fun d => decide (d.tm ≤ now' + n)) w6 B hb6 (by omega) hBl6 (by rw [← Hvb2.out]; exact BK5.out.bookNe) (asks21 B (now' + n) VT w6 Hblk6.out) ent21).mono ?_
                    rintro e w7 ⟨v7, rfl, ho7, hown7, hfr7⟩
                    rw [← Hvb2.out] at hown7 hfr7
                    have hblk7 : Blk w7 B (now' + n) (upd VT 96 v7) := Blk.ext (Hblk6.out.keep (hfr7.block B hBl6 BK5.out.bookNe)) (fun i hi => upd_other _ _ _ (by omega))
                    have hO7 := O6.out.of_same (w' := w7) fun i hi g hg => hfr7.block g ((O6.out.each i hi).lt g hg).2 (fun e => by
                      have h1 := ((O6.out.each i hi).lt g hg).1
                      have h2 := (BKc.out.bookAt.lt g e).2
                      omega)
                    have hbel7 : Below B w w7 := Hbel6.out.trans (hfr7.below (fun x hx => (Hbook6.out.lt x hx).1) (by omega))
                    have hBK7 := BKc.out.turn (w1 := w7) hO7 ho7 (.inl hown7) (fun i hi g hg => ((hO7.each i hi).lt g hg).2) hblk7 hbel7 HT.out.right Hall.out.1 (BKc.out.rep.tick HT.out)
                    have BK7 := Lib.hid hBK7
                    have hlen7 := List.length_filter_le (fun d : Du => !decide (d.tm ≤ now' + n)) book2
                    clear ho7 hown7 hfr7 hblk7 hO7 hbel7 hBK7 hb6
                    go_wp2_with fail
                    go_roundw
                    case rel => exact ⟨k + 1, by omega, by go_num, now' + n, upd VT 96 v7, F, _, (upd_same _ _ _).symm, BK7.out, by have := Hbl2.out; omega⟩
                    case measure => simp [intOf]; omega
        · have BK4 := Lib.hid hBK
          have hsz := hBK.size
          have hfew := hBK.few
          have hlen2 := hBK.len
          have Hlen2 := Lib.hid hlen2
          clear hBK hlen2
          go_wp2_with (refine wpList_load_row rfl 25 (.tmp 9) rfl B rfl 25 (Cw now' V') (0, 0) _ BK4.out.blk Try.underlying25 rfl (by rw [Cw_size]; exact info25) ?_)
          refine (c14 now' V' f' wr BK4.out.at BK4.out.right).mono ?_
          rintro e w4 ⟨rfl, hb4⟩
          have BK5 := Lib.hid (BK4.out.move hb4)
          clear hb4
          go_wp2_with (refine wpList_load_roww rfl 25 (.tmp 9) rfl B rfl 25 (Cw now' V') (0, 0) _ BK5.out.blk Try.underlying25 rfl (by rw [Cw_size]; exact info25) ?_)
          refine (c15 now' V' f' w4 BK5.out.at BK5.out.right.few).mono ?_
          rintro e w5 ⟨v5, rfl, ho5, hb5⟩
          obtain ⟨a5, c5, rfl⟩ := ho5.shape
          have Hbel := Lib.hid (BK5.out.below.trans (hb5.mono (by have := BK5.out.size; omega)))
          have hq : (((allM f').length : Int) == book.length) = true := by rw [beq_iff_eq]; have := Hlen2.out; omega
          clear ho5 hb5
          go_wp2_with fail
          go_ret
          exact ⟨rfl, Hbel.out⟩
    · have d0 : decide ((ids.length : Int) > 200) = true := decide_eq_true (by omega)
      clear Hr K0
      go_wp2_with fail
      refine (c8 w3).mono ?_
      rintro e w4 ⟨rfl, hb4⟩
      have Hb4 := Lib.hid (Hb3.out.trans (hb4.mono (by omega)))
      clear hb4
      go_wp2_with fail
      go_ret
      exact ⟨rfl, Hb4.out⟩
  · have hq : (r != 0) = true := by rw [bne_iff_ne]; exact hr0
    clear hr0 Hr K0
    go_wp2_with fail
    refine (c8 w3).mono ?_
    rintro e w4 ⟨rfl, hb4⟩
    have Hb4 := Lib.hid (Hb3.out.trans (hb4.mono (by omega)))
    clear hb4
    go_wp2_with fail
    go_ret
    exact ⟨rfl, Hb4.out⟩
end Go.Proofs.Ytefikkmhdjlccaa
