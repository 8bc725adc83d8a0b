/- Check: the walk. -/
import Derived.Test.YtefikkmhdjlccaaW8
namespace Go.Proofs.Ytefikkmhdjlccaa
open Go.RowKit Go.Maps

set_option maxHeartbeats 4000000 in
theorem c16 (now : Int) (V : Nat → Value) (f : Ls) (w : World) (h : WheelAt w V f) (hl : ∀ i, i < 96 → (f i).length ≤ 8796093022208) (hwf : ∀ i, i < 96 → ∀ d ∈ f i, (Lit.int .i64 d.id).wf = true) :
    Calls Try.prog 16 #[.agg (Cw now V)] w (CheckEnd now f w) := by
  generalize hB : w.heap.size = B at *
  have K0 := Blk.new w now V
  rw [hB] at K0
  have Hrow := Lib.hid (show (w.alloc (.cells (Cw now V) 25)).heap[B]? = some (.cells (Cw now V) 25 (0, 0)) from K0)
  have hbA : Below B w (w.alloc (.cells (Cw now V) 25)) := (Below.refl _ _).alloc (by omega) _
  have hA := h.below hB.symm hbA
  have hsA : (w.alloc (.cells (Cw now V) 25)).heap.size = B + 1 := by simp [hB]
  obtain ⟨wA, hWA⟩ : ∃ wA, w.alloc (.cells (Cw now V) 25) = wA := ⟨_, rfl⟩
  rw [hWA] at K0 hbA hA hsA
  have HWA := Lib.hid hWA
  have K0 := Lib.hid K0
  have HA := Lib.hid hA
  have H0 := Lib.hid h
  have Hwf := Lib.hid hwf
  have hsA' : B + 1 ≤ wA.heap.size := by omega
  have HbA := Lib.hid hbA
  have hmm := @run_makeMap Try.prog
  clear hWA hA h hbA hwf hsA
  by_cases h500 : 500 < (allM f).length
  · have hq : decide (((allM f).length : Int) > 500) = true := decide_eq_true (by omega)
    go_enter Try.func16, Try.ntmps16
    go_wp2_with (refine wpList_load_row rfl 25 (.tmp 1) rfl B rfl 25 (Cw now V) (0, 0) _ Hrow.out Try.underlying25 rfl (by rw [Cw_size]; exact info25) ?_)
    rw [HWA.out]
    refine (c25 now V f wA HA.out hl).mono ?_
    rintro e w2 ⟨rfl, hb2⟩
    have Hb2 := Lib.hid (HbA.out.trans (hb2.mono (by omega)))
    clear hb2
    go_wp2_with fail
    go_ret
    exact check_bad (by decide) (fun R => by have := R.few; omega) (by rw [hB]; exact Hb2.out)
  · have hq : decide (((allM f).length : Int) > 500) = false := decide_eq_false (by omega)
    by_cases hn0 : now < 0
    · have hq0 : decide (now < 0) = true := decide_eq_true hn0
      go_enter Try.func16, Try.ntmps16
      go_wp2_with (refine wpList_load_row rfl 25 (.tmp 1) rfl B rfl 25 (Cw now V) (0, 0) _ Hrow.out Try.underlying25 rfl (by rw [Cw_size]; exact info25) ?_)
      rw [HWA.out]
      refine (c25 now V f wA HA.out hl).mono ?_
      rintro e w2 ⟨rfl, hb2⟩
      have k0 : w2.cell? ⟨B, 0, none⟩ = some (.int .i64 now) := by rw [cell_of_blk (K0.out.below hb2 (by omega)), Cw_now]
      have Hb2 := Lib.hid (HbA.out.trans (hb2.mono (by omega)))
      clear hb2
      go_wp2_with fail
      go_ret
      exact check_bad (by decide) (fun R => by have := R.now0; omega) (by rw [hB]; exact Hb2.out)
    by_cases hn1 : 16777216 ≤ now
    · have hq0 : decide (now < 0) = false := decide_eq_false hn0
      have hq1 : decide (now ≥ 16777216) = true := decide_eq_true hn1
      go_enter Try.func16, Try.ntmps16
      go_wp2_with (refine wpList_load_row rfl 25 (.tmp 1) rfl B rfl 25 (Cw now V) (0, 0) _ Hrow.out Try.underlying25 rfl (by rw [Cw_size]; exact info25) ?_)
      rw [HWA.out]
      refine (c25 now V f wA HA.out hl).mono ?_
      rintro e w2 ⟨rfl, hb2⟩
      have k0 : w2.cell? ⟨B, 0, none⟩ = some (.int .i64 now) := by rw [cell_of_blk (K0.out.below hb2 (by omega)), Cw_now]
      have Hb2 := Lib.hid (HbA.out.trans (hb2.mono (by omega)))
      clear hb2
      go_wp2_with fail
      go_ret
      exact check_bad (by decide) (fun R => by have := R.now1; omega) (by rw [hB]; exact Hb2.out)
    obtain ⟨nw, rfl⟩ := Int.eq_ofNat_of_zero_le (show 0 ≤ now by omega)
    generalize hnow : (nw : Int) = now at *
    have hq0 : decide (now < 0) = false := decide_eq_false hn0
    have hq1 : decide (now ≥ 16777216) = false := decide_eq_false hn1
    have Hnow := Lib.hid hnow
    clear hnow
    go_enter Try.func16, Try.ntmps16
    go_wp2_with (refine wpList_load_row rfl 25 (.tmp 1) rfl B rfl 25 (Cw now V) (0, 0) _ Hrow.out Try.underlying25 rfl (by rw [Cw_size]; exact info25) ?_)
    rw [HWA.out]
    refine (c25 now V f wA HA.out hl).mono ?_
    rintro e w2 ⟨rfl, hb2⟩
    have hK2 := K0.out.below hb2 (by omega)
    have k0 : w2.cell? ⟨B, 0, none⟩ = some (.int .i64 now) := by rw [cell_of_blk hK2, Cw_now]
    have hK3 : Blk (w2.alloc (.map #[] 0)) B now V := hK2.keep (Below.heap_alloc _ _ _ hK2.lt)
    have hr := hK3.range
    have hs2 := hb2.size
    have Hb2 := Lib.hid (HbA.out.trans (hb2.mono (by omega)))
    have K2 := Lib.hid hK3
    have Hr := Lib.hid hr
    clear hb2 hK2 hK3 hr
    go_wp2_with (refine wpList_load_mid rfl 23 (.tmp 20) rfl B 1 rfl (Lw V) _ Hr.out Try.underlying23 rfl (by rw [Lw_length]; exact info23) ?_)
    have hbm : B < w2.heap.size := by omega
    have hb3 := Lib.hid (Hb2.out.alloc (by omega) (.map #[] 0))
    have hm0 := World.ownsMap_made w2 Try.prog 3 (plainElem (H := Unit) Try.prog 3)
    have hs3 : w2.heap.size < (w2.alloc (.map #[] 0)).heap.size := by simp
    clear hq hq0 hq1 k0 Hr Hrow hmm Hb2
    generalize hW3 : w2.alloc (.map #[] 0) = w3 at *
    generalize w2.heap.size = bm at *
    have Hm0 := Lib.hid hm0
    clear hm0 hW3 hs2
    go_loopw [22] (fun v22 wr => ∃ k : Nat, k ≤ 96 ∧ v22 = .int .i64 k ∧ wr.ownsMap Try.prog 3 (plainElem (H := Unit) Try.prog 3) bm (allTo f k).length (seenM (allTo f k)) ∧ GoodTo now f k 0 ∧ Blk wr B now V ∧ Below B w wr ∧ bm < wr.heap.size) (fun v22 _ => 96 - (intOf v22).toNat)
    case atStart => exact ⟨0, by omega, rfl, Hm0.out, GoodTo.zero _ _, K2.out, hb3.out, hs3⟩
    case round =>
      clear Hm0 K2 hb3 hs3
      obtain ⟨k, hk, rfl, hmap, hgood, hblk, hbel, hsz⟩ := hrel
      by_cases hlt : k < 96
      · obtain ⟨a, c, hv, _⟩ := H0.out k hlt
        have hidx := index23 V k hlt a _ c hv
        have hlk := hl k hlt
        have hk96 : decide ((k : Int) < 96) = true := decide_eq_true (by omega)
        have hat : DuesAt w (.slice a (f k).length c) (f k) := hv ▸ H0.out k hlt
        have Hat := Lib.hid hat
        have Hmap := Lib.hid hmap
        have Hgood := Lib.hid hgood
        have Hblk := Lib.hid hblk
        clear hmap hgood hblk hv hat
        go_wp2_with fail
        clear hidx
        go_loopw [28] (fun v28 wr2 => ∃ j : Nat, j ≤ (f k).length ∧ v28 = .int .i64 j ∧ wr2.ownsMap Try.prog 3 (plainElem (H := Unit) Try.prog 3) bm ((allTo f k).length + j) (seenM (allTo f k ++ (f k).take j)) ∧ GoodTo now f k j ∧ Blk wr2 B now V ∧ Below B w wr2 ∧ bm < wr2.heap.size) (fun v28 _ => (f k).length - (intOf v28).toNat)
        case atStart => exact ⟨0, Nat.zero_le _, rfl, by simpa using Hmap.out, Hgood.out, Hblk.out, hbel, hsz⟩
        case round =>
          clear Hmap Hgood Hblk hbel hsz
          obtain ⟨j, hj, rfl, hmap, hgood, hblk, hbel, hsz⟩ := hrel
          by_cases hlj : j < (f k).length
          · have hd := (Hat.out.below hB.symm hbel)
            obtain ⟨a', c', e0, hcap, _, hd⟩ := hd
            simp only [Value.slice.injEq, true_and] at e0
            obtain ⟨rfl, rfl⟩ := e0
            obtain ⟨b, o, rfl, hd2⟩ := hd (by intro e; rw [e] at hlj; simp at hlj)
            obtain ⟨q1, q2⟩ := hd2 j hlj
            have hwd := Hwf.out k hlt _ (getD_mem hlj)
            have hstep := hgood.step hlj
            have hnot := right_not (now := now) (f := f) hlt hlj
            have htw := right_twice (now := now) (f := f) hlt hlj
            have hts := take_snoc hlj
            clear hd hd2
            generalize (f k).getD j default = d at *
            have hkey : keyOf Try.prog 3 (.int .i64 d.id) = some (idL d) := keyOf_int_mk Try.underlying3 hwd
            have k0 : wr.cell? ⟨B, 0, none⟩ = some (.int .i64 now) := by rw [cell_of_blk hblk, Cw_now]
            have hBw := hblk.lt
            have hbw : b < wr.heap.size := World.block_lt_of_cell? _ _ q1
            have hlen : (allTo f k).length + j < maxLen := by
              have := allTo_mono f (show k + 1 ≤ 96 by omega)
              rw [allTo_succ, List.length_append] at this
              unfold allM at h500
              unfold maxLen
              omega
            have hjl : (j : Int) < (f k).length := by omega
            have hown := hmap.alloc (.cells #[.int .i64 d.id, .int .i64 d.tm] 33)
            have hbelA := hbel.alloc (Nat.le_of_lt (Nat.lt_of_le_of_lt (Nat.le_of_lt hbm) hsz)) (.cells #[.int .i64 d.id, .int .i64 d.tm] 33)
            have hgo : ∀ w5, (wr.alloc (.cells #[.int .i64 d.id, .int .i64 d.tm] 33)).grownBy w5 (some bm) → w5.cell? ⟨B, 0, none⟩ = some (.int .i64 now) ∧ w5.cell? ⟨wr.heap.size, 0, none⟩ = some (.int .i64 d.id) ∧ w5.cell? ⟨wr.heap.size, 1, none⟩ = some (.int .i64 d.tm) ∧ Below B w w5 ∧ Blk w5 B now V ∧ bm < w5.heap.size := by
              intro w5 hg
              have hB5 : w5.heap[B]? = wr.heap[B]? := (hg.block B (by simp; omega) (by simp; omega)).trans (Below.heap_alloc _ _ _ hBw)
              have hd5 : w5.heap[wr.heap.size]? = some (.cells #[.int .i64 d.id, .int .i64 d.tm] 33 (0, 0)) := (hg.block _ (by simp) (by simp; omega)).trans (heap_alloc_new wr _)
              refine ⟨?_, by rw [cell_of_blk hd5]; rfl, by rw [cell_of_blk hd5]; rfl, ?_, hblk.keep hB5, ?_⟩
              · rw [cell_of_blk (hblk.keep hB5), Cw_now]
              · exact hbelA.grown hg (by simp; omega) (by intro k hk; simp at hk; omega)
              · have := hg.size; simp at this; omega
            have Hgo := Lib.hid hgo
            have Hown := Lib.hid hown
            have Hstep := Lib.hid hstep
            have Hnot := Lib.hid hnot
            have Htw := Lib.hid htw
            have Hts := Lib.hid hts
            have Hgood := Lib.hid hgood
            have Hwd := Lib.hid hwd
            have Hkey := Lib.hid hkey
            have Hlen := Lib.hid hlen
            clear hgo hown hstep hnot htw hts hgood hwd hmap hblk hbel hbelA hkey hlen
            by_cases ha : d.tm ≤ now
            · have ha1 : decide (d.tm ≤ now) = true := decide_eq_true ha
              go_wp2_with (first
                | (at_lookup; refine wpList_lookup_own_int _ rfl _ _ 59 rfl 3 3 .i64 law3 Try.underlying59 Try.underlying3 (zero3 _) bm _ _ rfl Hown.out _ _ rfl Hkey.out ?_; intro c hat0 hwc; have Hwc := Lib.hid hwc; clear hat0 hwc; have _tok : True := trivial)
                | (at_mapUpdate; refine wpList_mapUpdate_own _ rfl _ _ _ 59 rfl 3 3 law3 Try.underlying59 _ bm _ _ rfl Hown.out Hlen.out _ _ _ rfl rfl Hkey.out _ [] (plainElem_int Try.underlying3 (wrap64_wf _)) ?_; intro w5 hown5 hgrow5; obtain ⟨g0, g1, g2, g3, g4, g5⟩ := Hgo.out w5 hgrow5; have G3 := Lib.hid g3; have G4 := Lib.hid g4;  clear g3 g4 hgrow5 hown5))
              go_ret
              exact check_bad (by decide) (Hnot.out (fun h => by have := h.1; omega)) (by rw [hB]; exact G3.out)
            have ha1 : decide (d.tm ≤ now) = false := decide_eq_false ha
            by_cases hb : 16777216 ≤ d.tm
            · have hb1 : decide (d.tm ≥ 16777216) = true := decide_eq_true hb
              go_wp2_with (first
                | (at_lookup; refine wpList_lookup_own_int _ rfl _ _ 59 rfl 3 3 .i64 law3 Try.underlying59 Try.underlying3 (zero3 _) bm _ _ rfl Hown.out _ _ rfl Hkey.out ?_; intro c hat0 hwc; have Hwc := Lib.hid hwc; clear hat0 hwc; have _tok : True := trivial)
                | (at_mapUpdate; refine wpList_mapUpdate_own _ rfl _ _ _ 59 rfl 3 3 law3 Try.underlying59 _ bm _ _ rfl Hown.out Hlen.out _ _ _ rfl rfl Hkey.out _ [] (plainElem_int Try.underlying3 (wrap64_wf _)) ?_; intro w5 hown5 hgrow5; obtain ⟨g0, g1, g2, g3, g4, g5⟩ := Hgo.out w5 hgrow5; have G3 := Lib.hid g3; have G4 := Lib.hid g4;  clear g3 g4 hgrow5 hown5))
              go_ret
              exact check_bad (by decide) (Hnot.out (fun h => by have := h.2.1; omega)) (by rw [hB]; exact G3.out)
            have hb1 : decide (d.tm ≥ 16777216) = false := decide_eq_false hb
            have hc31 := fun wx => c31' now d.tm wx (by omega) (by omega) (by omega)
            have Hc := Lib.hid hc31
            clear hc31
            by_cases hc : listM now d.tm = k
            · have hc1 : (((listM now d.tm : Nat) : Int) != (k : Int)) = false := by rw [hc]; simp
              have Hck := Lib.hid hc
              clear hc
              by_cases hm : d.id ∈ (allTo f k ++ (f k).take j).map Du.id
              · have hm1 := seen_old d (.lit (.int .i64 0)) _ hm
                have Hm1 := Lib.hid hm1
                have hR := Htw.out hm
                have HR := Lib.hid hR
                clear hm hm1 hR
                go_wp2_with (first
                | (at_lookup; refine wpList_lookup_own_int _ rfl _ _ 59 rfl 3 3 .i64 law3 Try.underlying59 Try.underlying3 (zero3 _) bm _ _ rfl Hown.out _ _ rfl Hkey.out ?_; intro c hat0 hwc; have hc0 : c = 1 := (by have := hat0.symm.trans Hm1.out; simpa using this); subst hc0; clear hat0 hwc; have _tok : True := trivial)
                | (at_mapUpdate; refine wpList_mapUpdate_own _ rfl _ _ _ 59 rfl 3 3 law3 Try.underlying59 _ bm _ _ rfl Hown.out Hlen.out _ _ _ rfl rfl Hkey.out _ [] (plainElem_int Try.underlying3 (by decide)) ?_; intro w5 hown5 hgrow5; obtain ⟨g0, g1, g2, g3, g4, g5⟩ := Hgo.out w5 hgrow5; have G3 := Lib.hid g3; have G4 := Lib.hid g4; obtain ⟨c2, hrun2, hat2, hwc2⟩ := hown5.lookup_int law3 Try.underlying59 Try.underlying3 (zero3 _) Hkey.out; rw [atKey_put_same (seenM_isMap _) (isKey d)] at hat2; have hc2 : c2 = 2 := (by simpa using hat2.symm); subst hc2; clear hat2 hwc2; clear g3 g4 hgrow5 hown5)
                | (go_at_call 31; refine (Hc.out _).mono ?_; rintro e w' ⟨rfl, rfl⟩))
                go_ret
                exact check_bad (by decide) HR.out (by rw [hB]; exact G3.out)
              · have hm1 := seen_new _ d hm (.lit (.int .i64 0))
                have Hm1 := Lib.hid hm1
                have Hst := Lib.hid (Hstep.out ⟨by omega, by omega, Hck.out⟩ hm)
                clear hm hm1
                go_wp2_with (first
                | (at_lookup; refine wpList_lookup_own_int _ rfl _ _ 59 rfl 3 3 .i64 law3 Try.underlying59 Try.underlying3 (zero3 _) bm _ _ rfl Hown.out _ _ rfl Hkey.out ?_; intro c hat0 hwc; have hc0 : c = 0 := (by have := hat0.symm.trans Hm1.out; simpa using this); subst hc0; clear hat0 hwc; have _tok : True := trivial)
                | (at_mapUpdate; refine wpList_mapUpdate_own _ rfl _ _ _ 59 rfl 3 3 law3 Try.underlying59 _ bm _ _ rfl Hown.out Hlen.out _ _ _ rfl rfl Hkey.out _ [] (plainElem_int Try.underlying3 (by decide)) ?_; intro w5 hown5 hgrow5; obtain ⟨g0, g1, g2, g3, g4, g5⟩ := Hgo.out w5 hgrow5; have G3 := Lib.hid g3; have G4 := Lib.hid g4; obtain ⟨c2, hrun2, hat2, hwc2⟩ := hown5.lookup_int law3 Try.underlying59 Try.underlying3 (zero3 _) Hkey.out; rw [atKey_put_same (seenM_isMap _) (isKey d)] at hat2; have hc2 : c2 = 1 := (by simpa using hat2.symm); subst hc2; have Hown5 := Lib.hid hown5; clear hat2 hwc2; clear g3 g4 hgrow5 hown5)
                | (go_at_call 31; refine (Hc.out _).mono ?_; rintro e w' ⟨rfl, rfl⟩))
                go_roundw
                case rel =>
                  refine ⟨j + 1, by omega, by go_num, ?_, Hst.out, G4.out, G3.out, g5⟩
                  rw [Hts.out, ← List.append_assoc, seenM_snoc]
                  exact Hown5.out
                case measure => simp [intOf]; omega
            · have hc1 : (((listM now d.tm : Nat) : Int) != (k : Int)) = true := by rw [bne_iff_ne]; omega
              have Hck := Lib.hid hc
              clear hc
              go_wp2_with (first
                | (at_lookup; refine wpList_lookup_own_int _ rfl _ _ 59 rfl 3 3 .i64 law3 Try.underlying59 Try.underlying3 (zero3 _) bm _ _ rfl Hown.out _ _ rfl Hkey.out ?_; intro c hat0 hwc; have Hwc := Lib.hid hwc; clear hat0 hwc; have _tok : True := trivial)
                | (at_mapUpdate; refine wpList_mapUpdate_own _ rfl _ _ _ 59 rfl 3 3 law3 Try.underlying59 _ bm _ _ rfl Hown.out Hlen.out _ _ _ rfl rfl Hkey.out _ [] (plainElem_int Try.underlying3 (wrap64_wf _)) ?_; intro w5 hown5 hgrow5; obtain ⟨g0, g1, g2, g3, g4, g5⟩ := Hgo.out w5 hgrow5; have G3 := Lib.hid g3; have G4 := Lib.hid g4;  clear g3 g4 hgrow5 hown5)
                | (go_at_call 31; refine (Hc.out _).mono ?_; rintro e w' ⟨rfl, rfl⟩))
              go_ret
              exact check_bad (by decide) (Hnot.out (fun h => Hck.out h.2.2)) (by rw [hB]; exact G3.out)
          · obtain rfl : j = (f k).length := by omega
            have Hgood := Lib.hid hgood.next
            have Hmap := Lib.hid hmap
            have Hblk := Lib.hid hblk
            clear hmap hgood hblk
            go_wp2_with fail
            go_roundw
            case rel =>
              refine ⟨k + 1, by omega, by go_num, ?_, Hgood.out, Hblk.out, hbel, hsz⟩
              have := Hmap.out
              rw [List.take_of_length_le (Nat.le_refl _), ← allTo_succ, ← List.length_append, ← allTo_succ] at this
              exact this
            case measure => simp [intOf]; omega
      · obtain rfl : k = 96 := by omega
        have Hgood := Lib.hid hgood
        clear hmap hgood hblk
        go_wp2_with fail
        go_ret
        exact ⟨⟨0, rfl, fun _ => Hgood.out.right (by omega) (by omega) (by omega), fun _ => rfl⟩, by rw [hB]; exact hbel⟩
end Go.Proofs.Ytefikkmhdjlccaa
