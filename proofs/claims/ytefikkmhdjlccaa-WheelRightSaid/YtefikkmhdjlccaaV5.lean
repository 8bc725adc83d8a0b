/- WheelRight: the law's walk. -/
import Derived.Test.YtefikkmhdjlccaaV4
namespace Go.Proofs.Ytefikkmhdjlccaa
open Go.RowKit

set_option maxRecDepth 100000
set_option maxHeartbeats 8000000 in
theorem c5 (now nid tm n : Int) (V : Nat → Value) (f : Ls) (w : World) (h : WheelAt w V f) (hl : ∀ i, i < 96 → (f i).length ≤ 8796093022208) (hwf : allP wfD f) :
    Calls Try.prog 5 #[.agg (Cw now V), .int .i64 nid, .int .i64 tm, .int .i64 n] w fun e w' => e = .returned (.bool true) ∧ Below w.heap.size w w' := by
  generalize hB : w.heap.size = B at *
  obtain ⟨w1, hW⟩ : ∃ w1, w1 = w.alloc (.cells (Cw now V) 25) := ⟨_, rfl⟩
  have hs1 : w1.heap.size = B + 1 := by rw [hW]; simp [hB]
  have hb1 : Below B w w1 := by rw [hW]; exact (Below.refl B w).alloc (by omega) _
  have k0 : Blk w1 B now V := by rw [hW, Blk, ← hB]; exact heap_alloc_new w _
  have r0 : (w.alloc (.cells (Cw now V) 25)).heap[B]? = some (.cells (Cw now V) 25 (0, 0)) := by rw [← hW]; exact k0
  have R0 := Lib.hid r0
  have Hbel := Lib.hid hb1
  have K0 := Lib.hid k0
  have H0 := Lib.hid h
  have N1 := Lib.hid (h.below hB.symm hb1)
  have HW := Lib.hid hW
  have hs1l : B + 1 ≤ w1.heap.size := by omega
  have Hwf := Lib.hid hwf
  have Hl := Lib.hid hl
  clear hb1 k0 hW hs1 h r0 hwf hl
  have zv := zv25
  go_enter Try.func5, Try.ntmps5
  go_wp2_with (refine wpList_load_row rfl 25 (.tmp 4) rfl B rfl 25 (Cw now V) (0, 0) _ R0.out Try.underlying25 rfl (by rw [Cw_size]; exact info25) ?_)
  rw [← HW.out]
  refine (c12 now nid tm V f w1 N1.out Hl.out Hwf.out).mono ?_
  intro e w2 h2
  obtain ⟨now2, V2, f2, r2, T2⟩ := h2.told
  clear h2
  obtain rfl := T2.res
  have hb2 := T2.below
  have hs2 := hb2.size
  obtain ⟨w2', hE2⟩ : ∃ w2', w2.alloc (.cells (Cw now2 V2) 25) = w2' := ⟨_, rfl⟩
  have hb2' : Below w1.heap.size w1 w2' := by rw [← hE2]; exact hb2.alloc hs2 _
  have O2 := Lib.hid (show Own w2' w1.heap.size 96 V2 f2 by rw [← hE2]; exact T2.own.alloc _)
  have K2 := Lib.hid (show Blk w2' w2.heap.size now2 V2 by rw [← hE2]; exact Blk.new _ _ _)
  have hs2' : w2.heap.size + 1 ≤ w2'.heap.size := by rw [← hE2]; simp
  have K0 := Lib.hid (K0.out.below hb2' (by omega))
  have N1 := Lib.hid (N1.out.below rfl hb2')
  have Hbel := Lib.hid (Hbel.out.trans (hb2'.mono (by omega)))
  have one2 := Lib.hid (T2.own.at (Nat.le_refl _)).one
  have E2 := Lib.hid hE2
  have R2 := Lib.hid T2.ok
  clear hb2 hb2' T2 hE2
  go_wp2_with (first
    | (refine wpList_store_row rfl 25 (.tmp 9) (.tmp 23) rfl w2.heap.size (Cw now2 V2) rfl rfl 25 (Cw 0 nilV) (heap_alloc_new _ _) (by rw [Cw_size]; exact info25) (by rw [Cw_size, Cw_size]) (Cw_one _ _ one2.out) ?_; rw [World.setRow_alloc_new, E2.out])
    | (refine wpList_load_row rfl 25 (.tmp 4) rfl B rfl 25 (Cw now V) (0, 0) _ K0.out Try.underlying25 rfl (by rw [Cw_size]; exact info25) ?_))
  refine (c13 now nid V f w2' N1.out Hl.out Hwf.out).mono ?_
  intro e w3 h3
  obtain ⟨now3, V3, f3, r3, T3⟩ := h3.told
  clear h3 one2 E2
  obtain rfl := T3.res
  have hb3 := T3.below
  have hs3 := hb3.size
  obtain ⟨w3', hE3⟩ : ∃ w3', w3.alloc (.cells (Cw now3 V3) 25) = w3' := ⟨_, rfl⟩
  have hb3' : Below w2'.heap.size w2' w3' := by rw [← hE3]; exact hb3.alloc hs3 _
  have O3 := Lib.hid (show Own w3' w2'.heap.size 96 V3 f3 by rw [← hE3]; exact T3.own.alloc _)
  have O2 := Lib.hid (O2.out.below hb3' (Nat.le_refl _))
  have K3 := Lib.hid (show Blk w3' w3.heap.size now3 V3 by rw [← hE3]; exact Blk.new _ _ _)
  have hs3' : w3.heap.size + 1 ≤ w3'.heap.size := by rw [← hE3]; simp
  have K0 := Lib.hid (K0.out.below hb3' (by omega))
  have K2 := Lib.hid (K2.out.below hb3' (by omega))
  have N1 := Lib.hid (N1.out.below rfl hb3')
  have Hbel := Lib.hid (Hbel.out.trans (hb3'.mono (by omega)))
  have one3 := Lib.hid (T3.own.at (Nat.le_refl _)).one
  have E3 := Lib.hid hE3
  have R3 := Lib.hid T3.ok
  clear hb3 hb3' T3 hE3
  go_wp2_with (first
    | (refine wpList_store_row rfl 25 (.tmp 11) (.tmp 29) rfl w3.heap.size (Cw now3 V3) rfl rfl 25 (Cw 0 nilV) (heap_alloc_new _ _) (by rw [Cw_size]; exact info25) (by rw [Cw_size, Cw_size]) (Cw_one _ _ one3.out) ?_; rw [World.setRow_alloc_new, E3.out])
    | (refine wpList_load_row rfl 25 (.tmp 4) rfl B rfl 25 (Cw now V) (0, 0) _ K0.out Try.underlying25 rfl (by rw [Cw_size]; exact info25) ?_))
  refine (c7 now n V f w3' N1.out Hl.out Hwf.out).mono ?_
  intro e w4 h4
  obtain ⟨now4, V4, f4, a4, c4, o4, r4, T4⟩ := h4.told
  clear h4 one3 E3
  obtain rfl := T4.res
  have hb4 := T4.below
  have hs4 := hb4.size
  obtain ⟨w4', hE4⟩ : ∃ w4', w4.alloc (.cells (Cw now4 V4) 25) = w4' := ⟨_, rfl⟩
  have hb4' : Below w3'.heap.size w3' w4' := by rw [← hE4]; exact hb4.alloc hs4 _
  have O4 := Lib.hid (show Own w4' w3'.heap.size 96 V4 f4 by rw [← hE4]; exact T4.own.alloc _)
  have D4 := Lib.hid (show OwnD w4' w3'.heap.size (.slice a4 o4.length c4) o4 by rw [← hE4]; exact OwnsT.alloc T4.out _)
  have O2 := Lib.hid (O2.out.below hb4' (by omega))
  have O3 := Lib.hid (O3.out.below hb4' (Nat.le_refl _))
  have K4 := Lib.hid (show Blk w4' w4.heap.size now4 V4 by rw [← hE4]; exact Blk.new _ _ _)
  have hs4' : w4.heap.size + 1 ≤ w4'.heap.size := by rw [← hE4]; simp
  have K0 := Lib.hid (K0.out.below hb4' (by omega))
  have K2 := Lib.hid (K2.out.below hb4' (by omega))
  have K3 := Lib.hid (K3.out.below hb4' (by omega))
  have Hbel := Lib.hid (Hbel.out.trans (hb4'.mono (by omega)))
  have one4 := Lib.hid (T4.own.at (Nat.le_refl _)).one
  have E4 := Lib.hid hE4
  have T4 := Lib.hid T4
  clear hb4 hb4' hE4 N1
  go_upto_region 4 with (refine wpList_store_row rfl 25 (.tmp 13) (.tmp 35) rfl w4.heap.size (Cw now4 V4) rfl rfl 25 (Cw 0 nilV) (heap_alloc_new _ _) (by rw [Cw_size]; exact info25) (by rw [Cw_size, Cw_size]) (Cw_one _ _ one4.out) ?_; rw [World.setRow_alloc_new, E4.out])
  have S2 : Hid (∀ w', Below w4'.heap.size w4' w' → WheelAt w' V2 f2 ∧ w'.heap[w2.heap.size]? = some (.cells (Cw now2 V2) 25 (0, 0))) := fun w' hb => ⟨(O2.out.below hb (Nat.le_refl _)).at (Nat.le_refl _), K2.out.below hb (by omega)⟩
  have S3 : Hid (∀ w', Below w4'.heap.size w4' w' → WheelAt w' V3 f3 ∧ w'.heap[w3.heap.size]? = some (.cells (Cw now3 V3) 25 (0, 0))) := fun w' hb => ⟨(O3.out.below hb (Nat.le_refl _)).at (Nat.le_refl _), K3.out.below hb (by omega)⟩
  have S4 : Hid (∀ w', Below w4'.heap.size w4' w' → WheelAt w' V4 f4 ∧ w'.heap[w4.heap.size]? = some (.cells (Cw now4 V4) 25 (0, 0))) := fun w' hb => ⟨(O4.out.below hb (Nat.le_refl _)).at (Nat.le_refl _), K4.out.below hb (by omega)⟩
  have S0 : Hid (∀ w', Below w4'.heap.size w4' w' → WheelAt w' V f ∧ w'.heap[B]? = some (.cells (Cw now V) 25 (0, 0))) := fun w' hb => ⟨H0.out.below hB.symm (Hbel.out.trans (hb.mono (by omega))), K0.out.below hb (by omega)⟩
  have hB4 : B + 1 ≤ w4'.heap.size := by omega
  have h44 : w4.heap.size < w4'.heap.size := by omega
  clear O2 O3 O4 K2 K3 K4 K0 R0 one4 E4 hs1l hs2 hs2' hs3 hs3' hs4 hs4'
  go_cut [66] from 38 to 66 (fun x wx => x = .bool false ∧ Below w4'.heap.size w4' wx)
  case first =>
    obtain ⟨b2, hb2⟩ : ∃ b, (r2 == 0) = b := ⟨_, rfl⟩
    obtain ⟨b3, hb3⟩ : ∃ b, (r3 == 0) = b := ⟨_, rfl⟩
    obtain ⟨b4, hb4⟩ : ∃ b, (r4 == 0) = b := ⟨_, rfl⟩
    have R2 : Hid (b2 = true → Right now2 f2) := fun e => R2.out (by rw [e] at hb2; simpa using hb2)
    have R3 : Hid (b3 = true → Right now3 f3) := fun e => R3.out (by rw [e] at hb3; simpa using hb3)
    have R4 : Hid (b4 = true → Right now4 f4) := fun e => (T4.out.ok (by rw [e] at hb4; simpa using hb4)).2.1
    go_wp2_with fail
    refine (c8 _).mono ?_
    rintro e w5 ⟨rfl, hb5⟩
    have Hc := Lib.hid hb5
    have hc5 := hb5.size
    clear hb5
    cases b2
    · cases b3
      · cases b4
        · go_wp2_with fail
          go_meet
          case rel => exact ⟨rfl, Hc.out⟩
        · go_wp2_with (refine wpList_load_roww rfl 25 (.tmp 13) rfl w4.heap.size rfl 25 (Cw now4 V4) (0, 0) _ (S4.out _ Hc.out).2 Try.underlying25 rfl (by rw [Cw_size]; exact info25) ?_)
          refine (c14 now4 V4 f4 _ (S4.out _ Hc.out).1 (R4.out (by trivial))).mono ?_
          rintro e w6 ⟨rfl, hb6⟩
          have Hc := Lib.hid (Hc.out.trans (hb6.mono hc5))
          have hc5 := Hc.out.size
          clear hb6
          go_wp2_with fail
          go_meet
          case rel => exact ⟨rfl, Hc.out⟩
      · cases b4
        · go_wp2_with (refine wpList_load_roww rfl 25 (.tmp 11) rfl w3.heap.size rfl 25 (Cw now3 V3) (0, 0) _ (S3.out _ Hc.out).2 Try.underlying25 rfl (by rw [Cw_size]; exact info25) ?_)
          refine (c14 now3 V3 f3 _ (S3.out _ Hc.out).1 (R3.out (by trivial))).mono ?_
          rintro e w6 ⟨rfl, hb6⟩
          have Hc := Lib.hid (Hc.out.trans (hb6.mono hc5))
          have hc5 := Hc.out.size
          clear hb6
          go_wp2_with fail
          go_meet
          case rel => exact ⟨rfl, Hc.out⟩
        · go_wp2_with (refine wpList_load_roww rfl 25 (.tmp 11) rfl w3.heap.size rfl 25 (Cw now3 V3) (0, 0) _ (S3.out _ Hc.out).2 Try.underlying25 rfl (by rw [Cw_size]; exact info25) ?_)
          refine (c14 now3 V3 f3 _ (S3.out _ Hc.out).1 (R3.out (by trivial))).mono ?_
          rintro e w6 ⟨rfl, hb6⟩
          have Hc := Lib.hid (Hc.out.trans (hb6.mono hc5))
          have hc5 := Hc.out.size
          clear hb6
          go_wp2_with (refine wpList_load_roww rfl 25 (.tmp 13) rfl w4.heap.size rfl 25 (Cw now4 V4) (0, 0) _ (S4.out _ Hc.out).2 Try.underlying25 rfl (by rw [Cw_size]; exact info25) ?_)
          refine (c14 now4 V4 f4 _ (S4.out _ Hc.out).1 (R4.out (by trivial))).mono ?_
          rintro e w6 ⟨rfl, hb6⟩
          have Hc := Lib.hid (Hc.out.trans (hb6.mono hc5))
          have hc5 := Hc.out.size
          clear hb6
          go_wp2_with fail
          go_meet
          case rel => exact ⟨rfl, Hc.out⟩
    · cases b3
      · cases b4
        · go_wp2_with (refine wpList_load_roww rfl 25 (.tmp 9) rfl w2.heap.size rfl 25 (Cw now2 V2) (0, 0) _ (S2.out _ Hc.out).2 Try.underlying25 rfl (by rw [Cw_size]; exact info25) ?_)
          refine (c14 now2 V2 f2 _ (S2.out _ Hc.out).1 (R2.out (by trivial))).mono ?_
          rintro e w6 ⟨rfl, hb6⟩
          have Hc := Lib.hid (Hc.out.trans (hb6.mono hc5))
          have hc5 := Hc.out.size
          clear hb6
          go_wp2_with fail
          go_meet
          case rel => exact ⟨rfl, Hc.out⟩
        · go_wp2_with (refine wpList_load_roww rfl 25 (.tmp 9) rfl w2.heap.size rfl 25 (Cw now2 V2) (0, 0) _ (S2.out _ Hc.out).2 Try.underlying25 rfl (by rw [Cw_size]; exact info25) ?_)
          refine (c14 now2 V2 f2 _ (S2.out _ Hc.out).1 (R2.out (by trivial))).mono ?_
          rintro e w6 ⟨rfl, hb6⟩
          have Hc := Lib.hid (Hc.out.trans (hb6.mono hc5))
          have hc5 := Hc.out.size
          clear hb6
          go_wp2_with (refine wpList_load_roww rfl 25 (.tmp 13) rfl w4.heap.size rfl 25 (Cw now4 V4) (0, 0) _ (S4.out _ Hc.out).2 Try.underlying25 rfl (by rw [Cw_size]; exact info25) ?_)
          refine (c14 now4 V4 f4 _ (S4.out _ Hc.out).1 (R4.out (by trivial))).mono ?_
          rintro e w6 ⟨rfl, hb6⟩
          have Hc := Lib.hid (Hc.out.trans (hb6.mono hc5))
          have hc5 := Hc.out.size
          clear hb6
          go_wp2_with fail
          go_meet
          case rel => exact ⟨rfl, Hc.out⟩
      · cases b4
        · go_wp2_with (refine wpList_load_roww rfl 25 (.tmp 9) rfl w2.heap.size rfl 25 (Cw now2 V2) (0, 0) _ (S2.out _ Hc.out).2 Try.underlying25 rfl (by rw [Cw_size]; exact info25) ?_)
          refine (c14 now2 V2 f2 _ (S2.out _ Hc.out).1 (R2.out (by trivial))).mono ?_
          rintro e w6 ⟨rfl, hb6⟩
          have Hc := Lib.hid (Hc.out.trans (hb6.mono hc5))
          have hc5 := Hc.out.size
          clear hb6
          go_wp2_with (refine wpList_load_roww rfl 25 (.tmp 11) rfl w3.heap.size rfl 25 (Cw now3 V3) (0, 0) _ (S3.out _ Hc.out).2 Try.underlying25 rfl (by rw [Cw_size]; exact info25) ?_)
          refine (c14 now3 V3 f3 _ (S3.out _ Hc.out).1 (R3.out (by trivial))).mono ?_
          rintro e w6 ⟨rfl, hb6⟩
          have Hc := Lib.hid (Hc.out.trans (hb6.mono hc5))
          have hc5 := Hc.out.size
          clear hb6
          go_wp2_with fail
          go_meet
          case rel => exact ⟨rfl, Hc.out⟩
        · go_wp2_with (refine wpList_load_roww rfl 25 (.tmp 9) rfl w2.heap.size rfl 25 (Cw now2 V2) (0, 0) _ (S2.out _ Hc.out).2 Try.underlying25 rfl (by rw [Cw_size]; exact info25) ?_)
          refine (c14 now2 V2 f2 _ (S2.out _ Hc.out).1 (R2.out (by trivial))).mono ?_
          rintro e w6 ⟨rfl, hb6⟩
          have Hc := Lib.hid (Hc.out.trans (hb6.mono hc5))
          have hc5 := Hc.out.size
          clear hb6
          go_wp2_with (refine wpList_load_roww rfl 25 (.tmp 11) rfl w3.heap.size rfl 25 (Cw now3 V3) (0, 0) _ (S3.out _ Hc.out).2 Try.underlying25 rfl (by rw [Cw_size]; exact info25) ?_)
          refine (c14 now3 V3 f3 _ (S3.out _ Hc.out).1 (R3.out (by trivial))).mono ?_
          rintro e w6 ⟨rfl, hb6⟩
          have Hc := Lib.hid (Hc.out.trans (hb6.mono hc5))
          have hc5 := Hc.out.size
          clear hb6
          go_wp2_with (refine wpList_load_roww rfl 25 (.tmp 13) rfl w4.heap.size rfl 25 (Cw now4 V4) (0, 0) _ (S4.out _ Hc.out).2 Try.underlying25 rfl (by rw [Cw_size]; exact info25) ?_)
          refine (c14 now4 V4 f4 _ (S4.out _ Hc.out).1 (R4.out (by trivial))).mono ?_
          rintro e w6 ⟨rfl, hb6⟩
          have Hc := Lib.hid (Hc.out.trans (hb6.mono hc5))
          have hc5 := Hc.out.size
          clear hb6
          go_wp2_with fail
          go_meet
          case rel => exact ⟨rfl, Hc.out⟩
  case rest =>
    obtain ⟨rfl, hcut⟩ := hcut
    have hcs := hcut.size
    have D4c := Lib.hid (D4.out.below hcut (Nat.le_refl _))
    have Hc := Lib.hid hcut
    clear hcut D4
    go_wp2_with fail
    go_loopw [69] (fun i wr => ∃ k : Nat, k ≤ o4.length ∧ i = .int .i64 k ∧ Below wc.heap.size wc wr) (fun i _ => o4.length - (intOf i).toNat)
    case atStart => exact ⟨0, by omega, rfl, Below.refl _ _⟩
    case round =>
      obtain ⟨k, hk, rfl, hbel⟩ := hrel
      have hsz := hbel.size
      have hfew := T4.out.few
      have hbel4 : Below w4'.heap.size w4' wr := Hc.out.trans (hbel.mono hcs)
      obtain ⟨_, kB⟩ := S0.out _ hbel4
      obtain ⟨_, k4⟩ := S4.out _ hbel4
      by_cases hlt : k < o4.length
      · have hD := (OwnD.at D4c.out).below rfl hbel
        have hdk := T4.out.span _ (getD_mem hlt)
        have hsorted : ∀ j, j + 1 = k → (o4.getD j default).tm ≤ (o4.getD k default).tm := fun j hj => by
          subst hj
          have := (List.pairwise_iff_getElem.1 T4.out.sorted) j (j + 1) (by omega) hlt (by omega)
          simpa [List.getD, hlt, show j < o4.length by omega] using this
        obtain ⟨a', c', e0, hac, _, hDc⟩ := hD
        simp only [Value.slice.injEq, true_and] at e0
        obtain ⟨rfl, rfl⟩ := e0
        obtain ⟨b, o, rfl, hcell⟩ := hDc (by intro e; rw [e] at hlt; simp at hlt)
        obtain ⟨q1, q2⟩ := hcell k hlt
        have hblt : b < wr.heap.size := World.block_lt_of_cell? wr _ q1
        have hprev : ∀ j, j + 1 = k → wr.cell? ⟨b, o + j * 2 + 1, none⟩ = some (.int .i64 (o4.getD j default).tm) := fun j hj => (hcell j (by omega)).2
        have hnow : wr.cell? ⟨B, 0, none⟩ = some (.int .i64 now) := by rw [cell_of_blk kB, Cw_now]
        have hnow4 : wr.cell? ⟨w4.heap.size, 0, none⟩ = some (.int .i64 now4) := by rw [cell_of_blk k4, Cw_now]
        have hBlt : B < wr.heap.size := by omega
        have h4lt : w4.heap.size < wr.heap.size := by omega
        have hg0 : (k : Int) < o4.length := by omega
        generalize hdd : o4.getD k default = d at *
        obtain ⟨id, t⟩ := d
        simp only at q1 q2 hdk hsorted
        have d1 : decide (t ≤ now) = false := decide_eq_false (by omega)
        have d2 : decide (t > now4) = false := decide_eq_false (by omega)
        have Hb' := Lib.hid (hbel.alloc hsz (.cells #[.int .i64 id, .int .i64 t] 33))
        have Hsorted := Lib.hid hsorted
        have Hprev := Lib.hid hprev
        clear hDc hcell kB k4 hbel hbel4 hdk hdd hsorted hprev
        by_cases hk0 : k = 0
        · have d3 : decide (0 < k) = false := decide_eq_false (by omega)
          clear Hsorted Hprev hk0
          go_wp2_with fail
          go_quiet (fail)
          go_wp2_with fail
          go_roundw
          case rel => exact ⟨k + 1, by omega, by go_num, Hb'.out.drewN' _⟩
          case measure => simp [intOf]; omega
        · obtain ⟨j, rfl⟩ := Nat.exists_eq_succ_of_ne_zero hk0
          have d3 : decide (0 < j + 1) = true := decide_eq_true (by omega)
          have q3 := Hprev.out j rfl
          have d4 : decide ((o4.getD j default).tm > t) = false := decide_eq_false (by have := Hsorted.out j rfl; omega)
          generalize (o4.getD j default).tm = t2 at *
          clear Hsorted Hprev
          go_wp2_with fail
          go_quiet (fail)
          go_wp2_with fail
          go_roundw
          case rel => exact ⟨j + 1 + 1, by omega, by go_num, Hb'.out.drewN' _⟩
          case measure => simp [intOf]; omega
      · clear hk
        by_cases hr4 : r4 = 0
        · obtain ⟨hRf, hR4, hcount⟩ := T4.out.ok hr4
          subst hr4
          have hS : Hid (∀ w', Below wr.heap.size wr w' → w'.heap[B]? = some (.cells (Cw now V) 25 (0, 0)) ∧ w'.heap[w4.heap.size]? = some (.cells (Cw now4 V4) 25 (0, 0))) := fun w' hb => by
            have hb := hbel4.trans (hb.mono (by omega))
            exact ⟨(S0.out _ hb).2, (S4.out _ hb).2⟩
          have hW0 : Hid (∀ w', Below wr.heap.size wr w' → WheelAt w' V f) := fun w' hb => (S0.out _ (hbel4.trans (hb.mono (by omega)))).1
          have hW4 : Hid (∀ w', Below wr.heap.size wr w' → WheelAt w' V4 f4) := fun w' hb => (S4.out _ (hbel4.trans (hb.mono (by omega)))).1
          have HRf := Lib.hid hRf.few
          have HR4 := Lib.hid hR4.few
          have Hcount := Lib.hid hcount
          have Hbel4 := Lib.hid (Hbel.out.trans (hbel4.mono (by omega)))
          clear hRf hR4 hcount hbel4 hbel
          go_wp2_with fail
          refine wp_region_held_drew (S := fun w' => w'.heap[B]? = some (.cells (Cw now V) 25 (0, 0)) ∧ w'.heap[w4.heap.size]? = some (.cells (Cw now4 V4) 25 (0, 0))) (by kernel_rfl) (hS.out _ (Below.refl _ _).drew) (fun hHeld => ?_)
          refine wpAnyH_take (i := 0) (v := .int .i64 0) rfl (by kernel_rfl) (by kernel_rfl) (by kernel_rfl) (fun _ _ _ h => h) (Or.inl ⟨by rfl, fun w' hSw => ?t0⟩) hHeld ?_
          case t0 => go_simp
          simp only [List.getElem_toArray, List.getElem_cons_zero, Act.put, List.setIfInBounds_toArray, List.set_cons_zero, List.set_cons_succ]
          refine wpAnyH_take (i := 1) (v := .bool false) rfl (by kernel_rfl) (by kernel_rfl) (by kernel_rfl) (fun _ _ _ h => h) (Or.inl ⟨by rfl, fun w' hSw => ?t1⟩) hHeld ?_
          case t1 => go_simp
          simp only [List.getElem_toArray, List.getElem_cons_succ, List.getElem_cons_zero, Act.put, List.setIfInBounds_toArray, List.set_cons_zero, List.set_cons_succ]
          refine wpAnyH_take (i := 2) (v := .bool false) rfl (by kernel_rfl) (by kernel_rfl) (by kernel_rfl) (fun _ _ _ h => h) (Or.inl ⟨by rfl, fun w' hSw => ?t2⟩) hHeld ?_
          case t2 => go_simp
          simp only [List.getElem_toArray, List.getElem_cons_succ, List.getElem_cons_zero, Act.put, List.setIfInBounds_toArray, List.set_cons_zero, List.set_cons_succ]
          refine wpAnyH_take (i := 3) (v := .slice a4 o4.length c4) rfl (by kernel_rfl) (by kernel_rfl) (by kernel_rfl) (fun _ _ _ h => h) (Or.inl ⟨by rfl, fun w' hSw => ?t3⟩) hHeld ?_
          case t3 => go_simp
          simp only [List.getElem_toArray, List.getElem_cons_succ, List.getElem_cons_zero, Act.put, List.setIfInBounds_toArray, List.set_cons_zero, List.set_cons_succ]
          refine wpAnyH_take (i := 4) (v := .int .i64 o4.length) rfl (by kernel_rfl) (by kernel_rfl) (by kernel_rfl) (fun _ _ _ h => h) (Or.inl ⟨by rfl, fun w' hSw => ?t4⟩) hHeld ?_
          case t4 => go_simp
          simp only [List.getElem_toArray, List.getElem_cons_succ, List.getElem_cons_zero, Act.put, List.setIfInBounds_toArray, List.set_cons_zero, List.set_cons_succ]
          refine wpAnyH_take (i := 5) (v := .agg (Cw now4 V4)) rfl (by kernel_rfl) (by kernel_rfl) (by kernel_rfl) (fun _ _ _ h => h) (yieldsIf_load_row (by rfl) 25 (.tmp 13) rfl w4.heap.size rfl 25 (Cw now4 V4) (0, 0) _ (fun _ h => h.2) Try.underlying25 rfl (by rw [Cw_size]; exact info25)) hHeld ?_
          simp only [List.getElem_toArray, List.getElem_cons_succ, List.getElem_cons_zero, Act.put, List.setIfInBounds_toArray, List.set_cons_zero, List.set_cons_succ]
          refine wpAnyH_take (i := 9) (v := .agg (Cw now V)) rfl (by kernel_rfl) (by kernel_rfl) (by kernel_rfl) (fun _ _ _ h => h) (yieldsIf_load_row (by rfl) 25 (.tmp 4) rfl B rfl 25 (Cw now V) (0, 0) _ (fun _ h => h.1) Try.underlying25 rfl (by rw [Cw_size]; exact info25)) hHeld ?_
          simp only [List.getElem_toArray, List.getElem_cons_succ, List.getElem_cons_zero, Act.put, List.setIfInBounds_toArray, List.set_cons_zero, List.set_cons_succ]
          refine wpAnyH_ready (rs := [6]) (by kernel_rfl) (by simp) ?_
          refine AllReadyH.cons rfl (fun K hK => ?_) AllReadyH.nil
          simp only [List.getElem_toArray, List.getElem_cons_succ, List.getElem_cons_zero]
          go_simp
          refine (c15 now4 V4 f4 _ (hW4.out _ (Below.refl _ _).drew) HR4.out).mono ?_
          rintro e w6 ⟨v6, rfl, ho6, hb6⟩
          obtain ⟨a6, c6, rfl⟩ := ho6.shape
          have hb6 : Below wr.heap.size wr w6 := ((Below.refl wr.heap.size wr).drew).trans hb6
          have hS6 := hS.out w6 hb6
          have hs6 := hb6.size
          have Hb6 := Lib.hid hb6
          clear ho6 hb6
          refine hK.out _ _ hS6 (fun hHeld => ?_)
          clear hK
          have g4 := HR4.out
          have gf := HRf.out
          have hq : (((o4.length : Int) + ((allM f4).length : Int)) == ((allM f).length : Int)) = true := by rw [beq_iff_eq]; have := Hcount.out; omega
          generalize (allM f4).length = L4 at *
          generalize hLf : (allM f).length = Lf at *
          refine wpAnyH_take (i := 7) (v := .int .i64 L4) rfl (by kernel_rfl) (by kernel_rfl) (by kernel_rfl) (fun _ _ _ h => h) (Or.inl ⟨by rfl, fun w' hSw => ?t7⟩) hHeld ?_
          case t7 => go_simp
          simp only [List.getElem_toArray, List.getElem_cons_succ, List.getElem_cons_zero, Act.put, List.setIfInBounds_toArray, List.set_cons_zero, List.set_cons_succ]
          refine wpAnyH_take (i := 8) (v := .int .i64 ((o4.length : Int) + L4)) rfl (by kernel_rfl) (by kernel_rfl) (by kernel_rfl) (fun _ _ _ h => h) (Or.inl ⟨by rfl, fun w' hSw => ?t8⟩) hHeld ?_
          case t8 => go_simp; rw [IntKind.wrap_i64]; omega
          simp only [List.getElem_toArray, List.getElem_cons_succ, List.getElem_cons_zero, Act.put, List.setIfInBounds_toArray, List.set_cons_zero, List.set_cons_succ]
          refine wpAnyH_ready (rs := [10]) (by kernel_rfl) (by simp) ?_
          refine AllReadyH.cons rfl (fun K hK => ?_) AllReadyH.nil
          simp only [List.getElem_toArray, List.getElem_cons_succ, List.getElem_cons_zero]
          go_simp
          refine (c15 now V f _ (hW0.out _ Hb6.out) (by rw [hLf]; exact gf)).mono ?_
          rintro e w7 ⟨v7, rfl, ho7, hb7⟩
          obtain ⟨a7, c7, rfl⟩ := ho7.shape
          have hb7 : Below wr.heap.size wr w7 := Hb6.out.trans (hb7.mono hs6)
          have hS7 := hS.out w7 hb7
          have Hb7 := Lib.hid (Hbel4.out.trans (hb7.mono (by omega)))
          clear ho7 hb7
          refine hK.out _ _ hS7 (fun hHeld => ?_)
          clear hK
          rw [hLf]
          refine wpAnyH_take (i := 11) (v := .int .i64 Lf) rfl (by kernel_rfl) (by kernel_rfl) (by kernel_rfl) (fun _ _ _ h => h) (Or.inl ⟨by rfl, fun w' hSw => ?t11⟩) hHeld ?_
          case t11 => go_simp
          simp only [List.getElem_toArray, List.getElem_cons_succ, List.getElem_cons_zero, Act.put, List.setIfInBounds_toArray, List.set_cons_zero, List.set_cons_succ]
          refine wpAnyH_take (i := 12) (v := .bool true) rfl (by kernel_rfl) (by kernel_rfl) (by kernel_rfl) (fun _ _ _ h => h) (Or.inl ⟨by rfl, fun w' hSw => ?t12⟩) hHeld ?_
          case t12 => go_simp
          simp only [List.getElem_toArray, List.getElem_cons_succ, List.getElem_cons_zero, Act.put, List.setIfInBounds_toArray, List.set_cons_zero, List.set_cons_succ]
          refine wpAnyH_take (i := 13) (v := .bool true) rfl (by kernel_rfl) (by kernel_rfl) (by kernel_rfl) (fun _ _ _ h => h) (Or.inl ⟨by rfl, fun w' hSw => ?t13⟩) hHeld ?_
          case t13 => go_simp
          simp only [List.getElem_toArray, List.getElem_cons_succ, List.getElem_cons_zero, Act.put, List.setIfInBounds_toArray, List.set_cons_zero, List.set_cons_succ]
          refine wpAnyH_take (i := 14) (v := .bool true) rfl (by kernel_rfl) (by kernel_rfl) (by kernel_rfl) (fun _ _ _ h => h) (Or.inl ⟨by rfl, fun w' hSw => ?t14⟩) hHeld ?_
          case t14 => go_simp
          simp only [List.getElem_toArray, List.getElem_cons_succ, List.getElem_cons_zero, Act.put, List.setIfInBounds_toArray, List.set_cons_zero, List.set_cons_succ]
          refine wpAnyH_done (by kernel_rfl) ?_ _
          go_wp2_with fail
          go_ret
          exact ⟨rfl, Hb7.out⟩
        · have q4 : (r4 != 0) = true := by rw [bne_iff_ne]; exact hr4
          clear hr4
          go_wp2_with fail
          go_quiet (fail)
          go_wp2_with fail
          go_ret
          exact ⟨rfl, (Hbel.out.trans (hbel4.mono (by omega))).drewN' _⟩
end Go.Proofs.Ytefikkmhdjlccaa
