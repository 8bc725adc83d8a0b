/- WheelCuts: the walk. -/
import Derived.Test.YtefikkmhdjlccaaW16
namespace Go.Proofs.Ytefikkmhdjlccaa
open Go.RowKit

set_option maxHeartbeats 4000000 in
theorem c3 (now n m : Int) (V : Nat → Value) (f : Ls) (w : World) (h : WheelAt w V f) (hl : ∀ i, i < 96 → (f i).length ≤ 8796093022208) (hwf : allP wfD f) :
    Calls Try.prog 3 #[.agg (Cw now V), .int .i64 n, .int .i64 m] w fun e w' => e = .returned (.bool true) ∧ Below w.heap.size w w' := by
  generalize hB : w.heap.size = B at *
  obtain ⟨w1, hW⟩ : ∃ w1, w1 = w.alloc (.cells (Cw now V) 25) := ⟨_, rfl⟩
  have hs1 : w1.heap.size = B + 1 := by rw [hW]; simp [hB]
  have hb1 : Below B w w1 := by rw [hW]; exact (Below.refl B w).alloc (by omega) _
  have k0 : Blk w1 B now V := by rw [hW, Blk, ← hB]; exact heap_alloc_new w _
  have h1 := h.below hB.symm hb1
  have r0 : (w.alloc (.cells (Cw now V) 25)).heap[B]? = some (.cells (Cw now V) 25 (0, 0)) := by rw [← hW]; exact k0
  have R0 := Lib.hid r0
  have Hb1 := Lib.hid hb1
  have K0 := Lib.hid k0
  have H1 := Lib.hid h1
  have HW := Lib.hid hW
  have hs1l : B + 1 ≤ w1.heap.size := by omega
  have Hwf := Lib.hid hwf
  clear hb1 k0 h1 hW hs1 h r0 hwf
  have zv := zv25
  go_enter Try.func3, Try.ntmps3
  go_wp2_with (refine wpList_load_row rfl 25 (.tmp 3) rfl B rfl 25 (Cw now V) (0, 0) _ R0.out Try.underlying25 rfl (by rw [Cw_size]; exact info25) ?_)
  rw [← HW.out]
  refine (c7 now n V f w1 H1.out hl Hwf.out).mono ?_
  intro e w2 h2
  obtain ⟨now2, V2, f2, a2, z2, o2, r2, T2⟩ := h2.form Hwf.out
  clear h2
  obtain rfl := T2.res
  -- the first wheel that is told
  have hs2 := T2.below.size
  have one2 := (T2.lists.at (Nat.le_refl _)).one
  obtain ⟨w2', hW2⟩ : ∃ w2', w2.alloc (.cells (Cw now2 V2) 25) = w2' := ⟨_, rfl⟩
  have hb2' : Below w1.heap.size w1 w2' := by rw [← hW2]; exact T2.below.alloc hs2 _
  have O2 : Own w2' w1.heap.size 97 (upd V2 96 (.slice a2 o2.length z2)) (slots (f2, o2) []) := by rw [← hW2]; exact T2.own.alloc _
  have k2 : Blk w2' w2.heap.size now2 V2 := by rw [← hW2]; exact Blk.new _ _ _
  have hs2' : w2'.heap.size = w2.heap.size + 1 := by rw [← hW2]; simp
  have K0 := Lib.hid (K0.out.below hb2' (by omega))
  have K2 := Lib.hid k2
  have H1 := Lib.hid (H1.out.below rfl hb2')
  have Hb2 := Lib.hid (Hb1.out.trans (hb2'.mono (by omega)))
  have HO2 := Lib.hid O2
  have HT2 := Lib.hid T2
  have One2 := Lib.hid one2
  have HW2 := Lib.hid hW2
  have hs2l : w2.heap.size + 1 ≤ w2'.heap.size := by omega
  have r2row : (w2.alloc (.cells (Cw now2 V2) 25)).heap[w2.heap.size]? = some (.cells (Cw now2 V2) 25 (0, 0)) := Blk.new _ _ _
  have R2 := Lib.hid r2row
  clear hb2' O2 k2 hs2' one2 hW2 Hb1 r2row T2
  go_wp2_with (first
    | (refine wpList_store_row rfl 25 (.tmp 7) (.tmp 20) rfl w2.heap.size (Cw now2 V2) rfl rfl 25 (Cw 0 nilV) (heap_alloc_new _ _) (by rw [Cw_size]; exact info25) (by rw [Cw_size, Cw_size]) (Cw_one _ _ One2.out) ?_; rw [World.setRow_alloc_new])
    | (refine wpList_load_row rfl 25 (.tmp 7) rfl w2.heap.size rfl 25 (Cw now2 V2) (0, 0) _ R2.out Try.underlying25 rfl (by rw [Cw_size]; exact info25) ?_))
  rw [HW2.out]
  have hat2 := ((HO2.out.less (M := 96) (by omega)).ext (V' := V2) (F' := f2) (fun i hi => (upd_other _ _ _ (by omega)).symm) (fun i hi => (slots_lt (f2, o2) [] hi).symm)).at (Nat.le_refl _)
  refine (c7 now2 m V2 f2 w2' hat2 HT2.out.len HT2.out.wf).mono ?_
  intro e w3 h3
  obtain ⟨now3, V3, f3, a3, z3, o3, r3, T3⟩ := h3.form HT2.out.wf
  clear h3
  obtain rfl := T3.res
  have hs3 := T3.below.size
  have one3 := (T3.lists.at (Nat.le_refl _)).one
  obtain ⟨w3', hW3⟩ : ∃ w3', w3.alloc (.cells (Cw now3 V3) 25) = w3' := ⟨_, rfl⟩
  have hb3' : Below w2'.heap.size w2' w3' := by rw [← hW3]; exact T3.below.alloc hs3 _
  have O3 : Own w3' w2'.heap.size 97 (upd V3 96 (.slice a3 o3.length z3)) (slots (f3, o3) []) := by rw [← hW3]; exact T3.own.alloc _
  have k3 : Blk w3' w3.heap.size now3 V3 := by rw [← hW3]; exact Blk.new _ _ _
  have hs3' : w3'.heap.size = w3.heap.size + 1 := by rw [← hW3]; simp
  have K0 := Lib.hid (K0.out.below hb3' (by omega))
  have K3 := Lib.hid k3
  have H1 := Lib.hid (H1.out.below rfl hb3')
  have Hb3 := Lib.hid (Hb2.out.trans (hb3'.mono (by omega)))
  have HO2 := Lib.hid (HO2.out.below hb3' (Nat.le_refl _))
  have HO3 := Lib.hid O3
  have HT3 := Lib.hid T3
  have One3 := Lib.hid one3
  have HW3 := Lib.hid hW3
  have hs3l : w3.heap.size + 1 ≤ w3'.heap.size := by omega
  clear hb3' O3 k3 hs3' one3 hW3 Hb2 T3 hat2 K2 R2
  go_wp2_with (refine wpList_store_row rfl 25 (.tmp 10) (.tmp 27) rfl w3.heap.size (Cw now3 V3) rfl rfl 25 (Cw 0 nilV) (heap_alloc_new _ _) (by rw [Cw_size]; exact info25) (by rw [Cw_size, Cw_size]) (Cw_one _ _ One3.out) ?_; rw [World.setRow_alloc_new])
  rw [HW3.out]
  refine (c8 w3').mono ?_
  rintro e w4 ⟨rfl, hb4⟩
  have hs4 := hb4.size
  have Hb4 := Lib.hid (Hb3.out.trans (hb4.mono (by omega)))
  have H4 := Lib.hid hb4
  clear hb4 Hb3
  by_cases hr2 : r2 = 0
  · by_cases hr3 : r3 = 0
    · have q2 : (r2 != 0) = false := by rw [hr2]; rfl
      have q3 : (r3 != 0) = false := by rw [hr3]; rfl
      have A2 := HT2.out.ok hr2
      have A3 := HT3.out.ok hr3
      have hn0 := A2.1.2.1
      have hn1 := A2.1.2.2.1
      have hm0 := A3.1.2.1
      have hm1 := A3.1.2.2.1
      have HA2 := Lib.hid A2
      have HA3 := Lib.hid A3
      clear A2 A3 hr2 hr3
      by_cases hnm : 10000 < n + m
      · have q4 : decide (n + m > 10000) = true := decide_eq_true hnm
        go_wp2_with fail
        refine (c8 w4).mono ?_
        rintro e w5 ⟨rfl, hb5⟩
        have Hb5 := Lib.hid (Hb4.out.trans (hb5.mono (by omega)))
        clear hb5
        go_wp2_with fail
        go_ret
        exact ⟨rfl, Hb5.out⟩
      · have q4 : decide (n + m > 10000) = false := decide_eq_false hnm
        have K0 := Lib.hid (K0.out.below H4.out (by omega))
        have K3 := Lib.hid (K3.out.below H4.out (by omega))
        have HO2 := Lib.hid (HO2.out.below H4.out (Nat.le_refl _))
        have HO3 := Lib.hid (HO3.out.below H4.out (Nat.le_refl _))
        have H1 := Lib.hid (H1.out.below rfl H4.out)
        clear H4
        go_wp2_with (refine wpList_load_row rfl 25 (.tmp 3) rfl B rfl 25 (Cw now V) (0, 0) _ K0.out Try.underlying25 rfl (by rw [Cw_size]; exact info25) ?_)
        refine (c7 now (n + m) V f w4 H1.out hl Hwf.out).mono ?_
        intro e w5 h5
        obtain ⟨now5, V5, f5, a5, z5, o5, r5, T5⟩ := h5.form Hwf.out
        clear h5
        obtain rfl := T5.res
        have hok5 : tickOk now f (n + m) := ⟨HA2.out.1.1, by omega, by omega, by
          have h1 := HA3.out.1.2.2.2
          have h2 := HA2.out.2.1
          omega⟩
        have hr5 : r5 = 0 := by
          by_cases e : r5 = 0
          · exact e
          · exact absurd hok5 (T5.no e)
        subst hr5
        obtain ⟨_, e1, e2, e3⟩ := T5.ok rfl
        obtain ⟨_, e4, e5, e6⟩ := HA2.out
        obtain ⟨_, e7, e8, e9⟩ := HA3.out
        have hnn : now + (n.toNat : Int) = now2 := by omega
        have hadd := tickM_add now f n.toNat m.toNat
        have hnm2 : (n + m).toNat = n.toNat + m.toNat := by omega
        rw [hnn, ← e5, ← e6, ← e8, ← e9, ← hnm2] at hadd
        have e53 : now5 = now3 := by omega
        have ef : f5 = f3 := by rw [e2, hadd]
        have eo : o5 = o2 ++ o3 := by rw [e3, hadd]
        clear hadd e1 e2 e3 e4 e5 e6 e7 e8 e9 hnn hnm2 hok5
        subst e53 ef
        have hs5 := T5.below.size
        have one5 := (T5.lists.at (Nat.le_refl _)).one
        obtain ⟨w5', hW5⟩ : ∃ w5', w5.alloc (.cells (Cw now5 V5) 25) = w5' := ⟨_, rfl⟩
        have hb5' : Below w4.heap.size w4 w5' := by rw [← hW5]; exact T5.below.alloc hs5 _
        have O5 : Own w5' w4.heap.size 97 (upd V5 96 (.slice a5 o5.length z5)) (slots (f5, o5) []) := by rw [← hW5]; exact T5.own.alloc _
        have k5 : Blk w5' w5.heap.size now5 V5 := by rw [← hW5]; exact Blk.new _ _ _
        have hs5' : w5'.heap.size = w5.heap.size + 1 := by rw [← hW5]; simp
        have K3 := Lib.hid (K3.out.below hb5' (by omega))
        have K5 := Lib.hid k5
        have Hb5 := Lib.hid (Hb4.out.trans (hb5'.mono (by omega)))
        have HO2 := Lib.hid (HO2.out.below hb5' (Nat.le_refl _))
        have HO3 := Lib.hid (HO3.out.below hb5' (Nat.le_refl _))
        have HO5 := Lib.hid O5
        have Hlen5 := Lib.hid T5.len
        have Hfew5 := Lib.hid T5.few
        have One5 := Lib.hid one5
        have HW5 := Lib.hid hW5
        have hs5l : w5.heap.size + 1 ≤ w5'.heap.size := by omega
        have R3 : Hid ((w5.alloc (.cells (Cw now5 V5) 25)).heap[w3.heap.size]? = some (.cells (Cw now5 V3) 25 (0, 0))) := by rw [hW5]; exact K3.out
        have R5 : Hid ((w5.alloc (.cells (Cw now5 V5) 25)).heap[w5.heap.size]? = some (.cells (Cw now5 V5) 25 (0, 0))) := by rw [hW5]; exact K5.out
        have Eo := Lib.hid eo
        clear hb5' O5 k5 hs5' one5 hW5 Hb4 T5 eo
        go_wp2_with (first
          | (refine wpList_store_row rfl 25 (.tmp 13) (.tmp 53) rfl w5.heap.size (Cw now5 V5) rfl rfl 25 (Cw 0 nilV) (heap_alloc_new _ _) (by rw [Cw_size]; exact info25) (by rw [Cw_size, Cw_size]) (Cw_one _ _ One5.out) ?_; rw [World.setRow_alloc_new])
          | (refine wpList_load_roww rfl 25 (.tmp 10) rfl w3.heap.size rfl 25 (Cw now5 V3) (0, 0) _ R3.out Try.underlying25 rfl (by rw [Cw_size]; exact info25) ?_)
          | (refine wpList_load_roww rfl 25 (.tmp 13) rfl w5.heap.size rfl 25 (Cw now5 V5) (0, 0) _ R5.out Try.underlying25 rfl (by rw [Cw_size]; exact info25) ?_))
        rw [HW5.out]
        have hat3 : WheelAt w5' V3 f5 := ((HO3.out.less (M := 96) (by omega)).ext (V' := V3) (F' := f5) (fun i hi => (upd_other _ _ _ (by omega)).symm) (fun i hi => (slots_lt (f5, o3) [] hi).symm)).at (Nat.le_refl _)
        have hat5 : WheelAt w5' V5 f5 := ((HO5.out.less (M := 96) (by omega)).ext (V' := V5) (F' := f5) (fun i hi => (upd_other _ _ _ (by omega)).symm) (fun i hi => (slots_lt (f5, o5) [] hi).symm)).at (Nat.le_refl _)
        refine (c9 now5 V3 V5 f5 w5' hat3 hat5 Hlen5.out).mono ?_
        rintro e w6 ⟨rfl, hb6⟩
        have hs6 := hb6.size
        have hD2 : OwnD w6 w1.heap.size (.slice a2 o2.length z2) o2 := by
          have := (HO2.out.below hb6 (Nat.le_refl _)).each 96 (by omega)
          rwa [upd_same, slots_96] at this
        have hD3 : OwnD w6 w2'.heap.size (.slice a3 o3.length z3) o3 := by
          have := (HO3.out.below hb6 (Nat.le_refl _)).each 96 (by omega)
          rwa [upd_same, slots_96] at this
        have hD5 : OwnD w6 w4.heap.size (.slice a5 o5.length z5) o5 := by
          have := (HO5.out.below hb6 (Nat.le_refl _)).each 96 (by omega)
          rwa [upd_same, slots_96] at this
        have hf2 := HT2.out.few
        have hf3 := HT3.out.few
        have D2 := Lib.hid hD2
        have D3 := Lib.hid hD3
        have D5 := Lib.hid hD5
        have Hb6 := Lib.hid (Hb5.out.trans (hb6.mono (by omega)))
        clear hb6 hat3 hat5 hD2 hD3 hD5 Hb5
        go_wp2_with fail
        refine (c11 _ o2 w6 D2.out.at (by omega)).mono ?_
        rintro e w7 ⟨v7, rfl, ho7, hb7⟩
        have hs7 := hb7.size
        obtain ⟨a7, z7, rfl⟩ := ho7.shape
        have hsrc := (D3.out.at.below rfl hb7).src
        have hnil := D3.out.nil_of
        have hD5 : OwnD w7 w4.heap.size (.slice a5 o5.length z5) o5 := D5.out.of_same (fun k hk => hb7.block k (D5.out.lt k hk).2)
        have hlt5 := fun k hk => (D5.out.lt k hk).2
        have Hlt5 := Lib.hid hlt5
        have D7 := Lib.hid ho7
        have Hsrc := Lib.hid hsrc
        have Hnil := Lib.hid hnil
        have D5 := Lib.hid hD5
        have Hb7 := Lib.hid (Hb6.out.trans (hb7.mono (by omega)))
        clear ho7 hb7 hsrc hnil hD5 Hb6 hlt5
        go_wp2_with (at_builtin; refine wpList_append_ownTw _ rfl _ _ 22 rfl w6.heap.size 33 (.agg #[.int .i64 0, .int .i64 0]) 2 16 DuT Try.underlying22 info33 rfl (by decide) DuT_zero (.slice a7 o2.length z7) o2.length (duCells o2) rfl D7.out a3 o3.length z3 (duCells o3) rfl (duCells_length _) Hnil.out Hsrc.out (one_cells _) (DuT_cells _ _) ?c1 ?c2 ?c3 ?_)
        case c1 => unfold maxLen; omega
        case c2 => omega
        case c3 => omega
        intro v8 w8 hown8 hgrow8 _ _
        have ho8 : OwnD w8 w6.heap.size v8 o5 := by
          rw [Eo.out]
          unfold OwnD
          rw [duCells_append, List.length_append]
          exact hown8
        have hd5 : OwnD w8 w4.heap.size (.slice a5 o5.length z5) o5 := D5.out.of_same (fun k hk => hgrow8.block k (D5.out.lt k hk).2 (fun e => by
          have h1 := (D7.out.lt k e.symm).1
          have h2 := Hlt5.out k hk
          omega))
        have Hb8 := Lib.hid (Hb7.out.grown hgrow8 (by omega) (fun k hk => by have := (D7.out.lt k hk).1; omega))
        have O8 := Lib.hid ho8
        have D8 := Lib.hid hd5
        have h1000 := Hfew5.out
        obtain ⟨a8, z8, rfl⟩ := ho8.shape
        clear ho8 hd5 hgrow8 hown8
        go_wp2_with fail
        refine (c10 _ _ o5 _ D8.out.at O8.out.at (by omega)).mono ?_
        rintro e w9 ⟨rfl, n9, rfl⟩
        go_wp2_with fail
        go_ret
        exact ⟨rfl, Hb8.out.drewN' n9⟩
    · have q2 : (r2 != 0) = false := by rw [hr2]; rfl
      have q3 : (r3 != 0) = true := by rw [bne_iff_ne]; exact hr3
      clear hr2 hr3
      go_wp2_with fail
      refine (c8 w4).mono ?_
      rintro e w5 ⟨rfl, hb5⟩
      have Hb5 := Lib.hid (Hb4.out.trans (hb5.mono (by omega)))
      clear hb5
      go_wp2_with fail
      go_ret
      exact ⟨rfl, Hb5.out⟩
  · have q2 : (r2 != 0) = true := by rw [bne_iff_ne]; exact hr2
    clear hr2
    go_wp2_with fail
    refine (c8 w4).mono ?_
    rintro e w5 ⟨rfl, hb5⟩
    have Hb5 := Lib.hid (Hb4.out.trans (hb5.mono (by omega)))
    clear hb5
    go_wp2_with fail
    go_ret
    exact ⟨rfl, Hb5.out⟩
end Go.Proofs.Ytefikkmhdjlccaa
