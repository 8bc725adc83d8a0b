/- WheelOwn: the walk. -/
import Derived.Test.YtefikkmhdjlccaaO1
import Derived.Great.BuildSlice
namespace Go.Proofs.Ytefikkmhdjlccaa
open Go.RowKit

theorem setRow_alloc_at (w : World) (cs cs' : Array Value) (t : TypeId) (g : Nat) (hg : g = w.heap.size) : (w.alloc (.cells cs t)).setRow g cs' = w.alloc (.cells cs' t) := by
  subst hg; exact World.setRow_alloc_new _ _ _ _

theorem wpList_build39 {ops : Array Oper} {rest : List Oper} {o : Oper} {a : Act} {w : World} {Q : Exit → Act → World → Prop} (hg : o.guard = none) (x y z : Operand) (ho : o.op = .build 39 #[(0, x), (1, y), (2, z)])
    (C0 C1 C2 CC : Array Value) (hx : a.eval x = .agg C0) (hy : a.eval y = .agg C1) (hz : a.eval z = .agg C2) (hc : Try.prog.built 39 [(0, .agg C0), (1, .agg C1), (2, .agg C2)] = some CC)
    (h : wpList Try.prog ops Q rest (a.put o.dst (.agg CC)) w) : wpList Try.prog ops Q (o :: rest) a w := by
  refine Go.wpList_buildTo hg 39 _ ho _ rfl CC ?_ h
  rw [← hc]
  simp only [List.map_toArray, List.map_cons, List.map_nil, hx, hy, hz]

set_option maxRecDepth 100000
set_option maxHeartbeats 8000000 in
theorem c4 (now nid tm n : Int) (V : Nat → Value) (f : Ls) (w : World) (h : WheelAt w V f) (hl : ∀ i, i < 96 → (f i).length ≤ 8796093022208) (hwf : allP wfD f) :
    Calls Try.prog 4 #[.agg (Cw now V), .int .i64 nid, .int .i64 tm, .int .i64 n] w fun e w' => e = .returned (.bool true) ∧ Below w.heap.size w w' := by
  generalize hB : w.heap.size = B at *
  obtain ⟨w1, hW⟩ : ∃ w1, w1 = (w.alloc (.cells (Cw now V) 25)).alloc (.cells (Cw now V) 25) := ⟨_, rfl⟩
  have hs1 : w1.heap.size = B + 2 := by rw [hW]; simp [hB]
  have hb1 : Below B w w1 := by rw [hW]; exact (((Below.refl B w).alloc (by omega) _).alloc (by simp; omega) _)
  have k0 : Blk w1 B now V := by
    rw [hW, Blk, Below.heap_alloc _ _ _ (by simp; omega), ← hB]; exact heap_alloc_new w _
  have k1 : Blk w1 (B + 1) now V := by
    have := heap_alloc_new (w.alloc (.cells (Cw now V) 25)) (.cells (Cw now V) 25)
    rw [hW, Blk]
    simpa [hB] using this
  have h1 := h.below hB.symm hb1
  have r0 : (w.alloc (.cells (Cw now V) 25)).heap[B]? = some (.cells (Cw now V) 25 (0, 0)) := by rw [← hB]; exact heap_alloc_new w _
  have r1 : ((w.alloc (.cells (Cw now V) 25)).alloc (.cells (Cw 0 nilV) 25)).heap[B + 1]? = some (.cells (Cw 0 nilV) 25 (0, 0)) := by
    have := heap_alloc_new (w.alloc (.cells (Cw now V) 25)) (.cells (Cw 0 nilV) 25)
    simpa [hB] using this
  have one := h.one
  have R0 := Lib.hid r0
  have R1 := Lib.hid r1
  have Hb1 := Lib.hid hb1
  have K0 := Lib.hid k0
  have K1 := Lib.hid k1
  have H1 := Lib.hid h1
  have HW := Lib.hid hW
  have One := Lib.hid one
  have Hs1 := Lib.hid hs1
  have hs1l : B + 2 ≤ w1.heap.size := by omega
  have Hwf := Lib.hid hwf
  have H0 := Lib.hid h
  clear hb1 k0 k1 h1 hW hs1 h r0 r1 hwf one
  have zv := zv25
  go_enter Try.func4, Try.ntmps4
  go_wp2_with (first
    | (refine wpList_load_row rfl 25 (.tmp 4) rfl B rfl 25 (Cw now V) (0, 0) _ R0.out Try.underlying25 rfl (by rw [Cw_size]; exact info25) ?_)
    | (refine wpList_store_row rfl 25 (.tmp 9) (.tmp 24) rfl (B + 1) (Cw now V) rfl rfl 25 (Cw 0 nilV) R1.out (by rw [Cw_size]; exact info25) (by rw [Cw_size, Cw_size]) (Cw_one _ _ One.out) ?_; rw [setRow_alloc_at _ _ _ _ _ (by simp [hB])]))
  rw [← HW.out]
  go_loopw [25] (fun i wr => ∃ k : Nat, k ≤ 96 ∧ i = .int .i64 k ∧ ∃ V', Blk wr B now V ∧ Blk wr (B + 1) now V' ∧ (∀ i, k ≤ i → V' i = V i) ∧ Own wr (B + 2) k V' f ∧ Below B w wr ∧ B + 2 ≤ wr.heap.size) (fun i _ => 96 - (intOf i).toNat)
  case atStart => exact ⟨0, by omega, rfl, V, K0.out, K1.out, fun _ _ => rfl, ⟨fun i hi => by omega, fun i j hi => by omega⟩, Hb1.out, hs1l⟩
  case round =>
    clear K0 K1
    obtain ⟨k, hk, rfl, V', K0, K1, hV, hown, hbel, hsz⟩ := hrel
    by_cases hlt : k < 96
    · have hD := (H0.out k hlt).below hB.symm hbel
      obtain ⟨a, c, hv, _⟩ := id hD
      have hc1 : wr.cell? ⟨B, 1 + k, none⟩ = some (.slice a (f k).length c) := by
        rw [Nat.add_comm, cell_of_blk K0, Cw_get _ _ k hlt, hv]
      have hv0 := hV k (Nat.le_refl _)
      have k0 := Lib.hid K0
      have k1 := Lib.hid K1
      have Hv := Lib.hid hV
      have Hown := Lib.hid hown
      have hD := Lib.hid (hv ▸ hD)
      have hlk := hl k hlt
      have hg0 : (k : Int) < 96 := by omega
      have Hv0 := Lib.hid (hv0.trans hv)
      clear K0 K1 hV hown hv hv0
      go_wp2_with fail
      refine (c11 _ _ _ hD.out hlk).mono ?_
      rintro e w2 ⟨v', rfl, ho, hb2⟩
      have hs2 := hb2.size
      have hf1 : w2.frozen? ⟨B + 1, 1 + k, none⟩ = false := by
        rw [hb2.frozen (by show B + 1 < _; omega)]; exact free_of_blk k1.out
      have hc2 : w2.cell? ⟨B + 1, 1 + k, none⟩ = some (.slice a (f k).length c) := by
        rw [hb2.cell (by show B + 1 < _; omega), Nat.add_comm 1 k, cell_of_blk k1.out, Cw_get _ _ k hlt, Hv0.out]
      obtain ⟨a', c', rfl⟩ := ho.shape
      clear hc1
      have ho := Lib.hid ho
      have hb2 := Lib.hid hb2
      go_wp2_with fail
      go_roundw
      case rel =>
        have K1' := (k1.out.below hb2.out (by omega)).set hlt (.slice a' (f k).length c')
        have O2 := Hown.out.below hb2.out (Nat.le_refl _)
        have K1w := k1.out.below hb2.out (by omega : B + 1 < wr.heap.size)
        rw [show k + 1 = 1 + k from Nat.add_comm _ _] at K1'
        refine ⟨k + 1, by omega, by go_num, _, ?_, K1', fun i hi => ?_, ?_, ?_, ?_⟩
        · exact Blk.keep (k0.out.below hb2.out (by omega)) (Below.heap_setCell _ _ _ _ (by show B ≠ B + 1; omega))
        · rw [upd_other _ _ _ (by omega)]; exact Hv.out i (by omega)
        · have O3 := O2.push (v := .slice a' (f k).length c') (l := f k) (OwnsT.base_le ho.out (by omega)) (fun i hi g hg e => by
            have := ((Hown.out.each i hi).lt g hg).2
            have := (ho.out.lt g e).1
            omega)
          refine (O3.setCell (p := ⟨B + 1, 1 + k, none⟩) (fun i hi => ?_) _).ext (fun _ _ => rfl) (fun i hi => ?_)
          · exact O3.ne_blk K1w i hi
          · by_cases e : i = k
            · subst e; rw [upd_same]
            · rw [upd_other _ _ _ e]
        · exact (hbel.trans (hb2.out.mono (by omega))).setCell (by show B ≤ B + 1; omega) _
        · show B + 2 ≤ (w2.setCell _ _).heap.size
          simp only [World.size_setCell]; omega
      case measure => simp [intOf]; omega
    · obtain rfl : k = 96 := by omega
      have N1 := Lib.hid (H0.out.below hB.symm hbel)
      have N2 := Lib.hid (hown.at (Nat.le_refl _))
      have M2 := N2
      have Hbel := Lib.hid hbel
      have K0 := Lib.hid K0
      have K1 := Lib.hid K1
      obtain ⟨Br, HBr⟩ : ∃ Br, Hid (Br = wr.heap.size) := ⟨_, rfl⟩
      have hBr : B + 2 ≤ Br := by rw [HBr.out]; exact hsz
      have hBrle : Br ≤ wr.heap.size := Nat.le_of_eq HBr.out
      clear hV hbel hown hsz hs1l
      go_wp2_with (refine wpList_load_row rfl 25 (.tmp 4) rfl B rfl 25 (Cw now V) (0, 0) _ K0.out Try.underlying25 rfl (by rw [Cw_size]; exact info25) ?_)
      refine (c12 now nid tm V f wr N1.out hl Hwf.out).mono ?_
      intro e w2 h2
      obtain ⟨hb2, now2, V2, r2, rfl, hW2⟩ := h2.ww
      clear h2
      have hs2 := hb2.size
      obtain ⟨w2', hE2⟩ : ∃ w2', w2.alloc (.cells (Cw now2 V2) 25) = w2' := ⟨_, rfl⟩
      have hb2' : Below wr.heap.size wr w2' := by rw [← hE2]; exact hb2.alloc hs2 _
      have W2 := Lib.hid ((hW2.pres (by rw [← hE2]; exact Pres.alloc _ _) : WW w2' _ V2).base (B' := Br) (by omega))
      have K2 := Lib.hid (show Blk w2' w2.heap.size now2 V2 by rw [← hE2]; exact Blk.new _ _ _)
      have hs2' : w2.heap.size + 1 ≤ w2'.heap.size := by rw [← hE2]; simp
      have K0 := Lib.hid (K0.out.below hb2' (by omega))
      have K1 := Lib.hid (K1.out.below hb2' (by omega))
      have N1 := Lib.hid (N1.out.below rfl hb2')
      have N2 := Lib.hid (N2.out.below rfl hb2')
      have Hbr := Lib.hid (show Below Br wr w2' from hb2'.mono (by omega))
      have Hbel := Lib.hid (Hbel.out.trans (hb2'.mono (by omega)))
      have one2 := Lib.hid hW2.one
      have E2 := Lib.hid hE2
      clear hb2 hb2' hW2 hE2
      go_wp2_with (first
        | (refine wpList_store_row rfl 25 (.tmp 11) (.tmp 42) rfl w2.heap.size (Cw now2 V2) rfl rfl 25 (Cw 0 nilV) (heap_alloc_new _ _) (by rw [Cw_size]; exact info25) (by rw [Cw_size, Cw_size]) (Cw_one _ _ one2.out) ?_; rw [World.setRow_alloc_new, E2.out])
        | (refine wpList_load_row rfl 25 (.tmp 4) rfl B rfl 25 (Cw now V) (0, 0) _ K0.out Try.underlying25 rfl (by rw [Cw_size]; exact info25) ?_))
      refine (c13 now nid V f w2' N1.out hl Hwf.out).mono ?_
      intro e w3 h3
      obtain ⟨hb3, now3, V3, r3, rfl, hW3⟩ := h3.ww
      clear h3 one2 E2
      have hs3 := hb3.size
      obtain ⟨w3', hE3⟩ : ∃ w3', w3.alloc (.cells (Cw now3 V3) 25) = w3' := ⟨_, rfl⟩
      have hb3' : Below w2'.heap.size w2' w3' := by rw [← hE3]; exact hb3.alloc hs3 _
      have W3 := Lib.hid ((hW3.pres (by rw [← hE3]; exact Pres.alloc _ _) : WW w3' _ V3).base (B' := Br) (by omega))
      have W2 := Lib.hid (W2.out.pres (Pres.of_below hb3'))
      have K3 := Lib.hid (show Blk w3' w3.heap.size now3 V3 by rw [← hE3]; exact Blk.new _ _ _)
      have hs3' : w3.heap.size + 1 ≤ w3'.heap.size := by rw [← hE3]; simp
      have K0 := Lib.hid (K0.out.below hb3' (by omega))
      have K1 := Lib.hid (K1.out.below hb3' (by omega))
      have K2 := Lib.hid (K2.out.below hb3' (by omega))
      have N1 := Lib.hid (N1.out.below rfl hb3')
      have N2 := Lib.hid (N2.out.below rfl hb3')
      have Hbr := Lib.hid (Hbr.out.trans (hb3'.mono (by omega)))
      have Hbel := Lib.hid (Hbel.out.trans (hb3'.mono (by omega)))
      have one3 := Lib.hid hW3.one
      have E3 := Lib.hid hE3
      clear hb3 hb3' hW3 hE3
      go_wp2_with (first
        | (refine wpList_store_row rfl 25 (.tmp 13) (.tmp 48) rfl w3.heap.size (Cw now3 V3) rfl rfl 25 (Cw 0 nilV) (heap_alloc_new _ _) (by rw [Cw_size]; exact info25) (by rw [Cw_size, Cw_size]) (Cw_one _ _ one3.out) ?_; rw [World.setRow_alloc_new, E3.out])
        | (refine wpList_load_row rfl 25 (.tmp 4) rfl B rfl 25 (Cw now V) (0, 0) _ K0.out Try.underlying25 rfl (by rw [Cw_size]; exact info25) ?_))
      refine (c7 now n V f w3' N1.out hl Hwf.out).mono ?_
      intro e w4 h4
      obtain ⟨hb4, now4, V4, a4, m4, q4, r4, rfl, hW4⟩ := h4.ww Hwf.out
      clear h4 one3 E3
      have hs4 := hb4.size
      obtain ⟨w4', hE4⟩ : ∃ w4', w4.alloc (.cells (Cw now4 V4) 25) = w4' := ⟨_, rfl⟩
      have hb4' : Below w3'.heap.size w3' w4' := by rw [← hE4]; exact hb4.alloc hs4 _
      have W4 := Lib.hid ((hW4.pres (by rw [← hE4]; exact Pres.alloc _ _) : WW w4' _ V4).base (B' := Br) (by omega))
      have W2 := Lib.hid (W2.out.pres (Pres.of_below hb4'))
      have W3 := Lib.hid (W3.out.pres (Pres.of_below hb4'))
      have K4 := Lib.hid (show Blk w4' w4.heap.size now4 V4 by rw [← hE4]; exact Blk.new _ _ _)
      have hs4' : w4.heap.size + 1 ≤ w4'.heap.size := by rw [← hE4]; simp
      have K0 := Lib.hid (K0.out.below hb4' (by omega))
      have K1 := Lib.hid (K1.out.below hb4' (by omega))
      have K2 := Lib.hid (K2.out.below hb4' (by omega))
      have K3 := Lib.hid (K3.out.below hb4' (by omega))
      have N1 := Lib.hid (N1.out.below rfl hb4')
      have N2 := Lib.hid (N2.out.below rfl hb4')
      have Hbr := Lib.hid (Hbr.out.trans (hb4'.mono (by omega)))
      have Hbel := Lib.hid (Hbel.out.trans (hb4'.mono (by omega)))
      have one4 := Lib.hid hW4.one
      have E4 := Lib.hid hE4
      clear hb4 hb4' hW4 hE4
      have R4 : Hid ((w4.alloc (.cells (Cw now4 V4) 25)).heap[B]? = some (.cells (Cw now V) 25 (0, 0))) := by rw [E4.out]; exact K0
      go_wp2_with (first
        | (refine wpList_store_row rfl 25 (.tmp 15) (.tmp 54) rfl w4.heap.size (Cw now4 V4) rfl rfl 25 (Cw 0 nilV) (heap_alloc_new _ _) (by rw [Cw_size]; exact info25) (by rw [Cw_size, Cw_size]) (Cw_one _ _ one4.out) ?_; rw [World.setRow_alloc_new, E4.out])
        | (refine wpList_load_row rfl 25 (.tmp 4) rfl B rfl 25 (Cw now V) (0, 0) _ K0.out Try.underlying25 rfl (by rw [Cw_size]; exact info25) ?_)
        | (refine wpList_load_row rfl 25 (.tmp 9) rfl (B + 1) rfl 25 (Cw now V') (0, 0) _ K1.out Try.underlying25 rfl (by rw [Cw_size]; exact info25) ?_))
      refine (c9 now V V' f w4' N1.out N2.out hl).mono ?_
      rintro e w5 ⟨rfl, hb5⟩
      clear one4 E4 R4
      have hs5 := hb5.size
      have W2 := Lib.hid (W2.out.pres (Pres.of_below hb5))
      have W3 := Lib.hid (W3.out.pres (Pres.of_below hb5))
      have W4 := Lib.hid (W4.out.pres (Pres.of_below hb5))
      have K0 := Lib.hid (K0.out.below hb5 (by omega))
      have K1 := Lib.hid (K1.out.below hb5 (by omega))
      have K2 := Lib.hid (K2.out.below hb5 (by omega))
      have K3 := Lib.hid (K3.out.below hb5 (by omega))
      have K4 := Lib.hid (K4.out.below hb5 (by omega))
      have Hbr := Lib.hid (Hbr.out.trans (hb5.mono (by omega)))
      have Hbel := Lib.hid (Hbel.out.trans (hb5.mono (by omega)))
      have N1 := Lib.hid (H0.out.below hB.symm Hbel.out)
      clear hb5 N2
      obtain ⟨CC, HCC⟩ : ∃ CC, Hid (C3 (Cw now2 V2) (Cw now3 V3) (Cw now4 V4) = CC) := ⟨_, rfl⟩
      have hbuilt : Hid (Try.prog.built 39 [(0, .agg (Cw now2 V2)), (1, .agg (Cw now3 V3)), (2, .agg (Cw now4 V4))] = some CC) := by
        rw [← HCC.out]; exact built39 _ _ _ (Cw_size _ _) (Cw_size _ _) (Cw_size _ _)
      go_wp2_with (first
        | (refine wpList_load_row rfl 25 (.tmp 11) rfl w2.heap.size rfl 25 (Cw now2 V2) (0, 0) _ K2.out Try.underlying25 rfl (by rw [Cw_size]; exact info25) ?_)
        | (refine wpList_load_row rfl 25 (.tmp 13) rfl w3.heap.size rfl 25 (Cw now3 V3) (0, 0) _ K3.out Try.underlying25 rfl (by rw [Cw_size]; exact info25) ?_)
        | (refine wpList_load_row rfl 25 (.tmp 15) rfl w4.heap.size rfl 25 (Cw now4 V4) (0, 0) _ K4.out Try.underlying25 rfl (by rw [Cw_size]; exact info25) ?_)
        | (refine wpList_build39 rfl (.tmp 60) (.tmp 61) (.tmp 62) rfl (Cw now2 V2) (Cw now3 V3) (Cw now4 V4) CC rfl rfl rfl hbuilt.out ?_))
      clear K2 K3 K4 hbuilt
      have hBr5 : Br ≤ w5.heap.size := by omega
      clear hs2 hs3 hs4 hs5 hs2' hs3' hs4'
      go_loopw [64] (fun i wx => ∃ k : Nat, k ≤ 3 ∧ i = .int .i64 k ∧ Pres w5 wx ∧ Below Br w5 wx) (fun i _ => 3 - (intOf i).toNat)
      case atStart => exact ⟨0, by omega, rfl, Pres.refl _, Below.refl _ _⟩
      case round =>
        obtain ⟨k, hk, rfl, hp, hbel5⟩ := hrel
        by_cases hlt : k < 3
        · have hX : ∃ nowx Vx, Hid (WW w5 Br Vx) ∧ Hid (∀ w, (Instr.index 39 (.agg CC) (.int .i64 (k : Int))).run Try.prog w = .ok (.agg (Cw nowx Vx)) w) := by
            have hi := fun w => index39 (Cw now2 V2) (Cw now3 V3) (Cw now4 V4) (Cw_size _ _) (Cw_size _ _) (Cw_size _ _) k hlt w
            rw [HCC.out] at hi
            rcases (show k = 0 ∨ k = 1 ∨ k = 2 by omega) with rfl | rfl | rfl
            · exact ⟨now2, V2, W2, fun w => hi w⟩
            · exact ⟨now3, V3, W3, fun w => hi w⟩
            · exact ⟨now4, V4, W4, fun w => hi w⟩
          obtain ⟨nowx, Vx, HWX, hidx'⟩ := hX
          have hidx := hidx'.out
          clear hidx' W2 W3 W4 HCC
          obtain ⟨wx', hEx⟩ : ∃ wx', wr.alloc (.cells (Cw nowx Vx) 25) = wx' := ⟨_, rfl⟩
          have Hp := Lib.hid (show Pres w5 wx' by rw [← hEx]; exact hp.trans (Pres.alloc _ _))
          have Hbel5 := Lib.hid (show Below Br w5 wx' by rw [← hEx]; exact hbel5.alloc (Nat.le_trans hBr5 hbel5.size) _)
          have Kx := Lib.hid (show Blk wx' wr.heap.size nowx Vx by rw [← hEx]; exact Blk.new _ _ _)
          have Ex := Lib.hid hEx
          have onex := Lib.hid HWX.out.one
          have hg0 : (k : Int) < 3 := by omega
          clear hp hbel5 hEx
          go_wp2_with (first
            | (refine wpList_store_row rfl 25 (.tmp 20) (.tmp 66) rfl wr.heap.size (Cw nowx Vx) rfl rfl 25 (Cw 0 nilV) (heap_alloc_new _ _) (by rw [Cw_size]; exact info25) (by rw [Cw_size, Cw_size]) (Cw_one _ _ onex.out) ?_; rw [World.setRow_alloc_new, Ex.out])
            | (refine wpList_load_mid rfl 23 (.tmp 67) rfl wr.heap.size 1 rfl (Lw Vx) _ Kx.out.range Try.underlying23 rfl (by rw [Lw_length]; exact info23) ?_))
          clear hidx Ex onex Kx
          go_loopw [69] (fun i wy => ∃ m : Nat, m ≤ 96 ∧ i = .int .i64 m ∧ Pres w5 wy ∧ Below Br w5 wy) (fun i _ => 96 - (intOf i).toNat)
          case atStart => exact ⟨0, by omega, rfl, Hp.out, Hbel5.out⟩
          case round =>
            clear Hp Hbel5
            obtain ⟨m, hm, rfl, hp, hbel5⟩ := hrel
            by_cases hmlt : m < 96
            · obtain ⟨ax, nx, cx, hvx⟩ := (HWX.out m hmlt).shape
              have hWm := Lib.hid (hvx ▸ HWX.out m hmlt)
              obtain ⟨hnx, hcx⟩ := hWm.out.le
              unfold maxLen at hcx
              have hidx := fun w => index23 Vx m hmlt ax nx cx hvx w
              have Hp := Lib.hid hp
              have Hbel5 := Lib.hid hbel5
              have hm0 : (m : Int) < 96 := by omega
              clear hp hbel5 hvx
              go_wp2_with fail
              clear hidx
              go_loopw [78] (fun i wz => ∃ j : Nat, j ≤ cx ∧ i = .int .i64 j ∧ Pres w5 wz ∧ Below Br w5 wz) (fun i _ => cx - (intOf i).toNat)
              case atStart => exact ⟨0, by omega, rfl, Hp.out, Hbel5.out⟩
              case round =>
                clear Hp Hbel5
                obtain ⟨j, hj, rfl, hp, hbel5⟩ := hrel
                by_cases hjn : j < cx
                · obtain ⟨g, x, rfl, hBg, q1, q2, hset⟩ := (hWm.out.pres hp).elem hjn
                  have Hset := Lib.hid hset
                  have Hp := Lib.hid hp
                  have Hbel5 := Lib.hid hbel5
                  clear hset hp hbel5
                  go_wp2_with fail
                  go_roundw
                  case rel => exact ⟨j + 1, by omega, by go_num, Hp.out.trans (Hset.out _), Hbel5.out.setCell (by exact hBg) _⟩
                  case measure => simp [intOf]; omega
                · have Hp := Lib.hid hp
                  have Hbel5 := Lib.hid hbel5
                  clear hp hbel5
                  go_wp2_with fail
                  go_roundw
                  case rel => exact ⟨m + 1, by omega, by go_num, Hp.out, Hbel5.out⟩
                  case measure => simp [intOf]; omega
            · have Hp := Lib.hid hp
              have Hbel5 := Lib.hid hbel5
              have hm0 : ¬ (m : Int) < 96 := by omega
              clear hp hbel5
              go_wp2_with fail
              go_roundw
              case rel => exact ⟨k + 1, by omega, by go_num, Hp.out, Hbel5.out⟩
              case measure => simp [intOf]; omega
        · have A1 := Lib.hid (H0.out.below hB.symm (Hbel.out.trans (hbel5.mono (by omega))))
          have A2 := Lib.hid (M2.out.below HBr.out (Hbr.out.trans hbel5))
          have K0 := Lib.hid (K0.out.below hbel5 (by omega))
          have K1 := Lib.hid (K1.out.below hbel5 (by omega))
          have Hb6 := Lib.hid (Hbel.out.trans (hbel5.mono (by omega)))
          have hs6 := hbel5.size
          have hk3 : ¬ (k : Int) < 3 := by omega
          clear hbel5 hp
          go_wp2_with fail
          refine (c8 _).mono ?_
          rintro e w6 ⟨rfl, hb7⟩
          have A1 := Lib.hid (A1.out.below rfl hb7)
          have A2 := Lib.hid (A2.out.below rfl hb7)
          have K0 := Lib.hid (K0.out.below hb7 (by omega))
          have K1 := Lib.hid (K1.out.below hb7 (by omega))
          have Hb7 := Lib.hid (Hb6.out.trans (hb7.mono (by omega)))
          have hs7 := hb7.size
          clear hb7 Hb6
          go_wp2_with (first
            | (refine wpList_load_roww rfl 25 (.tmp 4) rfl B rfl 25 (Cw now V) (0, 0) _ K0.out Try.underlying25 rfl (by rw [Cw_size]; exact info25) ?_)
            | (refine wpList_load_roww rfl 25 (.tmp 9) rfl (B + 1) rfl 25 (Cw now V') (0, 0) _ K1.out Try.underlying25 rfl (by rw [Cw_size]; exact info25) ?_))
          refine (c9 now V V' f _ A1.out A2.out hl).mono ?_
          rintro e w7 ⟨rfl, hb8⟩
          have Hb8 := Lib.hid (Hb7.out.trans (hb8.mono (by omega)))
          clear hb8
          go_wp2_with fail
          go_ret
          exact ⟨rfl, Hb8.out⟩
end Go.Proofs.Ytefikkmhdjlccaa
