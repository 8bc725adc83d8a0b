/- Stop. -/
import Derived.Test.YtefikkmhdjlccaaD2
namespace Go.Proofs.Ytefikkmhdjlccaa
open Go.RowKit

def hasId (f : Ls) (id : Int) : Prop := ∃ i, i < 96 ∧ ∃ d ∈ f i, d.id = id
def StopEnd (now : Int) (f : Ls) (id : Int) (w : World) (e : Ending) (w' : World) : Prop :=
  Below w.heap.size w w' ∧ ((¬ (Right now f ∧ hasId f id) ∧ ∃ r : Int, r ≠ 0 ∧ e = .returned (.tuple #[.agg (Cw 0 nilV), .int .i64 r])) ∨
    (Right now f ∧ ∃ (i k : Nat) (V' : Nat → Value), i < 96 ∧ k < (f i).length ∧ ((f i).getD k default).id = id ∧ e = .returned (.tuple #[.agg (Cw now V'), .int .i64 0]) ∧ Own w' w.heap.size 96 V' (upd f i ((f i).eraseIdx k))))

set_option maxHeartbeats 4000000 in
theorem c13 (now id : Int) (V : Nat → Value) (f : Ls) (w : World) (h : WheelAt w V f) (hl : ∀ i, i < 96 → (f i).length ≤ 8796093022208) (hwf : allP wfD f) :
    Calls Try.prog 13 #[.agg (Cw now V), .int .i64 id] w (StopEnd now f id w) := by
  generalize hB : w.heap.size = B at *
  obtain ⟨w1, hW⟩ : ∃ w1, w1 = (w.alloc (.cells (Cw now V) 25)).alloc (.cells (Cw 0 nilV) 25) := ⟨_, rfl⟩
  have hs1 : w1.heap.size = B + 2 := by rw [hW]; simp [hB]
  have hb1 : Below B w w1 := by rw [hW]; exact (((Below.refl B w).alloc (by omega) _).alloc (by simp; omega) _)
  have k0 : Blk w1 B now V := by
    rw [hW, Blk, Below.heap_alloc _ _ _ (by simp; omega), ← hB]; exact heap_alloc_new w _
  have k1 : Blk w1 (B + 1) 0 nilV := by
    have := heap_alloc_new (w.alloc (.cells (Cw now V) 25)) (.cells (Cw 0 nilV) 25)
    rw [hW, Blk]
    simpa [hB] using this
  have h1 := h.below hB.symm hb1
  have r0 : ((w.alloc (.cells (Cw now V) 25)).alloc (.cells (Cw 0 nilV) 25)).heap[B]? = some (.cells (Cw now V) 25 (0, 0)) := by rw [← hW]; exact k0
  have R0 := Lib.hid r0
  have Hb1 := Lib.hid hb1
  have K0 := Lib.hid k0
  have K1 := Lib.hid k1
  have H1 := Lib.hid h1
  have HW := Lib.hid hW
  have hs1l : B + 2 ≤ w1.heap.size := by omega
  have Hwf := Lib.hid hwf
  clear hb1 k0 k1 h1 hW hs1 h r0 hwf
  have zv := zv25
  have hbu : Try.prog.built 25 [] = some (Cw 0 nilV) := by kernel_rfl
  go_enter Try.func13, Try.ntmps13
  go_wp2_with (refine wpList_load_row rfl 25 (.tmp 2) rfl B rfl 25 (Cw now V) (0, 0) _ R0.out Try.underlying25 rfl (by rw [Cw_size]; exact info25) ?_)
  rw [← HW.out]
  refine (c16 now V f w1 H1.out hl Hwf.out).mono ?_
  rintro e w2 ⟨⟨r, rfl, hr⟩, hb2⟩
  have hs2 := hb2.size
  have K0 := Lib.hid (K0.out.below hb2 (by omega))
  have K1 := Lib.hid (K1.out.below hb2 (by omega))
  have H2 := Lib.hid (H1.out.below rfl hb2)
  have Hb2 := Lib.hid (Hb1.out.trans (hb2.mono (by omega)))
  have Hr := Lib.hid hr
  clear hb2 hr R0 H1 Hb1
  by_cases hr0 : r = 0
  · have hq : (r != 0) = false := by rw [hr0]; rfl
    have hR : Right now f := Hr.out.1 hr0
    have HR := Lib.hid hR
    have hfew := hR.few
    subst hr0
    clear hR
    go_wp2_with (refine wpList_load_row rfl 25 (.tmp 2) rfl B rfl 25 (Cw now V) (0, 0) _ K0.out Try.underlying25 rfl (by rw [Cw_size]; exact info25) ?_)
    refine (c24 now id V f w2 H2.out hl).mono ?_
    rintro e w3 ⟨hfind, hb3⟩
    have hs3 := hb3.size
    have K0 := Lib.hid (K0.out.below hb3 (by omega))
    have K1 := Lib.hid (K1.out.below hb3 (by omega))
    have H3 := Lib.hid (H2.out.below rfl hb3)
    have Hb3 := Lib.hid (Hb2.out.trans (hb3.mono (by omega)))
    clear hb3 H2 Hb2
    rcases hfind with ⟨i, k, hi, hk, hid, rfl⟩ | ⟨hno, rfl⟩
    · have Hid' := Lib.hid hid
      clear hid
      have hi0 : (0 : Int) ≤ i := by omega
      have hi1 : (i : Int) < 96 := by omega
      have hkb : (k : Int) ≤ 500 := by have := len_le_cnt (f, []) hi; unfold cntM at this; simp at this; omega
      go_wp2_with (refine wpList_load_row rfl 25 (.tmp 2) rfl B rfl 25 (Cw now V) (0, 0) _ K0.out Try.underlying25 rfl (by rw [Cw_size]; exact info25) ?_)
      refine (c22 now V f w3 H3.out hl).mono ?_
      rintro e w5 ⟨V1, rfl, ho5, hb5⟩
      have hs5 := hb5.size
      have K0 := Lib.hid (K0.out.below hb5 (by omega))
      have K1 := Lib.hid (K1.out.below hb5 (by omega))
      have O5 := Lib.hid ho5
      have Hb5 := Lib.hid (Hb3.out.trans (hb5.mono (by omega)))
      have One := Lib.hid ((ho5.at (Nat.le_refl _)).one)
      obtain ⟨w6, hW6⟩ : ∃ w6, w5.setRow B (Cw now V1) = w6 := ⟨_, rfl⟩
      have k6 : Blk w6 B now V1 := by rw [← hW6]; exact setRow_heap _ _ _ _ _ _ K0.out
      have k61 : Blk w6 (B + 1) 0 nilV := by rw [← hW6]; exact (setRow_other _ _ _ _ (by omega)).trans K1.out
      have o6 : Own w6 (B + 2) 96 V1 f := by
        rw [← hW6]
        exact (O5.out.of_same fun i hi g hg => setRow_other _ _ _ _ (fun e => O5.out.ne_blk K0.out i hi (by rw [hg, e]))).base (by omega)
      have hb6 : Below B w w6 := by rw [← hW6]; exact below_setRow Hb5.out (Nat.le_refl _) _
      have hs6 : B + 2 ≤ w6.heap.size := by rw [← hW6]; simp; omega
      obtain ⟨ai, ci, hvi⟩ := (o6.each i hi).shape
      have q1 : (w5.setRow B (Cw now V1)).cell? ⟨B, 1 + i, none⟩ = some (.slice ai (f i).length ci) := by rw [hW6, Nat.add_comm, cell_of_blk k6, Cw_get _ _ i hi, hvi]
      have HW6 := Lib.hid hW6
      have K6 := Lib.hid k6
      have K61 := Lib.hid k61
      have O6 := Lib.hid o6
      have Hb6 := Lib.hid hb6
      have Hvi := Lib.hid hvi
      clear ho5 hb5 Hb3 H3 hW6 k6 k61 o6 hb6 hvi
      go_wp2_with (refine wpList_store_row rfl 25 (.tmp 2) (.tmp 25) rfl B (Cw now V1) rfl rfl 25 (Cw now V) K0.out (by rw [Cw_size]; exact info25) (by rw [Cw_size, Cw_size]) (Cw_one now V1 One.out) ?_)
      rw [HW6.out]
      refine (c19 _ (f i) k w6 (B + 2) (by rw [← Hvi.out]; exact O6.out.each i hi) (hl i hi) hk).mono ?_
      rintro e w7 ⟨v', rfl, hv', hown', hg'⟩
      have hsame : ∀ j, j < 96 → j ≠ i → ∀ x, (V1 j).ownBlock = some x → w7.heap[x]? = w6.heap[x]? := fun j hj hne x hx => hg'.block x ((O6.out.each j hj).lt x hx).2 (fun e => by
        rw [← Hvi.out] at e
        exact O6.out.apart j i hj hi hne x hx e.symm)
      have hblkne : ∀ (cs : Array Value) (x : Nat), w6.heap[x]? = some (.cells cs 25 (0, 0)) → w7.heap[x]? = w6.heap[x]? := fun cs x hx => hg'.block x (Array.getElem?_eq_some_iff.1 hx).1 (fun e => by
        rw [← Hvi.out] at e
        exact (O6.out.each i hi).ne hx (by decide) e.symm)
      have k7 : Blk w7 B now V1 := K6.out.keep (hblkne _ _ K6.out)
      have k71 : Blk w7 (B + 1) 0 nilV := K61.out.keep (hblkne _ _ K61.out)
      have o7 : Own w7 (B + 2) 96 (upd V1 i v') (upd f i ((f i).eraseIdx k)) := O6.out.turn hi hv' hsame (by rw [hown', ← Hvi.out]; exact .inr (.inl rfl))
      have hs7 := hg'.size
      have hb7 : Below B w w7 := Hb6.out.grown hg' (by omega) (fun x hx => by
        rw [← Hvi.out] at hx
        have := ((O6.out.each i hi).lt x hx).1; omega)
      obtain ⟨a7, c7, rfl⟩ : ∃ a c, v' = .slice a ((f i).eraseIdx k).length c := hv'.shape
      have q2 : w7.cell? ⟨B, 1 + i, none⟩ = some (.slice ai (f i).length ci) := by rw [Nat.add_comm, cell_of_blk k7, Cw_get _ _ i hi, Hvi.out]
      have q3 : w7.frozen? ⟨B, 1 + i, none⟩ = false := free_of_blk k7
      have k8 : Blk (w7.setCell ⟨B, 1 + i, none⟩ (.slice a7 ((f i).eraseIdx k).length c7)) B now (upd V1 i (.slice a7 ((f i).eraseIdx k).length c7)) := by
        rw [Nat.add_comm]; exact k7.set hi _
      have k81 : Blk (w7.setCell ⟨B, 1 + i, none⟩ (.slice a7 ((f i).eraseIdx k).length c7)) (B + 1) 0 nilV := k71.keep (Below.heap_setCell _ _ _ _ (by show B + 1 ≠ B; omega))
      have o8 := o7.setCell (p := ⟨B, 1 + i, none⟩) (fun j hj => o7.ne_blk k7 j hj) (.slice a7 ((f i).eraseIdx k).length c7)
      have hb8 := hb7.setCell (p := ⟨B, 1 + i, none⟩) (Nat.le_refl _) (.slice a7 ((f i).eraseIdx k).length c7)
      have K8 := Lib.hid k8
      have K81 := Lib.hid k81
      have O8 := Lib.hid o8
      have Hb8 := Lib.hid hb8
      have One8 := Lib.hid ((o8.at (Nat.le_refl _)).one)
      clear hv' hown' hg' hsame hblkne k7 k71 o7 hb7 k8 k81 o8 hb8 q1
      go_wp2_with (first
        | (refine wpList_load_row rfl 25 (.tmp 2) rfl B rfl 25 (Cw now (upd V1 i (.slice a7 ((f i).eraseIdx k).length c7))) (0, 0) _ K8.out Try.underlying25 rfl (by rw [Cw_size]; exact info25) ?_)
        | (refine wpList_store_row rfl 25 (.tmp 4) (.tmp 37) rfl (B + 1) (Cw now (upd V1 i (.slice a7 ((f i).eraseIdx k).length c7))) rfl rfl 25 (Cw 0 nilV) K81.out (by rw [Cw_size]; exact info25) (by rw [Cw_size, Cw_size]) (Cw_one _ _ One8.out) ?_))
      refine bodyPost_ret (ret25_2 rfl _ _ (B + 1) _ _ rfl (setRow_heap _ _ _ _ _ _ K81.out)) rfl ?_
      refine ⟨by rw [hB]; exact below_setRow Hb8.out (by omega) _, .inr ⟨HR.out, i, k, _, hi, hk, Hid'.out, rfl, ?_⟩⟩
      rw [hB]
      refine (O8.out.of_same fun j hj g hg => setRow_other _ _ _ _ (fun e => ?_)).base (by omega)
      exact O8.out.ne_blk K81.out j hj (by rw [hg, e])
    · have Hno := Lib.hid hno
      clear hno
      go_wp2_with (refine wpList_store_row rfl 25 (.tmp 4) (.tmp 23) rfl (B + 1) (Cw 0 nilV) rfl rfl 25 (Cw 0 nilV) K1.out (by rw [Cw_size]; exact info25) (by rw [Cw_size]) (Cw_one 0 nilV (fun _ _ => rfl)) ?_)
      refine bodyPost_ret (ret25_2 rfl _ _ (B + 1) 0 nilV rfl (setRow_heap _ _ _ _ _ _ K1.out)) rfl ?_
      exact ⟨by rw [hB]; exact below_setRow Hb3.out (by omega) _, .inl ⟨fun h => by obtain ⟨_, i, hi, d, hd, e⟩ := h; exact Hno.out i hi d hd e, 7, by decide, rfl⟩⟩
  · have hq : (r != 0) = true := by rw [bne_iff_ne]; exact hr0
    have hno : ¬ (Right now f ∧ hasId f id) := fun h => hr0 (Hr.out.2 h.1)
    have Hno := Lib.hid hno
    have Hr0 := Lib.hid hr0
    clear hr0 hno
    go_wp2_with (refine wpList_store_row rfl 25 (.tmp 4) (.tmp 13) rfl (B + 1) (Cw 0 nilV) rfl rfl 25 (Cw 0 nilV) K1.out (by rw [Cw_size]; exact info25) (by rw [Cw_size]) (Cw_one 0 nilV (fun _ _ => rfl)) ?_)
    refine bodyPost_ret (ret25_2 rfl _ _ (B + 1) 0 nilV rfl (setRow_heap _ _ _ _ _ _ K1.out)) rfl ?_
    exact ⟨by rw [hB]; exact below_setRow Hb2.out (by omega) _, .inl ⟨Hno.out, r, Hr0.out, rfl⟩⟩
end Go.Proofs.Ytefikkmhdjlccaa
