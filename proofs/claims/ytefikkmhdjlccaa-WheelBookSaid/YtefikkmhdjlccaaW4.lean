/- Clone, own. -/
import Derived.Test.YtefikkmhdjlccaaW3
namespace Go.Proofs.Ytefikkmhdjlccaa
open Go.RowKit

set_option maxHeartbeats 400000 in
theorem c11 (v : Value) (ns : List Du) (w : World) (h : DuesAt w v ns) (hl : ns.length ≤ 8796093022208) :
    Calls Try.prog 11 #[v] w fun e w' => ∃ v', e = .returned v' ∧ OwnD w' w.heap.size v' ns ∧ Below w.heap.size w w' := by
  obtain ⟨a, cap, rfl, hc, hn, h3⟩ := id h
  have heq := Lib.run_eql_slice_nil (P := Try.prog) w 22 33 a ns.length cap 0 0 Try.underlying22
  have H := Lib.hid h
  clear h h3
  cases a with
  | none =>
    obtain rfl := hn rfl
    obtain rfl : ns = [] := List.eq_nil_of_length_eq_zero (by omega)
    simp only [List.length_nil, Option.isNone_none] at heq
    go_enter Try.func11, Try.ntmps11
    go_wp2_with fail
    go_ret
    exact ⟨_, rfl, OwnD.nil _ _, Below.refl _ _⟩
  | some ad =>
    have hsrc := Lib.hid (H.out.src)
    clear hn
    go_enter Try.func11, Try.ntmps11
    have hown : OwnsT (w.alloc (.cells #[] 33)) w.heap.size 33 2 DuT (.slice (some ⟨w.heap.size, 0, none⟩) 0 0) 0 [] := by
      have := OwnsT.of_block (w := w.alloc (.cells #[] 33)) (base := w.heap.size) (e := 33) (size := 2) (T := DuT) (g := w.heap.size) (cap := 0) (n := 0) (cur := #[]) (Nat.le_refl _) (heap_alloc_new _ _) (Nat.le_refl _) (by simp [maxLen]) (by simp) (by intro j u hu; simp at hu)
      simpa using this
    go_wp2_with (at_builtin; refine wpList_append_ownT _ rfl _ _ 22 rfl w.heap.size 33 (.agg #[.int .i64 0, .int .i64 0]) 2 16 DuT Try.underlying22 info33 rfl (by decide) DuT_zero _ 0 [] rfl hown (some ad) ns.length cap (duCells ns) rfl ?c1 ?c2 ?c3 ?c4 ?c5 ?c6 ?c7 ?c8 ?_)
    case c1 => exact duCells_length ns
    case c2 => intro h; cases h
    case c3 =>
      intro a ha j u hu
      have := hsrc.out a ha j u hu
      rw [← this]
      exact World.cell?_alloc_lt _ _ _ (World.block_lt_of_cell? _ _ this)
    case c4 => exact one_cells ns
    case c5 => exact DuT_cells ns _
    case c6 => unfold maxLen; omega
    case c7 => omega
    case c8 => simp
    intro v' w1 hown' hgrow _ _
    go_wp2_with fail
    go_ret
    refine ⟨_, rfl, by simpa [OwnD] using hown', ?_⟩
    exact ((Below.refl w.heap.size w).alloc (Nat.le_refl _) _).grown hgrow (by simp) (by intro k hk; simp [Value.ownBlock] at hk; omega)

set_option maxHeartbeats 1000000 in
theorem c22 (now : Int) (V : Nat → Value) (f : Ls) (w : World) (h : WheelAt w V f) (hl : ∀ i, i < 96 → (f i).length ≤ 8796093022208) :
    Calls Try.prog 22 #[.agg (Cw now V)] w fun e w' => ∃ V', e = .returned (.agg (Cw now V')) ∧ Own w' w.heap.size 96 V' f ∧ Below w.heap.size w w' := by
  generalize hB : w.heap.size = B at *
  have hW : ∃ w1, w1 = (w.alloc (.cells (Cw now V) 25)).alloc (.cells (Cw 0 nilV) 25) := ⟨_, rfl⟩
  obtain ⟨w1, hW⟩ := hW
  have hs1 : w1.heap.size = B + 2 := by rw [hW]; simp [hB]
  have hb1 : Below B w w1 := by rw [hW]; exact (((Below.refl B w).alloc (by omega) _).alloc (by simp; omega) _)
  have k0 : Blk w1 B now V := by
    rw [hW, Blk, Below.heap_alloc _ _ _ (by simp; omega), ← hB]; exact heap_alloc_new w _
  have k1 : Blk w1 (B + 1) 0 nilV := by
    have := heap_alloc_new (w.alloc (.cells (Cw now V) 25)) (.cells (Cw 0 nilV) 25)
    rw [hW, Blk]
    simpa [hB] using this
  have Hb1 := Lib.hid hb1
  have K0 := Lib.hid k0
  have K1 := Lib.hid k1
  have H0 := Lib.hid h
  have HW := Lib.hid hW
  have Hs1 := Lib.hid hs1
  have hs1l : B + 2 ≤ w1.heap.size := by omega
  clear hb1 k0 k1 hW hs1 h
  have zv := zv25
  go_enter Try.func22, Try.ntmps22
  go_wp2_with fail
  rw [← HW.out]
  go_loopw [4] (fun i wr => ∃ k : Nat, k ≤ 96 ∧ i = .int .i64 k ∧ ∃ V', Blk wr B now V' ∧ Blk wr (B + 1) 0 nilV ∧ (∀ i, k ≤ i → V' i = V i) ∧ Own wr (B + 2) k V' f ∧ Below B w wr ∧ B + 2 ≤ wr.heap.size) (fun i _ => 96 - (intOf i).toNat)
  case atStart => exact ⟨0, by omega, rfl, V, K0.out, K1.out, fun _ _ => rfl, ⟨fun i hi => by omega, fun i j hi => by omega⟩, Hb1.out, hs1l⟩
  case round =>
    clear K0 K1
    obtain ⟨k, hk, rfl, V', K0, K1, hV, hown, hbel, hsz⟩ := hrel
    by_cases hlt : k < 96
    · have hD := (H0.out k hlt).below hB.symm hbel
      obtain ⟨a, c, hv, _⟩ := id hD
      have hc1 : wr.cell? ⟨B, 1 + k, none⟩ = some (.slice a (f k).length c) := by
        rw [Nat.add_comm, cell_of_blk K0, Cw_get _ _ k hlt, hV k (Nat.le_refl _), hv]
      have k0 := Lib.hid K0
      have k1 := Lib.hid K1
      have Hv := Lib.hid hV
      have Hown := Lib.hid hown
      have hD := Lib.hid (hv ▸ hD)
      have hlk := hl k hlt
      have hg0 : (k : Int) < 96 := by omega
      clear K0 K1 hV hown hv
      go_wp2_with fail
      refine (c11 _ _ _ hD.out hlk).mono ?_
      rintro e w2 ⟨v', rfl, ho, hb2⟩
      have hs2 := hb2.size
      have hf1 : w2.frozen? ⟨B, 1 + k, none⟩ = false := by
        rw [hb2.frozen (by show B < _; omega)]; exact free_of_blk k0.out
      have hc2 : w2.cell? ⟨B, 1 + k, none⟩ = some (.slice a (f k).length c) := by
        rw [hb2.cell (by show B < _; omega)]; exact hc1
      obtain ⟨a', c', rfl⟩ := ho.shape
      clear hc1
      have ho := Lib.hid ho
      have hb2 := Lib.hid hb2
      go_wp2_with fail
      go_roundw
      case rel =>
        have K0' := (k0.out.below hb2.out (by omega)).set hlt (.slice a' (f k).length c')
        have O2 := Hown.out.below hb2.out (Nat.le_refl _)
        have K0w := k0.out.below hb2.out (by omega : B < wr.heap.size)
        rw [show k + 1 = 1 + k from Nat.add_comm _ _] at K0'
        refine ⟨k + 1, by omega, by go_num, _, K0', ?_, fun i hi => ?_, ?_, ?_, ?_⟩
        · exact Blk.keep (k1.out.below hb2.out (by omega)) (Below.heap_setCell _ _ _ _ (by show B + 1 ≠ B; omega))
        · rw [upd_other _ _ _ (by omega)]; exact Hv.out i (by omega)
        · have O3 := O2.push (v := .slice a' (f k).length c') (l := f k) (OwnsT.base_le ho.out (by omega)) (fun i hi g hg e => by
            have := ((Hown.out.each i hi).lt g hg).2
            have := (ho.out.lt g e).1
            omega)
          refine (O3.setCell (p := ⟨B, 1 + k, none⟩) (fun i hi => ?_) _).ext (fun _ _ => rfl) (fun i hi => ?_)
          · exact O3.ne_blk K0w i hi
          · by_cases e : i = k
            · subst e; rw [upd_same]
            · rw [upd_other _ _ _ e]
        · exact (hbel.trans (hb2.out.mono (by omega))).setCell (by show B ≤ B; omega) _
        · show B + 2 ≤ (w2.setCell _ _).heap.size
          simp only [World.size_setCell]; omega
      case measure => simp [intOf]; omega
    · obtain rfl : k = 96 := by omega
      have k0 := Lib.hid K0
      have k1 := Lib.hid K1
      have Hown := Lib.hid hown
      clear K0 K1 hown hV
      go_wp2_with (first
        | (refine wpList_load_row rfl 25 (.tmp 1) rfl B rfl 25 (Cw now V') (0, 0) _ k0.out Try.underlying25 rfl (by rw [Cw_size]; exact info25) ?_)
        | (refine wpList_store_row rfl 25 (.tmp 2) (.tmp 16) rfl (B + 1) (Cw now V') rfl rfl 25 (Cw 0 nilV) k1.out (by rw [Cw_size]; exact info25) (by rw [Cw_size, Cw_size]) (Cw_one now V' (Hown.out.at (Nat.le_refl _)).one) ?_))
      refine bodyPost_ret (ret25_1 rfl _ _ (B + 1) now V' rfl (setRow_heap _ _ _ _ _ _ k1.out)) rfl ?_
      refine ⟨V', rfl, ?_, below_setRow hbel (by omega) _⟩
      refine (Hown.out.of_same fun i hi g hg => setRow_other _ _ _ _ (fun e => ?_)).base (by omega)
      exact Hown.out.ne_blk k1.out i hi (by rw [hg, e])
end Go.Proofs.Ytefikkmhdjlccaa
