/- wheelLives. -/
import Derived.Test.YtefikkmhdjlccaaR1
namespace Go.Proofs.Ytefikkmhdjlccaa
open Go.RowKit

theorem WheelAt.zero (w : World) : WheelAt w nilV (fun _ => []) := fun _ _ => DuesAt.nil w
theorem set_len {f : Ls} (h : (allM f).length ≤ 500) : ∀ i, i < 96 → (f i).length ≤ 8796093022208 := fun i hi => by
  have := len_le_cnt (f, []) hi
  unfold cntM at this
  simp at this
  omega

set_option maxHeartbeats 4000000 in
theorem c8 (w : World) : Calls Try.prog 8 #[] w fun e w' => e = .returned (.bool true) ∧ Below w.heap.size w w' := by
  generalize hB : w.heap.size = B at *
  have hbu : Try.prog.built 25 [(0, .int .i64 14)] = some (Cw 14 nilV) := by kernel_rfl
  have zv := zv25
  go_enter Try.func8, Try.ntmps8
  go_wp2_with fail
  refine (c12 14 7 17 nilV (fun _ => []) w (WheelAt.zero w) (fun _ _ => by simp) (fun _ _ d hd => by simp at hd)).mono ?_
  rintro e w1 ⟨hb1, ⟨hno, _⟩ | ⟨_, V1, rfl, ho1⟩⟩
  · exact absurd lives_set hno
  rw [hB] at hb1 ho1
  have hs1 := hb1.size
  rw [hB] at hs1
  obtain ⟨w2, hW2⟩ : ∃ w2, w1.alloc (.cells (Cw 14 V1) 25) = w2 := ⟨_, rfl⟩
  have ho2 : Own w2 B 96 V1 (setM 14 (fun _ => []) 7 17) := by rw [← hW2]; exact ho1.alloc _
  have k2 : Blk w2 w1.heap.size 14 V1 := by rw [← hW2]; exact Blk.new _ _ _
  have k2' : (w1.alloc (.cells (Cw 14 V1) 25)).heap[w1.heap.size]? = some (.cells (Cw 14 V1) 25 (0, 0)) := Blk.new _ _ _
  have hb2 : Below B w w2 := by rw [← hW2]; exact hb1.alloc hs1 _
  have hs2 : w2.heap.size = w1.heap.size + 1 := by rw [← hW2]; simp
  have one1 := (ho1.at (Nat.le_refl _)).one
  have HW2 := Lib.hid hW2
  have O2 := Lib.hid ho2
  have K2 := Lib.hid k2
  have K2' := Lib.hid k2'
  have Hb2 := Lib.hid hb2
  have One := Lib.hid one1
  have Hs2 := Lib.hid hs2
  clear hb1 ho1 hW2 ho2 k2 k2' hb2 one1 hs2
  go_wp2_with (first
    | (refine wpList_store_row rfl 25 (.tmp 1) (.tmp 8) rfl w1.heap.size (Cw 14 V1) rfl rfl 25 (Cw 0 nilV) (heap_alloc_new _ _) (by rw [Cw_size]; exact info25) (by rw [Cw_size, Cw_size]) (Cw_one _ _ One.out) ?_; rw [World.setRow_alloc_new])
    | (refine wpList_load_row rfl 25 (.tmp 1) rfl w1.heap.size rfl 25 (Cw 14 V1) (0, 0) _ K2'.out Try.underlying25 rfl (by rw [Cw_size]; exact info25) ?_))
  rw [HW2.out]
  have hf1 := lives_set.set
  refine (c7 14 5 V1 (setM 14 (fun _ => []) 7 17) w2 (O2.out.at (Nat.le_refl _)) (set_len hf1.few) (fun i hi => ok_of_mem (P := fun d => (Lit.int .i64 d.id).wf = true) (fun _ _ d hd => by simp at hd) (by decide) i hi)).mono ?_
  rintro e w3 ⟨hb3, ⟨hno, _⟩ | ⟨_, V3, rfl, ho3⟩⟩
  · exact absurd lives_tick hno
  have hs3 := hb3.size
  have hs2l : w1.heap.size + 1 ≤ w2.heap.size := by rw [Hs2.out]; omega
  have h96 : OwnD w3 w2.heap.size (V3 96) [⟨7, 17⟩] := by
    have := ho3.each 96 (by omega)
    rw [slots_96] at this
    have e : (tickM 14 (setM 14 (fun _ => []) 7 17) (Int.toNat 5)).2 = [⟨7, 17⟩] := lives_out
    rwa [e] at this
  obtain ⟨a, c, hv⟩ := h96.shape
  have hk3 : Blk w3 w1.heap.size 14 V1 := K2.out.below hb3 (by omega)
  have one3 := ((ho3.less (M := 96) (by omega)).at (Nat.le_refl _)).one
  have hc3 : (w3.setRow w1.heap.size (Cw 19 V3)).cell? ⟨w1.heap.size, 0, none⟩ = some (.int .i64 19) := by
    rw [cell_of_blk (setRow_heap _ _ _ _ _ _ hk3), Cw_now]
  have hD : DuesAt ((w3.setRow w1.heap.size (Cw 19 V3)).alloc (.cells #[.int .i64 7, .int .i64 17] 33)) (V3 96) [⟨7, 17⟩] := by
    have h1 : OwnD (w3.setRow w1.heap.size (Cw 19 V3)) w2.heap.size (V3 96) [⟨7, 17⟩] := h96.of_same (fun k hk => setRow_other _ _ _ _ (fun e => by
      have := (h96.lt k hk).1; omega))
    exact (h1.at).below rfl (Below.of_alloc _ _)
  rw [hv] at hD ⊢
  have hD2 : DuesAt ((w3.setRow w1.heap.size (Cw 19 V3)).alloc (.cells #[.int .i64 7, .int .i64 17] 33)) (.slice (some ⟨w3.heap.size, 0, none⟩) 1 1) [⟨7, 17⟩] := by
    refine ⟨_, 1, rfl, Nat.le_refl _, (fun h => by cases h), fun _ => ⟨w3.heap.size, 0, rfl, fun i hi => ?_⟩⟩
    obtain rfl : i = 0 := by simpa using hi
    have hb := heap_alloc_new (w3.setRow w1.heap.size (Cw 19 V3)) (.cells #[.int .i64 7, .int .i64 17] 33)
    rw [setRow_size] at hb
    exact ⟨by rw [cell_of_blk hb]; rfl, by rw [cell_of_blk hb]; rfl⟩
  have hb4 : Below B w ((w3.setRow w1.heap.size (Cw 19 V3)).alloc (.cells #[.int .i64 7, .int .i64 17] 33)) :=
    (below_setRow (Hb2.out.trans (hb3.mono (by omega))) (by omega) _).alloc (by simp; omega) _
  have HD := Lib.hid hD
  have HD2 := Lib.hid hD2
  have Hb4 := Lib.hid hb4
  have K3 := Lib.hid hk3
  have One3 := Lib.hid one3
  clear hD hD2 hb4 hk3 one3 hv h96 hb3 ho3
  go_wp2_with (refine wpList_store_row rfl 25 (.tmp 1) (.tmp 13) rfl w1.heap.size (Cw 19 V3) rfl rfl 25 (Cw 14 V1) K3.out (by rw [Cw_size]; exact info25) (by rw [Cw_size, Cw_size]) (Cw_one _ _ One3.out) ?_)
  refine (c10 _ _ [⟨7, 17⟩] _ HD.out HD2.out (by simp)).mono ?_
  rintro e w5 ⟨rfl, n5, rfl⟩
  go_wp2_with fail
  go_ret
  exact ⟨rfl, Hb4.out.drewN' n5⟩
end Go.Proofs.Ytefikkmhdjlccaa
