/- prefixLives. -/
import Derived.Test.YtoladbjgfbnhoaaP14
namespace Go.Proofs.Ytoladbjgfbnhoaa
open Go.RowKit

set_option maxHeartbeats 400000 in
theorem c8 (w : World) : Calls Try.prog 8 #[] w fun e w' => e = .returned (.bool true) ∧ Below w.heap.size w w' := by
  obtain ⟨M1, M2, t, h1, h2, h3, h4, h5, h6, h7⟩ := lives_model
  have hp1 : ∀ wx, Calls Try.prog 5 #[.agg #[.slice none 0 0], .agg #[.int .u32 167772160, .int .i64 8], .int .i64 1] wx fun e w' => Below wx.heap.size wx w' ∧ ∃ sa sc, e = .returned (.tuple #[.agg #[.slice sa 9 sc], .int .i64 0]) ∧ OwnN w' wx.heap.size (.slice sa 9 sc) M1 := fun wx =>
    (c5 (.slice none 0 0) [] 167772160 ((8 : Nat) : Int) 1 wx ⟨none, 0, rfl, Nat.le_refl _, fun _ => rfl, fun h => absurd rfl h⟩ (Nat.zero_le _) (by omega) (by omega)).mono fun e w' h => h.some_of h1 h6
  have hp2 : ∀ wx sa sc, NodesAt wx (.slice sa 9 sc) M1 → Calls Try.prog 5 #[.agg #[.slice sa 9 sc], .agg #[.int .u32 167837696, .int .i64 16], .int .i64 2] wx fun e w' => Below wx.heap.size wx w' ∧ ∃ sa sc, e = .returned (.tuple #[.agg #[.slice sa 17 sc], .int .i64 0]) ∧ OwnN w' wx.heap.size (.slice sa 17 sc) M2 := fun wx sa sc hN =>
    (c5 (.slice sa 9 sc) M1 167837696 ((16 : Nat) : Int) 2 wx hN (by omega) (by omega) (by omega)).mono fun e w' h => h.some_of h2 h7
  have hf1 : ∀ wx sa sc, NodesAt wx (.slice sa 17 sc) M2 → Calls Try.prog 14 #[.agg #[.slice sa 17 sc], .int .u32 167838211] wx (FoundEnd wx 16 2) := fun wx sa sc hN => c14 _ M2 t 167838211 2 16 wx hN (by omega) (by omega) (by omega) h3 h4
  have hf2 : ∀ wx sa sc, NodesAt wx (.slice sa 17 sc) M2 → Calls Try.prog 14 #[.agg #[.slice sa 17 sc], .int .u32 167903747] wx (FoundEnd wx 8 1) := fun wx sa sc hN => c14 _ M2 t 167903747 1 8 wx hN (by omega) (by omega) (by omega) h3 h5
  have Hp1 := Lib.hid hp1
  have Hp2 := Lib.hid hp2
  have Hf1 := Lib.hid hf1
  have Hf2 := Lib.hid hf2
  clear hp1 hp2 hf1 hf2 h1 h2 h3 h4 h5 h6 h7
  generalize hB : w.heap.size = B at *
  go_enter Try.func8, Try.ntmps8
  go_wp2_with fail
  refine (Hp1.out _).mono ?_
  rintro e w1 ⟨hb1, a1, q1, rfl, hN1⟩
  have hs1 := hb1.size
  rw [hB] at hb1 hs1
  have HN1 := Lib.hid ((NodesAt.of_own hN1).below rfl (Below.of_alloc w1 (.cells #[.slice a1 9 q1] 24)))
  have Hb1 := Lib.hid (hb1.alloc (by omega) (.cells #[.slice a1 9 q1] 24))
  clear hb1 hN1
  go_wp2_with fail
  refine (Hp2.out _ a1 q1 HN1.out).mono ?_
  rintro e w2 ⟨hb2, a2, q2, rfl, hN2⟩
  have hs2 := hb2.size
  have e1 := (hb2.block w1.heap.size (by simp)).trans (heap_alloc_new w1 _)
  have k1 := cell_of_blk (o := 0) e1
  have k2 := free_of_blk (o := 0) e1
  have HE1 := Lib.hid (heap_setCell_cells (o := 0) (.slice a2 17 q2) e1)
  have Hb2 := Lib.hid ((Hb1.out.trans (hb2.mono (by simp; omega))).setCell (p := ⟨w1.heap.size, 0, none⟩) (by simp; omega) (.slice a2 17 q2))
  have HN2 := Lib.hid (NodesAt.of_own (hN2.setCell_other (a := ⟨w1.heap.size, 0, none⟩) (fun e => by have := (hN2.lt _ e).1; simp at this; omega) (.slice a2 17 q2)))
  simp only [World.size_alloc] at hs2
  clear hb2 hN2 e1
  go_wp2_with fail
  clear k1 k2
  refine (Hf1.out _ a2 q2 HN2.out).mono ?_
  rintro e w3 ⟨hb3, z3, rfl⟩
  have hs3 := hb3.size
  have e2 := (hb3.block w1.heap.size (by simp; omega)).trans HE1.out
  have e3 := (Below.heap_alloc w3 (.cells #[.int .u32 z3, .int .i64 (16 : Int)] 27) w1.heap.size (by simp at hs3; omega)).trans e2
  have k1 := cell_of_blk (o := 0) e3
  have HE2 := Lib.hid e3
  have Hb3 := Lib.hid ((Hb2.out.trans (hb3.mono (by simp; omega))).alloc (by simp at hs3; omega) (.cells #[.int .u32 z3, .int .i64 (16 : Int)] 27))
  have HN3 := Lib.hid ((HN2.out.below rfl hb3).below rfl (Below.of_alloc w3 (.cells #[.int .u32 z3, .int .i64 (16 : Int)] 27)))
  simp only [World.size_setCell] at hs3
  clear hb3 e2 e3
  go_wp2_with fail
  clear k1
  refine (Hf2.out _ a2 q2 HN3.out).mono ?_
  rintro e w4 ⟨hb4, z4, rfl⟩
  have hs4 := hb4.size
  simp only [World.size_alloc] at hs4
  have e2 := (hb4.block w1.heap.size (by simp; omega)).trans HE2.out
  have e3 := (Below.heap_alloc w4 (.cells #[.int .u32 z4, .int .i64 (8 : Int)] 27) w1.heap.size (by omega)).trans e2
  have k1 := cell_of_blk (o := 0) e3
  have e4 := (hb4.block w3.heap.size (by simp)).trans (heap_alloc_new w3 _)
  have e5 := (Below.heap_alloc w4 (.cells #[.int .u32 z4, .int .i64 (8 : Int)] 27) w3.heap.size (by omega)).trans e4
  have k2 := cell_of_blk (o := 1) e5
  have Hb4 := Lib.hid ((Hb3.out.trans (hb4.mono (by simp; omega))).alloc (by omega) (.cells #[.int .u32 z4, .int .i64 (8 : Int)] 27))
  clear hb4 e2 e3 e4 e5
  go_wp2_with fail
  go_ret
  exact ⟨rfl, Hb4.out⟩
end Go.Proofs.Ytoladbjgfbnhoaa
