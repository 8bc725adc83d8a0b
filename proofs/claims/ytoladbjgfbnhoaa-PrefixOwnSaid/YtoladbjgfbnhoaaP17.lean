/- PrefixOwn: the walk. -/
import Derived.Test.YtoladbjgfbnhoaaP16
namespace Go.Proofs.Ytoladbjgfbnhoaa
open Go.RowKit

set_option maxHeartbeats 2000000 in
theorem c3 (sv : Value) (ns : List Nd) (a l : Int) (w : World) (h : NodesAt w sv ns) (hl : ns.length ≤ 4398046511104) (ha : 0 ≤ a) (ha2 : a < 4294967296) :
    Calls Try.prog 3 #[.agg #[sv], .agg #[.int .u32 a, .int .i64 l]] w fun e w' => e = .returned (.bool true) ∧ Below w.heap.size w w' := by
  obtain ⟨sa, sc, rfl⟩ : ∃ sa sc, sv = .slice sa ns.length sc := by obtain ⟨x, y, h, _⟩ := h; exact ⟨x, y, h⟩
  generalize hB : w.heap.size = B at *
  have hW : ∃ w1, w1 = (w.alloc (.cells #[.slice sa ns.length sc] 24)).alloc (.cells #[.int .u32 a, .int .i64 l] 27) := ⟨_, rfl⟩
  obtain ⟨w1, hW⟩ := hW
  have hs1 : w1.heap.size = B + 2 := by rw [hW]; simp [hB]
  have hb1 : Below B w w1 := by rw [hW]; exact (((Below.refl B w).alloc (by omega) _).alloc (by simp; omega) _)
  have k0 : w1.heap[B]? = some (.cells #[.slice sa ns.length sc] 24 (0, 0)) := by
    rw [hW, Below.heap_alloc _ _ _ (by simp; omega), ← hB]; exact heap_alloc_new w _
  have k1 : w1.heap[B + 1]? = some (.cells #[.int .u32 a, .int .i64 l] 27 (0, 0)) := by
    have := heap_alloc_new (w.alloc (.cells #[.slice sa ns.length sc] 24)) (.cells #[.int .u32 a, .int .i64 l] 27)
    rw [hW]
    simpa [hB] using this
  have h1 := h.below hB.symm hb1
  have Hb1 := Lib.hid hb1
  have K0 := Lib.hid k0
  have K1 := Lib.hid k1
  have H1 := Lib.hid h1
  have HW := Lib.hid hW
  have Hs1 := Lib.hid hs1
  have hs1l : B + 2 ≤ w1.heap.size := by omega
  clear hb1 k0 k1 h1 hW hs1 h
  go_enter Try.func3, Try.ntmps3
  go_wp2_with fail
  rw [← HW.out]
  refine (c4 _ ns _ H1.out hl).mono ?_
  rintro e w2 ⟨v2, rfl, hN2, hb2⟩
  obtain ⟨a2, q2, rfl⟩ : ∃ x y, v2 = .slice x ns.length y := by obtain ⟨x, y, h, _⟩ := hN2; exact ⟨x, y, h⟩
  rw [Hs1.out] at hb2
  have hs2 := hb2.size
  have K0 := Lib.hid ((hb2.block B (by omega)).trans K0.out)
  have K1 := Lib.hid ((hb2.block (B + 1) (by omega)).trans K1.out)
  have N2 := Lib.hid hN2
  have N1 := Lib.hid (H1.out.below Hs1.out.symm hb2)
  have Hb2 := Lib.hid (Hb1.out.trans (hb2.mono (by omega)))
  have M1 := N1
  have M2 := N2
  clear hb2 hN2 H1 Hb1
  have k0 := cell_of_blk (o := 0) K0.out
  have k1 := cell_of_blk (o := 0) K1.out
  have k2 := cell_of_blk (o := 1) K1.out
  go_wp2_with fail
  clear k0 k1 k2
  refine (c5 _ ns a l 5 _ N1.out hl ha ha2).mono ?_
  intro e w3 h3
  obtain ⟨hb3, a3, n3, q3, r3, rfl, hW3⟩ := h3.wn
  have hs3 := hb3.size
  have K0 := Lib.hid ((Below.heap_alloc w3 (.cells #[.slice a3 n3 q3] 24) B (by omega)).trans ((hb3.block B (by omega)).trans K0.out))
  have K1 := Lib.hid ((Below.heap_alloc w3 (.cells #[.slice a3 n3 q3] 24) (B + 1) (by omega)).trans ((hb3.block (B + 1) (by omega)).trans K1.out))
  have hb3' := hb3.alloc hs3 (.cells #[.slice a3 n3 q3] 24)
  have N1 := Lib.hid (N1.out.below rfl hb3')
  have N2 := Lib.hid (N2.out.below rfl hb3')
  have W3 := Lib.hid (hW3.pres (Pres.alloc _ (.cells #[.slice a3 n3 q3] 24)))
  have Hb3 := Lib.hid (Hb2.out.trans (hb3'.mono (by omega)))
  have K3 := Lib.hid (heap_alloc_new w3 (.cells #[.slice a3 n3 q3] 24))
  have Hb23 := Lib.hid hb3'
  clear hb3 hb3' hW3 h3 Hb2
  have k0 := cell_of_blk (o := 0) K0.out
  have k1 := cell_of_blk (o := 0) K1.out
  have k2 := cell_of_blk (o := 1) K1.out
  go_wp2_with fail
  clear k0 k1 k2
  refine (c6 _ ns a l _ N1.out hl ha ha2).mono ?_
  intro e w4 h4
  obtain ⟨hb4, a4, n4, q4, r4, rfl, hW4⟩ := h4.wn
  have hs4 := hb4.size
  simp only [World.size_alloc] at hs4
  have K0 := Lib.hid ((Below.heap_alloc w4 (.cells #[.slice a4 n4 q4] 24) B (by omega)).trans ((hb4.block B (by simp; omega)).trans K0.out))
  have K3 := Lib.hid ((Below.heap_alloc w4 (.cells #[.slice a4 n4 q4] 24) w3.heap.size (by omega)).trans ((hb4.block w3.heap.size (by simp)).trans K3.out))
  have K4 := Lib.hid (heap_alloc_new w4 (.cells #[.slice a4 n4 q4] 24))
  have hb4' := hb4.alloc (by simp; omega) (.cells #[.slice a4 n4 q4] 24)
  have N1 := Lib.hid (N1.out.below rfl hb4')
  have N2 := Lib.hid (N2.out.below rfl hb4')
  have W4 := Lib.hid (hW4.pres (Pres.alloc _ (.cells #[.slice a4 n4 q4] 24)))
  have W3 := Lib.hid (W3.out.pres (Pres.of_below hb4'))
  have Hb4 := Lib.hid (Hb3.out.trans (hb4'.mono (by simp; omega)))
  have Hb24 := Lib.hid (Hb23.out.trans (hb4'.mono (by simp; omega)))
  clear hb4 hb4' hW4 h4 Hb3 Hb23 K1
  have k0 := cell_of_blk (o := 0) K0.out
  go_wp2_with fail
  clear k0
  refine (c7 _ _ ns _ N1.out N2.out hl).mono ?_
  rintro e w5 ⟨rfl, hb5⟩
  have hs5 := hb5.size
  simp only [World.size_alloc] at hs5
  have K0 := Lib.hid ((hb5.block B (by simp; omega)).trans K0.out)
  have K3 := Lib.hid ((hb5.block w3.heap.size (by simp; omega)).trans K3.out)
  have K4 := Lib.hid ((hb5.block w4.heap.size (by simp)).trans K4.out)
  have N1 := Lib.hid (N1.out.below rfl hb5)
  have N2 := Lib.hid (N2.out.below rfl hb5)
  have W4 := Lib.hid ((W4.out.pres (Pres.of_below hb5)).base (B' := w2.heap.size) (by simp; omega))
  have W3 := Lib.hid (W3.out.pres (Pres.of_below hb5))
  have Hb5 := Lib.hid (Hb4.out.trans (hb5.mono (by simp; omega)))
  have Hb25 := Lib.hid (Hb24.out.trans (hb5.mono (by simp; omega)))
  clear hb5 Hb4 Hb24
  have k3 := cell_of_blk (o := 0) K3.out
  have k4 := cell_of_blk (o := 0) K4.out
  go_wp2_with fail
  clear k3 k4 K3 K4
  obtain ⟨Br, HBr⟩ : ∃ Br, Hid (Br = w2.heap.size) := ⟨_, rfl⟩
  rw [← HBr.out] at W3 W4 Hb25
  have hBr : B + 2 ≤ Br := by have := HBr.out; omega
  have hBr5 : Br ≤ w5.heap.size := by have := HBr.out; omega
  clear hs2 hs3 hs4 hs1l
  go_loopw [38] (fun i wr => ∃ k : Nat, k ≤ 2 ∧ i = .int .i64 k ∧ Pres w5 wr ∧ Below Br w5 wr) (fun i _ => 2 - (intOf i).toNat)
  case atStart => exact ⟨0, by omega, rfl, Pres.refl _, Below.refl _ _⟩
  case round =>
    obtain ⟨k, hk, rfl, hp, hbel⟩ := hrel
    by_cases hlt : k < 2
    · have hX : ∃ a n c, Hid (WN w5 Br (.slice a n c)) ∧ Hid ((k = 0 → a = a3 ∧ n = n3 ∧ c = q3) ∧ (k = 1 → a = a4 ∧ n = n4 ∧ c = q4)) := by
        by_cases e : k = 0
        · exact ⟨a3, n3, q3, W3, ⟨fun _ => ⟨rfl, rfl, rfl⟩, fun h => by omega⟩⟩
        · exact ⟨a4, n4, q4, W4, ⟨fun h => by omega, fun _ => ⟨rfl, rfl, rfl⟩⟩⟩
      obtain ⟨ax, nx, cx, hWX, hX⟩ := hX
      obtain ⟨hnx, hcx⟩ := hWX.out.le
      unfold maxLen at hcx
      have hidx : ∀ w, (Instr.index 37 (.agg #[.slice a3 n3 q3, .slice a4 n4 q4]) (.int .i64 (k : Int))).run Try.prog w = .ok (.slice ax nx cx) w := fun w => by
        rcases (show k = 0 ∨ k = 1 by omega) with e | e
        · obtain ⟨rfl, rfl, rfl⟩ := hX.out.1 e
          subst e
          exact index37_0 _ _ _ _ _ _ w
        · obtain ⟨rfl, rfl, rfl⟩ := hX.out.2 e
          subst e
          exact index37_1 _ _ _ _ _ _ w
      have Hp := Lib.hid hp
      clear hp
      go_wp2_with fail
      clear hidx hX
      go_loopw [47] (fun i wr3 => ∃ m : Nat, m ≤ cx ∧ i = .int .i64 m ∧ Pres w5 wr3 ∧ Below Br w5 wr3) (fun i _ => cx - (intOf i).toNat)
      case atStart => exact ⟨0, by omega, rfl, Hp.out, hbel⟩
      case round =>
        clear Hp hbel
        obtain ⟨m, hm, rfl, hp, hbel⟩ := hrel
        by_cases hmn : m < cx
        · obtain ⟨g, x, rfl, hBg, q1, q2, hset⟩ := (hWX.out.pres hp).elem hmn
          have Hset := Lib.hid hset
          have Hp := Lib.hid hp
          clear hset hp
          go_wp2_with fail
          go_roundw
          case rel => exact ⟨m + 1, by omega, by go_num, Hp.out.trans (Hset.out _), hbel.setCell (by exact hBg) _⟩
          case measure => simp [intOf]; omega
        · have Hp := Lib.hid hp
          clear hp
          go_wp2_with fail
          go_roundw
          case rel => exact ⟨k + 1, by omega, by go_num, Hp.out, hbel⟩
          case measure => simp [intOf]; omega
    · have hbw := Hb25.out.trans hbel
      have A1 := Lib.hid (M1.out.below HBr.out hbw)
      have A2 := Lib.hid (M2.out.below HBr.out hbw)
      have K0 := Lib.hid ((hbel.block B (by omega)).trans K0.out)
      have Hb6 := Lib.hid (Hb5.out.trans (hbel.mono (by omega)))
      have hs6 := hbel.size
      clear hbw hbel hp
      go_wp2_with fail
      refine (c8 _).mono ?_
      rintro e w6 ⟨rfl, hb7⟩
      have A1 := Lib.hid (A1.out.below rfl hb7)
      have A2 := Lib.hid (A2.out.below rfl hb7)
      have K0 := Lib.hid ((hb7.block B (by omega)).trans K0.out)
      have Hb7 := Lib.hid (Hb6.out.trans (hb7.mono (by omega)))
      have hs7 := hb7.size
      have k0 := cell_of_blk (o := 0) K0.out
      clear hb7 Hb6
      go_wp2_with fail
      clear k0
      refine (c7 _ _ ns _ A1.out A2.out hl).mono ?_
      rintro e w7 ⟨rfl, hb8⟩
      have Hb8 := Lib.hid (Hb7.out.trans (hb8.mono (by omega)))
      clear hb8
      go_wp2_with fail
      go_ret
      exact ⟨rfl, Hb8.out⟩
end Go.Proofs.Ytoladbjgfbnhoaa
