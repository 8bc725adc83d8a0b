/- slices.Equal of equal lists; SameWheel of equal wheels. -/
import Derived.Test.YtefikkmhdjlccaaW10
namespace Go.Proofs.Ytefikkmhdjlccaa
open Go.RowKit

theorem eq33 (a b : Int) (w : World) : (Op.equalIn 10000 33 (.agg #[.int .i64 a, .int .i64 b]) (.agg #[.int .i64 a, .int .i64 b])).run Try.prog w = .ok true w := by
  have u3 := Try.underlying3
  have a3 := Try.isAgg3
  have z3 := Try.sizeOf3
  have hS : Try.prog.underlying 33 = some (.struct (Try.prog.fieldsOf 33)) := by kernel_rfl
  have hp : Try.prog.stoodInHeld 33 = false := by kernel_rfl
  rw [show (10000 : Nat) = 9999 + 1 from rfl, run_equalIn_agg w 9999 33 _ _ hS hp]
  simp only [Program.fieldsOf, Try.underlying33]
  go_simp

theorem neq33 (a b : Int) (w : World) : (binOp .neq 33 (.agg #[.int .i64 a, .int .i64 b]) (.agg #[.int .i64 a, .int .i64 b])).run Try.prog w = .ok (.bool false) w := by
  rw [run_neq_struct, eq33]; rfl

theorem _root_.Go.RowKit.Below.drewN' {B : Nat} {a w : World} (h : Below B a w) (n : Nat) : Below B a (w.drewN n) := ⟨h.os, h.tape, h.output, h.size, h.block⟩

set_option maxHeartbeats 1000000 in
theorem c10 (v v2 : Value) (l : List Du) (w : World) (h : DuesAt w v l) (h2 : DuesAt w v2 l) (hl : l.length ≤ 8796093022208) :
    Calls Try.prog 10 #[v, v2] w fun e w' => e = .returned (.bool true) ∧ ∃ n, w' = w.drewN n := by
  obtain ⟨a, cap, rfl, hc, _, h⟩ := h
  obtain ⟨a2, cap2, rfl, hc2, _, h2⟩ := h2
  go_enter Try.func10, Try.ntmps10
  go_wp2
  go_loopw [13] (fun i wr => ∃ k : Nat, k ≤ l.length ∧ i = .int .i64 k ∧ ∃ n, wr = w.drewN n) (fun i _ => l.length - (intOf i).toNat)
  case atStart => exact ⟨0, Nat.zero_le _, rfl, 0, rfl⟩
  case round =>
    obtain ⟨k, hk, rfl, n, rfl⟩ := hrel
    by_cases hlt : k < l.length
    · obtain ⟨b, o, rfl, hh⟩ := h (by intro h0; subst h0; simp at hlt)
      obtain ⟨b2, o2, rfl, hh2⟩ := h2 (by intro h0; subst h0; simp at hlt)
      obtain ⟨q1, q2⟩ := hh k hlt
      obtain ⟨r1, r2⟩ := hh2 k hlt
      clear hh hh2 h h2
      generalize l.getD k default = x at *
      obtain ⟨x1, x2⟩ := x
      simp only at q1 q2 r1 r2
      have d0 : (k : Int) < l.length := by omega
      have hne := neq33 x1 x2
      have hgd : Try.prog.eqGuardType Try.prog.depth 33 = false := by kernel_rfl
      go_wp2_with fail
      go_quiet (fail)
      go_wp2_with fail
      go_roundw
      case rel => exact ⟨k + 1, by omega, by go_num, _, rfl⟩
      case measure => simp [intOf]; omega
    · go_wp2_with fail
      go_ret
      exact ⟨rfl, n, rfl⟩

set_option maxHeartbeats 1000000 in
theorem c9 (now : Int) (V V2 : Nat → Value) (f : Ls) (w : World) (h : WheelAt w V f) (h2 : WheelAt w V2 f) (hl : ∀ i, i < 96 → (f i).length ≤ 8796093022208) :
    Calls Try.prog 9 #[.agg (Cw now V), .agg (Cw now V2)] w fun e w' => e = .returned (.bool true) ∧ Below w.heap.size w w' := by
  generalize hB : w.heap.size = B at *
  obtain ⟨w1, hW⟩ : ∃ w1, w1 = (w.alloc (.cells (Cw now V) 25)).alloc (.cells (Cw now V2) 25) := ⟨_, rfl⟩
  have hs1 : w1.heap.size = B + 2 := by rw [hW]; simp [hB]
  have hb1 : Below B w w1 := by rw [hW]; exact (((Below.refl B w).alloc (by omega) _).alloc (by simp; omega) _)
  have k0 : Blk w1 B now V := by
    rw [hW, Blk, Below.heap_alloc _ _ _ (by simp; omega), ← hB]; exact heap_alloc_new w _
  have k1 : Blk w1 (B + 1) now V2 := by
    have := heap_alloc_new (w.alloc (.cells (Cw now V) 25)) (.cells (Cw now V2) 25)
    rw [hW, Blk]
    simpa [hB] using this
  have H1 := Lib.hid (h.below hB.symm hb1)
  have H2 := Lib.hid (h2.below hB.symm hb1)
  have Hb1 := Lib.hid hb1
  have K0 := Lib.hid k0
  have K1 := Lib.hid k1
  have HW := Lib.hid hW
  clear hb1 k0 k1 hW hs1 h h2
  go_enter Try.func9, Try.ntmps9
  go_wp2_with fail
  rw [← HW.out]
  go_loopw [6] (fun i wr => ∃ k : Nat, k ≤ 96 ∧ i = .int .i64 k ∧ ∃ n, wr = w1.drewN n) (fun i _ => 96 - (intOf i).toNat)
  case atStart => exact ⟨0, by omega, rfl, 0, rfl⟩
  case round =>
    obtain ⟨k, hk, rfl, n, hwr⟩ := hrel
    have K0 := Lib.hid (show Blk wr B now V by rw [hwr]; exact K0.out)
    have K1 := Lib.hid (show Blk wr (B + 1) now V2 by rw [hwr]; exact K1.out)
    have H1 := Lib.hid (show WheelAt wr V f by rw [hwr]; exact H1.out)
    have H2 := Lib.hid (show WheelAt wr V2 f by rw [hwr]; exact H2.out)
    have Hwr := Lib.hid hwr
    clear hwr
    by_cases hlt : k < 96
    · have hD := H1.out k hlt
      have hD2 := H2.out k hlt
      obtain ⟨a, c, hv, _⟩ := id hD
      obtain ⟨a2, c2, hv2, _⟩ := id hD2
      have q1 : wr.cell? ⟨B, 1 + k, none⟩ = some (.slice a (f k).length c) := by rw [Nat.add_comm 1 k, cell_of_blk K0.out, Cw_get _ _ k hlt, hv]
      have q2 : wr.cell? ⟨B + 1, 1 + k, none⟩ = some (.slice a2 (f k).length c2) := by rw [Nat.add_comm 1 k, cell_of_blk K1.out, Cw_get _ _ k hlt, hv2]
      have hc : ∀ m, Calls Try.prog 10 #[.slice a (f k).length c, .slice a2 (f k).length c2] (wr.drewN m) fun e w' => e = .returned (.bool true) ∧ ∃ n, w' = (wr.drewN m).drewN n := fun m =>
        c10 _ _ (f k) (wr.drewN m) (by rw [← hv]; exact hD) (by rw [← hv2]; exact hD2) (hl k hlt)
      have Hc := Lib.hid hc
      have hk1 : (k : Int) < 96 := by omega
      clear hc hv hv2 hD hD2
      go_wp2_with fail
      go_quiet ((go_at_call 10; exact Calls.quiet_of (Hc.out _)))
      go_wp2_with fail
      go_roundw
      case rel => exact ⟨k + 1, by omega, by go_num, n + nq, by rw [Hwr.out, World.drewN_drewN]⟩
      case measure => simp [intOf]; omega
    · have q1 : wr.cell? ⟨B, 0, none⟩ = some (.int .i64 now) := by rw [cell_of_blk K0.out, Cw_now]
      have q2 : wr.cell? ⟨B + 1, 0, none⟩ = some (.int .i64 now) := by rw [cell_of_blk K1.out, Cw_now]
      have hq : (now == now) = true := by simp
      go_wp2_with fail
      go_ret
      exact ⟨rfl, by rw [Hwr.out]; exact Hb1.out.drewN' n⟩
end Go.Proofs.Ytefikkmhdjlccaa
