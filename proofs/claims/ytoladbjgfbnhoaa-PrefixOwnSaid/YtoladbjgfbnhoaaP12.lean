/- slices.Equal of equal nodes. -/
import Derived.Test.YtoladbjgfbnhoaaP11
namespace Go.Proofs.Ytoladbjgfbnhoaa
open Go.RowKit

theorem _root_.Go.RowKit.Below.drewN' {B : Nat} {a w : World} (h : Below B a w) (n : Nat) : Below B a (w.drewN n) := ⟨h.os, h.tape, h.output, h.size, h.block⟩

set_option maxHeartbeats 1000000 in
theorem c7 (v v2 : Value) (l : List Nd) (w : World) (h : NodesAt w v l) (h2 : NodesAt w v2 l) (hl : l.length ≤ 4398046511104) :
    Calls Try.prog 7 #[v, v2] w fun e w' => e = .returned (.bool true) ∧ Below w.heap.size w w' := by
  obtain ⟨a, cap, rfl, hc, _, h⟩ := h
  obtain ⟨a2, cap2, rfl, hc2, _, h2⟩ := h2
  generalize hB : w.heap.size = B at *
  go_enter Try.func7, Try.ntmps7
  go_wp2
  go_loopw [13] (fun i wr => ∃ k : Nat, k ≤ l.length ∧ i = .int .i64 k ∧ ∃ n, wr = w.drewN n) (fun i _ => l.length - (intOf i).toNat)
  case atStart => exact ⟨0, Nat.zero_le _, rfl, 0, rfl⟩
  case round =>
    obtain ⟨k, hk, rfl, n, rfl⟩ := hrel
    by_cases hlt : k < l.length
    · obtain ⟨b, o, rfl, hh⟩ := h (by intro h0; subst h0; simp at hlt)
      obtain ⟨b2, o2, rfl, hh2⟩ := h2 (by intro h0; subst h0; simp at hlt)
      obtain ⟨q1, q2, q3, q4⟩ := hh k hlt
      obtain ⟨r1, r2, r3, r4⟩ := hh2 k hlt
      clear hh hh2 h h2
      generalize l.getD k default = x at *
      obtain ⟨x1, x2, x3, x4⟩ := x
      simp only at q1 q2 q3 q4 r1 r2 r3 r4
      have d0 : (k : Int) < l.length := by omega
      have hne := neq31 x1 x2 x4 x3
      have hgd : Try.prog.eqGuardType Try.prog.depth 31 = false := by kernel_rfl
      go_wp2_with fail
      go_quiet (fail)
      go_wp2_with fail
      go_roundw
      case rel => exact ⟨k + 1, by omega, by go_num, _, rfl⟩
      case measure => simp [intOf]; omega
    · go_wp2_with fail
      go_ret
      exact ⟨rfl, hB ▸ (Below.refl _ _).drewN' n⟩

end Go.Proofs.Ytoladbjgfbnhoaa
