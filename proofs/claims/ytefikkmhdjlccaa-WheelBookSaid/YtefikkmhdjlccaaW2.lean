/- count, Clone, own. -/
import Derived.Test.YtefikkmhdjlccaaW1
namespace Go.Proofs.Ytefikkmhdjlccaa
open Go.RowKit

theorem Blk.new (w : World) (now : Int) (V : Nat → Value) : Blk (w.alloc (.cells (Cw now V) 25)) w.heap.size now V := heap_alloc_new w _

theorem allTo_le (f : Ls) (hl : ∀ i, i < 96 → (f i).length ≤ 8796093022208) : ∀ n, n ≤ 96 → (allTo f n).length ≤ n * 8796093022208
  | 0, _ => by simp [allTo]
  | n + 1, h => by
    have := allTo_le f hl n (by omega)
    have := hl n (by omega)
    rw [allTo_succ, List.length_append]
    omega

set_option maxHeartbeats 400000 in
theorem c25 (now : Int) (V : Nat → Value) (f : Ls) (w : World) (h : WheelAt w V f) (hl : ∀ i, i < 96 → (f i).length ≤ 8796093022208) :
    Calls Try.prog 25 #[.agg (Cw now V)] w fun e w' => e = .returned (.int .i64 (allM f).length) ∧ Below w.heap.size w w' := by
  have hr := (Blk.new w now V).range
  go_enter Try.func25, Try.ntmps25
  go_wp2_with (refine wpList_load_mid rfl 23 (.tmp 6) rfl w.heap.size 1 rfl (Lw V) _ hr Try.underlying23 rfl (by rw [Lw_length]; exact info23) ?_)
  clear hr
  go_loop [3, 8] (fun n i => ∃ k : Nat, k ≤ 96 ∧ i = .int .i64 k ∧ n = .int .i64 (allTo f k).length) (fun _ i => 96 - (intOf i).toNat)
  case atStart => exact ⟨0, by omega, rfl, by simp [allTo]⟩
  case round =>
    obtain ⟨k, hk, rfl, rfl⟩ := hrel
    by_cases hlt : k < 96
    · obtain ⟨a, c, hv, _⟩ := h k hlt
      have hidx := index23 V k hlt a _ c hv
      have b1 := allTo_le f hl k hk
      have b2 := hl k hlt
      have hs : Hid ((allTo f (k + 1)).length = (allTo f k).length + (f k).length) := by show _ = _; rw [allTo_succ, List.length_append]
      have Hv := Lib.hid hv
      clear hv
      go_wp2_with fail
      go_round
      case rel => exact ⟨k + 1, by omega, by go_num, by rw [hs.out]; go_num⟩
      case measure => simp [intOf]; omega
    · obtain rfl : k = 96 := by omega
      go_wp2_with fail
      go_ret
      exact ⟨rfl, (Below.refl _ _).alloc (Nat.le_refl _) _⟩
end Go.Proofs.Ytefikkmhdjlccaa
