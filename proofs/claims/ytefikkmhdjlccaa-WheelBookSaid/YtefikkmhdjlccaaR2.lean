/- Plain: where a time stands after a turn by one: digits. -/
import Derived.Test.YtefikkmhdjlccaaR1
namespace Go.Proofs.Ytefikkmhdjlccaa

theorem topD_cases (a b : Nat) : (topD a b = 0 ∧ a / 16 = b / 16) ∨ (topD a b = 1 ∧ a / 16 ≠ b / 16 ∧ a / 256 = b / 256) ∨ (topD a b = 2 ∧ a / 256 ≠ b / 256 ∧ a / 4096 = b / 4096) ∨ (topD a b = 3 ∧ a / 4096 ≠ b / 4096 ∧ a / 65536 = b / 65536) ∨ (topD a b = 4 ∧ a / 65536 ≠ b / 65536 ∧ a / 1048576 = b / 1048576) ∨ (topD a b = 5 ∧ a / 1048576 ≠ b / 1048576) := by
  unfold topD
  repeat' split
  all_goals simp_all
theorem pow16 : (16:Nat)^0 = 1 ∧ (16:Nat)^1 = 16 ∧ (16:Nat)^2 = 256 ∧ (16:Nat)^3 = 4096 ∧ (16:Nat)^4 = 65536 ∧ (16:Nat)^5 = 1048576 ∧ (16:Nat)^6 = 16777216 := by decide

set_option maxHeartbeats 8000000 in
/-- the old list's digit. -/
theorem turn_facts (N t z : Nat) (hz : z ≤ 5) (h1 : (N + 1) % 16 ^ z = 0) (h2 : (N + 1) % 16 ^ (z + 1) ≠ 0) (hN : N + 1 < 16777216) (ht0 : N + 1 ≤ t) (ht : t < 16777216) :
    z ≤ topD N t ∧ (t / 16 ^ z = (N + 1) / 16 ^ z → listN N t = 16 * z + (N + 1) / 16 ^ z % 16 ∧ (t ≠ N + 1 → topD (N + 1) t < z ∧ 0 < t / 16 ^ topD (N + 1) t % 16)) ∧
    (t / 16 ^ z ≠ (N + 1) / 16 ^ z → listN N t ≠ 16 * z + (N + 1) / 16 ^ z % 16 ∧ listN (N + 1) t = listN N t) := by
  unfold listN
  obtain ⟨p0, p1, p2, p3, p4, p5, p6⟩ := pow16
  rcases topD_cases N t with ⟨e, a⟩ | ⟨e, a, a'⟩ | ⟨e, a, a'⟩ | ⟨e, a, a'⟩ | ⟨e, a, a'⟩ | ⟨e, a⟩ <;> rw [e] <;>
  rcases topD_cases (N + 1) t with ⟨e', b⟩ | ⟨e', b, b'⟩ | ⟨e', b, b'⟩ | ⟨e', b, b'⟩ | ⟨e', b, b'⟩ | ⟨e', b⟩ <;> rw [e'] <;>
  rcases (show z = 0 ∨ z = 1 ∨ z = 2 ∨ z = 3 ∨ z = 4 ∨ z = 5 by omega) with rfl | rfl | rfl | rfl | rfl | rfl <;>
  simp only [Nat.zero_add, Nat.reduceAdd, p0, p1, p2, p3, p4, p5, p6] at * <;> refine ⟨?_, fun h => ⟨?_, fun h' => ⟨?_, ?_⟩⟩, fun h => ⟨?_, ?_⟩⟩ <;> omega

/-- the last digit that a number does not have as nought. -/
theorem exists_z (n : Nat) (h0 : 0 < n) (h1 : n < 16777216) : ∃ z, z ≤ 5 ∧ n % 16 ^ z = 0 ∧ n % 16 ^ (z + 1) ≠ 0 := by
  obtain ⟨p0, p1, p2, p3, p4, p5, p6⟩ := pow16
  by_cases e1 : n % 16 = 0
  · by_cases e2 : n % 256 = 0
    · by_cases e3 : n % 4096 = 0
      · by_cases e4 : n % 65536 = 0
        · by_cases e5 : n % 1048576 = 0
          · refine ⟨5, by omega, ?_, ?_⟩ <;> simp only [Nat.reduceAdd, p5, p6] <;> omega
          · refine ⟨4, by omega, ?_, ?_⟩ <;> simp only [Nat.reduceAdd, p4, p5] <;> omega
        · refine ⟨3, by omega, ?_, ?_⟩ <;> simp only [Nat.reduceAdd, p3, p4] <;> omega
      · refine ⟨2, by omega, ?_, ?_⟩ <;> simp only [Nat.reduceAdd, p2, p3] <;> omega
    · refine ⟨1, by omega, ?_, ?_⟩ <;> simp only [Nat.reduceAdd, p1, p2] <;> omega
  · refine ⟨0, by omega, ?_, ?_⟩ <;> simp only [Nat.reduceAdd, p0, p1] <;> omega
end Go.Proofs.Ytefikkmhdjlccaa
