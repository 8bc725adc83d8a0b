/- Contracts of the small functions. -/
import Derived.Test.YtoladbjgfbnhoaaMem
import Derived.WalkSpells
import Derived.WalkLawsBesides
import Derived.Deep.QuietTactic
import Derived.BigQuiet
import Derived.Deep.DeepCutAuto
import Derived.Laws.StructEq
import Derived.Laws.BitsLemmas
import Derived.Lib.EndianBits
namespace Go.Proofs.Ytoladbjgfbnhoaa
open Go.RowKit

def bitM (a : Int) (i : Nat) : Nat := (a.toNat / 2 ^ (31 - i)) % 2
theorem bitM_lt (a : Int) (i : Nat) : bitM a i < 2 := Nat.mod_lt _ (by decide)
theorem bit_eq (a : Int) (i : Nat) (ha : 0 ≤ a) (ha2 : a < 4294967296) : wrap64 (bits BinOp.and IntKind.u32 (a / 2 ^ (31 - i)) 1) = (bitM a i : Int) := by
  obtain ⟨n, rfl⟩ := Int.eq_ofNat_of_zero_le ha
  have h1 : ((n : Int) / 2 ^ (31 - i)) = ((n / 2 ^ (31 - i) : Nat) : Int) := by simp
  have h2 : n / 2 ^ (31 - i) ≤ n := Nat.div_le_self _ _
  rw [h1]
  simp only [bitM, Int.toNat_natCast]
  clear h1
  generalize n / 2 ^ (31 - i) = m at *
  have h3 := bits_mask .u32 32 (by decide) wraps_u32 1 (by decide) (m : Int) (by omega) (by omega)
  have h3' : bits BinOp.and IntKind.u32 (m : Int) 1 = (m : Int) % 2 := h3
  rw [h3']
  unfold wrap64
  omega

set_option maxHeartbeats 400000 in
theorem c18 (a : Int) (i : Nat) (w : World) (ha : 0 ≤ a) (ha2 : a < 4294967296) (hi : i < 32) :
    Calls Try.prog 18 #[.int .u32 a, .int .i64 i] w fun e w' => e = .returned (.int .i64 (bitM a i)) ∧ w' = w := by
  go_enter Try.func18, Try.ntmps18
  go_wp2
  go_ret
  exact ⟨congrArg (fun z => Ending.returned (.int .i64 z)) (bit_eq a i ha ha2), rfl⟩

set_option maxHeartbeats 400000 in
theorem c19 (a : Int) (i : Nat) (w : World) (hi : i ≤ 32) :
    Calls Try.prog 19 #[.int .u32 a, .int .i64 i] w fun e w' => (∃ z : Int, e = .returned (.int .u32 z)) ∧ w' = w := by
  go_enter Try.func19, Try.ntmps19
  go_wp2
  go_ret
  exact ⟨⟨_, rfl⟩, rfl⟩

def netM (a l : Int) : Bool := decide (0 ≤ l) && (decide (l ≤ 32) && (a * 2 ^ l.toNat % 4294967296 == 0))
theorem netM_le {a l : Int} (h : netM a l = true) : 0 ≤ l ∧ l ≤ 32 := by simp [netM] at h; omega

set_option maxHeartbeats 400000 in
theorem c10 (a l : Int) (w : World) :
    Calls Try.prog 10 #[.agg #[.int .u32 a, .int .i64 l]] w fun e w' => e = .returned (.bool (netM a l)) ∧ Below w.heap.size w w' := by
  go_enter Try.func10, Try.ntmps10
  go_wp2
  · go_ret
    exact ⟨by simp [netM, *], (Below.refl _ _).alloc (Nat.le_refl _) _⟩
  · go_ret
    exact ⟨by have : ¬ l ≤ 32 := by omega
              simp [netM, *], (Below.refl _ _).alloc (Nat.le_refl _) _⟩
  · go_ret
    exact ⟨by have : ¬ 0 ≤ l := by omega
              simp [netM, *], (Below.refl _ _).alloc (Nat.le_refl _) _⟩

theorem ptr40 : Try.prog.underlying 40 = some (.pointer (Try.prog.pointee 40)) := by kernel_rfl
theorem eq55 (a b : Option Addr) (w : World) : (Op.equalIn 10000 55 (.agg #[.pointer a, .pointer b]) (.agg #[.pointer none, .pointer none])).run Try.prog w = .ok (a.isNone && b.isNone) w := by
  have a3 := Try.isAgg40
  have z3 := Try.sizeOf40
  have e1 := fun w => run_equalIn_pointer_nil (P := Try.prog) w 9998 40 a ptr40
  have e2 := fun w => run_equalIn_pointer_nil (P := Try.prog) w 9998 40 b ptr40
  rw [show (10000 : Nat) = 9999 + 1 from rfl, Op.equalIn]
  simp only [Sem.run_bind, run_underlying Try.underlying55, Result.andThen_ok]
  simp only [Std.Legacy.Range.forIn_eq_forIn_range', Std.Legacy.Range.size, Nat.sub_zero, Nat.add_sub_cancel, Nat.div_one, List.range'_succ, List.range'_zero, List.forIn_cons, List.forIn_nil]
  go_simp
  cases a <;> cases b <;> simp

theorem eq29 (a b c d : Int) (w : World) : (Op.equalIn 10000 29 (.agg #[.int .i64 a, .int .i64 b]) (.agg #[.int .i64 c, .int .i64 d])).run Try.prog w = .ok (a == c && b == d) w := by
  have u3 := Try.underlying3
  have a3 := Try.isAgg3
  have z3 := Try.sizeOf3
  rw [show (10000 : Nat) = 9999 + 1 from rfl, Op.equalIn]
  simp only [Sem.run_bind, run_underlying Try.underlying29, Result.andThen_ok]
  simp only [Std.Legacy.Range.forIn_eq_forIn_range', Std.Legacy.Range.size, Nat.sub_zero, Nat.add_sub_cancel, Nat.div_one, List.range'_succ, List.range'_zero, List.forIn_cons, List.forIn_nil]
  go_simp
  by_cases h1 : a = c <;> by_cases h2 : b = d <;> simp [h1, h2]

def bareM (s : Bool) (l r : Option Addr) : Bool := !s && (l.isNone && r.isNone)

set_option maxHeartbeats 400000 in
theorem c16 (b : Nat) (pl pr : Option Addr) (s : Bool) (v : Int) (w : World) (h : w.heap[b]? = some (.cells #[.pointer pl, .pointer pr, .bool s, .int .i64 v] 57 (0, 0))) :
    Calls Try.prog 16 #[.pointer (some ⟨b, 0, none⟩)] w fun e w' => e = .returned (.bool (bareM s pl pr)) ∧ w' = w := by
  have h0 : w.cell? ⟨b, 0, none⟩ = some (.pointer pl) := by simp [World.cell?, h]
  have h1 : w.cell? ⟨b, 1, none⟩ = some (.pointer pr) := by simp [World.cell?, h]
  have h2 : w.cell? ⟨b, 2, none⟩ = some (.bool s) := by simp [World.cell?, h]
  clear h
  have heq := eq55 pl pr
  go_enter Try.func16, Try.ntmps16
  go_wp2_with fail
  all_goals go_ret
  · exact ⟨by simp [bareM, *], rfl⟩
  · exact ⟨by simp [bareM, *], rfl⟩

end Go.Proofs.Ytoladbjgfbnhoaa
