/- Contracts of the small functions. -/
import Derived.Test.YtefikkmhdjlccaaMem
import Derived.Test.YtefikkmhdjlccaaW0
import Derived.WalkSpells
import Derived.WalkLawsBesides
import Derived.Deep.QuietTactic
import Derived.BigQuiet
import Derived.Deep.DeepCutAuto
import Derived.Laws.StructEq
import Derived.Laws.BitsLemmas
import Derived.Laws.BitsAllLaws
import Derived.Lib.EndianBits
import Derived.Lib.BitFns
import Derived.Outline
namespace Go.Proofs.Ytefikkmhdjlccaa
open Go.RowKit

set_option maxHeartbeats 400000 in
theorem c34 (x : Int) (w : World) (h0 : 0 ≤ x) (h1 : x < 16777216) :
    Calls Try.prog 34 #[.int .u64 x] w fun e w' => e = .returned (.int .i64 (Lib.bitLen x.toNat)) ∧ w = w' := by
  go_enter Try.func34, Try.ntmps34
  go_wp2_with (go_at_call 36; refine (c36 _ _ h0 (by omega)).mono ?_; rintro e w' ⟨rfl, rfl⟩)
  go_ret
  exact ⟨rfl, rfl⟩

theorem ofInt_i64 (a : Nat) (ha : a < 9223372036854775808) : (BitVec.ofInt 64 (a : Int)).toNat = a := by
  rw [BitVec.ofInt_natCast, BitVec.toNat_ofNat]; exact Nat.mod_eq_of_lt (by omega)
theorem i64_and_nat (a b : Nat) (ha : a < 9223372036854775808) (hb : b < 9223372036854775808) : bits .and .i64 (a : Int) (b : Int) = ((a &&& b : Nat) : Int) := by
  have hx : a &&& b < 2 ^ 63 := Nat.and_lt_two_pow _ (by omega)
  show IntKind.i64.wrap ((BitVec.ofInt 64 (a : Int) &&& BitVec.ofInt 64 (b : Int)).toNat : Int) = _
  rw [BitVec.toNat_and, ofInt_i64 a ha, ofInt_i64 b hb, IntKind.wrap_i64]
  omega
theorem i64_xor_nat (a b : Nat) (ha : a < 9223372036854775808) (hb : b < 9223372036854775808) : bits .xor .i64 (a : Int) (b : Int) = ((a ^^^ b : Nat) : Int) := by
  have hx : a ^^^ b < 2 ^ 63 := Nat.xor_lt_two_pow (by omega) (by omega)
  show IntKind.i64.wrap ((BitVec.ofInt 64 (a : Int) ^^^ BitVec.ofInt 64 (b : Int)).toNat : Int) = _
  rw [BitVec.toNat_xor, ofInt_i64 a ha, ofInt_i64 b hb, IntKind.wrap_i64]
  omega
theorem wrap_u64_nat (n : Nat) (h : n < 18446744073709551616) : IntKind.u64.wrap (n : Int) = n := by
  rw [IntKind.wrap_u64]; omega

theorem list_eq (a b L : Nat) (hb : b < 16777216) (h : (L - 1) / 4 = topD a b) (h1 : 1 ≤ L) (hL : L ≤ 24) :
    wrap64 (16 * (((L : Int) - 1) / 4) + bits BinOp.and IntKind.i64 ((b : Int) / 2 ^ (4 * ((L - 1) / 4))) 15) = ((listN a b : Nat) : Int) := by
  have hm : b / 2 ^ (4 * ((L - 1) / 4)) < 16777216 := Nat.lt_of_le_of_lt (Nat.div_le_self _ _) hb
  have e1 : ((b : Int) / 2 ^ (4 * ((L - 1) / 4))) = ((b / 2 ^ (4 * ((L - 1) / 4)) : Nat) : Int) := by simp
  have e2 : (2 : Nat) ^ (4 * topD a b) = 16 ^ topD a b := by rw [Nat.pow_mul]
  rw [e1]
  have e3 := i64_and_nat (b / 2 ^ (4 * ((L - 1) / 4))) 15 (by omega) (by omega)
  have e4 := Nat.and_two_pow_sub_one_eq_mod (b / 2 ^ (4 * ((L - 1) / 4))) 4
  rw [show ((15 : Int)) = ((15 : Nat) : Int) from rfl, e3, show (15 : Nat) = 2 ^ 4 - 1 from rfl, e4]
  have hlt := listN_lt a b
  unfold listN at hlt ⊢
  rw [h, e2]
  have e5 : ((L : Int) - 1) / 4 = (topD a b : Int) := by omega
  rw [e5]
  unfold wrap64
  omega

set_option maxHeartbeats 400000 in
theorem c31 (a b : Nat) (w : World) (ha : a < 16777216) (hb : b < 16777216) (hne : a ≠ b) :
    Calls Try.prog 31 #[.int .i64 a, .int .i64 b] w fun e w' => e = .returned (.int .i64 (listN a b)) ∧ w = w' := by
  obtain ⟨t1, t2, t3⟩ := topD_bits a b hne ha hb
  have hx : (a ^^^ b : Nat) < 16777216 := Nat.xor_lt_two_pow (n := 24) ha hb
  have hc := c34 ((a ^^^ b : Nat) : Int) w (by omega) (by omega)
  have e1 := i64_xor_nat a b (by omega) (by omega)
  have e2 := wrap_u64_nat (a ^^^ b) (by omega)
  rw [Int.toNat_natCast] at hc
  generalize Lib.bitLen (a ^^^ b) = L at *
  have T1 := Lib.hid t1
  have Hc := Lib.hid hc
  have E1 := Lib.hid e1
  have E2 := Lib.hid e2
  clear t1 hc e1 e2 hne
  go_enter Try.func31, Try.ntmps31
  go_wp2_with fail
  rw [E1.out, E2.out]
  refine Hc.out.mono ?_
  rintro e w' ⟨rfl, rfl⟩
  go_wp2_with fail
  go_ret
  exact ⟨congrArg (fun z => Ending.returned (.int .i64 z)) (list_eq a b L hb T1.out t2 t3), rfl⟩
end Go.Proofs.Ytefikkmhdjlccaa
