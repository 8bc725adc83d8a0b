/- The wheel in plain words: lists of what is due, a turn, ticks. No program in sight. -/
import Derived.Lib.BitFns
namespace Go.Proofs.Ytefikkmhdjlccaa

structure Du where
  id : Int
  tm : Int
  deriving Inhabited, DecidableEq

/-- the number of the uppermost digit in which two times are other. -/
def topD (a b : Nat) : Nat :=
  if a / 16 = b / 16 then 0 else if a / 256 = b / 256 then 1 else if a / 4096 = b / 4096 then 2 else if a / 65536 = b / 65536 then 3 else if a / 1048576 = b / 1048576 then 4 else 5
def listN (a b : Nat) : Nat := 16 * topD a b + b / 16 ^ topD a b % 16
/-- the list in which a time stands. -/
def listM (now tm : Int) : Nat := listN now.toNat tm.toNat
theorem topD_le (a b : Nat) : topD a b ≤ 5 := by
  unfold topD
  repeat' split
  all_goals omega
theorem listN_lt (a b : Nat) : listN a b < 96 := by
  have := topD_le a b
  have : b / 16 ^ topD a b % 16 < 16 := Nat.mod_lt _ (by decide)
  unfold listN
  omega
theorem listM_lt (now tm : Int) : listM now tm < 96 := listN_lt _ _

def upd {α : Type} (f : Nat → α) (i : Nat) (x : α) : Nat → α := fun j => if j = i then x else f j
theorem upd_same {α : Type} (f : Nat → α) (i : Nat) (x : α) : upd f i x i = x := by simp [upd]
theorem upd_other {α : Type} (f : Nat → α) (i : Nat) (x : α) {j : Nat} (h : j ≠ i) : upd f i x j = f j := by simp [upd, h]

abbrev Ls := Nat → List Du
def put1 (now : Int) (s : Ls × List Du) (d : Du) : Ls × List Du :=
  if d.tm = now then (s.1, s.2 ++ [d]) else (upd s.1 (listM now d.tm) (s.1 (listM now d.tm) ++ [d]), s.2)
def idxM (now : Int) (k : Nat) : Nat := 16 * k + now.toNat / 16 ^ k % 16
def roundM (now : Int) (k : Nat) (s : Ls × List Du) : Ls × List Du :=
  if now.toNat % 16 ^ k = 0 then (s.1 (idxM now k)).foldl (put1 now) (upd s.1 (idxM now k) [], s.2) else s
def roundsM (now : Int) : Nat → Ls × List Du → Ls × List Du
  | 0, s => s
  | k + 1, s => roundsM now k (roundM now k s)
def turnM (now : Int) (f : Ls) : Ls × List Du := roundsM now 6 (f, [])
def tickM (now : Int) (f : Ls) : Nat → Ls × List Du
  | 0 => (f, [])
  | n + 1 => ((turnM (now + n + 1) (tickM now f n).1).1, (tickM now f n).2 ++ (turnM (now + n + 1) (tickM now f n).1).2)

theorem tickM_add (now : Int) (f : Ls) (n : Nat) : ∀ m, tickM now f (n + m) = ((tickM (now + n) (tickM now f n).1 m).1, (tickM now f n).2 ++ (tickM (now + n) (tickM now f n).1 m).2)
  | 0 => by simp [tickM]
  | m + 1 => by
    rw [show n + (m + 1) = n + m + 1 from rfl, tickM, tickM_add now f n m, tickM]
    have e : now + ((n + m : Nat) : Int) + 1 = now + n + m + 1 := by omega
    rw [e, List.append_assoc]

theorem idxM_lt (now : Int) (k : Nat) (hk : k ≤ 5) : idxM now k < 96 := by
  have : now.toNat / 16 ^ k % 16 < 16 := Nat.mod_lt _ (by decide)
  unfold idxM
  omega

/-- all that is due, list by list, below list n. -/
def allTo (f : Ls) (n : Nat) : List Du := (List.range n).flatMap f
def allM (f : Ls) : List Du := allTo f 96
theorem allTo_succ (f : Ls) (n : Nat) : allTo f (n + 1) = allTo f n ++ f n := by simp [allTo, List.range_succ, List.flatMap_append]

structure Right (now : Int) (f : Ls) : Prop where
  few : (allM f).length ≤ 500
  now0 : 0 ≤ now
  now1 : now < 16777216
  each : ∀ i, i < 96 → ∀ d ∈ f i, now < d.tm ∧ d.tm < 16777216 ∧ listM now d.tm = i
  ids : ((allM f).map Du.id).Nodup

theorem xor_zero_iff (a b : Nat) : a ^^^ b = 0 ↔ a = b := by
  constructor
  · intro h
    have : (a ^^^ b) ^^^ b = 0 ^^^ b := by rw [h]
    rwa [Nat.xor_assoc, Nat.xor_self, Nat.xor_zero, Nat.zero_xor] at this
  · rintro rfl; exact Nat.xor_self a

theorem len_between (x k : Nat) (h0 : 2 ^ k ≤ x) (h1 : x < 2 ^ (k + 4)) (hk : k ≤ 20) : k + 1 ≤ Lib.bitLen x ∧ Lib.bitLen x ≤ k + 4 := by
  have h64 : x < 2 ^ 64 := Nat.lt_of_lt_of_le h1 (Nat.pow_le_pow_right (by decide) (by omega))
  have l := Lib.bitLen_le x (k + 4) (by omega) h1
  have s := Lib.bitLen_shift k x h0 h64
  have hp : 0 < 2 ^ k := Nat.two_pow_pos k
  have hd : x / 2 ^ k ≠ 0 := by
    have := Nat.div_pos h0 hp
    omega
  have := Lib.bitLen_half (x / 2 ^ k) hd (Nat.lt_of_le_of_lt (Nat.div_le_self _ _) h64)
  omega

/-- the bits of now and at that are other, and the digits. -/
theorem topD_bits (a b : Nat) (h : a ≠ b) (ha : a < 16777216) (hb : b < 16777216) : (Lib.bitLen (a ^^^ b) - 1) / 4 = topD a b ∧ 1 ≤ Lib.bitLen (a ^^^ b) ∧ Lib.bitLen (a ^^^ b) ≤ 24 := by
  have hx : a ^^^ b < 2 ^ 24 := Nat.xor_lt_two_pow (by omega) (by omega)
  have hne : a ^^^ b ≠ 0 := fun e => h ((xor_zero_iff a b).1 e)
  have key : ∀ k, (a / 2 ^ k = b / 2 ^ k) ↔ (a ^^^ b) / 2 ^ k = 0 := fun k => by
    rw [← Nat.shiftRight_eq_div_pow, ← Nat.shiftRight_eq_div_pow, ← Nat.shiftRight_eq_div_pow, Nat.shiftRight_xor_distrib, xor_zero_iff]
  have k1 := key 4
  have k2 := key 8
  have k3 := key 12
  have k4 := key 16
  have k5 := key 20
  clear key
  unfold topD
  generalize a ^^^ b = x at *
  simp only [show (2 : Nat) ^ 4 = 16 from rfl, show (2 : Nat) ^ 8 = 256 from rfl, show (2 : Nat) ^ 12 = 4096 from rfl, show (2 : Nat) ^ 16 = 65536 from rfl, show (2 : Nat) ^ 20 = 1048576 from rfl, show (2 : Nat) ^ 24 = 16777216 from rfl] at *
  simp only [k1, k2, k3, k4, k5]
  clear k1 k2 k3 k4 k5 h ha hb
  have c0 := fun h0 h1 => len_between x 0 h0 h1 (by omega)
  have c4 := fun h0 h1 => len_between x 4 h0 h1 (by omega)
  have c8 := fun h0 h1 => len_between x 8 h0 h1 (by omega)
  have c12 := fun h0 h1 => len_between x 12 h0 h1 (by omega)
  have c16 := fun h0 h1 => len_between x 16 h0 h1 (by omega)
  have c20 := fun h0 h1 => len_between x 20 h0 h1 (by omega)
  simp only [show (2 : Nat) ^ 0 = 1 from rfl, show (2 : Nat) ^ (0 + 4) = 16 from rfl, show (2 : Nat) ^ (4 + 4) = 256 from rfl, show (2 : Nat) ^ (8 + 4) = 4096 from rfl, show (2 : Nat) ^ (12 + 4) = 65536 from rfl, show (2 : Nat) ^ (16 + 4) = 1048576 from rfl, show (2 : Nat) ^ (20 + 4) = 16777216 from rfl] at *
  by_cases h1 : x < 16
  · rw [if_pos (by omega)]; have := c0 (by omega) h1; omega
  rw [if_neg (by omega)]
  by_cases h2 : x < 256
  · rw [if_pos (by omega)]; have := c4 (by omega) h2; omega
  rw [if_neg (by omega)]
  by_cases h3 : x < 4096
  · rw [if_pos (by omega)]; have := c8 (by omega) h3; omega
  rw [if_neg (by omega)]
  by_cases h4 : x < 65536
  · rw [if_pos (by omega)]; have := c12 (by omega) h4; omega
  rw [if_neg (by omega)]
  by_cases h5 : x < 1048576
  · rw [if_pos (by omega)]; have := c16 (by omega) h5; omega
  rw [if_neg (by omega)]
  have := c20 (by omega) (by omega)
  omega
end Go.Proofs.Ytefikkmhdjlccaa
