/- Contracts of the small functions. -/
import Derived.Test.YtmnckaofopechaaMem
import Derived.WalkSpells
import Derived.WalkLawsBesides
import Derived.Deep.QuietTactic
import Derived.BigQuiet
import Derived.Deep.DeepCutAuto
namespace Go.Proofs.Ytmnckaofopechaa
open Go.RowKit

set_option maxHeartbeats 400000 in
theorem size_any (n : Int) (w : World) :
    Calls Try.prog 16 #[.int .i64 n] w fun e w' => e = .returned (.bool (sizeB n)) ∧ w = w' := by
  go_enter Try.func16, Try.ntmps16
  go_wp2
  all_goals go_ret
  · exact ⟨by simp [sizeB, *], rfl⟩
  · exact ⟨by simp [sizeB]; omega, rfl⟩

set_option maxHeartbeats 400000 in
theorem c18 (n : Int) (w : World) :
    Calls Try.prog 18 #[.int .i64 n] w fun e w' => e = .returned (.bool (!sizeB n)) ∧ w = w' := by
  go_enter Try.func18, Try.ntmps18
  go_wp2_with (go_at_call 16; refine (size_any _ _).mono ?_; rintro e w1 ⟨rfl, rfl⟩)
  go_ret
  exact ⟨rfl, rfl⟩

def Idx (P : Nat → Prop) (n : Nat) (e : Ending) : Prop := ∃ r : Int, e = .returned (.int .i64 r) ∧ ((∃ k : Nat, r = k ∧ k < n ∧ P k ∧ ∀ j, j < k → ¬ P j) ∨ (r = -1 ∧ ∀ j, j < n → ¬ P j))

set_option maxHeartbeats 400000 in
theorem c24 (v : Value) (xs : List Int) (w : World) (h : IntsAt w v xs) (hl : xs.length ≤ 1000000000000000):
    Calls Try.prog 24 #[v, .func (.func 18) #[] #[]] w fun e w' => Idx (fun i => sizeB (xs.getD i 0) = false) xs.length e ∧ w = w' := by
  obtain ⟨a, cap, rfl, hc, _, h⟩ := h
  go_enter Try.func24, Try.ntmps24
  go_wp2
  go_loop [8] (fun i => ∃ k : Nat, k ≤ xs.length ∧ i = .int .i64 k ∧ Hid (∀ j, j < k → ¬ sizeB (xs.getD j 0) = false)) (fun i => xs.length - (intOf i).toNat)
  case atStart => exact ⟨0, Nat.zero_le _, rfl, fun j hj => by omega⟩
  case round =>
    obtain ⟨k, hk, rfl, He⟩ := hrel
    by_cases hlt : k < xs.length
    · obtain ⟨b, o, rfl, hh⟩ := h (by intro h0; subst h0; simp at hlt)
      have hcell := hh k hlt
      clear hh h
      generalize hx : xs.getD k 0 = x at *
      have Hx := Lib.hid hx; clear hx
      cases hs : sizeB x
      all_goals
        go_wp2_with (go_at_call 18; refine (c18 _ _).mono ?_; rintro e w1 ⟨rfl, rfl⟩)
      · go_ret
        exact ⟨⟨k, rfl, .inl ⟨k, rfl, hlt, by show sizeB (xs.getD k 0) = false; rw [Hx.out]; exact hs, He⟩⟩, rfl⟩
      · go_round
        case rel => exact ⟨k + 1, by omega, by go_num, fun j hj => by
          by_cases e : j = k
          · rw [e, Hx.out]; simp [hs]
          · exact He j (by omega)⟩
        case measure => simp [intOf]; omega
    · go_wp2_with fail
      go_ret
      exact ⟨⟨-1, rfl, .inr ⟨rfl, fun j hj => He j (by omega)⟩⟩, rfl⟩

def AnyB (P : Nat → Prop) (n : Nat) (e : Ending) : Prop := ∃ b : Bool, e = .returned (.bool b) ∧ (b = true ↔ ∃ k, k < n ∧ P k)

set_option maxHeartbeats 400000 in
theorem c17 (v : Value) (xs : List Int) (w : World) (h : IntsAt w v xs) (hl : xs.length ≤ 1000000000000000):
    Calls Try.prog 17 #[v, .func (.func 18) #[] #[]] w fun e w' => AnyB (fun i => sizeB (xs.getD i 0) = false) xs.length e ∧ w = w' := by
  go_enter Try.func17, Try.ntmps17
  go_wp2_with fail
  refine (c24 _ _ _ h hl).mono ?_
  rintro e w1 ⟨⟨r, rfl, hr⟩, rfl⟩
  have Hr := Lib.hid hr; clear hr
  go_wp2_with fail
  go_ret
  refine ⟨⟨_, rfl, ?_⟩, rfl⟩
  rcases Hr.out with ⟨k, rfl, h1, h2, h3⟩ | ⟨rfl, h3⟩
  · simp; exact ⟨k, h1, h2⟩
  · simp; intro k hk; simpa using h3 k hk

set_option maxHeartbeats 400000 in
theorem c15 (s1 s2 : Int) (a : Option Addr) (n c : Nat) (w : World) :
    Calls Try.prog 15 #[.agg #[.int .i64 s1, .int .i64 s2, .slice a n c]] w fun e w' => e = .returned (.bool (decide ((200 : Int) < n))) ∧ Below w.heap.size w w' := by
  go_enter Try.func15, Try.ntmps15
  go_wp2
  go_ret
  exact ⟨rfl, ((Below.refl _ _).alloc (Nat.le_refl _) _)⟩

set_option maxHeartbeats 400000 in
theorem c23 (v : Value) (qs : List Qu) (w : World) (h : TurnsAt w v qs) (hl : qs.length ≤ 1000000000000000) (hl2 : ∀ i, i < qs.length → (qs.getD i default).sizes.length ≤ 1000000000000000) :
    Calls Try.prog 23 #[v, .func (.func 15) #[] #[]] w fun e w' => Idx (fun i => 200 < (qs.getD i default).sizes.length) qs.length e ∧ Below w.heap.size w w' := by
  obtain ⟨a, cap, rfl, hc, _, h⟩ := h
  generalize hB : w.heap.size = B at *
  go_enter Try.func23, Try.ntmps23
  go_wp2
  go_loopw [8] (fun i wr => ∃ k : Nat, k ≤ qs.length ∧ i = .int .i64 k ∧ Hid (∀ j, j < k → ¬ 200 < (qs.getD j default).sizes.length) ∧ Below B w wr) (fun i _ => qs.length - (intOf i).toNat)
  case atStart => exact ⟨0, Nat.zero_le _, rfl, fun j hj => by omega, Below.refl _ _⟩
  case round =>
    obtain ⟨k, hk, rfl, He, hbel⟩ := hrel
    by_cases hlt : k < qs.length
    · obtain ⟨b, o, rfl, hh⟩ := h (by intro h0; subst h0; simp at hlt)
      have hq2 := hl2 k hlt
      obtain ⟨q1, q2, u, q3, q4⟩ := hh k hlt
      clear hh h hl2
      generalize hq : qs.getD k default = q at *
      have Hq := Lib.hid hq; clear hq
      have hbb : b < B := by rw [← hB]; exact World.block_lt_of_cell? w _ q1
      rw [← hbel.cell (by exact hbb)] at q1 q2 q3
      obtain ⟨a2, cap2, rfl, hc2, _, _⟩ := q4
      obtain ⟨sh, sv, sz⟩ := q
      simp only at *
      by_cases hb : 200 < sz.length
      · have hb' : decide ((200 : Int) < sz.length) = true := by simp; omega
        go_wp2_with (go_at_call 15; refine (c15 _ _ _ _ _ _).mono ?_; rintro e w1 ⟨rfl, hbel2⟩)
        go_ret
        exact ⟨⟨k, rfl, .inl ⟨k, rfl, hlt, by show 200 < (qs.getD k default).sizes.length; rw [Hq.out]; exact hb, He⟩⟩, hbel.trans (hbel2.mono (by have := hbel.size; omega))⟩
      · have hb' : decide ((200 : Int) < sz.length) = false := by simp; omega
        go_wp2_with (go_at_call 15; refine (c15 _ _ _ _ _ _).mono ?_; rintro e w1 ⟨rfl, hbel2⟩)
        go_roundw
        case rel => exact ⟨k + 1, by omega, by go_num, fun j hj => by
          by_cases e : j = k
          · rw [e, Hq.out]; exact hb
          · exact He j (by omega), hbel.trans (hbel2.mono (by have := hbel.size; omega))⟩
        case measure => simp [intOf]; omega
    · go_wp2_with fail
      go_ret
      exact ⟨⟨-1, rfl, .inr ⟨rfl, fun j hj => He j (by omega)⟩⟩, hbel⟩

set_option maxHeartbeats 400000 in
theorem c14 (v : Value) (qs : List Qu) (w : World) (h : TurnsAt w v qs) (hl : qs.length ≤ 1000000000000000) (hl2 : ∀ i, i < qs.length → (qs.getD i default).sizes.length ≤ 1000000000000000) :
    Calls Try.prog 14 #[v, .func (.func 15) #[] #[]] w fun e w' => AnyB (fun i => 200 < (qs.getD i default).sizes.length) qs.length e ∧ Below w.heap.size w w' := by
  go_enter Try.func14, Try.ntmps14
  go_wp2_with fail
  refine (c23 _ _ _ h hl hl2).mono ?_
  rintro e w1 ⟨⟨r, rfl, hr⟩, hb⟩
  have Hr := Lib.hid hr; clear hr
  go_wp2_with fail
  go_ret
  refine ⟨⟨_, rfl, ?_⟩, hb⟩
  rcases Hr.out with ⟨k, rfl, h1, h2, h3⟩ | ⟨rfl, h3⟩
  · simp; exact ⟨k, h1, h2⟩
  · simp; intro k hk; simpa using h3 k hk

end Go.Proofs.Ytmnckaofopechaa
