/- What the law calls besides: Equal, TurnsRight, where the answer is yes. -/
import Derived.Test.YtmnckaofopechaaB5
namespace Go.Proofs.Ytmnckaofopechaa
open Go.RowKit

set_option maxHeartbeats 1000000 in
theorem c9 (v v2 : Value) (xs : List Int) (w : World) (h : IntsAt w v xs) (h2 : IntsAt w v2 xs) (hl : xs.length ≤ 17592186043904) :
    Calls Try.prog 9 #[v, v2] w fun e w' => e = .returned (.bool true) ∧ Below w.heap.size w w' := by
  obtain ⟨a, cap, rfl, hc, _, h⟩ := h
  obtain ⟨a2, cap2, rfl, hc2, _, h2⟩ := h2
  generalize hB : w.heap.size = B at *
  go_enter Try.func9, Try.ntmps9
  go_wp2
  go_loopw [13] (fun i wr => ∃ k : Nat, k ≤ xs.length ∧ i = .int .i64 k ∧ ∃ n, wr = w.drewN n) (fun i _ => xs.length - (intOf i).toNat)
  case atStart => exact ⟨0, Nat.zero_le _, rfl, 0, rfl⟩
  case round =>
    obtain ⟨k, hk, rfl, n, rfl⟩ := hrel
    by_cases hlt : k < xs.length
    · obtain ⟨b, o, rfl, hh⟩ := h (by intro h0; subst h0; simp at hlt)
      obtain ⟨b2, o2, rfl, hh2⟩ := h2 (by intro h0; subst h0; simp at hlt)
      have q1 := hh k hlt
      have q2 := hh2 k hlt
      clear hh hh2 h h2
      generalize xs.getD k 0 = x at *
      have d0 : (k : Int) < xs.length := by omega
      have d1 : (x != x) = false := by simp
      go_wp2_with fail
      go_quiet (fail)
      go_wp2_with fail
      go_roundw
      case rel => exact ⟨k + 1, by omega, by go_num, _, rfl⟩
      case measure => simp [intOf]; omega
    · go_wp2_with fail
      go_ret
      exact ⟨rfl, hB ▸ (Below.refl _ _).drewN n⟩

set_option maxHeartbeats 400000 in
theorem c20 (n : Int) (w : World) :
    Calls Try.prog 20 #[.int .i64 n, .int .i64 1, .int .i64 1000000] w fun e w' => e = .returned (.bool (sizeB n)) ∧ w = w' := by
  go_enter Try.func20, Try.ntmps20
  go_wp2
  all_goals go_ret
  · exact ⟨by simp [sizeB, *], rfl⟩
  · exact ⟨by simp [sizeB]; omega, rfl⟩

set_option maxRecDepth 100000 in
set_option maxHeartbeats 1000000 in
theorem c8 (v : Value) (qs : List Qu) (w : World) (h : TurnsAt w v qs) (hR : Hid (RightT qs)) :
    Calls Try.prog 8 #[v] w fun e w' => e = .returned (.int .i64 0) ∧ Below w.heap.size w w' := by
  obtain ⟨a, cap, rfl, hc, _, h⟩ := h
  generalize hB : w.heap.size = B at *
  have h16 := hR.out.1
  have h16' : decide ((16 : Int) < qs.length) = false := by simp; omega
  have h16'' : decide (16 < qs.length) = false := by simp; omega
  go_enter Try.func8, Try.ntmps8
  go_wp2
  go_loopw [3, 4, 5, 16] (fun x3 x4 x5 i wr => ∃ k : Nat, k ≤ qs.length ∧ i = .int .i64 k ∧ x3 = .bool false ∧ x4 = .bool false ∧ x5 = .bool false ∧ Below B w wr) (fun _ _ _ i _ => qs.length - (intOf i).toNat)
  case atStart => exact ⟨0, Nat.zero_le _, rfl, rfl, rfl, rfl, Below.refl _ _⟩
  case round =>
    obtain ⟨k, hk, rfl, rfl, rfl, rfl, hbel⟩ := hrel
    by_cases hlt : k < qs.length
    · obtain ⟨b, o, rfl, hh⟩ := h (by intro h0; subst h0; simp at hlt)
      have hRk := Lib.hid (hR.out.2 k hlt)
      obtain ⟨q1, q2, u, q3, q4⟩ := hh k hlt
      clear hh h
      generalize hq : qs.getD k default = q at *
      have Hq := Lib.hid hq; clear hq
      have hbb : b < B := by rw [← hB]; exact World.block_lt_of_cell? w _ q1
      rw [← hbel.cell (by exact hbb)] at q1 q2 q3
      have hI := q4.below hB.symm hbel
      clear q4
      obtain ⟨sh, sv, sz⟩ := q
      simp only at q1 q2 q3 hI hRk
      obtain ⟨a2, cap2, rfl, hc2, _, hcells⟩ := hI
      have hszB := hbel.size
      have h200 := hRk.out.1
      have hsB : sizeB sh = true := hRk.out.2.1
      have hsv0 := hRk.out.2.2.2.1
      simp only at h200 hsv0
      have e200 : decide ((200 : Int) < sz.length) = false := by simp; omega
      have e200' : decide (200 < sz.length) = false := by simp; omega
      go_wp2_with (go_at_call 20; refine (c20 _ _).mono ?_; rintro e w1 ⟨rfl, rfl⟩)
      go_loopw [4, 37] (fun x4 i wr2 => ∃ m : Nat, m ≤ sz.length ∧ i = .int .i64 m ∧ x4 = .bool false ∧ wr.alloc (.cells #[.int .i64 sh, .int .i64 sv, .slice a2 sz.length cap2] 35) = wr2) (fun _ i _ => sz.length - (intOf i).toNat)
      case atStart => exact ⟨0, Nat.zero_le _, rfl, rfl, rfl⟩
      case round =>
        obtain ⟨m, hm, rfl, rfl, rfl⟩ := hrel
        by_cases hml : m < sz.length
        · obtain ⟨b2, o2, rfl, hcs⟩ := hcells (by intro e; subst e; simp at hml)
          have hx := hcs m hml
          have hb2 := World.block_lt_of_cell? wr _ hx
          simp only at hb2
          have hxB : sizeB (sz.getD m 0) = true := hRk.out.2.2.1 m hml
          clear hcs hcells
          generalize hxx : sz.getD m 0 = x at *
          clear hxx
          go_wp2_with (go_at_call 20; refine (c20 _ _).mono ?_; rintro e w1 ⟨rfl, rfl⟩)
          go_roundw
          case rel => exact ⟨m + 1, by omega, by go_num, by simp, by simp⟩
          case measure => simp [intOf]; omega
        · by_cases h0 : sz.length = 0
          · clear hcells
            have hsv := hRk.out.2.2.2.2.1 h0
            simp only at hsv
            subst hsv
            have hg0 : decide ((0 : Int) < sz.length) = false := decide_eq_false (by omega)
            have hg1 : decide (0 < sz.length) = false := decide_eq_false (by omega)
            have H0 := Lib.hid h0; clear h0
            go_wp2_with fail
            go_roundw
            case rel => exact ⟨k + 1, by omega, by go_num, by simp, by simp, by simp, hbel.alloc (by omega) _⟩
            case measure => simp [intOf]; omega
          · obtain ⟨b2, o2, rfl, hcs⟩ := hcells (by intro e; subst e; simp at h0)
            have hx := hcs 0 (by omega)
            have hb2 := World.block_lt_of_cell? wr _ hx
            simp only [Nat.add_zero] at hx hb2
            have hlt0 := hRk.out.2.2.2.2.2 (by show 0 < sz.length; omega)
            simp only at hlt0
            clear hcs hcells
            generalize hx0 : sz.getD 0 0 = x0 at *
            clear hx0
            have hg0 : decide ((0 : Int) < sz.length) = true := decide_eq_true (by omega)
            have hg1 : decide (0 < sz.length) = true := decide_eq_true (by omega)
            have hg3 : decide (sv < 0) = false := decide_eq_false (by omega)
            have hg4 : decide (x0 ≤ sv) = false := decide_eq_false (by omega)
            have hg2 : 0 < sz.length := by omega
            go_wp2_with fail
            go_roundw
            case rel => exact ⟨k + 1, by omega, by go_num, by simp, by simp, by simp, hbel.alloc (by omega) _⟩
            case measure => simp [intOf]; omega
    · go_wp2_with fail
      go_ret
      exact ⟨rfl, hbel⟩
end Go.Proofs.Ytmnckaofopechaa
