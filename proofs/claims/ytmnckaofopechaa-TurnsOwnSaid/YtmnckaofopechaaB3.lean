/- turns.Check answers nought just where the queues are right. -/
import Derived.Test.YtmnckaofopechaaB2
namespace Go.Proofs.Ytmnckaofopechaa
open Go.RowKit

theorem _root_.Go.RowKit.Below.drewN {B : Nat} {a w : World} (h : Below B a w) (n : Nat) : Below B a (w.drewN n) := ⟨h.os, h.tape, h.output, h.size, h.block⟩

def Chk (qs : List Qu) (e : Ending) : Prop := ∃ r : Int, e = .returned (.int .i64 r) ∧ (r = 0 ↔ RightT qs)

theorem chk_large (qs : List Qu) (h : ¬ qs.length ≤ 16) : Chk qs (.returned (.int .i64 2)) := ⟨2, rfl, by simp; intro hr; exact h hr.1⟩
theorem chk_bad (qs : List Qu) (r : Int) (hr : r ≠ 0) (k : Nat) (hk : k < qs.length) (h : ¬ RightQ (qs.getD k default)) : Chk qs (.returned (.int .i64 r)) := ⟨r, rfl, by constructor; (intro h0; exact absurd h0 hr); (intro h1; exact absurd (h1.2 k hk) h)⟩

set_option maxHeartbeats 1000000 in
theorem c6 (v : Value) (qs : List Qu) (w : World) (h : TurnsAt w v qs) (hl : qs.length ≤ 3518437208781) (hl2 : ∀ i, i < qs.length → (qs.getD i default).sizes.length ≤ 17592186043904) :
    Calls Try.prog 6 #[v] w fun e w' => Chk qs e ∧ Below w.heap.size w w' := by
  have hT := h
  obtain ⟨a, cap, rfl, hc, _, h⟩ := h
  generalize hB : w.heap.size = B at *
  by_cases h16 : (16 : Int) < qs.length
  · go_enter Try.func6, Try.ntmps6
    go_wp2_with fail
    go_ret
    exact ⟨chk_large qs (by omega), Below.refl _ _⟩
  have hall : ∀ (w1 : World), Below B w w1 → (∃ k, k < qs.length ∧ 200 < (qs.getD k default).sizes.length) → Chk qs (.returned (.int .i64 2)) ∧ Below B w w1 := fun w1 hb ⟨k, hk, h2⟩ => ⟨chk_bad qs 2 (by decide) k hk (fun hr => by have := hr.1; omega), hb⟩
  have Hall := Lib.hid hall; clear hall
  go_enter Try.func6, Try.ntmps6
  go_wp2_with (go_at_call 14; refine (c14 _ _ _ hT (by omega) (fun i hi => by have := hl2 i hi; omega)).mono ?_; rintro e w1 ⟨⟨bb, rfl, hbb⟩, hb1⟩; have Hbb := Lib.hid hbb; clear hbb; cases bb)
  · -- none is too long
    have hno : Hid (∀ i, i < qs.length → (qs.getD i default).sizes.length ≤ 200) := fun i hi => by
      have := Hbb.out
      simp at this
      have := this i hi
      simpa [List.getD] using this
    clear Hbb Hall
    go_wp2_with fail
    go_loopw [16] (fun i wr => ∃ k : Nat, k ≤ qs.length ∧ i = .int .i64 k ∧ Hid (∀ j, j < k → sizeB (qs.getD j default).share = true ∧ ∀ i, i < (qs.getD j default).sizes.length → sizeB ((qs.getD j default).sizes.getD i 0) = true) ∧ Below B w wr) (fun i _ => qs.length - (intOf i).toNat)
    case atStart => exact ⟨0, Nat.zero_le _, rfl, fun j hj => by omega, by rw [hB] at hb1; exact hb1⟩
    case round =>
      obtain ⟨k, hk, rfl, He, hbel⟩ := hrel
      clear hb1
      by_cases hlt : k < qs.length
      · obtain ⟨b, o, rfl, hh⟩ := h (by intro h0; subst h0; simp at hlt)
        have hq2 := hno.out k hlt
        obtain ⟨q1, q2, u, q3, q4⟩ := hh k hlt
        clear hh h hl2
        generalize hq : qs.getD k default = q at *
        have Hq := Lib.hid hq; clear hq
        have hbb : b < B := by rw [← hB]; exact World.block_lt_of_cell? w _ q1
        rw [← hbel.cell (by exact hbb)] at q1 q2 q3
        have hI := q4.below hB.symm hbel
        clear q4
        obtain ⟨sh, sv, sz⟩ := q
        simp only at *
        obtain ⟨a2, cap2, rfl, hc2⟩ : ∃ a2 cap2, u = .slice a2 sz.length cap2 ∧ sz.length ≤ cap2 := by obtain ⟨a2, cap2, rfl, h', _⟩ := hI; exact ⟨_, _, rfl, h'⟩
        have hszB := hbel.size
        have hbad : ∀ (w2 : World), Below B w w2 → ¬ RightQ ⟨sh, sv, sz⟩ → Chk qs (.returned (.int .i64 1)) ∧ Below B w w2 := fun w2 hb hr => ⟨chk_bad qs 1 (by decide) k hlt (by rw [Hq.out]; exact hr), hb⟩
        have Hbad := Lib.hid hbad; clear hbad
        cases hs : sizeB sh
        · go_wp2_with (go_at_call 16; refine (size_any _ _).mono ?_; rintro e w2 ⟨rfl, rfl⟩)
          go_ret
          exact Hbad.out _ (hbel.alloc (by omega) _) (fun hr => by have := hr.2.1; simp [hs] at this)
        · go_wp2_with (first
            | (go_at_call 16; refine (size_any _ _).mono ?_; rintro e w2 ⟨rfl, rfl⟩)
            | (go_at_call 17; refine (c17 _ _ _ (hI.alloc _) (by omega)).mono ?_; rintro e w2 ⟨⟨bb, rfl, hbb2⟩, rfl⟩; have Hbb := Lib.hid hbb2; clear hbb2; cases bb))
          · go_roundw
            case rel => exact ⟨k + 1, by omega, by go_num, fun j hj => by
              by_cases e : j = k
              · rw [e, Hq.out]; exact ⟨hs, by have := Hbb.out; simpa using this⟩
              · exact He j (by omega), hbel.alloc (by omega) _⟩
            case measure => simp [intOf]; omega
          · go_ret
            exact Hbad.out _ (hbel.alloc (by omega) _) (fun hr => by have := Hbb.out; simp at this; obtain ⟨i, hi, h2⟩ := this; have := hr.2.2.1 i hi; simp [h2] at this)
      · go_wp2_with fail
        have Hs : Hid (∀ j, j < qs.length → sizeB (qs.getD j default).share = true ∧ ∀ i, i < (qs.getD j default).sizes.length → sizeB ((qs.getD j default).sizes.getD i 0) = true) := fun j hj => He j (by omega)
        clear He
        go_loopw [32] (fun i wr => ∃ k : Nat, k ≤ qs.length ∧ i = .int .i64 k ∧ Hid (∀ j, j < k → RightQ (qs.getD j default)) ∧ Below B w wr) (fun i _ => qs.length - (intOf i).toNat)
        case atStart => exact ⟨0, Nat.zero_le _, rfl, fun j hj => by omega, hbel⟩
        case round =>
          clear hbel hlt hk
          obtain ⟨k, hk, rfl, He, hbel⟩ := hrel
          by_cases hlt : k < qs.length
          · obtain ⟨b, o, rfl, hh⟩ := h (by intro h0; subst h0; simp at hlt)
            have hq2 := hno.out k hlt
            have Hq1 := Lib.hid (Hs.out k hlt)
            obtain ⟨q1, q2, u, q3, q4⟩ := hh k hlt
            clear hh h hl2
            generalize hq : qs.getD k default = q at *
            have Hq := Lib.hid hq; clear hq
            have hbb : b < B := by rw [← hB]; exact World.block_lt_of_cell? w _ q1
            rw [← hbel.cell (by exact hbb)] at q1 q2 q3
            have hI := q4.below hB.symm hbel
            clear q4
            obtain ⟨sh, sv, sz⟩ := q
            simp only at *
            obtain ⟨a2, cap2, rfl, hc2, _, hcells⟩ := hI
            have hszB := hbel.size
            have hbad : ∀ (w2 : World), Below B w w2 → ¬ RightQ ⟨sh, sv, sz⟩ → Chk qs (.returned (.int .i64 4)) ∧ Below B w w2 := fun w2 hb hr => ⟨chk_bad qs 4 (by decide) k hlt (by rw [Hq.out]; exact hr), hb⟩
            have Hbad := Lib.hid hbad; clear hbad
            have hnext : RightQ ⟨sh, sv, sz⟩ → Hid (∀ j, j < k + 1 → RightQ (qs.getD j default)) := fun hr j hj => by
              by_cases e : j = k
              · rw [e, Hq.out]; exact hr
              · exact He.out j (by omega)
            have Hnext := Lib.hid hnext; clear hnext
            by_cases hneg : sv < 0
            · clear hcells
              go_wp2_with fail
              go_ret
              exact Hbad.out _ (hbel.alloc (by omega) _) (fun hr => by have := hr.2.2.2.1; simp at this; omega)
            by_cases h0 : sz.length = 0
            · have hsz0 : sz = [] := List.eq_nil_of_length_eq_zero h0
              clear hcells
              subst hsz0
              clear h0
              have hd0 : decide ((0 : Int) < ((([] : List Int).length : Nat) : Int)) = false := by simp
              simp only [List.length_nil] at *
              by_cases hpos : 0 < sv
              · go_wp2_with fail
                go_ret
                exact Hbad.out _ (hbel.alloc (by omega) _) (fun hr => by have := hr.2.2.2.2.1 rfl; simp at this; omega)
              · have hsv : sv = 0 := by omega
                subst hsv
                go_wp2_with fail
                go_quiet (fail)
                go_wp2_with fail
                go_roundw
                case rel => exact ⟨k + 1, by omega, by go_num, Hnext.out ⟨by simp, Hq1.out.1, fun i hi => by simp at hi, by simp, fun _ => rfl, fun h => by simp at h⟩, (hbel.alloc (by omega) _).drewN _⟩
                case measure => simp [intOf]; omega
            · obtain ⟨b2, o2, rfl, hcs⟩ := hcells (by intro e; subst e; simp at h0)
              have hx := hcs 0 (by omega)
              have hb2 := World.block_lt_of_cell? wr _ hx
              simp only [Nat.add_zero] at hx hb2
              clear hcs hcells
              generalize hx0 : sz.getD 0 0 = x0 at *
              have Hx0 := Lib.hid hx0; clear hx0
              have hlen : (0 : Int) < sz.length := by omega
              have hd0 : decide ((0 : Int) < sz.length) = true := by simpa using hlen
              have hd1 : decide (0 < sz.length) = true := by simpa using hlen
              have hd2 : 0 < sz.length := by omega
              have hq0 : ((sz.length : Int) == 0) = false := by rw [beq_eq_false_iff_ne]; omega
              by_cases hge : x0 ≤ sv
              · go_wp2_with fail
                go_quiet (fail)
                go_wp2_with fail
                go_ret
                exact Hbad.out _ ((hbel.alloc (by omega) _).drewN _) (fun hr => by have := hr.2.2.2.2.2 (by show 0 < sz.length; omega); simp only [Hx0.out] at this; omega)
              · go_wp2_with fail
                go_quiet (fail)
                go_wp2_with fail
                go_roundw
                case rel => exact ⟨k + 1, by omega, by go_num, Hnext.out ⟨hq2, Hq1.out.1, Hq1.out.2, by show 0 ≤ sv; omega, fun h => absurd h h0, fun h => by show sv < sz.getD 0 0; rw [Hx0.out]; omega⟩, (hbel.alloc (by omega) _).drewN _⟩
                case measure => simp [intOf]; omega
          · go_wp2_with fail
            go_ret
            exact ⟨⟨0, rfl, by simp; exact ⟨by omega, fun j hj => He.out j (by omega)⟩⟩, hbel⟩
  · rw [hB] at hb1
    have hfin := Hall.out w1 hb1 (by simpa using Hbb.out)
    have Hfin := Lib.hid hfin; clear hfin
    go_wp2_with fail
    go_ret
    exact Hfin.out
end Go.Proofs.Ytmnckaofopechaa
