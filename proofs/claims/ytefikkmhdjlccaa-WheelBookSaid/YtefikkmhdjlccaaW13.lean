/- find. -/
import Derived.Test.YtefikkmhdjlccaaW12
namespace Go.Proofs.Ytefikkmhdjlccaa
open Go.RowKit

theorem idxF_cases (p : Du → Bool) (l : List Du) : (∃ k, k < l.length ∧ p (l.getD k default) = true ∧ idxF p l = k) ∨ ((∀ d ∈ l, p d = false) ∧ idxF p l = -1) := by
  unfold idxF
  cases h : l.findIdx? p with
  | none =>
    right
    rw [List.findIdx?_eq_none_iff] at h
    exact ⟨h, rfl⟩
  | some k =>
    left
    rw [List.findIdx?_eq_some_iff_getElem] at h
    obtain ⟨hk, hp, _⟩ := h
    exact ⟨k, hk, by simpa [List.getD, hk] using hp, rfl⟩

def FindEnd (f : Ls) (id : Int) (e : Ending) : Prop :=
  (∃ i k : Nat, i < 96 ∧ k < (f i).length ∧ ((f i).getD k default).id = id ∧ e = .returned (.tuple #[.int .i64 i, .int .i64 k])) ∨ ((∀ i, i < 96 → ∀ d ∈ f i, d.id ≠ id) ∧ e = .returned (.tuple #[.int .i64 (-1), .int .i64 0]))

set_option maxHeartbeats 1000000 in
theorem c24 (now id : Int) (V : Nat → Value) (f : Ls) (w : World) (h : WheelAt w V f) (hl : ∀ i, i < 96 → (f i).length ≤ 8796093022208) :
    Calls Try.prog 24 #[.agg (Cw now V), .int .i64 id] w fun e w' => FindEnd f id e ∧ Below w.heap.size w w' := by
  generalize hB : w.heap.size = B at *
  obtain ⟨w1, hW⟩ : ∃ w1, w1 = (w.alloc (.cells (Cw now V) 25)).alloc (.cells #[.int .i64 id] 3) := ⟨_, rfl⟩
  have hs1 : w1.heap.size = B + 2 := by rw [hW]; simp [hB]
  have hb1 : Below B w w1 := by rw [hW]; exact (((Below.refl B w).alloc (by omega) _).alloc (by simp; omega) _)
  have k0 : Blk w1 B now V := by
    rw [hW, Blk, Below.heap_alloc _ _ _ (by simp; omega), ← hB]; exact heap_alloc_new w _
  have k1 : w1.heap[B + 1]? = some (.cells #[.int .i64 id] 3 (0, 0)) := by
    have := heap_alloc_new (w.alloc (.cells (Cw now V) 25)) (.cells #[.int .i64 id] 3)
    rw [hW]
    simpa [hB] using this
  have hr : ((w.alloc (.cells (Cw now V) 25)).alloc (.cells #[.int .i64 id] 3)).rangeAt B 1 (Lw V) := by rw [← hW]; exact k0.range
  have H0 := Lib.hid h
  have Hb1 := Lib.hid hb1
  have K1 := Lib.hid k1
  have Hr := Lib.hid hr
  have HW := Lib.hid hW
  have hs1l : B + 2 ≤ w1.heap.size := by omega
  clear hb1 k0 k1 hW hs1 h hr
  go_enter Try.func24, Try.ntmps24
  go_wp2_with (refine wpList_load_mid rfl 23 (.tmp 9) rfl B 1 rfl (Lw V) _ Hr.out Try.underlying23 rfl (by rw [Lw_length]; exact info23) ?_)
  rw [← HW.out]
  go_loopw [11] (fun i wr => ∃ k : Nat, k ≤ 96 ∧ i = .int .i64 k ∧ Hid (∀ j, j < k → ∀ d ∈ f j, d.id ≠ id) ∧ Below B w wr ∧ wr.heap[B + 1]? = some (.cells #[.int .i64 id] 3 (0, 0))) (fun i _ => 96 - (intOf i).toNat)
  case atStart => exact ⟨0, by omega, rfl, fun j hj => by omega, Hb1.out, K1.out⟩
  case round =>
    clear K1
    obtain ⟨k, hk, rfl, hn, hbel, hk1⟩ := hrel
    have hlt1 : B + 1 < wr.heap.size := (Array.getElem?_eq_some_iff.1 hk1).1
    by_cases hlt : k < 96
    · have hD := (H0.out k hlt).below hB.symm hbel
      obtain ⟨a, c, hv, _⟩ := _root_.id hD
      have hidx := index23 V k hlt a _ c hv
      have hk96 : decide ((k : Int) < 96) = true := decide_eq_true (by omega)
      have hcall := c17 _ (f k) 32 (B + 1) (fun d => d.id == id) wr (hv ▸ hD) (hl k hlt) hlt1 (asks32 (B + 1) id wr hk1) ent32
      have Hcall := Lib.hid hcall
      have Hk1 := Lib.hid hk1
      clear hcall hD hv hk1
      go_wp2_with fail
      refine Hcall.out.mono ?_
      rintro e w2 ⟨rfl, hb2⟩
      have Hk2 := Lib.hid ((hb2.block (B + 1) hlt1).trans Hk1.out)
      have Hb2 := Lib.hid (hbel.trans (hb2.mono (by omega)))
      clear hb2 hidx
      rcases idxF_cases (fun d => d.id == id) (f k) with ⟨j, hj, hp, he⟩ | ⟨hall, he⟩
      · rw [he]
        have Hp := Lib.hid hp
        clear he hp
        go_wp2_with fail
        go_ret2
        exact ⟨.inl ⟨k, j, hlt, hj, by simpa using Hp.out, rfl⟩, Hb2.out⟩
      · rw [he]
        have Hall := Lib.hid hall
        clear he hall
        go_wp2_with fail
        go_roundw
        case rel =>
          refine ⟨k + 1, by omega, by go_num, fun j hj d hd => ?_, Hb2.out, Hk2.out⟩
          by_cases e : j = k
          · subst e
            have := Hall.out d hd
            simpa using this
          · exact hn.out j (by omega) d hd
        case measure => simp [intOf]; omega
    · obtain rfl : k = 96 := by omega
      have Hk1 := Lib.hid hk1
      clear hk1
      go_wp2_with fail
      go_ret2
      exact ⟨.inr ⟨hn.out, rfl⟩, hbel⟩
end Go.Proofs.Ytefikkmhdjlccaa
