/- flat: a trie of a tree; Put. -/
import Derived.Test.YtoladbjgfbnhoaaP6
namespace Go.Proofs.Ytoladbjgfbnhoaa
open Go.RowKit

def FlatEnd (w : World) (t : T) (e : Ending) (w' : World) : Prop := ∃ sv, e = .returned (.agg #[sv]) ∧ OwnN w' w.heap.size sv (layM t 0) ∧ Below w.heap.size w w'

set_option maxHeartbeats 1000000 in
theorem c11 (t : T) (p : Option Addr) (w : World) (hT : TreeAt w (fun b => b < w.heap.size) p t) (hsz : t.size ≤ 1000) :
    Calls Try.prog 11 #[.pointer p] w (FlatEnd w t) := by
  generalize hB : w.heap.size = B at *
  by_cases ht : t = .nil
  · subst ht
    obtain rfl : p = none := hT
    go_enter Try.func11, Try.ntmps11
    go_wp2_with fail
    refine bodyPost_ret (v := .agg #[.slice none 0 0]) (by simp only [results]; go_simp) rfl ?_
    exact ⟨_, rfl, OwnsT.nil _ _ _ _ _, ((Below.of_alloc w _).alloc (by simp) _)⟩
  · obtain ⟨q, rfl⟩ : ∃ q, p = some q := by
      rcases t with _ | ⟨a1, a2, a3, a4⟩
      · exact absurd rfl ht
      · obtain ⟨_, _, _, h, _⟩ := hT
        exact ⟨_, h⟩
    have hcall : ∀ wx : World, wx = (w.alloc (.cells #[.slice none 0 0] 24)).alloc (.cells #[.slice none 0 0] 22) → Calls Try.prog 17 #[.pointer (some q), .pointer (some ⟨B + 1, 0, none⟩)] wx (LayEnd wx (B + 1) (B + 1) [] t) := by
      rintro wx rfl
      have hn := heap_alloc_new (w.alloc (.cells #[.slice none 0 0] 24)) (.cells #[.slice none 0 0] 22)
      refine c17 (B + 1) (B + 1) t _ (.slice none 0 0) [] _ ((hT.of_same (fun x hx _ => ?_)).mono (fun x hx => by omega)) ht (by simpa [hB] using hn) (OwnsT.nil _ _ _ _ _) (by omega) (by simpa using hsz)
      rw [Below.heap_alloc _ _ _ (by simp; omega), Below.heap_alloc _ _ _ (by omega)]
    have Hcall := Lib.hid hcall
    have hb1 : ((w.alloc (.cells #[.slice none 0 0] 24)).alloc (.cells #[.slice none 0 0] 22)).heap[B]? = some (.cells #[.slice none 0 0] 24 (0, 0)) := by
      rw [Below.heap_alloc _ _ _ (by simp; omega), ← hB]; exact heap_alloc_new w _
    have Hb1 := Lib.hid hb1
    have Hb : Hid (Below B w ((w.alloc (.cells #[.slice none 0 0] 24)).alloc (.cells #[.slice none 0 0] 22))) := by rw [← hB]; exact ((Below.of_alloc w _).alloc (by simp) _)
    clear hcall hT ht hb1
    go_enter Try.func11, Try.ntmps11
    go_wp2_with (go_at_call 17; go_loud (refine (Hcall.out _ rfl).mono ?_; rintro e w2 ⟨rfl, sv, k1, k2, k3⟩; obtain ⟨sa, sc, rfl⟩ := OwnsT.shape k2; have k4 := cell_of_blk (o := 0) k1; have K2 := Lib.hid k2; have k5 := (k3.block B (by omega)).trans Hb1.out; have k6 := cell_of_blk (o := 0) k5; have k7 := free_of_blk (o := 0) k5; have K3 := Lib.hid k3; have K5 := Lib.hid k5; clear k1 k2 k3 k5))
    have hr := heap_setCell_cells (o := 0) (.slice sa (layM t 0).length sc) K5.out
    refine bodyPost_ret (results_cell_row rfl _ _ B 24 #[.slice sa (layM t 0).length sc] (0, 0) _ rfl (by simpa using hr) Try.underlying24 rfl (by kernel_rfl)) rfl ?_
    refine ⟨_, rfl, ?_, ?_⟩
    · rw [hB]
      exact OwnsT.setCell_other (OwnsT.base_le K2.out (by omega)) (fun e => OwnsT.ne_cells K2.out K5.out (by decide) e) _
    · rw [hB]
      exact (Hb.out.trans (K3.out.mono (by omega))).setCell (by simp) _
end Go.Proofs.Ytoladbjgfbnhoaa
