/- Remove. -/
import Derived.Test.YtoladbjgfbnhoaaP9
namespace Go.Proofs.Ytoladbjgfbnhoaa
open Go.RowKit

def RemEnd (w : World) (e : Ending) (w' : World) : Prop :=
  Below w.heap.size w w' ∧ ∃ sv L r, e = .returned (.tuple #[.agg #[sv], .int .i64 r]) ∧ OwnN w' w.heap.size sv L

theorem rem_bad {w w' : World} {r : Int} (hb : Below w.heap.size w w') : RemEnd w (.returned (.tuple #[.agg #[.slice none 0 0], .int .i64 r])) w' :=
  ⟨hb, _, [], r, rfl, OwnsT.nil _ _ _ _ _⟩

theorem TrieEnd.weak {w w' : World} {res : Option (List Nd)} {e : Ending} (h : TrieEnd w res e w') : RemEnd w e w' := by
  obtain ⟨hb, h⟩ := h
  cases res with
  | none => obtain ⟨r, _, rfl⟩ := h; exact rem_bad hb
  | some L => obtain ⟨sv, rfl, h⟩ := h; exact ⟨hb, sv, L, 0, rfl, h⟩

set_option maxHeartbeats 4000000 in
theorem c6 (sv : Value) (ns : List Nd) (a l : Int) (w : World) (h : NodesAt w sv ns) (hl : ns.length ≤ 4398046511104) (ha : 0 ≤ a) (ha2 : a < 4294967296) :
    Calls Try.prog 6 #[.agg #[sv], .agg #[.int .u32 a, .int .i64 l]] w (RemEnd w) := by
  obtain ⟨sa, sc, rfl⟩ : ∃ sa sc, sv = .slice sa ns.length sc := by obtain ⟨x, y, h, _⟩ := h; exact ⟨x, y, h⟩
  generalize hB : w.heap.size = B at *
  have hW : ∃ w1, w1 = ((w.alloc (.cells #[.slice sa ns.length sc] 24)).alloc (.cells #[.int .u32 a, .int .i64 l] 27)).alloc (.cells #[.slice none 0 0] 24) := ⟨_, rfl⟩
  obtain ⟨w1, hW⟩ := hW
  have hs1 : w1.heap.size = B + 3 := by rw [hW]; simp [hB]
  have hb1 : Below B w w1 := by rw [hW, ← hB]; exact ((Below.of_alloc w _).alloc (by simp) _).alloc (by simp; omega) _
  have k0 : w1.heap[B]? = some (.cells #[.slice sa ns.length sc] 24 (0, 0)) := by
    rw [hW, Below.heap_alloc _ _ _ (by simp; omega), Below.heap_alloc _ _ _ (by simp; omega), ← hB]; exact heap_alloc_new w _
  have k1 : w1.heap[B + 1]? = some (.cells #[.int .u32 a, .int .i64 l] 27 (0, 0)) := by
    have := heap_alloc_new (w.alloc (.cells #[.slice sa ns.length sc] 24)) (.cells #[.int .u32 a, .int .i64 l] 27)
    rw [hW, Below.heap_alloc _ _ _ (by simp; omega)]
    simpa [hB] using this
  have k2 : w1.heap[B + 2]? = some (.cells #[.slice none 0 0] 24 (0, 0)) := by
    have := heap_alloc_new ((w.alloc (.cells #[.slice sa ns.length sc] 24)).alloc (.cells #[.int .u32 a, .int .i64 l] 27)) (.cells #[.slice none 0 0] 24)
    rw [hW]
    simpa [hB] using this
  have hread := c9 _ ns w1 (h.below hB.symm hb1) hl
  have Hb1 := Lib.hid hb1
  have K0 := Lib.hid k0
  have K1 := Lib.hid k1
  have K2 := Lib.hid k2
  have Hs1 := Lib.hid hs1
  have HW := Lib.hid hW
  have Hread := Lib.hid hread
  clear hb1 k0 k1 k2 hs1 hW hread h
  cases hrd : readM ns with
  | none =>
    have Hrd := Lib.hid hrd
    clear hrd
    go_enter Try.func6, Try.ntmps6
    go_wp2_with (go_at_call 9; go_loud (rw [← HW.out]; refine Hread.out.mono ?_; rintro e w2 ⟨hb2, hr⟩; rw [Hrd.out] at hr; obtain ⟨r, hr0, rfl⟩ := hr; have e2 := (hb2.block (B + 2) (by rw [Hs1.out]; omega)).trans K2.out; have c2 := cell_of_blk (o := 0) e2; have f2 := free_of_blk (o := 0) e2; have E2 := Lib.hid e2; have Hb2 := Lib.hid hb2; have hq : (r == 0) = false := (by rw [beq_eq_false_iff_ne]; exact hr0); clear hb2 e2 hr0))
    have hr := heap_setCell_cells (o := 0) (.slice none 0 0) E2.out
    refine bodyPost_ret (ret_cell24 rfl _ _ (B + 2) (.slice none 0 0) rfl (by simpa using hr)) rfl ?_
    refine rem_bad ?_
    rw [hB]
    exact (Hb1.out.trans (Hb2.out.mono (by rw [Hs1.out]; omega))).setCell (by simp; omega) _
  | some t =>
    have Hsz := Lib.hid (readM_size hrd)
    cases hnet : netM a l with
    | false =>
      have Hrd := Lib.hid hrd
      have Hnet := Lib.hid hnet
      clear hrd hnet
      go_enter Try.func6, Try.ntmps6
      go_wp2_with (first
        | (go_at_call 9; go_loud (rw [← HW.out]; refine Hread.out.mono ?_; rintro e w2 ⟨hb2, hr⟩; rw [Hrd.out] at hr; obtain ⟨p, rfl, hT⟩ := hr; have e1 := (hb2.block (B + 1) (by rw [Hs1.out]; omega)).trans K1.out; have e2 := (hb2.block (B + 2) (by rw [Hs1.out]; omega)).trans K2.out; have c1 := cell_of_blk (o := 0) e1; have c1b := cell_of_blk (o := 1) e1; have c2 := cell_of_blk (o := 0) e2; have f2 := free_of_blk (o := 0) e2; have E1 := Lib.hid e1; have E2 := Lib.hid e2; have Hb2 := Lib.hid hb2; have HT := Lib.hid hT; have hz2 := hb2.size; rw [Hs1.out] at hz2; clear hb2 e1 e2 hT))
        | (go_at_call 10; go_loud (refine (c10 _ _ _).mono ?_; rintro e w3 ⟨rfl, hb3⟩; rw [Hnet.out]; have e1' := (hb3.block (B + 1) (by omega)).trans E1.out; have e2' := (hb3.block (B + 2) (by omega)).trans E2.out; clear c1 c1b c2 f2; have c1 := cell_of_blk (o := 0) e1'; have c1b := cell_of_blk (o := 1) e1'; have c2 := cell_of_blk (o := 0) e2'; have f2 := free_of_blk (o := 0) e2'; have F1 := Lib.hid e1'; have F2 := Lib.hid e2'; have Hb3 := Lib.hid hb3; have hz3 := hb3.size; clear hb3 e1' e2')))
      have hr := heap_setCell_cells (o := 0) (.slice none 0 0) F2.out
      refine bodyPost_ret (ret_cell24 rfl _ _ (B + 2) (.slice none 0 0) rfl (by simpa using hr)) rfl ?_
      refine rem_bad ?_
      rw [hB]
      exact ((Hb1.out.trans (Hb2.out.mono (by rw [Hs1.out]; omega))).trans (Hb3.out.mono (by omega))).setCell (by simp; omega) _
    | true =>
      obtain ⟨hl0, hl32⟩ := netM_le hnet
      obtain ⟨lg, rfl⟩ := Int.eq_ofNat_of_zero_le hl0
      have hlg : lg ≤ 32 := by omega
      have Hrd := Lib.hid hrd
      have Hnet := Lib.hid hnet
      clear hrd hnet
      go_enter Try.func6, Try.ntmps6
      go_wp2_with (first
        | (go_at_call 9; go_loud (rw [← HW.out]; refine Hread.out.mono ?_; rintro e w2 ⟨hb2, hr⟩; rw [Hrd.out] at hr; obtain ⟨p, rfl, hT⟩ := hr; have e1 := (hb2.block (B + 1) (by rw [Hs1.out]; omega)).trans K1.out; have e2 := (hb2.block (B + 2) (by rw [Hs1.out]; omega)).trans K2.out; have c1 := cell_of_blk (o := 0) e1; have c1b := cell_of_blk (o := 1) e1; have c2 := cell_of_blk (o := 0) e2; have f2 := free_of_blk (o := 0) e2; have E1 := Lib.hid e1; have E2 := Lib.hid e2; have Hb2 := Lib.hid hb2; have HT := Lib.hid hT; have hz2 := hb2.size; rw [Hs1.out] at hz2; clear hb2 e1 e2 hT))
        | (go_at_call 10; go_loud (refine (c10 _ _ _).mono ?_; rintro e w3 ⟨rfl, hb3⟩; rw [Hnet.out]; have e1' := (hb3.block (B + 1) (by omega)).trans E1.out; have e2' := (hb3.block (B + 2) (by omega)).trans E2.out; clear c1 c1b c2 f2; have c1 := cell_of_blk (o := 0) e1'; have c1b := cell_of_blk (o := 1) e1'; have c2 := cell_of_blk (o := 0) e2'; have f2 := free_of_blk (o := 0) e2'; have F1 := Lib.hid e1'; have F2 := Lib.hid e2'; have Hb3 := Lib.hid hb3; have hz3 := hb3.size; clear hb3 e1' e2'))
        | (go_at_call 13; go_loud (refine (c13 a lg ha ha2 hlg lg 0 (by omega) t p (B + 3) w2.heap.size _ ?_ ?_).mono ?_; (have hx := HT.out.of_same (w' := w3) (fun x _ hx => Hb3.out.block x hx); rw [Hs1.out] at hx; exact hx); (exact Hb3.out.size); rintro e w4 ⟨q, t', ok, rfl, hts, hT4, ho4⟩; have Hts := Lib.hid hts; have hb4 := ho4.below (B := B + 3) (Nat.le_refl _) (by omega); have e2' := (hb4.block (B + 2) (by omega)).trans F2.out; clear c1 c1b c2 f2; have c2 := cell_of_blk (o := 0) e2'; have f2 := free_of_blk (o := 0) e2'; have G2 := Lib.hid e2'; have Hb4 := Lib.hid hb4; have hz4 := hb4.size; have HT4 := Lib.hid hT4.lt; clear hb4 e2' hT4 ho4 hts))
        | (go_at_call 11; go_loud (refine (c11 _ q _ HT4.out (by have := Hts.out; have := Hsz.out; omega)).mono ?_; rintro e w5 ⟨sv, rfl, ho5, hb5⟩; obtain ⟨va, vc, rfl⟩ := OwnsT.shape ho5; have e2' := (hb5.block (B + 2) (by omega)).trans G2.out; clear c2 f2; have c2 := cell_of_blk (o := 0) e2'; have f2 := free_of_blk (o := 0) e2'; have I2 := Lib.hid e2'; have Hb5 := Lib.hid hb5; have hz5 := hb5.size; have Ho5 := Lib.hid ho5; clear hb5 e2' ho5)))
      · have hr := heap_setCell_cells (o := 0) (.slice none 0 0) G2.out
        refine bodyPost_ret (ret_cell24 rfl _ _ (B + 2) (.slice none 0 0) rfl (by simpa using hr)) rfl ?_
        refine rem_bad ?_
        rw [hB]
        exact (((Hb1.out.trans (Hb2.out.mono (by rw [Hs1.out]; omega))).trans (Hb3.out.mono (by omega))).trans (Hb4.out.mono (by omega))).setCell (by simp; omega) _
      · have hr := heap_setCell_cells (o := 0) (.slice va (layM t' 0).length vc) I2.out
        refine bodyPost_ret (ret_cell24 rfl _ _ (B + 2) (.slice va (layM t' 0).length vc) rfl (by simpa using hr)) rfl ?_
        have hall : Below B w w5 := (((Hb1.out.trans (Hb2.out.mono (by rw [Hs1.out]; omega))).trans (Hb3.out.mono (by omega))).trans (Hb4.out.mono (by omega))).trans (Hb5.out.mono (by omega))
        refine ⟨by rw [hB]; exact hall.setCell (by simp; omega) _, _, layM t' 0, 0, rfl, ?_⟩
        rw [hB]
        exact OwnsT.setCell_other (OwnsT.base_le Ho5.out (by omega)) (fun e => OwnsT.ne_cells Ho5.out I2.out (by decide) e) _
end Go.Proofs.Ytoladbjgfbnhoaa
