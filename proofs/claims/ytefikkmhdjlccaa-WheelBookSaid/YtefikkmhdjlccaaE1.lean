/- The closures of WheelBook, and slices.DeleteFunc. -/
import Derived.Test.YtefikkmhdjlccaaV4
namespace Go.Proofs.Ytefikkmhdjlccaa
open Go.RowKit

theorem ent18 : ∀ args wx, (callFunc 18 args).run Try.prog wx = .ok (.enter 18 args) wx := fun args wx => by
  simp [callFunc, Try.func18, Try.f18, mark]
set_option maxHeartbeats 400000 in
theorem asks18 (gc : Nat) (id : Int) (w : World) (hg : w.heap[gc]? = some (.cells #[.int .i64 id] 3 (0, 0))) : Asks 18 gc w (fun d => d.id == id) := by
  intro wx d hwx
  have hlt : gc < wx.heap.size := (Array.getElem?_eq_some_iff.1 (hwx.trans hg)).1
  have k0 := cell_of_blk (o := 0) (hwx.trans hg)
  clear hg hwx
  go_enter Try.func18, Try.ntmps18
  go_wp2
  go_ret
  exact ⟨rfl, (Below.refl _ _).alloc (Nat.le_refl _) _⟩

theorem ent21 : ∀ args wx, (callFunc 21 args).run Try.prog wx = .ok (.enter 21 args) wx := fun args wx => by
  simp [callFunc, Try.func21, Try.f21, mark]
set_option maxHeartbeats 400000 in
theorem asks21 (gc : Nat) (now : Int) (V : Nat → Value) (w : World) (hg : w.heap[gc]? = some (.cells (Cw now V) 25 (0, 0))) : Asks 21 gc w (fun d => decide (d.tm ≤ now)) := by
  intro wx d hwx
  have hlt : gc < wx.heap.size := (Array.getElem?_eq_some_iff.1 (hwx.trans hg)).1
  have k0 : wx.cell? ⟨gc, 0, none⟩ = some (.int .i64 now) := by rw [cell_of_blk (hwx.trans hg), Cw_now]
  clear hg hwx
  go_enter Try.func21, Try.ntmps21
  go_wp2
  go_ret
  exact ⟨rfl, (Below.refl _ _).alloc (Nat.le_refl _) _⟩

theorem duCells_set (d : Du) : ∀ (l : List Du) (i : Nat), duCells (l.set i d) = ((duCells l).set (i * 2) (.int .i64 d.id)).set (i * 2 + 1) (.int .i64 d.tm)
  | [], i => by simp [duCells]
  | x :: l, 0 => by simp [duCells]
  | x :: l, i + 1 => by
    have ih := duCells_set d l i
    have e : ∀ (y : Du) (m : List Du), duCells (y :: m) = .int .i64 y.id :: .int .i64 y.tm :: duCells m := fun y m => by simp [duCells]
    rw [List.set_cons_succ, e, e, ih, show (i + 1) * 2 = i * 2 + 2 from by omega]
    simp [List.set_cons_succ]

theorem OwnD.cells2 {w : World} {B g n cap : Nat} {l : List Du} (h : OwnD w B (.slice (some ⟨g, 0, none⟩) n cap) l) {i : Nat} (hi : i < l.length) :
    w.cell? ⟨g, i * 2, none⟩ = some (.int .i64 (l.getD i default).id) ∧ w.cell? ⟨g, i * 2 + 1, none⟩ = some (.int .i64 (l.getD i default).tm) ∧ w.frozen? ⟨g, i * 2, none⟩ = false ∧ w.frozen? ⟨g, i * 2 + 1, none⟩ = false := by
  obtain ⟨h1, ⟨h0, _⟩ | ⟨g', cap', cur, e, a1, a2, a3, a4, a5, a6, a7⟩⟩ := h
  · cases h0
  simp only [Value.slice.injEq, Option.some.injEq, Addr.mk.injEq, and_true] at e
  obtain ⟨rfl, rfl, rfl⟩ := e
  obtain ⟨t0, t1⟩ := duCells_get l i hi
  have key : ∀ (j : Nat) (u : Value), (duCells l)[j]? = some u → w.cell? ⟨g, j, none⟩ = some u := fun j u hu => by
    rw [cell_of_blk a2]
    rw [← a6, List.getElem?_take] at hu
    split at hu
    · simpa using hu
    · cases hu
  exact ⟨key _ _ t0, key _ _ t1, free_of_blk a2, free_of_blk a2⟩

/-- one thing is written over. -/
theorem OwnD.set {w : World} {B g n cap : Nat} {l : List Du} (h : OwnD w B (.slice (some ⟨g, 0, none⟩) n cap) l) (i : Nat) (d : Du) :
    OwnD ((w.setCell ⟨g, i * 2, none⟩ (.int .i64 d.id)).setCell ⟨g, i * 2 + 1, none⟩ (.int .i64 d.tm)) B (.slice (some ⟨g, 0, none⟩) n cap) (l.set i d) := by
  obtain ⟨h1, ⟨h0, _⟩ | ⟨g', cap', cur, e, a1, a2, a3, a4, a5, a6, a7⟩⟩ := h
  · cases h0
  simp only [Value.slice.injEq, Option.some.injEq, Addr.mk.injEq, and_true] at e
  obtain ⟨rfl, rfl, rfl⟩ := e
  have hg := heap_setCell_cells (o := i * 2 + 1) (.int .i64 d.tm) (heap_setCell_cells (o := i * 2) (.int .i64 d.id) a2)
  unfold OwnD
  refine ⟨by rw [duCells_length], .inr ⟨g, cap, _, by rw [List.length_set], a1, hg, by rw [List.length_set]; exact a3, a4, by simpa using a5, ?_, fun j u hu => ?_⟩⟩
  · rw [List.length_set, duCells_set, ← a6]
    simp [List.take_set]
  · rw [Array.getElem?_setIfInBounds] at hu
    split at hu
    · split at hu
      · simp at hu; exact ⟨_, hu.symm⟩
      · cases hu
    · rw [Array.getElem?_setIfInBounds] at hu
      split at hu
      · split at hu
        · simp at hu; exact ⟨_, hu.symm⟩
        · cases hu
      · exact a7 j u hu

/-- what lies behind is cleared, and left out. -/
theorem OwnD.cut {w w' : World} {B g n cap i : Nat} {l : List Du} (h : OwnD w B (.slice (some ⟨g, 0, none⟩) n cap) l) (hi : i ≤ l.length) (cur : Array Value) (hc : w.heap[g]? = some (.cells cur 33 (0, 0))) (zs : List Value) (hz : ∀ u ∈ zs, u = .int .i64 0) (hzl : zs.length = (l.length - i) * 2)
    (hg' : w'.heap[g]? = some (.cells (cur.toList.take (i * 2) ++ zs ++ cur.toList.drop (i * 2 + zs.length)).toArray 33 (0, 0))) : OwnD w' B (.slice (some ⟨g, 0, none⟩) i cap) (l.take i) := by
  obtain ⟨h1, ⟨h0, _⟩ | ⟨g', cap', cur', e, a1, a2, a3, a4, a5, a6, a7⟩⟩ := h
  · cases h0
  simp only [Value.slice.injEq, Option.some.injEq, Addr.mk.injEq, and_true] at e
  obtain ⟨rfl, rfl, rfl⟩ := e
  rw [hc] at a2
  simp only [Option.some.injEq, Obj.cells.injEq, and_true] at a2
  subst a2
  have hlen : (l.take i).length = i := by rw [List.length_take]; omega
  unfold OwnD
  rw [hlen]
  have htl : (cur.toList.take (i * 2)).length = i * 2 := by rw [List.length_take, Array.length_toList, a5]; omega
  refine ⟨by rw [duCells_length, hlen], .inr ⟨g, cap, _, rfl, a1, hg', by omega, a4, ?_, ?_, ?_⟩⟩
  · simp only [List.size_toArray, List.length_append, List.length_take, List.length_drop, Array.length_toList, hzl, a5]
    omega
  · simp only [List.append_assoc]
    rw [List.take_append_of_le_length (by omega), duCells_take, ← a6, List.take_take, List.take_take]
    congr 1
    omega
  · intro j u hu
    have hmem := List.mem_of_getElem? (l := _) (by simpa using hu)
    have hcur : ∀ u ∈ cur.toList, DuT (j % 2) u := fun u hu => by
      obtain ⟨i, hi⟩ := List.mem_iff_getElem?.1 hu
      exact a7 i u (by simpa using hi)
    simp only [List.mem_append] at hmem
    rcases hmem with h | h | h
    · exact hcur u (List.mem_of_mem_take h)
    · exact ⟨0, hz u h⟩
    · exact hcur u (List.mem_of_mem_drop h)
end Go.Proofs.Ytefikkmhdjlccaa
