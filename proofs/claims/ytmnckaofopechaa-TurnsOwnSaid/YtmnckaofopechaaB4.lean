/- Queues in memory that the call itself made. -/
import Derived.Test.YtmnckaofopechaaB3
namespace Go.Proofs.Ytmnckaofopechaa
open Go.RowKit

/-- ints in a block of the call's own, from base on; all cells up to the capacity are ints that may be written. -/
def FreshI (w : World) (B : Nat) (v : Value) (xs : List Int) : Prop :=
  ∃ a cap, v = .slice a xs.length cap ∧ xs.length ≤ cap ∧ (a = none → cap = 0) ∧ (cap ≠ 0 → ∃ g o cur, a = some ⟨g, o, none⟩ ∧ B ≤ g ∧ w.heap[g]? = some (.cells cur 3 (0, 0)) ∧ (o + cap ≤ cur.size ∧ cap ≤ maxLen) ∧
    (∀ (j : Nat) (u : Value), cur[j]? = some u → IsI64 j u) ∧ ∀ i, i < xs.length → cur[o + i]? = some (.int .i64 (xs.getD i 0)))

theorem cell_of_blk {w : World} {g o : Nat} {cur : Array Value} {t : TypeId} {fr : Nat × Nat} (h : w.heap[g]? = some (.cells cur t fr)) : w.cell? ⟨g, o, none⟩ = cur[o]? := by
  simp [World.cell?, h]
theorem free_of_blk {w : World} {g o : Nat} {cur : Array Value} {t : TypeId} (h : w.heap[g]? = some (.cells cur t (0, 0))) : w.frozen? ⟨g, o, none⟩ = false := by
  simp [World.frozen?, h]

theorem getD_ints (xs : List Int) (i : Nat) (h : i < xs.length) : (xs.map (Value.int .i64))[i]? = some (.int .i64 (xs.getD i 0)) := by
  simp [List.getD, h]

theorem OwnsI.fresh {w : World} {B : Nat} {v : Value} {xs : List Int} (h : OwnsI w B v xs) : FreshI w B v xs := by
  obtain ⟨h1, ⟨rfl, h0⟩ | ⟨g, cap, cur, rfl, a1, a2, a3, a4, a5, a6, a7⟩⟩ := h
  · exact ⟨none, 0, by rw [h0], by omega, fun _ => rfl, fun h => absurd rfl h⟩
  · refine ⟨_, cap, rfl, a3, (fun h => by cases h), fun _ => ⟨g, 0, cur, rfl, a1, a2, ⟨by omega, a4⟩, fun j u hu => a7 j u hu, fun i hi => ?_⟩⟩
    have := getD_ints xs i hi
    rw [← a6, List.getElem?_take] at this
    split at this
    · simpa using this
    · cases this

theorem FreshI.at {w : World} {B : Nat} {v : Value} {xs : List Int} (h : FreshI w B v xs) : IntsAt w v xs := by
  obtain ⟨a, cap, rfl, h1, h2, h3⟩ := h
  refine ⟨a, cap, rfl, h1, h2, fun hne => ?_⟩
  have hc : cap ≠ 0 := fun e => by
    rw [e] at h1
    exact hne (List.eq_nil_of_length_eq_zero (by omega))
  obtain ⟨g, o, cur, rfl, _, hg, _, _, hcell⟩ := h3 hc
  exact ⟨g, o, rfl, fun i hi => by rw [cell_of_blk hg]; exact hcell i hi⟩

/-- it stays so where blocks of ints are as they were. -/
theorem FreshI.of_same {w w' : World} {B : Nat} {v : Value} {xs : List Int} (h : FreshI w B v xs) (hk : ∀ g cur, B ≤ g → w.heap[g]? = some (.cells cur 3 (0, 0)) → w'.heap[g]? = w.heap[g]?) : FreshI w' B v xs := by
  obtain ⟨a, cap, rfl, h1, h2, h3⟩ := h
  refine ⟨a, cap, rfl, h1, h2, fun hc => ?_⟩
  obtain ⟨g, o, cur, rfl, hB, hg, r⟩ := h3 hc
  exact ⟨g, o, cur, rfl, hB, by rw [hk g cur hB hg]; exact hg, r⟩

theorem FreshI.base_le {w : World} {B B' : Nat} {v : Value} {xs : List Int} (h : FreshI w B v xs) (hB : B' ≤ B) : FreshI w B' v xs := by
  obtain ⟨a, cap, rfl, h1, h2, h3⟩ := h
  refine ⟨a, cap, rfl, h1, h2, fun hc => ?_⟩
  obtain ⟨g, o, cur, rfl, hB', r⟩ := h3 hc
  exact ⟨g, o, cur, rfl, by omega, r⟩

/-- a row of queues in a block of the call's own. -/
def QRow (w : World) (B g n cap : Nat) (f : Nat → Qu × Value) : Prop :=
  B ≤ g ∧ n ≤ cap ∧ ∃ cur, w.heap[g]? = some (.cells cur 35 (0, 0)) ∧ cur.size = cap * 3 ∧
    ∀ i, i < n → cur[i * 3]? = some (.int .i64 (f i).1.share) ∧ cur[i * 3 + 1]? = some (.int .i64 (f i).1.saved) ∧ cur[i * 3 + 2]? = some (f i).2

theorem QRow.of_same {w w' : World} {B g n cap : Nat} {f : Nat → Qu × Value} (h : QRow w B g n cap f) (hk : w'.heap[g]? = w.heap[g]?) : QRow w' B g n cap f := by
  obtain ⟨h1, h2, cur, h3, r⟩ := h
  exact ⟨h1, h2, cur, by rw [hk]; exact h3, r⟩

theorem QRow.cells {w : World} {B g n cap : Nat} {f : Nat → Qu × Value} (h : QRow w B g n cap f) {i : Nat} (hi : i < n) :
    w.cell? ⟨g, i * 3, none⟩ = some (.int .i64 (f i).1.share) ∧ w.cell? ⟨g, i * 3 + 1, none⟩ = some (.int .i64 (f i).1.saved) ∧ w.cell? ⟨g, i * 3 + 2, none⟩ = some (f i).2 ∧ ∀ o, w.frozen? ⟨g, o, none⟩ = false := by
  obtain ⟨h1, h2, cur, h3, h4, h5⟩ := h
  obtain ⟨a, b, c⟩ := h5 i hi
  exact ⟨by rw [cell_of_blk h3]; exact a, by rw [cell_of_blk h3]; exact b, by rw [cell_of_blk h3]; exact c, fun o => free_of_blk h3⟩

theorem QRow.congr {w : World} {B g n cap : Nat} {f f' : Nat → Qu × Value} (h : QRow w B g n cap f) (e : ∀ i, i < n → (f' i).1.share = (f i).1.share ∧ (f' i).1.saved = (f i).1.saved ∧ (f' i).2 = (f i).2) : QRow w B g n cap f' := by
  obtain ⟨h1, h2, cur, h3, h4, h5⟩ := h
  refine ⟨h1, h2, cur, h3, h4, fun i hi => ?_⟩
  obtain ⟨a, b, c⟩ := h5 i hi
  obtain ⟨e1, e2, e3⟩ := e i hi
  exact ⟨by rw [e1]; exact a, by rw [e2]; exact b, by rw [e3]; exact c⟩

theorem heap_setCell_cells {w : World} {g o : Nat} {cur : Array Value} {t : TypeId} {fr : Nat × Nat} (u : Value) (h : w.heap[g]? = some (.cells cur t fr)) : (w.setCell ⟨g, o, none⟩ u).heap[g]? = some (.cells (cur.setIfInBounds o u) t fr) := by
  simp [World.setCell, Array.getElem?_modify, h]

theorem QRow.set_saved {w : World} {B g n cap : Nat} {f : Nat → Qu × Value} (h : QRow w B g n cap f) (i : Nat) (s : Int) :
    QRow (w.setCell ⟨g, i * 3 + 1, none⟩ (.int .i64 s)) B g n cap (fun j => if j = i then ({ (f i).1 with saved := s }, (f i).2) else f j) := by
  obtain ⟨h1, h2, cur, h3, h4, h5⟩ := h
  refine ⟨h1, h2, _, heap_setCell_cells _ h3, by simpa using h4, fun j hj => ?_⟩
  obtain ⟨a, b, c⟩ := h5 j hj
  by_cases e : j = i
  · subst e
    simp only [if_true]
    refine ⟨?_, ?_, ?_⟩
    · rw [Array.getElem?_setIfInBounds, if_neg (by omega)]; exact a
    · rw [Array.getElem?_setIfInBounds, if_pos rfl, if_pos (by omega)]
    · rw [Array.getElem?_setIfInBounds, if_neg (by omega)]; exact c
  · simp only [if_neg e]
    refine ⟨?_, ?_, ?_⟩
    · rw [Array.getElem?_setIfInBounds, if_neg (by omega)]; exact a
    · rw [Array.getElem?_setIfInBounds, if_neg (by omega)]; exact b
    · rw [Array.getElem?_setIfInBounds, if_neg (by omega)]; exact c

theorem QRow.set_sizes {w : World} {B g n cap : Nat} {f : Nat → Qu × Value} (h : QRow w B g n cap f) (i : Nat) (q : Qu) (v : Value) (hq : q.share = (f i).1.share ∧ q.saved = (f i).1.saved) :
    QRow (w.setCell ⟨g, i * 3 + 2, none⟩ v) B g n cap (fun j => if j = i then (q, v) else f j) := by
  obtain ⟨h1, h2, cur, h3, h4, h5⟩ := h
  refine ⟨h1, h2, _, heap_setCell_cells _ h3, by simpa using h4, fun j hj => ?_⟩
  obtain ⟨a, b, c⟩ := h5 j hj
  by_cases e : j = i
  · subst e
    simp only [if_true]
    refine ⟨?_, ?_, ?_⟩
    · rw [Array.getElem?_setIfInBounds, if_neg (by omega), hq.1]; exact a
    · rw [Array.getElem?_setIfInBounds, if_neg (by omega), hq.2]; exact b
    · rw [Array.getElem?_setIfInBounds, if_pos rfl, if_pos (by omega)]
  · simp only [if_neg e]
    refine ⟨?_, ?_, ?_⟩
    · rw [Array.getElem?_setIfInBounds, if_neg (by omega)]; exact a
    · rw [Array.getElem?_setIfInBounds, if_neg (by omega)]; exact b
    · rw [Array.getElem?_setIfInBounds, if_neg (by omega)]; exact c

theorem qcells_get (ps : List (Qu × Value)) : ∀ i, i < ps.length → (qcells ps)[i * 3]? = some (.int .i64 (ps.getD i default).1.share) ∧ (qcells ps)[i * 3 + 1]? = some (.int .i64 (ps.getD i default).1.saved) ∧ (qcells ps)[i * 3 + 2]? = some (ps.getD i default).2 := by
  induction ps with
  | nil => intro i hi; simp at hi
  | cons p ps ih =>
    intro i hi
    match i with
    | 0 => simp [qcells, List.getD]
    | i + 1 =>
      have := ih i (by simpa using hi)
      have e : qcells (p :: ps) = [.int .i64 p.1.share, .int .i64 p.1.saved, p.2] ++ qcells ps := by simp [qcells]
      rw [e, show (i + 1) * 3 = i * 3 + 3 from by omega]
      refine ⟨?_, ?_, ?_⟩ <;> rw [List.getElem?_append_right (by simp)] <;> simp [List.getD] at this ⊢
      · exact this.1
      · exact this.2.1
      · exact this.2.2

/-- what own hands back, as a row. -/
theorem QRow.of_own {w : World} {B : Nat} {v : Value} {ps : List (Qu × Value)} (h : OwnsT w B 35 3 AnyV v ps.length (qcells ps)) (hn : 0 < ps.length) :
    ∃ g cap, v = .slice (some ⟨g, 0, none⟩) ps.length cap ∧ QRow w B g ps.length cap (fun i => ps.getD i default) := by
  obtain ⟨h1, ⟨rfl, h0⟩ | ⟨g, cap, cur, rfl, a1, a2, a3, a4, a5, a6, a7⟩⟩ := h
  · omega
  · refine ⟨g, cap, rfl, a1, a3, cur, a2, a5, fun i hi => ?_⟩
    have := qcells_get ps i hi
    rw [← a6] at this
    simp only [List.getElem?_take] at this
    rw [if_pos (by omega), if_pos (by omega), if_pos (by omega)] at this
    simpa using this

/-- queues that the call made, as they are handed back. -/
def TF (w : World) (B : Nat) (v : Value) (qs : List Qu) : Prop :=
  ∃ a cap, v = .slice a qs.length cap ∧ qs.length ≤ cap ∧ (a = none → cap = 0) ∧ (0 < qs.length → ∃ g f, a = some ⟨g, 0, none⟩ ∧ QRow w B g qs.length cap f ∧ ∀ i, i < qs.length → (f i).1 = qs.getD i default ∧ FreshI w B (f i).2 (f i).1.sizes)

theorem TF.at {w : World} {B : Nat} {v : Value} {qs : List Qu} (h : TF w B v qs) : TurnsAt w v qs := by
  obtain ⟨a, cap, rfl, h1, h2, h3⟩ := h
  refine ⟨a, cap, rfl, h1, h2, fun hne => ?_⟩
  obtain ⟨g, f, rfl, hr, hf⟩ := h3 (by cases qs with | nil => exact absurd rfl hne | cons => simp)
  refine ⟨g, 0, rfl, fun i hi => ?_⟩
  obtain ⟨c1, c2, c3, _⟩ := hr.cells hi
  obtain ⟨e, hI⟩ := hf i hi
  simp only [Nat.zero_add, ← e]
  exact ⟨c1, c2, _, c3, hI.at⟩

end Go.Proofs.Ytmnckaofopechaa
