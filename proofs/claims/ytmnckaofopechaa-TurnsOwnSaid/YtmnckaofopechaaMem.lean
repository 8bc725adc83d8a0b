/-
  Plain model of queues, and what it means that a slice reads as one (no walk here).
-/
import Derived.Test.YtmnckaofopechaaProg
import Derived.WalkKit
import Derived.Lib.Hide
namespace Go.Proofs.Ytmnckaofopechaa
open Go.RowKit

/-- size: a bool function, kept shut. -/
def sizeB (n : Int) : Bool := decide (1 ≤ n) && decide (n ≤ 1000000)
theorem sizeB_iff (n : Int) : sizeB n = true ↔ 1 ≤ n ∧ n ≤ 1000000 := by simp [sizeB]

/-- a slice of ints, read. -/
def IntsAt (w : World) (v : Value) (xs : List Int) : Prop :=
  ∃ a cap, v = .slice a xs.length cap ∧ xs.length ≤ cap ∧ (a = none → cap = 0) ∧ (xs ≠ [] → ∃ b o, a = some ⟨b, o, none⟩ ∧ ∀ i, i < xs.length → w.cell? ⟨b, o + i, none⟩ = some (.int .i64 (xs.getD i 0)))

structure Qu where
  share : Int
  saved : Int
  sizes : List Int
  deriving Inhabited

def TurnsAt (w : World) (v : Value) (qs : List Qu) : Prop :=
  ∃ a cap, v = .slice a qs.length cap ∧ qs.length ≤ cap ∧ (a = none → cap = 0) ∧ (qs ≠ [] → ∃ b o, a = some ⟨b, o, none⟩ ∧ ∀ i, i < qs.length →
    w.cell? ⟨b, o + i * 3, none⟩ = some (.int .i64 (qs.getD i default).share) ∧ w.cell? ⟨b, o + i * 3 + 1, none⟩ = some (.int .i64 (qs.getD i default).saved) ∧
    ∃ u, w.cell? ⟨b, o + i * 3 + 2, none⟩ = some u ∧ IntsAt w u (qs.getD i default).sizes)

theorem IntsAt.below {B : Nat} {w w' : World} {v : Value} {xs : List Int} (h : IntsAt w v xs) (hB : B = w.heap.size) (hb : Below B w w') : IntsAt w' v xs := by
  subst hB
  obtain ⟨a, cap, rfl, h1, h2, h3⟩ := h
  refine ⟨a, cap, rfl, h1, h2, fun hne => ?_⟩
  obtain ⟨b, o, rfl, hc⟩ := h3 hne
  exact ⟨b, o, rfl, fun i hi => by rw [hb.cell (by exact World.block_lt_of_cell? w _ (hc i hi))]; exact hc i hi⟩

theorem TurnsAt.below {B : Nat} {w w' : World} {v : Value} {qs : List Qu} (h : TurnsAt w v qs) (hB : B = w.heap.size) (hb : Below B w w') : TurnsAt w' v qs := by
  subst hB
  obtain ⟨a, cap, rfl, h1, h2, h3⟩ := h
  refine ⟨a, cap, rfl, h1, h2, fun hne => ?_⟩
  obtain ⟨b, o, rfl, hc⟩ := h3 hne
  refine ⟨b, o, rfl, fun i hi => ?_⟩
  obtain ⟨c1, c2, u, c3, c4⟩ := hc i hi
  have hlt := World.block_lt_of_cell? w _ c1
  exact ⟨by rw [hb.cell (by exact hlt)]; exact c1, by rw [hb.cell (by exact hlt)]; exact c2, u, by rw [hb.cell (by exact hlt)]; exact c3, c4.below rfl hb⟩

def RightQ (q : Qu) : Prop := q.sizes.length ≤ 200 ∧ sizeB q.share = true ∧ (∀ i, i < q.sizes.length → sizeB (q.sizes.getD i 0) = true) ∧ 0 ≤ q.saved ∧ (q.sizes.length = 0 → q.saved = 0) ∧ (0 < q.sizes.length → q.saved < q.sizes.getD 0 0)
def RightT (qs : List Qu) : Prop := qs.length ≤ 16 ∧ ∀ i, i < qs.length → RightQ (qs.getD i default)

end Go.Proofs.Ytmnckaofopechaa
