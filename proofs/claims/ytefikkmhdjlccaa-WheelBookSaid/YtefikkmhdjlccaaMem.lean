/- What it means that memory reads as a list of what is due, and as a wheel. -/
import Derived.Test.YtefikkmhdjlccaaProg
import Derived.Test.YtefikkmhdjlccaaOwn
import Derived.Test.YtefikkmhdjlccaaPlain
import Derived.WalkKit
import Derived.Lib.Hide
import Derived.Deep.WholeRow
import Derived.Deep.MidRow
namespace Go.Proofs.Ytefikkmhdjlccaa
open Go.RowKit

/-- a slice of what is due, read. -/
def DuesAt (w : World) (v : Value) (xs : List Du) : Prop :=
  ∃ a cap, v = .slice a xs.length cap ∧ xs.length ≤ cap ∧ (a = none → cap = 0) ∧ (xs ≠ [] → ∃ b o, a = some ⟨b, o, none⟩ ∧ ∀ i, i < xs.length →
    w.cell? ⟨b, o + i * 2, none⟩ = some (.int .i64 (xs.getD i default).id) ∧ w.cell? ⟨b, o + i * 2 + 1, none⟩ = some (.int .i64 (xs.getD i default).tm))

theorem DuesAt.keep {w w' : World} {v : Value} {xs : List Du} (h : DuesAt w v xs) (hk : ∀ b o : Nat, (w.cell? ⟨b, o, none⟩).isSome = true → w'.cell? ⟨b, o, none⟩ = w.cell? ⟨b, o, none⟩) : DuesAt w' v xs := by
  obtain ⟨a, cap, rfl, h1, h2, h3⟩ := h
  refine ⟨a, cap, rfl, h1, h2, fun hne => ?_⟩
  obtain ⟨b, o, rfl, hc⟩ := h3 hne
  refine ⟨b, o, rfl, fun i hi => ?_⟩
  obtain ⟨c1, c2⟩ := hc i hi
  exact ⟨by rw [hk _ _ (by rw [c1]; rfl)]; exact c1, by rw [hk _ _ (by rw [c2]; rfl)]; exact c2⟩

theorem DuesAt.below {B : Nat} {w w' : World} {v : Value} {xs : List Du} (h : DuesAt w v xs) (hB : B = w.heap.size) (hb : Below B w w') : DuesAt w' v xs := by
  subst hB
  refine h.keep fun b o hs => ?_
  obtain ⟨u, hu⟩ := Option.isSome_iff_exists.1 hs
  exact hb.cell (World.block_lt_of_cell? w _ hu)

theorem DuesAt.nil (w : World) : DuesAt w (.slice none 0 0) [] := ⟨none, 0, rfl, Nat.le_refl _, fun _ => rfl, fun h => absurd rfl h⟩
theorem DuesAt.one {w : World} {v : Value} {xs : List Du} (h : DuesAt w v xs) : v.oneCell' = true := by
  obtain ⟨a, cap, rfl, _⟩ := h; rfl

/-- the 96 lists of a wheel, and its cells. -/
def Lw (V : Nat → Value) : List Value := (List.range 96).map V
def Cw (now : Int) (V : Nat → Value) : Array Value := (.int .i64 now :: Lw V).toArray

theorem Lw_length (V : Nat → Value) : (Lw V).length = 96 := by simp [Lw]
theorem Lw_get (V : Nat → Value) (i : Nat) (hi : i < 96) : (Lw V)[i]? = some (V i) := by simp [Lw, hi]
theorem Cw_size (now : Int) (V : Nat → Value) : (Cw now V).size = 97 := by simp [Cw, Lw]
theorem Cw_now (now : Int) (V : Nat → Value) : (Cw now V)[0]? = some (.int .i64 now) := by simp [Cw]
theorem Cw_get (now : Int) (V : Nat → Value) (i : Nat) (hi : i < 96) : (Cw now V)[i + 1]? = some (V i) := by simp [Cw, Lw_get V i hi]
theorem Lw_ext {V V' : Nat → Value} (h : ∀ i, i < 96 → V i = V' i) : Lw V = Lw V' := List.map_congr_left (fun i hi => h i (by simpa using hi))
theorem Cw_ext {now : Int} {V V' : Nat → Value} (h : ∀ i, i < 96 → V i = V' i) : Cw now V = Cw now V' := by rw [Cw, Cw, Lw_ext h]
theorem Cw_of (C : Array Value) (now : Int) (hs : C.size = 97) (h0 : C[0]? = some (.int .i64 now)) : C = Cw now (fun i => C.getD (i + 1) undef) := by
  apply Array.ext_getElem?
  intro i
  rcases Nat.lt_or_ge i 97 with hi | hi
  · cases i with
    | zero => rw [h0, Cw_now]
    | succ i => rw [Cw_get _ _ i (by omega)]; simp [Array.getD, hs, hi]
  · rw [Array.getElem?_eq_none (by omega), Array.getElem?_eq_none (by rw [Cw_size]; exact hi)]
theorem Cw_set (now : Int) (V : Nat → Value) (i : Nat) (hi : i < 96) (v : Value) : (Cw now V).setIfInBounds (i + 1) v = Cw now (upd V i v) := by
  apply Array.ext_getElem?
  intro j
  rw [Array.getElem?_setIfInBounds, Cw_size]
  rcases Nat.lt_or_ge j 97 with hj | hj
  · cases j with
    | zero => rw [if_neg (by omega), Cw_now, Cw_now]
    | succ j =>
      rw [Cw_get _ _ j (by omega), Cw_get _ _ j (by omega)]
      by_cases e : i = j
      · subst e; rw [if_pos rfl, if_pos (by omega), upd_same]
      · rw [if_neg (by omega), upd_other _ _ _ (fun h => e h.symm)]
  · rw [if_neg (by omega), Array.getElem?_eq_none (by rw [Cw_size]; exact hj), Array.getElem?_eq_none (by rw [Cw_size]; exact hj)]
theorem Cw_tick (now n : Int) (V : Nat → Value) : (Cw now V).setIfInBounds 0 (.int .i64 n) = Cw n V := by
  apply Array.ext_getElem?
  intro j
  rw [Array.getElem?_setIfInBounds, Cw_size]
  rcases Nat.lt_or_ge j 97 with hj | hj
  · cases j with
    | zero => rw [if_pos rfl, if_pos (by omega), Cw_now]
    | succ j => rw [if_neg (by omega), Cw_get _ _ j (by omega), Cw_get _ _ j (by omega)]
  · rw [if_neg (by omega), Array.getElem?_eq_none (by rw [Cw_size]; exact hj), Array.getElem?_eq_none (by rw [Cw_size]; exact hj)]
theorem Cw_one (now : Int) (V : Nat → Value) (h : ∀ i, i < 96 → (V i).oneCell' = true) : (Cw now V).all (·.oneCell') = true := by
  rw [Array.all_eq_true_iff_forall_mem]
  intro x hx
  simp only [Cw, Lw, List.mem_toArray, List.mem_cons, List.mem_map, List.mem_range] at hx
  rcases hx with rfl | ⟨i, hi, rfl⟩
  · rfl
  · exact h i hi

/-- a wheel's lists, read. -/
def WheelAt (w : World) (V : Nat → Value) (f : Ls) : Prop := ∀ i, i < 96 → DuesAt w (V i) (f i)
theorem WheelAt.below {B : Nat} {w w' : World} {V : Nat → Value} {f : Ls} (h : WheelAt w V f) (hB : B = w.heap.size) (hb : Below B w w') : WheelAt w' V f := fun i hi => (h i hi).below hB hb
theorem WheelAt.one {w : World} {V : Nat → Value} {f : Ls} (h : WheelAt w V f) : ∀ i, i < 96 → (V i).oneCell' = true := fun i hi => (h i hi).one

/-- the block of a wheel's variable. -/
def Blk (w : World) (g : Nat) (now : Int) (V : Nat → Value) : Prop := w.heap[g]? = some (.cells (Cw now V) 25 (0, 0))

theorem info25 : (Try.prog.info? 25).map (·.size) = some 97 := by kernel_rfl
theorem info23 : (Try.prog.info? 23).map (·.size) = some 96 := by kernel_rfl
theorem info33 : (Try.prog.info? 33).map (fun i => (i.zero, i.size, i.bytes)) = some (some (.agg #[.int .i64 0, .int .i64 0]), 2, 16) := by kernel_rfl

theorem cell_of_blk {w : World} {g o : Nat} {cs : Array Value} {t : TypeId} {fr : Nat × Nat} (h : w.heap[g]? = some (.cells cs t fr)) : w.cell? ⟨g, o, none⟩ = cs[o]? := cell_of_row w g o cs t fr h
theorem free_of_blk {w : World} {g o : Nat} {cs : Array Value} {t : TypeId} (h : w.heap[g]? = some (.cells cs t (0, 0))) : w.frozen? ⟨g, o, none⟩ = false := by simp [World.frozen?, h]

theorem Blk.range {w : World} {g : Nat} {now : Int} {V : Nat → Value} (h : Blk w g now V) : w.rangeAt g 1 (Lw V) := fun j v hv => by
  have hj : j < 96 := by have := (List.getElem?_eq_some_iff.1 hv).1; rwa [Lw_length] at this
  rw [cell_of_blk h, show 1 + j = j + 1 from by omega, Cw_get _ _ j hj, ← hv, Lw_get _ j hj]

theorem index23 (V : Nat → Value) (i : Nat) (hi : i < 96) (a : Option Addr) (n c : Nat) (hV : V i = .slice a n c) (w : World) : (Instr.index 23 (.agg (Lw V).toArray) (.int .i64 (i : Int))).run Try.prog w = .ok (.slice a n c) w := by
  have h1 := Lw_get V i hi
  rw [hV] at h1
  unfold Instr.index
  simp [go_sem, run_underlying Try.underlying23, part, Try.sizeOf22, Try.isAgg22, hi, h1]
end Go.Proofs.Ytefikkmhdjlccaa
