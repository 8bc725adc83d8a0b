/- turnsLives. -/
import Derived.Test.YtmnckaofopechaaB6
import Derived.Laws.StructEq
namespace Go.Proofs.Ytmnckaofopechaa
open Go.RowKit

def SentsAt (w : World) (v : Value) (l : List (Nat × Int)) : Prop :=
  ∃ a cap, v = .slice a l.length cap ∧ l.length ≤ cap ∧ (a = none → cap = 0) ∧ (l ≠ [] → ∃ b o, a = some ⟨b, o, none⟩ ∧ ∀ i, i < l.length → w.cell? ⟨b, o + i * 2, none⟩ = some (.int .i64 (l.getD i default).1) ∧ w.cell? ⟨b, o + i * 2 + 1, none⟩ = some (.int .i64 (l.getD i default).2))

theorem sentCells_get (l : List (Nat × Int)) : ∀ i, i < l.length → (sentCells l)[i * 2]? = some (.int .i64 (l.getD i default).1) ∧ (sentCells l)[i * 2 + 1]? = some (.int .i64 (l.getD i default).2) := by
  induction l with
  | nil => intro i hi; simp at hi
  | cons p l ih =>
    intro i hi
    match i with
    | 0 => simp [sentCells, List.getD]
    | i + 1 =>
      have := ih i (by simpa using hi)
      have e : sentCells (p :: l) = [.int .i64 p.1, .int .i64 p.2] ++ sentCells l := by simp [sentCells]
      rw [e, show (i + 1) * 2 = i * 2 + 2 from by omega]
      refine ⟨?_, ?_⟩ <;> rw [List.getElem?_append_right (by simp)] <;> simp [List.getD] at this ⊢
      · exact this.1
      · exact this.2

theorem SentsAt.of_own {w : World} {B : Nat} {v : Value} {l : List (Nat × Int)} (h : OwnsT w B 32 2 IsI64 v l.length (sentCells l)) : SentsAt w v l := by
  have hrow := h.row
  obtain ⟨h1, ⟨rfl, h0⟩ | ⟨g, cap, cur, rfl, a1, a2, a3, a4, a5, a6, a7⟩⟩ := h
  · exact ⟨none, 0, by rw [h0], by omega, fun _ => rfl, fun h => absurd (List.eq_nil_of_length_eq_zero h0) h⟩
  · refine ⟨_, cap, rfl, a3, (fun h => by cases h), fun _ => ⟨g, 0, rfl, fun i hi => ?_⟩⟩
    obtain ⟨e1, e2⟩ := sentCells_get l i hi
    exact ⟨by rw [Nat.zero_add, hrow.cellAt _ (by omega)]; exact e1, by rw [Nat.zero_add, hrow.cellAt _ (by omega)]; exact e2⟩

theorem SentsAt.below {B : Nat} {w w' : World} {v : Value} {l : List (Nat × Int)} (h : SentsAt w v l) (hB : B = w.heap.size) (hb : Below B w w') : SentsAt w' v l := by
  subst hB
  obtain ⟨a, cap, rfl, h1, h2, h3⟩ := h
  refine ⟨a, cap, rfl, h1, h2, fun hne => ?_⟩
  obtain ⟨b, o, rfl, hc⟩ := h3 hne
  refine ⟨b, o, rfl, fun i hi => ?_⟩
  obtain ⟨c1, c2⟩ := hc i hi
  have hlt := World.block_lt_of_cell? w _ c1
  exact ⟨by rw [hb.cell (by exact hlt)]; exact c1, by rw [hb.cell (by exact hlt)]; exact c2⟩

theorem eq32 (a b : Int) (w : World) : (Op.equalIn 10000 32 (.agg #[.int .i64 a, .int .i64 b]) (.agg #[.int .i64 a, .int .i64 b])).run Try.prog w = .ok true w := by
  have u3 := Try.underlying3
  have a3 := Try.isAgg3
  have z3 := Try.sizeOf3
  have hS : Try.prog.underlying 32 = some (.struct (Try.prog.fieldsOf 32)) := by kernel_rfl
  have hp : Try.prog.stoodInHeld 32 = false := by kernel_rfl
  rw [show (10000 : Nat) = 9999 + 1 from rfl, run_equalIn_agg w 9999 32 _ _ hS hp]
  simp only [Program.fieldsOf, Try.underlying32]
  go_simp

theorem neq32 (a b : Int) (w : World) : (binOp .neq 32 (.agg #[.int .i64 a, .int .i64 b]) (.agg #[.int .i64 a, .int .i64 b])).run Try.prog w = .ok (.bool false) w := by
  rw [run_neq_struct, eq32]; rfl

set_option maxHeartbeats 1000000 in
theorem c13 (v v2 : Value) (l : List (Nat × Int)) (w : World) (h : SentsAt w v l) (h2 : SentsAt w v2 l) (hl : l.length ≤ 1000000000000) :
    Calls Try.prog 13 #[v, v2] w fun e w' => e = .returned (.bool true) ∧ Below w.heap.size w w' := by
  obtain ⟨a, cap, rfl, hc, _, h⟩ := h
  obtain ⟨a2, cap2, rfl, hc2, _, h2⟩ := h2
  generalize hB : w.heap.size = B at *
  go_enter Try.func13, Try.ntmps13
  go_wp2
  go_loopw [13] (fun i wr => ∃ k : Nat, k ≤ l.length ∧ i = .int .i64 k ∧ ∃ n, wr = w.drewN n) (fun i _ => l.length - (intOf i).toNat)
  case atStart => exact ⟨0, Nat.zero_le _, rfl, 0, rfl⟩
  case round =>
    obtain ⟨k, hk, rfl, n, rfl⟩ := hrel
    by_cases hlt : k < l.length
    · obtain ⟨b, o, rfl, hh⟩ := h (by intro h0; subst h0; simp at hlt)
      obtain ⟨b2, o2, rfl, hh2⟩ := h2 (by intro h0; subst h0; simp at hlt)
      obtain ⟨q1, q1'⟩ := hh k hlt
      obtain ⟨q2, q2'⟩ := hh2 k hlt
      clear hh hh2 h h2
      generalize l.getD k default = x at *
      obtain ⟨x1, x2⟩ := x
      simp only at q1 q1' q2 q2'
      have d0 : (k : Int) < l.length := by omega
      have hne := neq32 x1 x2
      have hgd : Try.prog.eqGuardType Try.prog.depth 32 = false := by kernel_rfl
      go_wp2_with fail
      go_quiet (fail)
      go_wp2_with fail
      go_roundw
      case rel => exact ⟨k + 1, by omega, by go_num, _, rfl⟩
      case measure => simp [intOf]; omega
    · go_wp2_with fail
      go_ret
      exact ⟨rfl, hB ▸ (Below.refl _ _).drewN n⟩

end Go.Proofs.Ytmnckaofopechaa
