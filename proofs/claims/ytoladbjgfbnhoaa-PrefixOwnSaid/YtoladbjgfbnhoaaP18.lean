/- A trie argument, opened to its cells. -/
import Derived.Test.YtoladbjgfbnhoaaMem
import Derived.ProofKit
import Derived.SizedLaws
import Derived.Deep.Slices
import Derived.Deep.Strs
import Derived.Lib.SmallJoins
namespace Go.Proofs.Ytoladbjgfbnhoaa
open Go.ChangeShapes Go.WideShapes Go.ChangeAt Go.RowKit Go.Deep Go.Joins

theorem cells3 : Try.prog.cellsOf 3 = 1 := by kernel_rfl
theorem cells4 : Try.prog.cellsOf 4 = 1 := by kernel_rfl
theorem cells22 : Try.prog.cellsOf 22 = 1 := by kernel_rfl
theorem cells29 : Try.prog.cellsOf 29 = 2 := by kernel_rfl
theorem cells31 : Try.prog.cellsOf 31 = 4 := by kernel_rfl
theorem bytes31 : Try.prog.bytesOf 31 = 32 := by kernel_rfl

theorem plain_of_cell {w : World} {a : Addr} {v : Value} (h : w.cell? a = some v) : ∃ b o, a = ⟨b, o, none⟩ := by
  obtain ⟨b, o, s⟩ := a
  cases s with
  | none => exact ⟨b, o, rfl⟩
  | some s =>
    exfalso
    unfold World.cell? at h
    simp at h
    split at h <;> simp at h

section
variable {H : Type} {enc : TypeId × Value → H} {W : World} {base : Nat} {spare : Nat → Bool} {held : Bool} {fuel : Nat}

theorem open_two {cs : List Value} {x : DataW H × List MemPlace} (h : DataW.trod enc Try.prog W base spare held fuel 29 cs = some x) : ∃ a b : Int, cs = [.int .i64 a, .int .i64 b] := by
  obtain ⟨xs, m, _, _, hl, hx, hi⟩ := DataW.trod_array Try.underlying29 h
  rw [cells29] at hl
  match cs, hl with
  | [c0, c1], _ =>
    have h0 := hi 0 (by omega)
    have h1 := hi 1 (by omega)
    simp only [cells3, Nat.zero_mul, Nat.one_mul, List.drop_zero, List.take_succ_cons, List.take_zero, List.drop_succ_cons] at h0 h1
    match xs, hx with
    | [x0, x1], _ =>
      obtain ⟨z0, e0, _, _⟩ := DataW.trod_int Try.underlying3 (h0.trans rfl)
      obtain ⟨z1, e1, _, _⟩ := DataW.trod_int Try.underlying3 (h1.trans rfl)
      simp at e0 e1
      exact ⟨z0, z1, by rw [e0, e1]⟩

theorem open_nodes {v : Value} {x : DataW H × List MemPlace} (h : DataW.trod enc Try.prog W base spare held fuel 22 [v] = some x) (hz : ∀ n ∈ x.1.weights Try.prog 22, n ≤ reachBytes) :
    ∃ ns : List Nd, NodesAt W v ns ∧ ns.length ≤ 4398046511104 := by
  rcases open_slice Try.underlying22 h with ⟨hcs, hx⟩ | ⟨a, len, cap, m, n, D, Pl, hcs, hb, hl, hm, hmm, hx, hi⟩
  · simp at hcs
    exact ⟨[], ⟨none, 0, by simp [hcs], by simp, fun _ => rfl, fun h => absurd rfl h⟩, by simp⟩
  · simp at hcs
    rw [cells31] at hi
    have hml : len ≤ m := by rw [hmm]; split <;> omega
    obtain ⟨f, hf⟩ := choose_lt (α := Nd) (n := len) (p := fun i q => W.cell? (a.add (i * 4)) = some (.int .i64 q.n0) ∧ W.cell? (a.add (i * 4 + 1)) = some (.int .i64 q.n1) ∧ W.cell? (a.add (i * 4 + 2)) = some (.bool q.set) ∧ W.cell? (a.add (i * 4 + 3)) = some (.int .i64 q.val)) (fun i hil => by
      obtain ⟨cs', hc, ht⟩ := hi i (by omega)
      obtain ⟨_, hlen, hcell⟩ := World.cells?_some hc
      obtain ⟨y0, y1, y2, n', hD, _, t0, t1, t2⟩ := trod_struct3 Try.underlying31 ht
      match cs', hlen with
      | [c0, c1, c2, c3], _ =>
        simp only [cells3, cells4, cells29, List.drop_zero, List.take_succ_cons, List.take_zero, List.drop_succ_cons] at t0 t1 t2
        obtain ⟨z0, z1, e0⟩ := open_two t0
        obtain ⟨b2, e2, _⟩ := DataW.trod_bool Try.underlying4 t1
        obtain ⟨z3, e3, _, _⟩ := DataW.trod_int Try.underlying3 t2
        simp at e0 e2 e3
        have g0 := hcell 0 (by omega)
        have g1 := hcell 1 (by omega)
        have g2 := hcell 2 (by omega)
        have g3 := hcell 3 (by omega)
        rw [add_add] at g0 g1 g2 g3
        exact ⟨⟨z0, z1, b2, z3⟩, by simpa [e0] using g0, by simpa [e0] using g1, by simpa [e2] using g2, by simpa [e3] using g3⟩)
    have eg : ∀ i, i < len → ((List.range len).map f).getD i default = f i := fun i hi => by simp [List.getD, hi]
    refine ⟨(List.range len).map f, ⟨some a, cap, by simp [hcs], by simpa using hl, (fun h => by cases h), fun hne => ?_⟩, ?_⟩
    · have hlen : 0 < len := by
        rcases Nat.eq_zero_or_pos len with h0 | h0
        · subst h0; simp at hne
        · exact h0
      obtain ⟨b, o, e⟩ := plain_of_cell (hf 0 hlen).1
      have ea : a = ⟨b, o, none⟩ := by simpa [Addr.add] using e
      refine ⟨b, o, by rw [ea], fun i hi => ?_⟩
      simp only [List.length_map, List.length_range] at hi
      obtain ⟨c0, c1, c2, c3⟩ := hf i hi
      rw [ea, Addr.add_lit] at c0 c1 c2 c3
      rw [eg i hi]
      exact ⟨c0, c1, c2, c3⟩
    · have := hz ((((List.range len).map D).length + ((List.range (m - len)).map fun j => D (len + j)).length) * Try.prog.bytesOf 31) (by rw [hx]; simp [DataW.weights, Try.underlying22])
      simp only [List.length_map, List.length_range, bytes31, reachBytes] at this ⊢
      omega
end
end Go.Proofs.Ytoladbjgfbnhoaa
