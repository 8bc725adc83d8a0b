/- A queues argument, opened to its cells. -/
import Derived.Test.YtmnckaofopechaaMem
import Derived.ProofKit
import Derived.SizedLaws
import Derived.Deep.Slices
import Derived.Deep.Strs
namespace Go.Proofs.Ytmnckaofopechaa
open Go.ChangeShapes Go.WideShapes Go.ChangeAt Go.RowKit Go.Deep

theorem cells3 : Try.prog.cellsOf 3 = 1 := by kernel_rfl
theorem cells33 : Try.prog.cellsOf 33 = 1 := by kernel_rfl
theorem cells35 : Try.prog.cellsOf 35 = 3 := by kernel_rfl
theorem bytes3 : Try.prog.bytesOf 3 = 8 := by kernel_rfl
theorem bytes35 : Try.prog.bytesOf 35 = 40 := by kernel_rfl

theorem plain_of_cell {w : World} {a : Addr} {v : Value} (h : w.cell? a = some v) : ∃ b o, a = ⟨b, o, none⟩ := by
  obtain ⟨b, o, s⟩ := a
  cases s with
  | none => exact ⟨b, o, rfl⟩
  | some s =>
    exfalso
    unfold World.cell? at h
    simp at h
    split at h <;> simp at h

section
variable {H : Type} {enc : TypeId × Value → H} {W : World} {base : Nat} {spare : Nat → Bool} {held : Bool} {fuel : Nat}

theorem open_ints_at {v : Value} {x : DataW H × List MemPlace} (h : DataW.trod enc Try.prog W base spare held fuel 33 [v] = some x) (hz : ∀ n ∈ x.1.weights Try.prog 33, n ≤ reachBytes) :
    ∃ xs : List Int, IntsAt W v xs ∧ xs.length ≤ 17592186043904 := by
  rcases open_slice1 Try.underlying33 cells3 h with ⟨hcs, hx⟩ | ⟨a, len, cap, m, n, V, D, Pl, hcs, hb, hl, hm, hmm, hx, hi⟩
  · simp at hcs
    exact ⟨[], ⟨none, 0, by simp [hcs], by simp, fun _ => rfl, fun h => absurd rfl h⟩, by simp⟩
  · simp at hcs
    have hml : len ≤ m := by rw [hmm]; split <;> omega
    obtain ⟨f, hf⟩ := choose_lt (α := Int) (n := m) (p := fun i z => W.cell? (a.add i) = some (.int .i64 z)) (fun i him => by
      obtain ⟨h1, h2⟩ := hi i him
      obtain ⟨z, e, _, _⟩ := DataW.trod_int Try.underlying3 h2
      simp at e
      exact ⟨z, by rw [h1, e]⟩)
    refine ⟨(List.range len).map f, ⟨some a, cap, by simp [hcs], by simpa using hl, (fun h => by cases h), fun hne => ?_⟩, ?_⟩
    · have hlen : 0 < len := by
        rcases Nat.eq_zero_or_pos len with h0 | h0
        · subst h0; simp at hne
        · exact h0
      obtain ⟨b, o, e⟩ := plain_of_cell (hf 0 (by omega))
      have ea : a = ⟨b, o, none⟩ := by simpa [Addr.add] using e
      refine ⟨b, o, by rw [ea], fun i hi => ?_⟩
      simp only [List.length_map, List.length_range] at hi
      have := hf i (by omega)
      rw [ea, Addr.add_lit] at this
      rw [this]
      simp [List.getD, hi]
    · have := hz ((((List.range len).map D).length + ((List.range (m - len)).map fun j => D (len + j)).length) * Try.prog.bytesOf 3) (by rw [hx]; simp [DataW.weights, Try.underlying33])
      simp only [List.length_map, List.length_range, bytes3, reachBytes] at this ⊢
      omega

theorem weightsAll_mem {P : Program} {e : TypeId} {l : List (DataW H)} {d : DataW H} (hd : d ∈ l) : ∀ n ∈ d.weights P e, n ∈ DataW.weightsAll P e l := by
  induction l with
  | nil => cases hd
  | cons y l ih =>
    intro n hn
    simp only [DataW.weightsAll, List.mem_append]
    rcases List.mem_cons.1 hd with rfl | hd
    · exact .inl hn
    · exact .inr (ih hd n hn)

theorem open_turns {v : Value} {x : DataW H × List MemPlace} (h : DataW.trod enc Try.prog W base spare held fuel 23 [v] = some x) (hz : ∀ n ∈ x.1.weights Try.prog 23, n ≤ reachBytes) :
    ∃ qs : List Qu, TurnsAt W v qs ∧ qs.length ≤ 3518437208781 ∧ ∀ i, i < qs.length → (qs.getD i default).sizes.length ≤ 17592186043904 := by
  rcases open_slice Try.underlying23 h with ⟨hcs, hx⟩ | ⟨a, len, cap, m, n, D, Pl, hcs, hb, hl, hm, hmm, hx, hi⟩
  · simp at hcs
    exact ⟨[], ⟨none, 0, by simp [hcs], by simp, fun _ => rfl, fun h => absurd rfl h⟩, by simp, fun i hi => by simp at hi⟩
  · simp at hcs
    rw [cells35] at hi
    have hml : len ≤ m := by rw [hmm]; split <;> omega
    have hw : ∀ i, i < len → ∀ n ∈ (D i).weights Try.prog 35, n ≤ reachBytes := fun i hi n hn => by
      refine hz n ?_
      rw [hx]
      simp only [DataW.weights, Try.underlying23, List.mem_cons, List.mem_append]
      exact .inr (.inl (weightsAll_mem (d := D i) (by simp; exact ⟨i, hi, rfl⟩) n hn))
    obtain ⟨f, hf⟩ := choose_lt (α := Qu) (n := len) (p := fun i q => W.cell? (a.add (i * 3)) = some (.int .i64 q.share) ∧ W.cell? (a.add (i * 3 + 1)) = some (.int .i64 q.saved) ∧ ∃ u, W.cell? (a.add (i * 3 + 2)) = some u ∧ IntsAt W u q.sizes ∧ q.sizes.length ≤ 17592186043904) (fun i hil => by
      obtain ⟨cs', hc, ht⟩ := hi i (by omega)
      obtain ⟨_, hlen, hcell⟩ := World.cells?_some hc
      obtain ⟨y0, y1, y2, n', hD, _, t0, t1, t2⟩ := trod_struct3 Try.underlying35 ht
      match cs', hlen with
      | [c0, c1, c2], _ =>
        simp only [cells3, cells33, List.drop_zero, List.take_succ_cons, List.take_zero, List.drop_succ_cons] at t0 t1 t2
        obtain ⟨z0, e0, r0, _⟩ := DataW.trod_int Try.underlying3 t0
        obtain ⟨z1, e1, r1, _⟩ := DataW.trod_int Try.underlying3 t1
        simp at e0 e1
        have hwi := hw i hil
        simp only [Prod.mk.injEq] at hD
        rw [hD.1] at hwi
        obtain ⟨xs, hxs, hxl⟩ := open_ints_at t2 (fun n hn => hwi n (by simp [DataW.weights, Try.underlying35, DataW.weightsEach]; right; right; exact hn))
        have g0 := hcell 0 (by omega)
        have g1 := hcell 1 (by omega)
        have g2 := hcell 2 (by omega)
        rw [add_add] at g0 g1 g2
        refine ⟨⟨z0, z1, xs⟩, by simpa [e0] using g0, by simpa [e1] using g1, c2, by simpa using g2, hxs, hxl⟩)
    have eg : ∀ i, i < len → ((List.range len).map f).getD i default = f i := fun i hi => by simp [List.getD, hi]
    refine ⟨(List.range len).map f, ⟨some a, cap, by simp [hcs], by simpa using hl, (fun h => by cases h), fun hne => ?_⟩, ?_, fun i hi => ?_⟩
    · have hlen : 0 < len := by
        rcases Nat.eq_zero_or_pos len with h0 | h0
        · subst h0; simp at hne
        · exact h0
      obtain ⟨b, o, e⟩ := plain_of_cell (hf 0 hlen).1
      have ea : a = ⟨b, o, none⟩ := by simpa [Addr.add] using e
      refine ⟨b, o, by rw [ea], fun i hi => ?_⟩
      simp only [List.length_map, List.length_range] at hi
      obtain ⟨c0, c1, u, c2, hI, _⟩ := hf i hi
      rw [ea, Addr.add_lit] at c0 c1 c2
      rw [eg i hi]
      exact ⟨c0, c1, u, c2, hI⟩
    · have := hz ((((List.range len).map D).length + ((List.range (m - len)).map fun j => D (len + j)).length) * Try.prog.bytesOf 35) (by rw [hx]; simp [DataW.weights, Try.underlying23])
      simp only [List.length_map, List.length_range, bytes35, reachBytes] at this ⊢
      omega
    · simp only [List.length_map, List.length_range] at hi
      rw [eg i hi]
      obtain ⟨_, _, u, _, _, hx⟩ := hf i hi
      exact hx
end
end Go.Proofs.Ytmnckaofopechaa
