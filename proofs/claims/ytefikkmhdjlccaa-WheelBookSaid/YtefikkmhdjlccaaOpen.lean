/- A wheel argument, opened to its cells. -/
import Derived.Test.YtefikkmhdjlccaaW16
import Derived.ProofKit
import Derived.SizedLaws
import Derived.Deep.Slices
import Derived.Deep.Strs
import Derived.OpenShut
namespace Go.Proofs.Ytefikkmhdjlccaa
open Go.ChangeShapes Go.WideShapes Go.ChangeAt Go.RowKit Go.Deep

theorem cells3 : Try.prog.cellsOf 3 = 1 := by kernel_rfl
theorem cells22 : Try.prog.cellsOf 22 = 1 := by kernel_rfl
theorem cells23 : Try.prog.cellsOf 23 = 96 := by kernel_rfl
theorem cells25 : Try.prog.cellsOf 25 = 97 := by kernel_rfl
theorem cells33 : Try.prog.cellsOf 33 = 2 := by kernel_rfl
theorem bytes33 : Try.prog.bytesOf 33 = 16 := by kernel_rfl

theorem plain_of_cell {w : World} {a : Addr} {v : Value} (h : w.cell? a = some v) : ∃ b o, a = ⟨b, o, none⟩ := by
  obtain ⟨b, o, s⟩ := a
  cases s with
  | none => exact ⟨b, o, rfl⟩
  | some s =>
    exfalso
    unfold World.cell? at h
    simp at h
    split at h <;> simp at h

section
variable {H : Type} {enc : TypeId × Value → H} {W : World} {base : Nat} {spare : Nat → Bool} {held : Bool} {fuel : Nat}

theorem open_dues {v : Value} {x : DataW H × List MemPlace} (h : DataW.trod enc Try.prog W base spare held fuel 22 [v] = some x) (hz : ∀ n ∈ x.1.weights Try.prog 22, n ≤ reachBytes) :
    ∃ l : List Du, DuesAt W v l ∧ l.length ≤ 8796093022208 ∧ ∀ d ∈ l, wfD d := by
  rcases open_slice Try.underlying22 h with ⟨hcs, hx⟩ | ⟨a, len, cap, m, n, D, Pl, hcs, hb, hl, hm, hmm, hx, hi⟩
  · simp at hcs
    exact ⟨[], by rw [hcs]; exact DuesAt.nil W, by simp, fun d hd => by cases hd⟩
  · simp at hcs
    rw [cells33] at hi
    have hml : len ≤ m := by rw [hmm]; split <;> omega
    obtain ⟨f, hf⟩ := choose_lt (α := Du) (n := len) (p := fun i q => W.cell? (a.add (i * 2)) = some (.int .i64 q.id) ∧ W.cell? (a.add (i * 2 + 1)) = some (.int .i64 q.tm) ∧ wfD q) (fun i hil => by
      obtain ⟨cs', hc, ht⟩ := hi i (by omega)
      obtain ⟨_, hlen, hcell⟩ := World.cells?_some hc
      obtain ⟨y0, y1, n', hD, _, t0, t1⟩ := trod_struct2 Try.underlying33 ht
      match cs', hlen with
      | [c0, c1], _ =>
        simp only [cells3, List.drop_zero, List.take_succ_cons, List.take_zero, List.drop_succ_cons] at t0 t1
        obtain ⟨z0, e0, _, wf0⟩ := DataW.trod_int Try.underlying3 t0
        obtain ⟨z1, e1, _, _⟩ := DataW.trod_int Try.underlying3 t1
        simp at e0 e1
        have g0 := hcell 0 (by omega)
        have g1 := hcell 1 (by omega)
        rw [add_add] at g0 g1
        exact ⟨⟨z0, z1⟩, by simpa [e0] using g0, by simpa [e1] using g1, wf0⟩)
    have eg : ∀ i, i < len → ((List.range len).map f).getD i default = f i := fun i hi => by simp [List.getD, hi]
    refine ⟨(List.range len).map f, ⟨some a, cap, by simp [hcs], by simpa using hl, (fun h => by cases h), fun hne => ?_⟩, ?_, fun d hd => ?_⟩
    · have hlen : 0 < len := by
        rcases Nat.eq_zero_or_pos len with h0 | h0
        · subst h0; simp at hne
        · exact h0
      obtain ⟨b, o, e⟩ := plain_of_cell (hf 0 hlen).1
      have ea : a = ⟨b, o, none⟩ := by simpa [Addr.add] using e
      refine ⟨b, o, by rw [ea], fun i hi => ?_⟩
      simp only [List.length_map, List.length_range] at hi
      obtain ⟨c0, c1, _⟩ := hf i hi
      rw [ea, Addr.add_mid] at c0 c1
      rw [eg i hi]
      exact ⟨c0, c1⟩
    · have := hz ((((List.range len).map D).length + ((List.range (m - len)).map fun j => D (len + j)).length) * Try.prog.bytesOf 33) (by rw [hx]; simp [DataW.weights, Try.underlying22])
      simp only [List.length_map, List.length_range, bytes33, reachBytes] at this ⊢
      omega
    · obtain ⟨i, hi, rfl⟩ := List.mem_map.1 hd
      exact (hf i (by simpa using hi)).2.2

theorem weightsAll_mem {P : Program} {e : TypeId} {l : List (DataW H)} {d : DataW H} (hd : d ∈ l) : ∀ n ∈ d.weights P e, n ∈ DataW.weightsAll P e l := by
  induction l with
  | nil => cases hd
  | cons y l ih =>
    intro n hn
    simp only [DataW.weightsAll, List.mem_append]
    rcases List.mem_cons.1 hd with rfl | hd
    · exact .inl hn
    · exact .inr (ih hd n hn)

theorem open_wheel {C : Array Value} {x : DataW H × List MemPlace} (hC : C.size = 97) (h : DataW.trod enc Try.prog W base spare held fuel 25 C.toList = some x) (hz : ∀ n ∈ x.1.weights Try.prog 25, n ≤ reachBytes) :
    ∃ (now : Int) (V : Nat → Value) (f : Ls), C = Cw now V ∧ WheelAt W V f ∧ (∀ i, i < 96 → (f i).length ≤ 8796093022208) ∧ allP wfD f := by
  obtain ⟨y0, y1, n', hD, _, t0, t1⟩ := trod_struct2 Try.underlying25 h
  obtain ⟨l⟩ := C
  have hll : l.length = 97 := hC
  simp only [cells3, cells23] at t0 t1
  match l, hll with
  | c0 :: r, hr =>
    have hr96 : r.length = 96 := by simpa using hr
    simp only [List.drop_zero, List.take_succ_cons, List.take_zero, List.drop_succ_cons] at t0 t1
    rw [List.take_of_length_le (by omega)] at t1
    obtain ⟨now, e0, _, _⟩ := DataW.trod_int Try.underlying3 t0
    simp at e0
    obtain ⟨xs, m, _, hx1, _, hxl, hi⟩ := DataW.trod_array Try.underlying23 t1
    subst hD
    have hw : ∀ i, i < 96 → ∀ y, xs[i]? = some y → ∀ n ∈ y.1.weights Try.prog 22, n ≤ reachBytes := fun i hi y hy n hn => by
      refine hz n ?_
      rw [hx1]
      simp only [DataW.weights, Try.underlying25, Try.underlying23, List.map_cons, List.map_nil, DataW.weightsEach, List.append_nil, List.mem_append]
      exact .inr (weightsAll_mem (d := y.1) (List.mem_map.2 ⟨y, List.mem_of_getElem? hy, rfl⟩) n hn)
    obtain ⟨f, hf⟩ := choose_lt (α := List Du) (n := 96) (p := fun i l => DuesAt W (r.getD i undef) l ∧ l.length ≤ 8796093022208 ∧ ∀ d ∈ l, wfD d) (fun i hil => by
      have h1 := hi i hil
      have hxi : xs[i]? = some xs[i] := List.getElem?_eq_getElem (by omega)
      rw [cells22, Nat.mul_one, List.drop_eq_getElem_cons (by omega), List.take_succ_cons, List.take_zero, hxi] at h1
      have h2 := open_dues h1 (hw i hil _ hxi)
      simpa [List.getD, show i < r.length by omega] using h2)
    refine ⟨now, fun i => r.getD i undef, f, ?_, fun i hi => (hf i hi).1, fun i hi => (hf i hi).2.1, fun i hi => (hf i hi).2.2⟩
    subst e0
    have := Cw_of (⟨.int .i64 now :: r⟩) now hC rfl
    rw [this]
    refine Cw_ext (fun i hi => ?_)
    simp [Array.getD, List.getD, hr96, hi, show i + 1 < 97 by omega]
end
end Go.Proofs.Ytefikkmhdjlccaa
