/- WheelBook: whatever time and numbers are handed in, the law's function returns true, and its arguments read afterwards as before. No condition. -/
import Derived.Test.YtefikkmhdjlccaaRows
import Derived.Test.YtefikkmhdjlccaaE5
import Derived.Test.YtefikkmhdjlccaaOpen
import Derived.Test.YtefikkmhdjlccaaLaw
import Derived.Carry
namespace Go.Proofs.Ytefikkmhdjlccaa
open Go.ChangeShapes Go.WideShapes Go.ChangeAt Go.RowKit Go.Deep

theorem Try.own : ownKnob Try.prog.godebug = none := by kernel_rfl
theorem Try.laidOut : laidOutB Try.prog = true := by kernel_rfl
theorem bytes3 : Try.prog.bytesOf 3 = 8 := by kernel_rfl

section
variable {H : Type} {enc : TypeId × Value → H} {W : World} {base : Nat} {spare : Nat → Bool} {held : Bool} {fuel : Nat}
theorem open_ints_at {v : Value} {x : DataW H × List MemPlace} (h : DataW.trod enc Try.prog W base spare held fuel 43 [v] = some x) (hz : ∀ n ∈ x.1.weights Try.prog 43, n ≤ reachBytes) :
    ∃ xs : List Int, IntsAt W v xs ∧ xs.length ≤ 17592186043904 ∧ ∀ n ∈ xs, wfI n := by
  rcases open_slice1 Try.underlying43 cells3 h with ⟨hcs, hx⟩ | ⟨a, len, cap, m, n, V, D, Pl, hcs, hb, hl, hm, hmm, hx, hi⟩
  · simp at hcs
    exact ⟨[], ⟨none, 0, by simp [hcs], by simp, fun _ => rfl, fun h => absurd rfl h⟩, by simp, fun n hn => by cases hn⟩
  · simp at hcs
    have hml : len ≤ m := by rw [hmm]; split <;> omega
    obtain ⟨f, hf⟩ := choose_lt (α := Int) (n := m) (p := fun i z => W.cell? (a.add i) = some (.int .i64 z) ∧ wfI z) (fun i him => by
      obtain ⟨h1, h2⟩ := hi i him
      obtain ⟨z, e, _, wf⟩ := DataW.trod_int Try.underlying3 h2
      simp at e
      exact ⟨z, by rw [h1, e], wf⟩)
    refine ⟨(List.range len).map f, ⟨some a, cap, by simp [hcs], by simpa using hl, (fun h => by cases h), fun hne => ?_⟩, ?_, fun n hn => ?_⟩
    · have hlen : 0 < len := by
        rcases Nat.eq_zero_or_pos len with h0 | h0
        · subst h0; simp at hne
        · exact h0
      obtain ⟨b, o, e⟩ := plain_of_cell (hf 0 (by omega)).1
      have ea : a = ⟨b, o, none⟩ := by simpa [Addr.add] using e
      refine ⟨b, o, by rw [ea], fun i hi => ?_⟩
      simp only [List.length_map, List.length_range] at hi
      have := (hf i (by omega)).1
      rw [ea, Addr.add_lit] at this
      rw [this]
      simp [List.getD, hi]
    · have := hz ((((List.range len).map D).length + ((List.range (m - len)).map fun j => D (len + j)).length) * Try.prog.bytesOf 3) (by rw [hx]; simp [DataW.weights, Try.underlying43])
      simp only [List.length_map, List.length_range, bytes3, reachBytes] at this ⊢
      omega
    · obtain ⟨i, hi, rfl⟩ := List.mem_map.1 hn
      exact (hf i (by have := List.mem_range.1 hi; omega)).2
end

theorem wheelBook_lifted (os : Os) (started : os.Started) (H : Type) (enc : TypeId × Value → H) :
    ReturnsInHanded {} Try.checked os 6 .any (Rows.wheelBookSpec.pre6 enc Try.prog Try.f6 Rows.wheelBookRow.domain false) (Rows.wheelBookSpec.post enc Try.prog Try.f6 false true false false) := by
  refine returnsInHanded_of_change_sized (C := Try.checked) Try.own started (by kernel_rfl) Try.func6
    (ChangeSpec.witness6 (enc := enc) (C := Try.checked) false ⟨#[], #[.int .i64 0, .slice none 0 0, .slice none 0 0, .slice none 0 0], []⟩ 8 (by kernel_rfl) (by kernel_rfl) (by kernel_rfl) (by kernel_rfl)) ?_
  intro W base args ds gs before hval0 hW hcnd hsz0 _
  have hval : ∀ (j : Nat) t v, Try.f6.params[j]? = some t → args[j]? = some v → Value.okWide Try.prog W .any base t v := hval0
  have hsz : (DataW.weightsEach Try.prog (Try.f6.params.toList ++ Rows.wheelBookSpec.plain.varTypes Try.prog) (ds ++ gs)).all (· ≤ reachBytes) = true := hsz0
  have hW' := hW
  obtain ⟨p, q, hA0, hV, rfl, hfz, hnd⟩ := hW
  have hA : DataW.TrodAll enc Try.prog W 0 (fun _ => true) true Try.f6.params.toList args.toList ds p := hA0
  rw [Try.params6] at hA hval hsz
  obtain ⟨v0, v1, v2, v3, d0, d1, d2, d3, p0, p1, p2, p3, rfl, rfl, rfl, h0, h1, h2, h3⟩ := trodAll_four hA
  obtain ⟨rfl, rfl⟩ := trodVars_none hV
  obtain ⟨n, rfl, rfl, rfl, wn⟩ := open_int Try.underlying3 (hval 0 3 v0 rfl rfl) h0
  obtain ⟨x1, y1, z1, rfl⟩ := okWide_slice Try.underlying43 (hval 1 43 v1 rfl rfl)
  obtain ⟨x2, y2, z2, rfl⟩ := okWide_slice Try.underlying43 (hval 2 43 v2 rfl rfl)
  obtain ⟨x3, y3, z3, rfl⟩ := okWide_slice Try.underlying43 (hval 3 43 v3 rfl rfl)
  obtain ⟨fuel1, hf1⟩ := h1
  obtain ⟨fuel2, hf2⟩ := h2
  obtain ⟨fuel3, hf3⟩ := h3
  have hw : ∀ (j : Nat) (d : DataW H), ([3, 43, 43, 43] : List TypeId)[j]? = some 43 → ([DataW.lit (.int .i64 n), d1, d2, d3] : List (DataW H))[j]? = some d → ∀ m ∈ d.weights Try.prog 43, m ≤ reachBytes := fun j d ht hd m hm => by
    have := List.all_eq_true.1 hsz m (DataW.weights_mem_each (j := j) (t := 43) ht hd m hm)
    simpa using this
  obtain ⟨ids, i1, l1, w1⟩ := open_ints_at (v := .slice x1 y1 z1) (x := (d1, p1)) hf1 (hw 1 d1 rfl rfl)
  obtain ⟨ats, i2, _, _⟩ := open_ints_at (v := .slice x2 y2 z2) (x := (d2, p2)) hf2 (hw 2 d2 rfl rfl)
  obtain ⟨tks, i3, _, _⟩ := open_ints_at (v := .slice x3 y3 z3) (x := (d3, p3)) hf3 (hw 3 d3 rfl rfl)
  refine (c6 n _ _ _ ids ats tks W i1 i2 i3 l1 w1).mono ?_
  rintro e W' ⟨rfl, hb⟩
  exact ⟨_, rfl, law_post rfl rfl Try.underlying4 Try.laidOut (by rw [Try.params6]; intro t ht; simp at ht; rcases ht with rfl | rfl | rfl | rfl <;> exact ⟨by kernel_rfl, of_decide_eq_true (by kernel_rfl)⟩) hW' rfl hb⟩

theorem wheelBook_holds : Rows.WheelBookSaid :=
  OpenClaim.holds_of_wide 6 Try.f6 rfl rfl rfl rfl rfl rfl rfl ⟨rfl, rfl, rfl, rfl, rfl⟩ rfl rfl rfl rfl rfl (by kernel_rfl) Try.func6 (by kernel_rfl)
    (of_decide_eq_true (by kernel_rfl)) (by unfold Func.isWrapper; rw [if_neg (of_decide_eq_false (by kernel_rfl))]; exact ⟨rfl, rfl⟩)
    (fun os started H enc _ => wheelBook_lifted os started H enc)

#print axioms wheelBook_holds
end Go.Proofs.Ytefikkmhdjlccaa
