/- PrefixOwn: whatever trie and net are handed in, the law's function returns true, and its arguments read afterwards as before. No condition. -/
import Derived.Test.YtoladbjgfbnhoaaRows
import Derived.Test.YtoladbjgfbnhoaaP17
import Derived.Test.YtoladbjgfbnhoaaP18
import Derived.Test.YtoladbjgfbnhoaaLaw
namespace Go.Proofs.Ytoladbjgfbnhoaa
open Go.ChangeShapes Go.WideShapes Go.ChangeAt Go.RowKit Go.Joins

theorem Try.own : ownKnob Try.prog.godebug = none := by kernel_rfl
theorem Try.laidOut : laidOutB Try.prog = true := by kernel_rfl
theorem cells24 : Try.prog.cellsOf 24 = 1 := by kernel_rfl
theorem cells27 : Try.prog.cellsOf 27 = 2 := by kernel_rfl

theorem arr1 {α : Type} {C : Array α} (h : C.size = 1) : ∃ c, C = #[c] := by
  obtain ⟨l⟩ := C
  match l, h with
  | [c], _ => exact ⟨c, rfl⟩

theorem bounds_u32' {n : Int} (h : (Lit.int .u32 n).wf = true) : 0 ≤ n ∧ n < 4294967296 := by
  simp [Lit.wf, IntKind.min, IntKind.max, IntKind.signed, IntKind.bits] at h
  omega

set_option maxRecDepth 100000 in
set_option maxHeartbeats 200000 in
theorem prefixOwn_lifted (os : Os) (started : os.Started) (H : Type) (enc : TypeId × Value → H) :
    ReturnsInHanded {} Try.checked os 3 .any (Rows.prefixOwnSpec.pre6 enc Try.prog Try.f3 Rows.prefixOwnRow.domain false) (Rows.prefixOwnSpec.post enc Try.prog Try.f3 false true false false) := by
  refine returnsInHanded_of_change_sized (C := Try.checked) Try.own started (by kernel_rfl) Try.func3
    (ChangeSpec.witness6 (enc := enc) (C := Try.checked) false ⟨#[], #[.agg #[.slice none 0 0], .agg #[.int .u32 0, .int .i64 0]], []⟩ 8 (by kernel_rfl) (by kernel_rfl) (by kernel_rfl) (by kernel_rfl)) ?_
  intro W base args ds gs before hval0 hW hcnd hsz0 _
  have hval : ∀ (j : Nat) t v, Try.f3.params[j]? = some t → args[j]? = some v → Value.okWide Try.prog W .any base t v := hval0
  have hsz : (DataW.weightsEach Try.prog (Try.f3.params.toList ++ Rows.prefixOwnSpec.plain.varTypes Try.prog) (ds ++ gs)).all (· ≤ reachBytes) = true := hsz0
  have hW' := hW
  obtain ⟨p, q, hA0, hV, rfl, hfz, hnd⟩ := hW
  have hA : DataW.TrodAll enc Try.prog W 0 (fun _ => true) true Try.f3.params.toList args.toList ds p := hA0
  rw [Try.params3] at hA hval hsz
  obtain ⟨v0, v1, d0, d1, p0, p1, rfl, rfl, rfl, h0, h1⟩ := trodAll_two hA
  obtain ⟨rfl, rfl⟩ := trodVars_none hV
  obtain ⟨c1, c2, y1, y2, n1, rfl, rfl, rfl, t1, t2⟩ := open_agg2 Try.underlying27 (by kernel_rfl) cells27 (hval 1 27 v1 rfl rfl) h1
  obtain ⟨a, e1, _, wf1⟩ := DataW.trod_int Try.underlying25 t1
  obtain ⟨l, e2, _, _⟩ := DataW.trod_int Try.underlying3 t2
  simp at e1 e2
  subst e1 e2
  obtain ⟨cs, rfl, hcs⟩ := okWide_struct Try.underlying24 (hval 0 24 v0 rfl rfl)
  rw [cells24] at hcs
  obtain ⟨c0, rfl⟩ : ∃ c, cs = #[c] := arr1 hcs
  obtain ⟨fuel, hf⟩ := h0
  have hw0 : ∀ m ∈ d0.weights Try.prog 24, m ≤ reachBytes := fun m hm => by
    have := List.all_eq_true.1 hsz m (DataW.weights_mem_each (j := 0) (t := 24) rfl rfl m hm)
    simpa using this
  obtain ⟨y0, n0, hx, _, t0⟩ := trod_struct1 Try.underlying24 hf
  simp only [Prod.mk.injEq] at hx
  obtain ⟨rfl, rfl⟩ := hx
  simp only [cells22, Value.cells, List.toList_toArray, List.drop_zero, List.take_succ_cons, List.take_zero] at t0
  obtain ⟨ns, hT, hl⟩ := open_nodes t0 (fun n hn => hw0 n (by simpa [DataW.weights, Try.underlying24, DataW.weightsEach] using hn))
  obtain ⟨ha, ha2⟩ := bounds_u32' wf1
  refine (c3 _ ns a l W hT hl ha ha2).mono ?_
  rintro e W' ⟨rfl, hb⟩
  exact ⟨_, rfl, law_post rfl rfl Try.underlying4 Try.laidOut (by rw [Try.params3]; intro t ht; simp at ht; rcases ht with rfl | rfl <;> exact ⟨by kernel_rfl, of_decide_eq_true (by kernel_rfl)⟩) hW' rfl hb⟩

theorem prefixOwn_holds : Rows.PrefixOwnSaid :=
  OpenClaim.holds_of_wide 3 Try.f3 rfl rfl rfl rfl rfl rfl rfl ⟨rfl, rfl, rfl, rfl, rfl⟩ rfl rfl rfl rfl rfl (by kernel_rfl) Try.func3 (by kernel_rfl)
    (of_decide_eq_true (by kernel_rfl)) (by unfold Func.isWrapper; rw [if_neg (of_decide_eq_false (by kernel_rfl))]; exact ⟨rfl, rfl⟩)
    (fun os started H enc _ => prefixOwn_lifted os started H enc)

#print axioms prefixOwn_holds
end Go.Proofs.Ytoladbjgfbnhoaa
