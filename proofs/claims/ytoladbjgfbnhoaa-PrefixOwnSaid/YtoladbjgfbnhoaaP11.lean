/- slices.Clone and slices.Equal of nodes. -/
import Derived.Test.YtoladbjgfbnhoaaP10
namespace Go.Proofs.Ytoladbjgfbnhoaa
open Go.RowKit

theorem ndCells_get (ns : List Nd) : ∀ i, i < ns.length → (ndCells ns)[i * 4]? = some (.int .i64 (ns.getD i default).n0) ∧ (ndCells ns)[i * 4 + 1]? = some (.int .i64 (ns.getD i default).n1) ∧ (ndCells ns)[i * 4 + 2]? = some (.bool (ns.getD i default).set) ∧ (ndCells ns)[i * 4 + 3]? = some (.int .i64 (ns.getD i default).val) := by
  induction ns with
  | nil => intro i hi; simp at hi
  | cons x ns ih =>
    intro i hi
    match i with
    | 0 => simp [ndCells, List.getD]
    | i + 1 =>
      have := ih i (by simpa using hi)
      have e : ndCells (x :: ns) = [.int .i64 x.n0, .int .i64 x.n1, .bool x.set, .int .i64 x.val] ++ ndCells ns := by simp [ndCells]
      rw [e, show (i + 1) * 4 = i * 4 + 4 from by omega]
      obtain ⟨t0, t1, t2, t3⟩ := this
      simp only [List.getD, List.getElem?_cons_succ] at t0 t1 t2 t3 ⊢
      refine ⟨?_, ?_, ?_, ?_⟩ <;> rw [List.getElem?_append_right (by simp)] <;> simp
      · exact t0
      · exact t1
      · exact t2
      · exact t3

theorem NodesAt.src {w : World} {a : Option Addr} {ns : List Nd} {cap : Nat} (h : NodesAt w (.slice a ns.length cap) ns) : ∀ ad, a = some ad → ∀ (j : Nat) (u : Value), (ndCells ns)[j]? = some u → w.cell? (ad.add j) = some u := by
  intro ad had j u hu
  have hj : j < ns.length * 4 := by
    have := (List.getElem?_eq_some_iff.1 hu).1
    rwa [ndCells_length] at this
  obtain ⟨a', cap', e0, _, _, h⟩ := h
  simp only [Value.slice.injEq, true_and] at e0
  obtain ⟨rfl, rfl⟩ := e0
  obtain ⟨b, o, e, hc⟩ := h (by intro h0; subst h0; simp at hj)
  obtain rfl : ad = ⟨b, o, none⟩ := by rw [had] at e; exact Option.some.inj e
  have hi : j / 4 < ns.length := by omega
  obtain ⟨c0, c1, c2, c3⟩ := hc (j / 4) hi
  obtain ⟨t0, t1, t2, t3⟩ := ndCells_get ns (j / 4) hi
  rw [Addr.add_lit]
  have hm : j % 4 < 4 := Nat.mod_lt _ (by decide)
  rcases (show j % 4 = 0 ∨ j % 4 = 1 ∨ j % 4 = 2 ∨ j % 4 = 3 by omega) with e | e | e | e
  · rw [show j = j / 4 * 4 from by omega] at hu ⊢
    rw [t0] at hu; rw [← hu, ← c0]
  · rw [show j = j / 4 * 4 + 1 from by omega] at hu ⊢
    rw [t1] at hu; rw [← hu, ← c1]; rfl
  · rw [show j = j / 4 * 4 + 2 from by omega] at hu ⊢
    rw [t2] at hu; rw [← hu, ← c2]; rfl
  · rw [show j = j / 4 * 4 + 3 from by omega] at hu ⊢
    rw [t3] at hu; rw [← hu, ← c3]; rfl

theorem NodesAt.of_own {w : World} {B : Nat} {v : Value} {ns : List Nd} (h : OwnN w B v ns) : NodesAt w v ns := by
  have hrow := OwnsT.row h
  obtain ⟨h1, ⟨rfl, h0⟩ | ⟨g, cap, cur, rfl, a1, a2, a3, a4, a5, a6, a7⟩⟩ := h
  · exact ⟨none, 0, by rw [h0], by omega, fun _ => rfl, fun h => absurd (List.eq_nil_of_length_eq_zero h0) h⟩
  · refine ⟨_, cap, rfl, a3, (fun h => by cases h), fun _ => ⟨g, 0, rfl, fun i hi => ?_⟩⟩
    obtain ⟨e1, e2, e3, e4⟩ := ndCells_get ns i hi
    simp only [Nat.zero_add]
    exact ⟨by rw [hrow.cellAt _ (by omega)]; exact e1, by rw [hrow.cellAt _ (by omega)]; exact e2, by rw [hrow.cellAt _ (by omega)]; exact e3, by rw [hrow.cellAt _ (by omega)]; exact e4⟩

theorem NdT_cells (ns : List Nd) : ∀ (j : Nat) (u : Value), (ndCells ns)[j]? = some u → NdT (j % 4) u := by
  intro j u hu
  have hj : j < ns.length * 4 := by
    have := (List.getElem?_eq_some_iff.1 hu).1
    rwa [ndCells_length] at this
  obtain ⟨t0, t1, t2, t3⟩ := ndCells_get ns (j / 4) (by omega)
  unfold NdT
  rcases (show j % 4 = 0 ∨ j % 4 = 1 ∨ j % 4 = 2 ∨ j % 4 = 3 by omega) with e | e | e | e <;> rw [e]
  · rw [show j / 4 * 4 = j from by omega, hu] at t0; exact ⟨_, Option.some.inj t0⟩
  · rw [show j / 4 * 4 + 1 = j from by omega, hu] at t1; exact ⟨_, Option.some.inj t1⟩
  · rw [show j / 4 * 4 + 2 = j from by omega, hu] at t2; exact ⟨_, Option.some.inj t2⟩
  · rw [show j / 4 * 4 + 3 = j from by omega, hu] at t3; exact ⟨_, Option.some.inj t3⟩

theorem one_cells (ns : List Nd) : ∀ u ∈ ndCells ns, u.oneCell' = true := by
  intro u hu
  simp only [ndCells, List.mem_flatMap] at hu
  obtain ⟨x, _, hx⟩ := hu
  simp at hx
  rcases hx with rfl | rfl | rfl | rfl <;> rfl

set_option maxHeartbeats 400000 in
theorem c4 (v : Value) (ns : List Nd) (w : World) (h : NodesAt w v ns) (hl : ns.length ≤ 4398046511104) :
    Calls Try.prog 4 #[v] w fun e w' => ∃ v', e = .returned v' ∧ NodesAt w' v' ns ∧ Below w.heap.size w w' := by
  obtain ⟨a, cap, rfl, hc, hn, h3⟩ := id h
  have heq := Lib.run_eql_slice_nil (P := Try.prog) w 22 31 a ns.length cap 0 0 Try.underlying22
  have H := Lib.hid h
  clear h h3
  cases a with
  | none =>
    obtain rfl := hn rfl
    obtain rfl : ns = [] := List.eq_nil_of_length_eq_zero (by omega)
    simp only [List.length_nil, Option.isNone_none] at heq
    go_enter Try.func4, Try.ntmps4
    go_wp2_with fail
    go_ret
    exact ⟨_, rfl, H.out, Below.refl _ _⟩
  | some ad =>
    have hsrc := Lib.hid (H.out.src)
    clear hn
    go_enter Try.func4, Try.ntmps4
    have hown : OwnsT (w.alloc (.cells #[] 31)) w.heap.size 31 4 NdT (.slice (some ⟨w.heap.size, 0, none⟩) 0 0) 0 [] := by
      have := OwnsT.of_block (w := w.alloc (.cells #[] 31)) (base := w.heap.size) (e := 31) (size := 4) (T := NdT) (g := w.heap.size) (cap := 0) (n := 0) (cur := #[]) (Nat.le_refl _) (heap_alloc_new _ _) (Nat.le_refl _) (by simp [maxLen]) (by simp) (by intro j u hu; simp at hu)
      simpa using this
    go_wp2_with (at_builtin; refine wpList_append_ownT _ rfl _ _ 22 rfl w.heap.size 31 (.agg #[.int .i64 0, .int .i64 0, .bool false, .int .i64 0]) 4 32 NdT Try.underlying22 info31 rfl (by decide) NdT_zero _ 0 [] rfl hown (some ad) ns.length cap (ndCells ns) rfl ?c1 ?c2 ?c3 ?c4 ?c5 ?c6 ?c7 ?c8 ?_)
    case c1 => exact ndCells_length ns
    case c2 => intro h; cases h
    case c3 => 
      intro a ha j u hu
      have := hsrc.out a ha j u hu
      rw [← this]
      exact World.cell?_alloc_lt _ _ _ (World.block_lt_of_cell? _ _ this)
    case c4 => exact one_cells ns
    case c5 => exact NdT_cells ns
    case c6 => unfold maxLen; omega
    case c7 => omega
    case c8 => simp
    intro v' w1 hown' hgrow _ _
    go_wp2_with fail
    go_ret
    refine ⟨_, rfl, NodesAt.of_own (B := w.heap.size) (by simpa [OwnN] using hown'), ?_⟩
    exact ((Below.refl w.heap.size w).alloc (Nat.le_refl _) _).grown hgrow (by simp) (by intro k hk; simp [Value.ownBlock] at hk; omega)

theorem eq29' (d : Nat) (a b : Int) (w : World) : (Op.equalIn (d + 2) 29 (.agg #[.int .i64 a, .int .i64 b]) (.agg #[.int .i64 a, .int .i64 b])).run Try.prog w = .ok true w := by
  have u3 := Try.underlying3
  have a3 := Try.isAgg3
  have z3 := Try.sizeOf3
  rw [Op.equalIn]
  simp only [Sem.run_bind, run_underlying Try.underlying29, Result.andThen_ok]
  simp only [Std.Legacy.Range.forIn_eq_forIn_range', Std.Legacy.Range.size, Nat.sub_zero, Nat.add_sub_cancel, Nat.div_one, List.range'_succ, List.range'_zero, List.forIn_cons, List.forIn_nil]
  go_simp

theorem eq31 (a b c : Int) (s : Bool) (w : World) : (Op.equalIn 10000 31 (.agg #[.int .i64 a, .int .i64 b, .bool s, .int .i64 c]) (.agg #[.int .i64 a, .int .i64 b, .bool s, .int .i64 c])).run Try.prog w = .ok true w := by
  have u3 := Try.underlying3
  have a3 := Try.isAgg3
  have z3 := Try.sizeOf3
  have a4 := Try.isAgg4
  have z4 := Try.sizeOf4
  have u4 := Try.underlying4
  have a29 := Try.isAgg29
  have z29 := Try.sizeOf29
  have h29 := eq29' 9997 a b
  have hS : Try.prog.underlying 31 = some (.struct (Try.prog.fieldsOf 31)) := by kernel_rfl
  have hp : Try.prog.stoodInHeld 31 = false := by kernel_rfl
  rw [show (10000 : Nat) = 9999 + 1 from rfl, run_equalIn_agg w 9999 31 _ _ hS hp]
  simp only [Program.fieldsOf, Try.underlying31]
  go_simp

theorem neq31 (a b c : Int) (s : Bool) (w : World) : (binOp .neq 31 (.agg #[.int .i64 a, .int .i64 b, .bool s, .int .i64 c]) (.agg #[.int .i64 a, .int .i64 b, .bool s, .int .i64 c])).run Try.prog w = .ok (.bool false) w := by
  rw [run_neq_struct, eq31]; rfl

end Go.Proofs.Ytoladbjgfbnhoaa
