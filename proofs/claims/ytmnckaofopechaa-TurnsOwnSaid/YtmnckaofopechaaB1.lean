/- slices.Clone of ints hands back a slice of the call's own. -/
import Derived.Test.YtmnckaofopechaaSmall
import Derived.Test.YtmnckaofopechaaOwn
namespace Go.Proofs.Ytmnckaofopechaa
open Go.RowKit

theorem info3 : (Try.prog.info? 3).map (fun i => (i.zero, i.size, i.bytes)) = some (some (.int .i64 0), 1, 8) := by kernel_rfl
theorem IsI64_zero : ∀ (j : Nat) (u : Value), (Value.cells (.int .i64 0))[j]? = some u → IsI64 j u := by
  intro j u h
  simp only [Value.cells] at h
  match j, h with
  | 0, h => simp at h; exact ⟨0, h.symm⟩

def OwnsI (w : World) (B : Nat) (v : Value) (xs : List Int) : Prop := OwnsT w B 3 1 IsI64 v xs.length (xs.map (Value.int .i64))

/-- the cells of a slice that reads as ints. -/
theorem IntsAt.src {w : World} {a : Option Addr} {xs : List Int} (h : xs ≠ [] → ∃ b o, a = some ⟨b, o, none⟩ ∧ ∀ i, i < xs.length → w.cell? ⟨b, o + i, none⟩ = some (.int .i64 (xs.getD i 0))) :
    ∀ ad, a = some ad → ∀ (j : Nat) (u : Value), (xs.map (Value.int .i64))[j]? = some u → w.cell? (ad.add j) = some u := by
  intro ad had j u hu
  have hj : j < xs.length := by
    have := (List.getElem?_eq_some_iff.1 hu).1
    simpa using this
  obtain ⟨b, o, e, hc⟩ := h (by intro h0; subst h0; simp at hj)
  obtain rfl : ad = ⟨b, o, none⟩ := by rw [had] at e; exact Option.some.inj e
  rw [Addr.add_lit, hc j hj]
  simp only [List.getElem?_map, hj, List.getElem?_eq_getElem, Option.map_some, Option.some.injEq] at hu
  rw [← hu]; simp [List.getD, hj]

set_option maxHeartbeats 400000 in
theorem c10 (v : Value) (xs : List Int) (w : World) (h : IntsAt w v xs) (hl : xs.length ≤ 17592186043904) :
    Calls Try.prog 10 #[v] w fun e w' => ∃ v', e = .returned v' ∧ OwnsI w' w.heap.size v' xs ∧ Below w.heap.size w w' := by
  obtain ⟨a, cap, rfl, hc, hn, h⟩ := h
  have heq := Lib.run_eql_slice_nil (P := Try.prog) w 33 3 a xs.length cap 0 0 Try.underlying33
  cases a with
  | none =>
    obtain rfl := hn rfl
    obtain rfl : xs = [] := List.eq_nil_of_length_eq_zero (by omega)
    simp only [List.length_nil, Option.isNone_none] at heq
    go_enter Try.func10, Try.ntmps10
    go_wp2_with fail
    go_ret
    exact ⟨_, rfl, OwnsT.nil _ _ _ _ _, Below.refl _ _⟩
  | some ad =>
    have hsrc := Lib.hid (IntsAt.src (a := some ad) h)
    clear h hn
    go_enter Try.func10, Try.ntmps10
    have hown : OwnsT (w.alloc (.cells #[] 3)) w.heap.size 3 1 IsI64 (.slice (some ⟨w.heap.size, 0, none⟩) 0 0) 0 [] := by
      have := OwnsT.of_block (w := w.alloc (.cells #[] 3)) (base := w.heap.size) (e := 3) (size := 1) (T := IsI64) (g := w.heap.size) (cap := 0) (n := 0) (cur := #[]) (Nat.le_refl _) (heap_alloc_new _ _) (Nat.le_refl _) (by simp [maxLen]) (by simp) (by intro j u hu; simp at hu)
      simpa using this
    go_wp2_with (at_builtin; refine wpList_append_ownT _ rfl _ _ 33 rfl w.heap.size 3 (.int .i64 0) 1 8 IsI64 Try.underlying33 info3 rfl (by decide) IsI64_zero _ 0 [] rfl hown (some ad) xs.length cap (xs.map (Value.int .i64)) rfl ?c1 ?c2 ?c3 ?c4 ?c5 ?c6 ?c7 ?c8 ?_)
    case c1 => simp
    case c2 => intro h; cases h
    case c3 => 
      intro a ha j u hu
      have := hsrc.out a ha j u hu
      rw [← this]
      exact World.cell?_alloc_lt _ _ _ (World.block_lt_of_cell? _ _ this)
    case c4 => exact ints_oneCell _ _
    case c5 => exact IsI64_ints xs (fun j => j % 1)
    case c6 => unfold maxLen; omega
    case c7 => omega
    case c8 => simp
    intro v' w1 hown' hgrow _ _
    go_wp2_with fail
    go_ret
    refine ⟨_, rfl, by simpa [OwnsI] using hown', ?_⟩
    exact ((Below.refl w.heap.size w).alloc (Nat.le_refl _) _).grown hgrow (by simp) (by intro k hk; simp [Value.ownBlock] at hk; omega)

end Go.Proofs.Ytmnckaofopechaa
