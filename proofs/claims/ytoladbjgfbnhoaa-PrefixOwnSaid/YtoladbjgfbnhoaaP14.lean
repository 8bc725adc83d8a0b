/- prefixLives. -/
import Derived.Test.YtoladbjgfbnhoaaP13
namespace Go.Proofs.Ytoladbjgfbnhoaa
open Go.RowKit

theorem lives_model : ∃ (L1 L2 : List Nd) (t : T), PutAll [] 167772160 ((8 : Nat) : Int) 1 = some L1 ∧ PutAll L1 167837696 ((16 : Nat) : Int) 2 = some L2 ∧ readM L2 = some t ∧ findM 167838211 32 t none = some (16, 2) ∧ findM 167903747 32 t none = some (8, 1) ∧ L1.length = 9 ∧ L2.length = 17 :=
  ⟨((PutAll [] 167772160 8 1).getD []), ((PutAll ((PutAll [] 167772160 8 1).getD []) 167837696 16 2).getD []), ((readM ((PutAll ((PutAll [] 167772160 8 1).getD []) 167837696 16 2).getD [])).getD .nil), by kernel_rfl, by kernel_rfl, by kernel_rfl, by kernel_rfl, by kernel_rfl, by kernel_rfl, by kernel_rfl⟩

theorem TrieEnd.some_of {w w' : World} {res : Option (List Nd)} {L : List Nd} {n : Nat} {e : Ending} (h : TrieEnd w res e w') (hr : res = some L) (hn : L.length = n) : Below w.heap.size w w' ∧ ∃ sa sc, e = .returned (.tuple #[.agg #[.slice sa n sc], .int .i64 0]) ∧ OwnN w' w.heap.size (.slice sa n sc) L := by
  obtain ⟨hb, h⟩ := h
  rw [hr] at h
  obtain ⟨sv, rfl, h⟩ := h
  obtain ⟨a, c, rfl⟩ := OwnsT.shape h
  subst hn
  exact ⟨hb, a, c, rfl, h⟩

end Go.Proofs.Ytoladbjgfbnhoaa
