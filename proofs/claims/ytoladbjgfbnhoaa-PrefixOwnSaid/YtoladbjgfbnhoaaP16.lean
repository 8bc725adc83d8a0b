/- What stays while the law writes into what it was told: blocks of nodes stay blocks of nodes. -/
import Derived.Test.YtoladbjgfbnhoaaP15
namespace Go.Proofs.Ytoladbjgfbnhoaa
open Go.RowKit

def NdC (cur : Array Value) : Prop := ∀ (j : Nat) (u : Value), cur[j]? = some u → NdT (j % 4) u

/-- blocks of nodes keep their make. -/
def Pres (w w' : World) : Prop := ∀ (g : Nat) (cur : Array Value), w.heap[g]? = some (.cells cur 31 (0, 0)) → NdC cur → ∃ cur' : Array Value, w'.heap[g]? = some (.cells cur' 31 (0, 0)) ∧ cur'.size = cur.size ∧ NdC cur'

theorem Pres.refl (w : World) : Pres w w := fun _ cur h hi => ⟨cur, h, rfl, hi⟩
theorem Pres.trans {a b c : World} (h : Pres a b) (k : Pres b c) : Pres a c := fun g cur hg hi => by
  obtain ⟨c1, h1, h2, h3⟩ := h g cur hg hi
  obtain ⟨c2, k1, k2, k3⟩ := k g c1 h1 h3
  exact ⟨c2, k1, by omega, k3⟩
theorem Pres.of_below {w w' : World} (h : Below w.heap.size w w') : Pres w w' :=
  fun g cur hg hi => ⟨cur, by rw [h.block g (lt_of_block hg)]; exact hg, rfl, hi⟩
theorem Pres.alloc (w : World) (o : Obj) : Pres w (w.alloc o) := Pres.of_below (Below.of_alloc w o)

theorem Pres.set_val {w : World} {g o : Nat} {cur : Array Value} (hg : w.heap[g]? = some (.cells cur 31 (0, 0))) (n : Int) (ho : o % 4 = 3) : Pres w (w.setCell ⟨g, o, none⟩ (.int .i64 n)) := by
  intro g' cur' hg' hi
  by_cases e : g' = g
  · subst e
    rw [hg] at hg'
    simp only [Option.some.injEq, Obj.cells.injEq] at hg'
    obtain ⟨rfl, _⟩ := hg'
    refine ⟨_, heap_setCell_cells _ hg, by simp, fun j u hu => ?_⟩
    rw [Array.getElem?_setIfInBounds] at hu
    split at hu
    · split at hu
      · rename_i e1 _
        simp at hu
        rw [← e1, ho, ← hu]
        exact ⟨n, rfl⟩
      · cases hu
    · exact hi j u hu
  · exact ⟨cur', by rw [Below.heap_setCell _ _ _ _ e]; exact hg', rfl, hi⟩

/-- nodes that may be written, up to the capacity. -/
def WN (w : World) (B : Nat) (u : Value) : Prop :=
  ∃ a n cap, u = .slice a n cap ∧ n ≤ cap ∧ cap ≤ maxLen ∧ (cap ≠ 0 → ∃ (g : Nat) (cur : Array Value), a = some ⟨g, 0, none⟩ ∧ B ≤ g ∧ w.heap[g]? = some (.cells cur 31 (0, 0)) ∧ cur.size = cap * 4 ∧ NdC cur)

theorem WN.pres {w w' : World} {B : Nat} {u : Value} (h : WN w B u) (hp : Pres w w') : WN w' B u := by
  obtain ⟨a, n, cap, rfl, h1, h2, h3⟩ := h
  refine ⟨a, n, cap, rfl, h1, h2, fun hc => ?_⟩
  obtain ⟨g, cur, rfl, hB, hg, hs, hi⟩ := h3 hc
  obtain ⟨cur', k1, k2, k3⟩ := hp g cur hg hi
  exact ⟨g, cur', rfl, hB, k1, by omega, k3⟩
theorem WN.base {w : World} {B B' : Nat} {u : Value} (h : WN w B u) (hb : B' ≤ B) : WN w B' u := by
  obtain ⟨a, n, cap, rfl, h1, h2, h3⟩ := h
  refine ⟨a, n, cap, rfl, h1, h2, fun hc => ?_⟩
  obtain ⟨g, cur, rfl, hB, r⟩ := h3 hc
  exact ⟨g, cur, rfl, by omega, r⟩
theorem WN.of_own {w : World} {B : Nat} {u : Value} {ns : List Nd} (h : OwnN w B u ns) : WN w B u := by
  obtain ⟨_, ⟨rfl, h0⟩ | ⟨g, cap, cur, rfl, a1, a2, a3, a4, a5, a6, a7⟩⟩ := h
  · exact ⟨none, 0, 0, rfl, Nat.le_refl _, by simp [maxLen], fun h => absurd rfl h⟩
  · exact ⟨_, _, cap, rfl, a3, a4, fun _ => ⟨g, cur, rfl, a1, a2, a5, a7⟩⟩
theorem WN.le {w : World} {B n cap : Nat} {a : Option Addr} (h : WN w B (.slice a n cap)) : n ≤ cap ∧ cap ≤ maxLen := by
  obtain ⟨a', n', c', e, h1, h2, _⟩ := h
  simp only [Value.slice.injEq] at e
  obtain ⟨rfl, rfl, rfl⟩ := e
  exact ⟨h1, h2⟩
/-- one node's value that may be written. -/
theorem WN.elem {w : World} {B n c i : Nat} {a : Option Addr} (h : WN w B (.slice a n c)) (hi : i < c) :
    ∃ g x, a = some ⟨g, 0, none⟩ ∧ B ≤ g ∧ w.cell? ⟨g, i * 4 + 3, none⟩ = some (.int .i64 x) ∧ w.frozen? ⟨g, i * 4 + 3, none⟩ = false ∧ (∀ z, Pres w (w.setCell ⟨g, i * 4 + 3, none⟩ (.int .i64 z))) := by
  obtain ⟨a', n', c', e, h1, h2, h3⟩ := h
  simp only [Value.slice.injEq] at e
  obtain ⟨rfl, rfl, rfl⟩ := e
  obtain ⟨g, cur, rfl, hB, hg, hs, hc⟩ := h3 (by omega)
  have hlt : i * 4 + 3 < cur.size := by omega
  have hT := hc _ _ (Array.getElem?_eq_getElem hlt)
  rw [show (i * 4 + 3) % 4 = 3 from by omega] at hT
  obtain ⟨x, hx⟩ : ∃ n : Int, cur[i * 4 + 3] = .int .i64 n := hT
  refine ⟨g, x, rfl, hB, ?_, free_of_blk hg, fun z => Pres.set_val hg z (by omega)⟩
  rw [cell_of_blk hg, Array.getElem?_eq_getElem hlt, hx]

theorem TrieEnd.wn {w w' : World} {res : Option (List Nd)} {e : Ending} (h : TrieEnd w res e w') : Below w.heap.size w w' ∧ ∃ (a : Option Addr) (n c : Nat) (r : Int), e = .returned (.tuple #[.agg #[.slice a n c], .int .i64 r]) ∧ WN w' w.heap.size (.slice a n c) := by
  obtain ⟨hb, h⟩ := h
  refine ⟨hb, ?_⟩
  cases res with
  | none =>
    obtain ⟨r, _, rfl⟩ := h
    exact ⟨none, 0, 0, r, rfl, none, 0, 0, rfl, Nat.le_refl _, by simp [maxLen], fun h => absurd rfl h⟩
  | some L =>
    obtain ⟨sv, rfl, h⟩ := h
    obtain ⟨a, c, rfl⟩ := OwnN.shape h
    exact ⟨a, _, c, 0, rfl, WN.of_own h⟩
theorem RemEnd.wn {w w' : World} {e : Ending} (h : RemEnd w e w') : Below w.heap.size w w' ∧ ∃ (a : Option Addr) (n c : Nat) (r : Int), e = .returned (.tuple #[.agg #[.slice a n c], .int .i64 r]) ∧ WN w' w.heap.size (.slice a n c) := by
  obtain ⟨hb, sv, L, r, rfl, h⟩ := h
  obtain ⟨a, c, rfl⟩ := OwnN.shape h
  exact ⟨hb, a, _, c, r, rfl, WN.of_own h⟩

theorem index37_0 (a b : Option Addr) (n c m d : Nat) (w : World) : (Instr.index 37 (.agg #[.slice a n c, .slice b m d]) (.int .i64 0)).run Try.prog w = .ok (.slice a n c) w := by
  unfold Instr.index
  simp [go_sem, run_underlying Try.underlying37, part, Try.sizeOf22, Try.isAgg22]
theorem index37_1 (a b : Option Addr) (n c m d : Nat) (w : World) : (Instr.index 37 (.agg #[.slice a n c, .slice b m d]) (.int .i64 1)).run Try.prog w = .ok (.slice b m d) w := by
  unfold Instr.index
  simp [go_sem, run_underlying Try.underlying37, part, Try.sizeOf22, Try.isAgg22]
end Go.Proofs.Ytoladbjgfbnhoaa
