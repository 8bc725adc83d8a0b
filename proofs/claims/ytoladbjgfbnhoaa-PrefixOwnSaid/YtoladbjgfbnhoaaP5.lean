/- lay: a tree as nodes. The plain part. -/
import Derived.Test.YtoladbjgfbnhoaaP4
import Derived.Deep.RegionLaw
import Derived.Deep.CutBlock
import Derived.Deep.AppendLies
namespace Go.Proofs.Ytoladbjgfbnhoaa
open Go.RowKit

def layM : T → Nat → List Nd
  | .nil, _ => []
  | .node s v l r, n => ⟨if l = .nil then 0 else (n : Int) + 1, if r = .nil then 0 else (n : Int) + 1 + (layM l (n + 1)).length, s, v⟩ :: (layM l (n + 1) ++ layM r (n + 1 + (layM l (n + 1)).length))

theorem layM_length : ∀ (t : T) (n : Nat), (layM t n).length = t.size
  | .nil, _ => rfl
  | .node s v l r, n => by
    simp only [layM, List.length_cons, List.length_append, layM_length l, layM_length r, T.size]

/-- what is laid when k arms of a node are done. -/
def layK (s : Bool) (v : Int) (l r : T) (n : Nat) : Nat → List Nd
  | 0 => [⟨0, 0, s, v⟩]
  | 1 => ⟨if l = .nil then 0 else (n : Int) + 1, 0, s, v⟩ :: layM l (n + 1)
  | _ => layM (.node s v l r) n

def ndCells (ns : List Nd) : List Value := ns.flatMap fun x => [.int .i64 x.n0, .int .i64 x.n1, .bool x.set, .int .i64 x.val]
theorem ndCells_append (a b : List Nd) : ndCells (a ++ b) = ndCells a ++ ndCells b := by simp [ndCells]
theorem ndCells_length (a : List Nd) : (ndCells a).length = a.length * 4 := by
  induction a with
  | nil => rfl
  | cons x a ih => simp only [ndCells, List.flatMap_cons, List.length_append, List.length_cons, List.length_nil] at ih ⊢; omega
theorem ndCells_set0 (a b : List Nd) (x : Nd) (n : Int) : (ndCells (a ++ x :: b)).set (a.length * 4) (.int .i64 n) = ndCells (a ++ { x with n0 := n } :: b) := by
  have e : (ndCells a).length = a.length * 4 := ndCells_length a
  simp only [ndCells_append]
  rw [← e, List.set_append_right _ _ (Nat.le_refl _), Nat.sub_self]
  simp [ndCells]
theorem ndCells_set1 (a b : List Nd) (x : Nd) (n : Int) : (ndCells (a ++ x :: b)).set (a.length * 4 + 1) (.int .i64 n) = ndCells (a ++ { x with n1 := n } :: b) := by
  have e : (ndCells a).length = a.length * 4 := ndCells_length a
  simp only [ndCells_append]
  rw [← e, List.set_append_right _ _ (by omega), Nat.add_sub_cancel_left]
  simp [ndCells]

/-- a cell of a node by its place. -/
def NdT (j : Nat) (u : Value) : Prop := if j % 4 = 2 then ∃ b, u = .bool b else ∃ n : Int, u = .int .i64 n

theorem NdT_nd (x : Nd) : ∀ (j : Nat) (u : Value), [Value.int .i64 x.n0, .int .i64 x.n1, .bool x.set, .int .i64 x.val][j]? = some u → NdT (j % 4) u := by
  intro j u h
  match j, h with
  | 0, h => simp at h; exact ⟨_, h.symm⟩
  | 1, h => simp at h; exact ⟨_, h.symm⟩
  | 2, h => simp at h; exact ⟨_, h.symm⟩
  | 3, h => simp at h; exact ⟨_, h.symm⟩
  | j + 4, h => simp at h

theorem NdT_zero : ∀ (j : Nat) (u : Value), (Value.cells (.agg #[.int .i64 0, .int .i64 0, .bool false, .int .i64 0]))[j]? = some u → NdT j u := by
  intro j u h
  have h' : [Value.int .i64 0, .int .i64 0, .bool false, .int .i64 0][j]? = some u := by simpa [Value.cells] using h
  have hj : j < 4 := by simpa using (List.getElem?_eq_some_iff.1 h').1
  have := NdT_nd ⟨0, 0, false, 0⟩ j u h'
  rwa [Nat.mod_eq_of_lt hj] at this

theorem info31 : (Try.prog.info? 31).map (fun i => (i.zero, i.size, i.bytes)) = some (some (.agg #[.int .i64 0, .int .i64 0, .bool false, .int .i64 0]), 4, 32) := by kernel_rfl

/-- nodes of the call's own. -/
def OwnN (w : World) (B : Nat) (v : Value) (ns : List Nd) : Prop := OwnsT w B 31 4 NdT v ns.length (ndCells ns)

theorem OwnN.shape {w : World} {B : Nat} {v : Value} {ns : List Nd} (h : OwnN w B v ns) : ∃ a cap, v = .slice a ns.length cap := by
  obtain ⟨_, ⟨rfl, h0⟩ | ⟨g, cap, cur, rfl, _⟩⟩ := h
  · exact ⟨none, 0, by rw [h0]⟩
  · exact ⟨_, _, rfl⟩

/-- a store into an owned row. -/
theorem OwnsT.set {w : World} {base : Nat} {e : TypeId} {size : Nat} {T : Nat → Value → Prop} {g cap n j : Nat} {xs : List Value} {u : Value} (h : OwnsT w base e size T (.slice (some ⟨g, 0, none⟩) n cap) n xs) (hu : T (j % size) u) :
    OwnsT (w.setCell ⟨g, j, none⟩ u) base e size T (.slice (some ⟨g, 0, none⟩) n cap) n (xs.set j u) := by
  obtain ⟨h1, ⟨h2, _⟩ | ⟨g', cap', cur, h2, a1, a2, a3, a4, a5, a6, a7⟩⟩ := h
  · simp at h2
  · simp only [Value.slice.injEq, Option.some.injEq, Addr.mk.injEq, and_true, true_and] at h2
    obtain ⟨rfl, rfl⟩ := h2
    refine ⟨by simpa using h1, .inr ⟨g, cap, cur.setIfInBounds j u, rfl, a1, heap_setCell_cells u a2, a3, a4, by simpa using a5, ?_, fun i z hz => ?_⟩⟩
    · rw [← a6, Array.toList_setIfInBounds, List.take_set]
    · rw [Array.getElem?_setIfInBounds] at hz
      split at hz
      · rename_i hij
        split at hz
        · simp at hz; rw [← hz, ← hij]; exact hu
        · cases hz
      · exact a7 i z hz

theorem OwnsT.ne_cells {w : World} {base : Nat} {e : TypeId} {size : Nat} {T : Nat → Value → Prop} {v : Value} {n : Nat} {xs : List Value} (h : OwnsT w base e size T v n xs) {b : Nat} {cur : Array Value} {t : TypeId} (hb : w.heap[b]? = some (.cells cur t (0, 0))) (hne : e ≠ t) : v.ownBlock ≠ some b := by
  intro hg
  obtain ⟨_, ⟨rfl, _⟩ | ⟨g1, cap, cur', rfl, _, a, _⟩⟩ := h
  · cases hg
  simp only [Value.ownBlock, Option.some.injEq] at hg
  subst hg
  rw [a] at hb
  simp at hb
  exact hne hb.2

theorem OwnN.pos {w : World} {B : Nat} {v : Value} {ns : List Nd} (h : OwnN w B v ns) (hp : 0 < ns.length) : ∃ g cap, v = .slice (some ⟨g, 0, none⟩) ns.length cap ∧ B ≤ g ∧ ns.length ≤ cap ∧ (∀ o, w.frozen? ⟨g, o, none⟩ = false) ∧ ∀ j u, (ndCells ns)[j]? = some u → w.cell? ⟨g, j, none⟩ = some u := by
  have hrow := h.row
  obtain ⟨h1, ⟨rfl, h0⟩ | ⟨g, cap, cur, rfl, a1, a2, a3, a4, a5, a6, a7⟩⟩ := h
  · omega
  · refine ⟨g, cap, rfl, a1, a3, fun o => free_of_blk a2, fun j u hu => ?_⟩
    have hj := (List.getElem?_eq_some_iff.1 hu).1
    rw [hrow.cellAt _ (by omega)]
    exact hu

theorem src_new (w : World) (cs : List Value) (t : TypeId) (n : Nat) (hn : n = w.heap.size) : ∀ a : Addr, some (⟨n, 0, none⟩ : Addr) = some a → ∀ (j : Nat) (u : Value), cs[j]? = some u → (w.alloc (.cells cs.toArray t)).cell? (a.add j) = some u := by
  intro a ha j u hu
  obtain rfl := Option.some.inj ha
  subst hn
  rw [Addr.add_lit, Nat.zero_add, World.cell?_alloc_new]
  simpa using hu

theorem index55_0 (a b : Option Addr) (w : World) : (Instr.index 55 (.agg #[.pointer a, .pointer b]) (.int .i64 0)).run Try.prog w = .ok (.pointer a) w := by
  unfold Instr.index
  simp [go_sem, run_underlying Try.underlying55, part, Try.sizeOf40, Try.isAgg40]
theorem index55_1 (a b : Option Addr) (w : World) : (Instr.index 55 (.agg #[.pointer a, .pointer b]) (.int .i64 1)).run Try.prog w = .ok (.pointer b) w := by
  unfold Instr.index
  simp [go_sem, run_underlying Try.underlying55, part, Try.sizeOf40, Try.isAgg40]

end Go.Proofs.Ytoladbjgfbnhoaa
