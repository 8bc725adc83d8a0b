/- What stays while the law writes into what it was handed: blocks of ints stay blocks of ints, rows of queues stay rows. -/
import Derived.Test.YtmnckaofopechaaD0
namespace Go.Proofs.Ytmnckaofopechaa
open Go.RowKit

def IntC (cur : Array Value) : Prop := ∀ (j : Nat) (u : Value), cur[j]? = some u → ∃ n : Int, u = .int .i64 n

/-- blocks of ints, and rows of queues, keep their make. -/
structure Pres (w w' : World) : Prop where
  ints : ∀ (g : Nat) (cur : Array Value), w.heap[g]? = some (.cells cur 3 (0, 0)) → IntC cur → ∃ cur' : Array Value, w'.heap[g]? = some (.cells cur' 3 (0, 0)) ∧ cur'.size = cur.size ∧ IntC cur'
  rows : ∀ (g : Nat) (cur : Array Value), w.heap[g]? = some (.cells cur 35 (0, 0)) → ∃ cur' : Array Value, w'.heap[g]? = some (.cells cur' 35 (0, 0)) ∧ cur'.size = cur.size ∧ ∀ j : Nat, (j % 3 = 2 → cur'[j]? = cur[j]?) ∧ (∀ n : Int, cur[j]? = some (.int .i64 n) → ∃ n' : Int, cur'[j]? = some (.int .i64 n'))

theorem Pres.refl (w : World) : Pres w w := ⟨fun _ cur h hi => ⟨cur, h, rfl, hi⟩, fun _ cur h => ⟨cur, h, rfl, fun _ => ⟨fun _ => rfl, fun n hn => ⟨n, hn⟩⟩⟩⟩
theorem Pres.trans {a b c : World} (h : Pres a b) (k : Pres b c) : Pres a c := by
  refine ⟨fun g cur hg hi => ?_, fun g cur hg => ?_⟩
  · obtain ⟨c1, h1, h2, h3⟩ := h.ints g cur hg hi
    obtain ⟨c2, k1, k2, k3⟩ := k.ints g c1 h1 h3
    exact ⟨c2, k1, by omega, k3⟩
  · obtain ⟨c1, h1, h2, h3⟩ := h.rows g cur hg
    obtain ⟨c2, k1, k2, k3⟩ := k.rows g c1 h1
    exact ⟨c2, k1, by omega, fun j => ⟨fun hj => ((k3 j).1 hj).trans ((h3 j).1 hj), fun n hn => by obtain ⟨n1, h4⟩ := (h3 j).2 n hn; exact (k3 j).2 n1 h4⟩⟩
theorem Pres.of_below {w w' : World} (h : Below w.heap.size w w') : Pres w w' :=
  ⟨fun g cur hg hi => ⟨cur, by rw [h.block g (lt_of_block hg)]; exact hg, rfl, hi⟩, fun g cur hg => ⟨cur, by rw [h.block g (lt_of_block hg)]; exact hg, rfl, fun j => ⟨fun _ => rfl, fun n hn => ⟨n, hn⟩⟩⟩⟩
theorem Pres.alloc (w : World) (o : Obj) : Pres w (w.alloc o) := Pres.of_below (Below.of_alloc w o)

theorem Pres.set_int {w : World} {g o : Nat} {cur : Array Value} (hg : w.heap[g]? = some (.cells cur 3 (0, 0))) (n : Int) : Pres w (w.setCell ⟨g, o, none⟩ (.int .i64 n)) := by
  refine ⟨fun g' cur' hg' hi => ?_, fun g' cur' hg' => ?_⟩
  · by_cases e : g' = g
    · subst e
      rw [hg] at hg'
      simp only [Option.some.injEq, Obj.cells.injEq] at hg'
      obtain ⟨rfl, _⟩ := hg'
      refine ⟨_, heap_setCell_cells _ hg, by simp, fun j u hu => ?_⟩
      rw [Array.getElem?_setIfInBounds] at hu
      split at hu
      · split at hu
        · simp at hu; exact ⟨n, hu.symm⟩
        · cases hu
      · exact hi j u hu
    · exact ⟨cur', by rw [Below.heap_setCell _ _ _ _ e]; exact hg', rfl, hi⟩
  · have e : g' ≠ g := fun e => by subst e; rw [hg] at hg'; simp at hg'
    exact ⟨cur', by rw [Below.heap_setCell _ _ _ _ e]; exact hg', rfl, fun j => ⟨fun _ => rfl, fun n hn => ⟨n, hn⟩⟩⟩

theorem Pres.set_share {w : World} {g o : Nat} {cur : Array Value} (hg : w.heap[g]? = some (.cells cur 35 (0, 0))) (n m : Int) (ho : o % 3 ≠ 2) (hm : cur[o]? = some (.int .i64 m)) : Pres w (w.setCell ⟨g, o, none⟩ (.int .i64 n)) := by
  refine ⟨fun g' cur' hg' hi => ?_, fun g' cur' hg' => ?_⟩
  · have e : g' ≠ g := fun e => by subst e; rw [hg] at hg'; simp at hg'
    exact ⟨cur', by rw [Below.heap_setCell _ _ _ _ e]; exact hg', rfl, hi⟩
  · by_cases e : g' = g
    · subst e
      rw [hg] at hg'
      simp only [Option.some.injEq, Obj.cells.injEq] at hg'
      obtain ⟨rfl, _⟩ := hg'
      refine ⟨_, heap_setCell_cells _ hg, by simp, fun j => ⟨fun hj => ?_, fun k hk => ?_⟩⟩
      · rw [Array.getElem?_setIfInBounds, if_neg (fun e => ho (by rw [e]; exact hj))]
      · rw [Array.getElem?_setIfInBounds]
        split
        · have := (Array.getElem?_eq_some_iff.1 hm).1
          rw [if_pos this]; exact ⟨n, rfl⟩
        · exact ⟨k, hk⟩
    · exact ⟨cur', by rw [Below.heap_setCell _ _ _ _ e]; exact hg', rfl, fun j => ⟨fun _ => rfl, fun n hn => ⟨n, hn⟩⟩⟩

/-- a slice of ints that may be written, up to its capacity. -/
def WI (w : World) (B : Nat) (u : Value) : Prop :=
  ∃ a n cap, u = .slice a n cap ∧ n ≤ cap ∧ cap ≤ maxLen ∧ (cap ≠ 0 → ∃ (g o : Nat) (cur : Array Value), a = some ⟨g, o, none⟩ ∧ B ≤ g ∧ w.heap[g]? = some (.cells cur 3 (0, 0)) ∧ o + cap ≤ cur.size ∧ IntC cur)
/-- queues that may be written. -/
def WT (w : World) (B : Nat) (v : Value) : Prop :=
  ∃ a n cap, v = .slice a n cap ∧ n ≤ cap ∧ n ≤ 1000000000 ∧ (0 < n → ∃ (g : Nat) (cur : Array Value), a = some ⟨g, 0, none⟩ ∧ B ≤ g ∧ w.heap[g]? = some (.cells cur 35 (0, 0)) ∧
    ∀ i : Nat, i < n → (∃ x : Int, cur[i * 3]? = some (.int .i64 x)) ∧ (∃ x : Int, cur[i * 3 + 1]? = some (.int .i64 x)) ∧ ∃ u, cur[i * 3 + 2]? = some u ∧ WI w B u)

theorem WI.pres {w w' : World} {B : Nat} {u : Value} (h : WI w B u) (hp : Pres w w') : WI w' B u := by
  obtain ⟨a, n, cap, rfl, h1, h2, h3⟩ := h
  refine ⟨a, n, cap, rfl, h1, h2, fun hc => ?_⟩
  obtain ⟨g, o, cur, rfl, hB, hg, hs, hi⟩ := h3 hc
  obtain ⟨cur', k1, k2, k3⟩ := hp.ints g cur hg hi
  exact ⟨g, o, cur', rfl, hB, k1, by omega, k3⟩
theorem WT.pres {w w' : World} {B : Nat} {v : Value} (h : WT w B v) (hp : Pres w w') : WT w' B v := by
  obtain ⟨a, n, cap, rfl, h1, h2, h3⟩ := h
  refine ⟨a, n, cap, rfl, h1, h2, fun hc => ?_⟩
  obtain ⟨g, cur, rfl, hB, hg, hi⟩ := h3 hc
  obtain ⟨cur', k1, k2, k3⟩ := hp.rows g cur hg
  refine ⟨g, cur', rfl, hB, k1, fun i hi' => ?_⟩
  obtain ⟨⟨x, hx⟩, ⟨y, hy⟩, u, hu, hw⟩ := hi i hi'
  exact ⟨(k3 _).2 x hx, (k3 _).2 y hy, u, by rw [(k3 _).1 (by omega)]; exact hu, hw.pres hp⟩

theorem FreshI.wi {w : World} {B : Nat} {v : Value} {xs : List Int} (h : FreshI w B v xs) : WI w B v := by
  obtain ⟨a, cap, rfl, h1, h2, h3⟩ := h
  rcases Nat.eq_zero_or_pos cap with h0 | hp
  · exact ⟨a, _, cap, rfl, h1, by rw [h0]; simp [maxLen], fun h => absurd h0 h⟩
  · obtain ⟨g, o, cur, rfl, hB, hg, hs, hi, _⟩ := h3 (by omega)
    exact ⟨_, _, cap, rfl, h1, hs.2, fun _ => ⟨g, o, cur, rfl, hB, hg, hs.1, fun j u hu => hi j u hu⟩⟩

theorem TF.wt {w : World} {B : Nat} {v : Value} {qs : List Qu} (h : TF w B v qs) (hn : qs.length ≤ 1000000000) : WT w B v := by
  obtain ⟨a, cap, rfl, h1, h2, h3⟩ := h
  refine ⟨a, _, cap, rfl, h1, hn, fun hp => ?_⟩
  obtain ⟨g, f, rfl, ⟨hB, _, cur, hg, _, hc⟩, hf⟩ := h3 hp
  refine ⟨g, cur, rfl, hB, hg, fun i hi => ?_⟩
  obtain ⟨c1, c2, c3⟩ := hc i hi
  exact ⟨⟨_, c1⟩, ⟨_, c2⟩, _, c3, (hf i hi).2.wi⟩

theorem WT.base {w : World} {B B' : Nat} {v : Value} (h : WT w B v) (hB : B' ≤ B) : WT w B' v := by
  obtain ⟨a, n, cap, rfl, h1, h2, h3⟩ := h
  refine ⟨a, n, cap, rfl, h1, h2, fun hc => ?_⟩
  obtain ⟨g, cur, rfl, hB2, hg, hi⟩ := h3 hc
  refine ⟨g, cur, rfl, by omega, hg, fun i hi' => ?_⟩
  obtain ⟨hx, hy, u, hu, a, n, cap, rfl, k1, k2, k3⟩ := hi i hi'
  refine ⟨hx, hy, _, hu, a, n, cap, rfl, k1, k2, fun hc => ?_⟩
  obtain ⟨g, o, cur, rfl, hB3, r⟩ := k3 hc
  exact ⟨g, o, cur, rfl, by omega, r⟩

end Go.Proofs.Ytmnckaofopechaa
