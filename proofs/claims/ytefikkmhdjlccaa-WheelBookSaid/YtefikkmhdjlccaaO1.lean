/- What stays while the law WheelOwn writes into what it was told: blocks of what is due stay such blocks; an array of three wheels. -/
import Derived.Test.YtefikkmhdjlccaaD3
import Derived.Great.FillDense
namespace Go.Proofs.Ytefikkmhdjlccaa
open Go.RowKit

def DuC (cur : Array Value) : Prop := ∀ (j : Nat) (u : Value), cur[j]? = some u → DuT (j % 2) u

/-- blocks of what is due keep their make. -/
def Pres (w w' : World) : Prop := ∀ (g : Nat) (cur : Array Value), w.heap[g]? = some (.cells cur 33 (0, 0)) → DuC cur → ∃ cur' : Array Value, w'.heap[g]? = some (.cells cur' 33 (0, 0)) ∧ cur'.size = cur.size ∧ DuC cur'

theorem lt_of_block {w : World} {g : Nat} {o : Obj} (h : w.heap[g]? = some o) : g < w.heap.size := (Array.getElem?_eq_some_iff.1 h).1
theorem Pres.refl (w : World) : Pres w w := fun _ cur h hi => ⟨cur, h, rfl, hi⟩
theorem Pres.trans {a b c : World} (h : Pres a b) (k : Pres b c) : Pres a c := fun g cur hg hi => by
  obtain ⟨c1, h1, h2, h3⟩ := h g cur hg hi
  obtain ⟨c2, k1, k2, k3⟩ := k g c1 h1 h3
  exact ⟨c2, k1, by omega, k3⟩
theorem Pres.of_below {w w' : World} (h : Below w.heap.size w w') : Pres w w' :=
  fun g cur hg hi => ⟨cur, by rw [h.block g (lt_of_block hg)]; exact hg, rfl, hi⟩
theorem Pres.alloc (w : World) (o : Obj) : Pres w (w.alloc o) := Pres.of_below (Below.of_alloc w o)

theorem Pres.set_val {w : World} {g o : Nat} {cur : Array Value} (hg : w.heap[g]? = some (.cells cur 33 (0, 0))) (n : Int) : Pres w (w.setCell ⟨g, o, none⟩ (.int .i64 n)) := by
  intro g' cur' hg' hi
  by_cases e : g' = g
  · subst e
    rw [hg] at hg'
    simp only [Option.some.injEq, Obj.cells.injEq] at hg'
    obtain ⟨rfl, _⟩ := hg'
    refine ⟨_, heap_setCell_cells _ hg, by simp, fun j u hu => ?_⟩
    rw [Array.getElem?_setIfInBounds] at hu
    split at hu
    · split at hu
      · simp at hu
        rw [← hu]
        exact ⟨n, rfl⟩
      · cases hu
    · exact hi j u hu
  · exact ⟨cur', by rw [Below.heap_setCell _ _ _ _ e]; exact hg', rfl, hi⟩

/-- things that may be written, up to the capacity. -/
def WD (w : World) (B : Nat) (u : Value) : Prop :=
  ∃ a n cap, u = .slice a n cap ∧ n ≤ cap ∧ cap ≤ maxLen ∧ (cap ≠ 0 → ∃ (g : Nat) (cur : Array Value), a = some ⟨g, 0, none⟩ ∧ B ≤ g ∧ w.heap[g]? = some (.cells cur 33 (0, 0)) ∧ cur.size = cap * 2 ∧ DuC cur)

theorem WD.pres {w w' : World} {B : Nat} {u : Value} (h : WD w B u) (hp : Pres w w') : WD w' B u := by
  obtain ⟨a, n, cap, rfl, h1, h2, h3⟩ := h
  refine ⟨a, n, cap, rfl, h1, h2, fun hc => ?_⟩
  obtain ⟨g, cur, rfl, hB, hg, hs, hi⟩ := h3 hc
  obtain ⟨cur', k1, k2, k3⟩ := hp g cur hg hi
  exact ⟨g, cur', rfl, hB, k1, by omega, k3⟩
theorem WD.base {w : World} {B B' : Nat} {u : Value} (h : WD w B u) (hb : B' ≤ B) : WD w B' u := by
  obtain ⟨a, n, cap, rfl, h1, h2, h3⟩ := h
  refine ⟨a, n, cap, rfl, h1, h2, fun hc => ?_⟩
  obtain ⟨g, cur, rfl, hB, r⟩ := h3 hc
  exact ⟨g, cur, rfl, by omega, r⟩
theorem WD.of_own {w : World} {B : Nat} {u : Value} {ns : List Du} (h : OwnD w B u ns) : WD w B u := by
  obtain ⟨_, ⟨rfl, h0⟩ | ⟨g, cap, cur, rfl, a1, a2, a3, a4, a5, a6, a7⟩⟩ := h
  · exact ⟨none, 0, 0, rfl, Nat.le_refl _, by simp [maxLen], fun h => absurd rfl h⟩
  · exact ⟨_, _, cap, rfl, a3, a4, fun _ => ⟨g, cur, rfl, a1, a2, a5, a7⟩⟩
theorem WD.nil (w : World) (B : Nat) : WD w B (.slice none 0 0) := ⟨none, 0, 0, rfl, Nat.le_refl _, by simp [maxLen], fun h => absurd rfl h⟩
theorem WD.le {w : World} {B n cap : Nat} {a : Option Addr} (h : WD w B (.slice a n cap)) : n ≤ cap ∧ cap ≤ maxLen := by
  obtain ⟨a', n', c', e, h1, h2, _⟩ := h
  simp only [Value.slice.injEq] at e
  obtain ⟨rfl, rfl, rfl⟩ := e
  exact ⟨h1, h2⟩
theorem WD.shape {w : World} {B : Nat} {v : Value} (h : WD w B v) : ∃ a n c, v = .slice a n c := by
  obtain ⟨a', n', c', e, h1, h2, _⟩ := h
  exact ⟨a', n', c', e⟩
/-- one thing's Id that may be written. -/
theorem WD.elem {w : World} {B n c i : Nat} {a : Option Addr} (h : WD w B (.slice a n c)) (hi : i < c) :
    ∃ g x, a = some ⟨g, 0, none⟩ ∧ B ≤ g ∧ w.cell? ⟨g, i * 2, none⟩ = some (.int .i64 x) ∧ w.frozen? ⟨g, i * 2, none⟩ = false ∧ (∀ z, Pres w (w.setCell ⟨g, i * 2, none⟩ (.int .i64 z))) := by
  obtain ⟨a', n', c', e, h1, h2, h3⟩ := h
  simp only [Value.slice.injEq] at e
  obtain ⟨rfl, rfl, rfl⟩ := e
  obtain ⟨g, cur, rfl, hB, hg, hs, hc⟩ := h3 (by omega)
  have hlt : i * 2 < cur.size := by omega
  have hT := hc _ _ (Array.getElem?_eq_getElem hlt)
  obtain ⟨x, hx⟩ := hT
  refine ⟨g, x, rfl, hB, ?_, free_of_blk hg, fun z => Pres.set_val hg z⟩
  rw [cell_of_blk hg, Array.getElem?_eq_getElem hlt, hx]

/-- the lists of a wheel that may be written. -/
def WW (w : World) (B : Nat) (V : Nat → Value) : Prop := ∀ i, i < 96 → WD w B (V i)
theorem WW.pres {w w' : World} {B : Nat} {V : Nat → Value} (h : WW w B V) (hp : Pres w w') : WW w' B V := fun i hi => (h i hi).pres hp
theorem WW.base {w : World} {B B' : Nat} {V : Nat → Value} (h : WW w B V) (hb : B' ≤ B) : WW w B' V := fun i hi => (h i hi).base hb
theorem WW.of_own {w : World} {B N : Nat} {V : Nat → Value} {F : Ls} (h : Own w B N V F) (hN : 96 ≤ N) : WW w B V := fun i hi => WD.of_own (h.each i (by omega))
theorem WW.nil (w : World) (B : Nat) : WW w B nilV := fun _ _ => WD.nil w B
theorem WW.one {w : World} {B : Nat} {V : Nat → Value} (h : WW w B V) : ∀ i, i < 96 → (V i).oneCell' = true := fun i hi => by
  obtain ⟨a, n, c, e⟩ := (h i hi).shape
  rw [e]; rfl

def OwnEnd (w : World) (e : Ending) (w' : World) : Prop := Below w.heap.size w w' ∧ ∃ now' V' r, e = .returned (.tuple #[.agg (Cw now' V'), .int .i64 r]) ∧ WW w' w.heap.size V'
theorem SetEnd.ww {now id tm : Int} {f : Ls} {w w' : World} {e : Ending} (h : SetEnd now f id tm w e w') : OwnEnd w e w' := by
  obtain ⟨hb, ⟨_, r, _, rfl⟩ | ⟨_, V', rfl, ho⟩⟩ := h
  · exact ⟨hb, 0, nilV, r, rfl, WW.nil _ _⟩
  · exact ⟨hb, now, V', 0, rfl, WW.of_own ho (Nat.le_refl _)⟩
theorem StopEnd.ww {now id : Int} {f : Ls} {w w' : World} {e : Ending} (h : StopEnd now f id w e w') : OwnEnd w e w' := by
  obtain ⟨hb, ⟨_, r, _, rfl⟩ | ⟨_, i, k, V', _, _, _, rfl, ho⟩⟩ := h
  · exact ⟨hb, 0, nilV, r, rfl, WW.nil _ _⟩
  · exact ⟨hb, now, V', 0, rfl, WW.of_own ho (Nat.le_refl _)⟩
theorem TickEnd.ww {now n : Int} {f : Ls} {w w' : World} {e : Ending} (h : TickEnd now f n w e w') (hwf : allP wfD f) : Below w.heap.size w w' ∧ ∃ now' V' a m c r, e = .returned (.tuple #[.agg (Cw now' V'), .slice a m c, .int .i64 r]) ∧ WW w' w.heap.size V' := by
  obtain ⟨now', V', f', a, c, o, r, T⟩ := h.form hwf
  exact ⟨T.below, now', V', a, o.length, c, r, T.res, WW.of_own T.lists (Nat.le_refl _)⟩

/-- three wheels in an array. -/
def C3 (C0 C1 C2 : Array Value) : Array Value := (C0.toList ++ C1.toList ++ C2.toList).toArray
theorem info39 : ((Try.prog.info? 39).bind (·.zero)).map (·.cells.size) = some 291 := by kernel_rfl
theorem built39 (C0 C1 C2 : Array Value) (h0 : C0.size = 97) (h1 : C1.size = 97) (h2 : C2.size = 97) : Try.prog.built 39 [(0, .agg C0), (1, .agg C1), (2, .agg C2)] = some (C3 C0 C1 C2) := by
  have hz := info39
  have hs := info25
  unfold Program.built
  cases hit : Try.prog.info? 39 with
  | none => rw [hit] at hz; simp at hz
  | some it =>
    cases hzz : it.zero with
    | none => rw [hit] at hz; simp [hzz] at hz
    | some z =>
      cases hie : Try.prog.info? 25 with
      | none => rw [hie] at hs; simp at hs
      | some ie =>
        rw [hie] at hs
        rw [hit] at hz
        simp only [Option.map_some, Option.some.injEq, Option.bind_some, hzz] at hs hz
        simp only [Try.underlying39, hzz, hie, hs]
        have := Great.fill_whole (s := 97) (by omega) [.agg C0, .agg C1, .agg C2] z.cells (fun v hv => by
          simp only [List.mem_cons, List.not_mem_nil, or_false] at hv
          rcases hv with rfl | rfl | rfl
          · exact h0
          · exact h1
          · exact h2) (by rw [hz]; simp only [List.length_cons, List.length_nil])
        simpa [C3, Value.cells] using this
theorem index39 (C0 C1 C2 : Array Value) (h0 : C0.size = 97) (h1 : C1.size = 97) (h2 : C2.size = 97) (k : Nat) (hk : k < 3) (w : World) :
    (Instr.index 39 (.agg (C3 C0 C1 C2)) (.int .i64 (k : Int))).run Try.prog w = .ok (.agg (if k = 0 then C0 else if k = 1 then C1 else C2)) w := by
  obtain ⟨C0⟩ := C0
  obtain ⟨C1⟩ := C1
  obtain ⟨C2⟩ := C2
  have h0 : C0.length = 97 := h0
  have h1 : C1.length = 97 := h1
  have h2 : C2.length = 97 := h2
  have hs : (sizeOf 25).run Try.prog w = .ok 97 w := by
    have hs := info25
    cases hie : Try.prog.info? 25 with
    | none => rw [hie] at hs; simp at hs
    | some ie =>
      rw [hie] at hs
      simp only [Option.map_some, Option.some.injEq] at hs
      simp [sizeOf, typeInfo, hie, hs]
  unfold Instr.index
  rcases (show k = 0 ∨ k = 1 ∨ k = 2 by omega) with rfl | rfl | rfl
  · simp [go_sem, run_underlying Try.underlying39, part, hs, Try.isAgg25, C3, h0, h1, h2]
  · simp [go_sem, run_underlying Try.underlying39, part, hs, Try.isAgg25, C3, h0, h1]
  · simp [go_sem, run_underlying Try.underlying39, part, hs, Try.isAgg25, C3]
    rw [← List.append_assoc, List.drop_left' (by simp [h0, h1]), List.take_of_length_le (by omega)]
end Go.Proofs.Ytefikkmhdjlccaa
