/- Lists of a wheel that the call itself owns: what is known of each, and that no two share a block. No walk. -/
import Derived.Test.YtefikkmhdjlccaaW2
import Derived.Laws.CopyOwn
namespace Go.Proofs.Ytefikkmhdjlccaa
open Go.RowKit

theorem _root_.Go.RowKit.Below.of_alloc (w : World) (o : Obj) : Below w.heap.size w (w.alloc o) := (Below.refl _ _).alloc (Nat.le_refl _) o

def duCells (l : List Du) : List Value := l.flatMap fun d => [.int .i64 d.id, .int .i64 d.tm]
def DuT (_ : Nat) (u : Value) : Prop := ∃ n : Int, u = .int .i64 n
theorem duCells_length (l : List Du) : (duCells l).length = l.length * 2 := by
  induction l with
  | nil => rfl
  | cons d l ih => simp [duCells] at ih ⊢; omega
theorem duCells_append (l m : List Du) : duCells (l ++ m) = duCells l ++ duCells m := by simp [duCells]
theorem DuT_zero : ∀ (j : Nat) (u : Value), (Value.agg #[.int .i64 0, .int .i64 0]).cells[j]? = some u → DuT j u := by
  intro j u h
  match j, h with
  | 0, h => simp [Value.cells] at h; exact ⟨_, h.symm⟩
  | 1, h => simp [Value.cells] at h; exact ⟨_, h.symm⟩
  | j + 2, h => simp [Value.cells] at h
theorem duCells_get (ns : List Du) : ∀ i, i < ns.length → (duCells ns)[i * 2]? = some (.int .i64 (ns.getD i default).id) ∧ (duCells ns)[i * 2 + 1]? = some (.int .i64 (ns.getD i default).tm) := by
  induction ns with
  | nil => intro i hi; simp at hi
  | cons x ns ih =>
    intro i hi
    match i with
    | 0 => simp [duCells, List.getD]
    | i + 1 =>
      have := ih i (by simpa using hi)
      have e : duCells (x :: ns) = [.int .i64 x.id, .int .i64 x.tm] ++ duCells ns := by simp [duCells]
      rw [e, show (i + 1) * 2 = i * 2 + 2 from by omega]
      obtain ⟨t0, t1⟩ := this
      simp only [List.getD, List.getElem?_cons_succ] at t0 t1 ⊢
      refine ⟨?_, ?_⟩ <;> rw [List.getElem?_append_right (by simp)] <;> simp
      · exact t0
      · exact t1
theorem one_cells (ns : List Du) : ∀ u ∈ duCells ns, u.oneCell' = true := by
  intro u hu
  simp only [duCells, List.mem_flatMap] at hu
  obtain ⟨x, _, hx⟩ := hu
  simp at hx
  rcases hx with rfl | rfl <;> rfl
theorem DuT_cells (ns : List Du) (k : Nat → Nat) : ∀ (j : Nat) (u : Value), (duCells ns)[j]? = some u → DuT (k j) u := by
  intro j u hu
  have := List.mem_of_getElem? hu
  simp only [duCells, List.mem_flatMap] at this
  obtain ⟨x, _, hx⟩ := this
  simp at hx
  rcases hx with rfl | rfl <;> exact ⟨_, rfl⟩

theorem DuesAt.src {w : World} {a : Option Addr} {ns : List Du} {cap : Nat} (h : DuesAt w (.slice a ns.length cap) ns) : ∀ ad, a = some ad → ∀ (j : Nat) (u : Value), (duCells ns)[j]? = some u → w.cell? (ad.add j) = some u := by
  intro ad had j u hu
  have hj : j < ns.length * 2 := by
    have := (List.getElem?_eq_some_iff.1 hu).1
    rwa [duCells_length] at this
  obtain ⟨a', cap', e0, _, _, h⟩ := h
  simp only [Value.slice.injEq, true_and] at e0
  obtain ⟨rfl, rfl⟩ := e0
  obtain ⟨b, o, e, hc⟩ := h (by intro h0; subst h0; simp at hj)
  obtain rfl : ad = ⟨b, o, none⟩ := by rw [had] at e; exact Option.some.inj e
  have hi : j / 2 < ns.length := by omega
  obtain ⟨c0, c1⟩ := hc (j / 2) hi
  obtain ⟨t0, t1⟩ := duCells_get ns (j / 2) hi
  rw [Addr.add_mid]
  rcases (show j % 2 = 0 ∨ j % 2 = 1 by omega) with e | e
  · rw [show j = j / 2 * 2 from by omega] at hu ⊢
    rw [t0] at hu; rw [← hu, ← c0]
  · rw [show j = j / 2 * 2 + 1 from by omega] at hu ⊢
    rw [t1] at hu; rw [← hu, ← c1]; rfl

/-- a slice of what is due that the call owns. -/
def OwnD (w : World) (B : Nat) (v : Value) (l : List Du) : Prop := OwnsT w B 33 2 DuT v l.length (duCells l)
theorem OwnD.nil (w : World) (B : Nat) : OwnD w B (.slice none 0 0) [] := OwnsT.nil w B 33 2 DuT
theorem OwnD.shape {w : World} {B : Nat} {v : Value} {l : List Du} (h : OwnD w B v l) : ∃ a cap, v = .slice a l.length cap := by
  obtain ⟨_, ⟨rfl, h0⟩ | ⟨g, cap, cur, rfl, _⟩⟩ := h
  · exact ⟨none, 0, by rw [h0]⟩
  · exact ⟨_, cap, rfl⟩
theorem OwnD.at {w : World} {B : Nat} {v : Value} {l : List Du} (h : OwnD w B v l) : DuesAt w v l := by
  have hrow := OwnsT.row h
  obtain ⟨h1, ⟨rfl, h0⟩ | ⟨g, cap, cur, rfl, a1, a2, a3, a4, a5, a6, a7⟩⟩ := h
  · exact ⟨none, 0, by rw [h0], by omega, fun _ => rfl, fun h => absurd (List.eq_nil_of_length_eq_zero h0) h⟩
  · refine ⟨_, cap, rfl, a3, (fun h => by cases h), fun _ => ⟨g, 0, rfl, fun i hi => ?_⟩⟩
    obtain ⟨e1, e2⟩ := duCells_get l i hi
    have hx := hrow.cells (g := g) rfl
    have x1 := hx _ _ e1
    have x2 := hx _ _ e2
    rw [Addr.add_mid] at x1 x2
    exact ⟨x1, x2⟩

/-- only the blocks of S, and new ones, have turned. -/
structure Fr (S : Nat → Prop) (w w' : World) : Prop where
  os : w'.os = w.os
  tape : w'.tape = w.tape
  output : w'.output = w.output
  size : w.heap.size ≤ w'.heap.size
  block : ∀ k, k < w.heap.size → ¬ S k → w'.heap[k]? = w.heap[k]?
section
variable {S T : Nat → Prop} {w a b c : World}
theorem Fr.refl (S : Nat → Prop) (w : World) : Fr S w w := ⟨rfl, rfl, rfl, Nat.le_refl _, fun _ _ _ => rfl⟩
theorem Fr.trans (h : Fr S a b) (k : Fr T b c) (hT : ∀ x, T x → S x ∨ a.heap.size ≤ x) : Fr S a c :=
  ⟨k.os.trans h.os, k.tape.trans h.tape, k.output.trans h.output, Nat.le_trans h.size k.size, fun i hi hn => (k.block i (Nat.lt_of_lt_of_le hi h.size) (fun ht => (hT i ht).elim hn (by omega))).trans (h.block i hi hn)⟩
theorem Fr.mono (h : Fr S a b) (hT : ∀ x, S x → T x) : Fr T a b := ⟨h.os, h.tape, h.output, h.size, fun i hi hn => h.block i hi (fun hs => hn (hT i hs))⟩
theorem Fr.drewN (h : Fr S a b) (n : Nat) : Fr S a (b.drewN n) := ⟨h.os, h.tape, h.output, h.size, h.block⟩
theorem Fr.drew (h : Fr S a b) : Fr S a b.drew := ⟨h.os, h.tape, h.output, h.size, h.block⟩
theorem Fr.alloc (h : Fr S a b) (o : Obj) : Fr S a (b.alloc o) :=
  ⟨h.os, h.tape, h.output, Nat.le_trans h.size (by simp), fun i hi hn => (Below.heap_alloc b o i (Nat.lt_of_lt_of_le hi h.size)).trans (h.block i hi hn)⟩
theorem Fr.setCell (h : Fr S a b) {p : Addr} (hp : S p.block ∨ a.heap.size ≤ p.block) (u : Value) : Fr S a (b.setCell p u) :=
  ⟨h.os, h.tape, h.output, by simpa [World.setCell] using h.size, fun i hi hn => (Below.heap_setCell b p u i (by
    rintro rfl
    rcases hp with hp | hp
    · exact hn hp
    · omega)).trans (h.block i hi hn)⟩
theorem Fr.grown (h : Fr S a b) {row : Option Nat} (hg : b.grownBy c row) (hr : ∀ k, row = some k → S k ∨ a.heap.size ≤ k) : Fr S a c :=
  ⟨hg.os.trans h.os, hg.tape.trans h.tape, hg.output.trans h.output, Nat.le_trans h.size hg.size, fun i hi hn => (hg.block i (Nat.lt_of_lt_of_le hi h.size) (fun e => by
    rcases hr i e.symm with hr | hr
    · exact hn hr
    · omega)).trans (h.block i hi hn)⟩
theorem Fr.of_below {B : Nat} (h : Below B a b) (hS : ∀ x, B ≤ x → x < a.heap.size → S x) : Fr S a b :=
  ⟨h.os, h.tape, h.output, h.size, fun i hi hn => h.block i (by
    rcases Nat.lt_or_ge i B with hl | hl
    · exact hl
    · exact absurd (hS i hl hi) hn)⟩
theorem Fr.below {B : Nat} (h : Fr S a b) (hS : ∀ x, S x → B ≤ x) (hB : B ≤ a.heap.size) : Below B a b :=
  ⟨h.os, h.tape, h.output, h.size, fun i hi => h.block i (by omega) (fun hs => by have := hS i hs; omega)⟩
end

/-- N slices that the call owns; no two share a block. -/
structure Own (w : World) (B N : Nat) (V : Nat → Value) (F : Ls) : Prop where
  each : ∀ i, i < N → OwnD w B (V i) (F i)
  apart : ∀ i j, i < N → j < N → i ≠ j → ∀ g, (V i).ownBlock = some g → (V j).ownBlock ≠ some g

theorem OwnD.lt {w : World} {B : Nat} {v : Value} {l : List Du} (h : OwnD w B v l) : ∀ k, v.ownBlock = some k → B ≤ k ∧ k < w.heap.size := OwnsT.lt h
theorem OwnD.type {w : World} {B : Nat} {v : Value} {l : List Du} (h : OwnD w B v l) {g : Nat} (hg : v.ownBlock = some g) : ∃ cur, w.heap[g]? = some (.cells cur 33 (0, 0)) := by
  obtain ⟨_, ⟨rfl, _⟩ | ⟨g', cap, cur, rfl, _, hh, _⟩⟩ := h
  · simp [Value.ownBlock] at hg
  · simp [Value.ownBlock] at hg; subst hg; exact ⟨cur, hh⟩
theorem OwnD.of_same {w w' : World} {B : Nat} {v : Value} {l : List Du} (h : OwnD w B v l) (hk : ∀ k, v.ownBlock = some k → w'.heap[k]? = w.heap[k]?) : OwnD w' B v l := OwnsT.of_same h hk
theorem OwnD.ne {w : World} {B g : Nat} {v : Value} {l : List Du} {cs : Array Value} {t : TypeId} {fr : Nat × Nat} (h : OwnD w B v l) (hg : w.heap[g]? = some (.cells cs t fr)) (ht : t ≠ 33) : v.ownBlock ≠ some g := by
  intro e
  obtain ⟨cur, hc⟩ := h.type e
  rw [hg] at hc
  simp only [Option.some.injEq, Obj.cells.injEq] at hc
  exact ht hc.2.1

section
variable {w w' : World} {B N : Nat} {V : Nat → Value} {F : Ls}
theorem Own.of_same (h : Own w B N V F) (hk : ∀ i, i < N → ∀ k, (V i).ownBlock = some k → w'.heap[k]? = w.heap[k]?) : Own w' B N V F :=
  ⟨fun i hi => (h.each i hi).of_same (hk i hi), h.apart⟩
theorem Own.below (h : Own w B N V F) {C : Nat} (hb : Below C w w') (hC : w.heap.size ≤ C) : Own w' B N V F :=
  h.of_same fun i hi k hk => hb.block k (by have := ((h.each i hi).lt k hk).2; omega)
theorem Own.alloc (h : Own w B N V F) (o : Obj) : Own (w.alloc o) B N V F := h.below (Below.of_alloc w o) (Nat.le_refl _)
theorem Own.drewN (h : Own w B N V F) (n : Nat) : Own (w.drewN n) B N V F := h.of_same fun _ _ _ _ => rfl
theorem Own.fr (h : Own w B N V F) {S : Nat → Prop} (hf : Fr S w w') (hS : ∀ i, i < N → ∀ k, (V i).ownBlock = some k → ¬ S k) : Own w' B N V F :=
  h.of_same fun i hi k hk => hf.block k ((h.each i hi).lt k hk).2 (hS i hi k hk)
theorem Own.setCell (h : Own w B N V F) {p : Addr} (hp : ∀ i, i < N → (V i).ownBlock ≠ some p.block) (u : Value) : Own (w.setCell p u) B N V F :=
  h.of_same fun i hi k hk => Below.heap_setCell _ _ _ _ (fun e => hp i hi (by rw [hk, e]))
theorem Own.base (h : Own w B N V F) {B' : Nat} (hB : B' ≤ B) : Own w B' N V F := ⟨fun i hi => OwnsT.base_le (h.each i hi) hB, h.apart⟩
theorem Own.less (h : Own w B N V F) {M : Nat} (hM : M ≤ N) : Own w B M V F := ⟨fun i hi => h.each i (by omega), fun i j hi hj => h.apart i j (by omega) (by omega)⟩
theorem Own.ext (h : Own w B N V F) {V' : Nat → Value} {F' : Ls} (hV : ∀ i, i < N → V' i = V i) (hF : ∀ i, i < N → F' i = F i) : Own w B N V' F' :=
  ⟨fun i hi => by rw [hV i hi, hF i hi]; exact h.each i hi, fun i j hi hj hne g => by rw [hV i hi, hV j hj]; exact h.apart i j hi hj hne g⟩
theorem Own.at (h : Own w B N V F) (hN : 96 ≤ N) : WheelAt w V F := fun i hi => (h.each i (by omega)).at

/-- a slot is emptied. -/
theorem Own.drop (h : Own w B N V F) (i : Nat) : Own w B N (upd V i (.slice none 0 0)) (upd F i []) := by
  refine ⟨fun j hj => ?_, fun j k hj hk hne g hg => ?_⟩
  · by_cases e : j = i
    · subst e; rw [upd_same, upd_same]; exact OwnD.nil w B
    · rw [upd_other _ _ _ e, upd_other _ _ _ e]; exact h.each j hj
  · by_cases e : j = i
    · subst e; rw [upd_same] at hg; simp [Value.ownBlock] at hg
    · rw [upd_other _ _ _ e] at hg
      by_cases e2 : k = i
      · subst e2; rw [upd_same]; simp [Value.ownBlock]
      · rw [upd_other _ _ _ e2]; exact h.apart j k hj hk hne g hg

/-- one slot has a new slice: in its old block, or in a new one. -/
theorem Own.turn (h : Own w B N V F) {i : Nat} {v' : Value} {l : List Du} (hi : i < N) (hv : OwnD w' B v' l) (hsame : ∀ j, j < N → j ≠ i → ∀ k, (V j).ownBlock = some k → w'.heap[k]? = w.heap[k]?)
    (hat : v'.ownBlock = none ∨ v'.ownBlock = (V i).ownBlock ∨ ∃ g, v'.ownBlock = some g ∧ w.heap.size ≤ g) : Own w' B N (upd V i v') (upd F i l) := by
  have key : ∀ j, j < N → j ≠ i → ∀ g, (V j).ownBlock = some g → v'.ownBlock ≠ some g := fun j hj hne g hg e => by
    rcases hat with h0 | h0 | ⟨g', h0, h1⟩
    · rw [h0] at e; cases e
    · rw [h0] at e; exact h.apart j i hj hi hne g hg e
    · rw [h0] at e
      have := ((h.each j hj).lt g hg).2
      have : g' = g := by simpa using e
      omega
  refine ⟨fun j hj => ?_, fun j k hj hk hne g hg => ?_⟩
  · by_cases e : j = i
    · subst e; rw [upd_same, upd_same]; exact hv
    · rw [upd_other _ _ _ e, upd_other _ _ _ e]; exact (h.each j hj).of_same (hsame j hj e)
  · by_cases e : j = i
    · subst e; rw [upd_same] at hg; rw [upd_other _ _ _ (fun e => hne e.symm)]
      intro hk'
      exact key k hk (fun e => hne e.symm) g hk' hg
    · rw [upd_other _ _ _ e] at hg
      by_cases e2 : k = i
      · subst e2; rw [upd_same]; exact key j hj e g hg
      · rw [upd_other _ _ _ e2]; exact h.apart j k hj hk hne g hg

/-- a slot more. -/
theorem Own.push (h : Own w B N V F) {v : Value} {l : List Du} (hv : OwnD w B v l) (hne : ∀ i, i < N → ∀ g, (V i).ownBlock = some g → v.ownBlock ≠ some g) : Own w B (N + 1) (upd V N v) (upd F N l) := by
  refine ⟨fun j hj => ?_, fun j k hj hk hne' g hg => ?_⟩
  · by_cases e : j = N
    · subst e; rw [upd_same, upd_same]; exact hv
    · rw [upd_other _ _ _ e, upd_other _ _ _ e]; exact h.each j (by omega)
  · by_cases e : j = N
    · subst e; rw [upd_same] at hg; rw [upd_other _ _ _ (fun e => hne' e.symm)]
      intro hk'
      exact hne k (by omega) g hk' hg
    · rw [upd_other _ _ _ e] at hg
      by_cases e2 : k = N
      · subst e2; rw [upd_same]; exact hne j (by omega) g hg
      · rw [upd_other _ _ _ e2]; exact h.apart j k (by omega) (by omega) hne' g hg
end

/-- the block of a wheel's variable is no list's. -/
theorem Own.ne_blk {w : World} {B N g : Nat} {V V' : Nat → Value} {F : Ls} {now : Int} (h : Own w B N V F) (hg : Blk w g now V') : ∀ i, i < N → (V i).ownBlock ≠ some g := fun i hi => (h.each i hi).ne hg (by decide)

theorem Blk.lt {w : World} {g : Nat} {now : Int} {V : Nat → Value} (h : Blk w g now V) : g < w.heap.size := (Array.getElem?_eq_some_iff.1 h).1
theorem Blk.keep {w w' : World} {g : Nat} {now : Int} {V : Nat → Value} (h : Blk w g now V) (hk : w'.heap[g]? = w.heap[g]?) : Blk w' g now V := hk.trans h
theorem Blk.below {w w' : World} {g B : Nat} {now : Int} {V : Nat → Value} (h : Blk w g now V) (hb : Below B w w') (hg : g < B) : Blk w' g now V := (hb.block g hg).trans h
theorem heap_setCell_cells {w : World} {g o : Nat} {cur : Array Value} {t : TypeId} {fr : Nat × Nat} (v : Value) (h : w.heap[g]? = some (.cells cur t fr)) : (w.setCell ⟨g, o, none⟩ v).heap[g]? = some (.cells (cur.setIfInBounds o v) t fr) := by
  simp [World.setCell, Array.getElem?_modify, h]
theorem Blk.set {w : World} {g i : Nat} {now : Int} {V : Nat → Value} (h : Blk w g now V) (hi : i < 96) (v : Value) : Blk (w.setCell ⟨g, i + 1, none⟩ v) g now (upd V i v) := by
  have := heap_setCell_cells (o := i + 1) v h
  rwa [Cw_set now V i hi v] at this
theorem Blk.tick {w : World} {g : Nat} {now : Int} {V : Nat → Value} (h : Blk w g now V) (n : Int) : Blk (w.setCell ⟨g, 0, none⟩ (.int .i64 n)) g n V := by
  have := heap_setCell_cells (o := 0) (.int .i64 n) h
  rwa [Cw_tick] at this
theorem Blk.ext {w : World} {g : Nat} {now : Int} {V V' : Nat → Value} (h : Blk w g now V) (hV : ∀ i, i < 96 → V' i = V i) : Blk w g now V' := by
  unfold Blk at h ⊢; rw [Cw_ext hV]; exact h

/-- results that begin with a wheel in a cell. -/
theorem ret25_1 {fn : Func} {p : Tmp} (h : fn.results = #[.cell p 25]) (tmps : Array Value) (w : World) (g : Nat) (now : Int) (V : Nat → Value) (hp : tmps.getD p undef = .pointer (some ⟨g, 0, none⟩)) (hg : Blk w g now V) :
    (results fn tmps).run Try.prog w = .ok (.agg (Cw now V)) w :=
  results_cell_row h tmps w g 25 (Cw now V) (0, 0) _ hp hg Try.underlying25 rfl (by rw [Cw_size]; exact info25)
theorem ret25_2 {fn : Func} {p u : Tmp} (h : fn.results = #[.cell p 25, .tmp u]) (tmps : Array Value) (w : World) (g : Nat) (now : Int) (V : Nat → Value) (hp : tmps.getD p undef = .pointer (some ⟨g, 0, none⟩)) (hg : Blk w g now V) :
    (results fn tmps).run Try.prog w = .ok (.tuple #[.agg (Cw now V), tmps.getD u undef]) w := by
  have hl := run_loadVar_row (P := Try.prog) w g 25 25 (Cw now V) (0, 0) _ hg Try.underlying25 rfl (by rw [Cw_size]; exact info25)
  have hp' : tmps[p]?.getD undef = .pointer (some ⟨g, 0, none⟩) := by simpa using hp
  simp [results, h, hp', asAddr, hl]
theorem ret25_3 {fn : Func} {p u q : Tmp} (h : fn.results = #[.cell p 25, .tmp u, .tmp q]) (tmps : Array Value) (w : World) (g : Nat) (now : Int) (V : Nat → Value) (hp : tmps.getD p undef = .pointer (some ⟨g, 0, none⟩)) (hg : Blk w g now V) :
    (results fn tmps).run Try.prog w = .ok (.tuple #[.agg (Cw now V), tmps.getD u undef, tmps.getD q undef]) w := by
  have hl := run_loadVar_row (P := Try.prog) w g 25 25 (Cw now V) (0, 0) _ hg Try.underlying25 rfl (by rw [Cw_size]; exact info25)
  have hp' : tmps[p]?.getD undef = .pointer (some ⟨g, 0, none⟩) := by simpa using hp
  simp [results, h, hp', asAddr, hl]

/-- the wheel of zeros. -/
def nilV : Nat → Value := fun _ => .slice none 0 0
theorem zero25 : (Try.prog.info? 25).map (fun i => (i.zero, i.size)) = some (some (.agg (Cw 0 nilV)), 97) := by kernel_rfl
theorem zv25 : ∀ w, (zeroValue 25).run Try.prog w = .ok (.agg (Cw 0 nilV)) w := (zero_of_info zero25).1
theorem Own.zero (w : World) (B N : Nat) : Own w B N nilV (fun _ => []) := ⟨fun _ _ => OwnD.nil w B, fun _ _ _ _ _ g h => by simp [nilV, Value.ownBlock] at h⟩
end Go.Proofs.Ytefikkmhdjlccaa
