/- WheelBook: what its walk carries along. No walk. -/
import Derived.Test.YtefikkmhdjlccaaE2
import Derived.Test.YtefikkmhdjlccaaE3
namespace Go.Proofs.Ytefikkmhdjlccaa
open Go.RowKit

theorem wp_append_ownT {P : Program} (w : World) {o : Oper} {a : Act} {K : Act → World → Prop} {Q : Exit → Act → World → Prop} (s x : Operand) (t : TypeId)
    (ho : o.op = .call { callee := .builtin .append, args := #[s, x], argTypes := #[t, t] })
    (base : Nat) (e : TypeId) (z : Value) (size bytes : Nat) (T : Nat → Value → Prop) (ht : P.underlying t = some (.slice e)) (hinfo : (P.info? e).map (fun i => (i.zero, i.size, i.bytes)) = some (some z, size, bytes)) (hzs : z.cells.size = size) (hsz : 0 < size) (hzT : ∀ j u, z.cells[j]? = some u → T j u)
    (v : Value) (n : Nat) (xs : List Value) (hs : a.eval s = v) (hown : OwnsT w base e size T v n xs)
    (ao : Option Addr) (m c : Nat) (news : List Value) (hx : a.eval x = .slice ao m c) (hl : news.length = m * size) (hao : ao = none → m = 0 ∧ c = 0) (hnews : ∀ a, ao = some a → ∀ j u, news[j]? = some u → w.cell? (a.add j) = some u) (h1 : ∀ u ∈ news, u.oneCell' = true) (hnT : ∀ j u, news[j]? = some u → T (j % size) u)
    (h63 : n + m ≤ maxLen) (hbytes : (n + m) * bytes ≤ 140737488355328) (hbase : base ≤ w.heap.size)
    (h : ∀ v' w', OwnsT w' base e size T v' (n + m) (xs ++ news) → w.grownBy w' v.ownBlock → (v' = .slice none 0 0 ↔ v = .slice none 0 0 ∧ m = 0) → (v'.ownBlock = v.ownBlock ∨ v'.ownBlock = some w.heap.size) → K (a.put o.dst v') w') :
    Oper.wp P o a w K Q := by
  obtain ⟨i, hi, hz, hs1, hs2⟩ := info_parts hinfo
  obtain ⟨v', w', hr, h2, h3, h4, h5⟩ := run_append_ownT (P := P) w base t o.type e i z size bytes T ht hi hz hs1 hs2 hzs hsz hzT v n xs hown ao m c news hl hao hnews h1 hnT h63 hbytes hbase
  unfold Oper.wp execOp
  simp only [ho, resolve, invoke, builtin, Sem.run_bind, Sem.run_pure, Result.andThen_ok, List.map_toArray, List.map_cons, List.map_nil, hs, hx, hr]
  exact h v' w' h2 h3 h4 h5

/-- a slice of ints, read. -/
def IntsAt (w : World) (v : Value) (xs : List Int) : Prop :=
  ∃ a cap, v = .slice a xs.length cap ∧ xs.length ≤ cap ∧ (a = none → cap = 0) ∧ (xs ≠ [] → ∃ b o, a = some ⟨b, o, none⟩ ∧ ∀ i, i < xs.length → w.cell? ⟨b, o + i, none⟩ = some (.int .i64 (xs.getD i 0)))
theorem IntsAt.below {B : Nat} {w w' : World} {v : Value} {xs : List Int} (h : IntsAt w v xs) (hB : B = w.heap.size) (hb : Below B w w') : IntsAt w' v xs := by
  subst hB
  obtain ⟨a, cap, rfl, h1, h2, h3⟩ := h
  refine ⟨a, cap, rfl, h1, h2, fun hne => ?_⟩
  obtain ⟨b, o, rfl, hc⟩ := h3 hne
  exact ⟨b, o, rfl, fun i hi => by rw [hb.cell (by exact World.block_lt_of_cell? w _ (hc i hi))]; exact hc i hi⟩
def wfI (n : Int) : Prop := (Lit.int .i64 n).wf = true

/-- a wheel's lists and one more. -/
theorem own97 {w : World} {B B0 : Nat} {V : Nat → Value} {f : Ls} {v : Value} {l : List Du} (h : Own w B0 96 V f) (hB : B ≤ B0) (hv : OwnD w B v l) (hne : ∀ i, i < 96 → ∀ g, (V i).ownBlock = some g → v.ownBlock ≠ some g) : Own w B 97 (upd V 96 v) (slots (f, l) []) := by
  refine ((h.base hB).push hv hne).ext (fun _ _ => rfl) (fun i hi => ?_)
  by_cases e : i = 96
  · subst e; rw [upd_same, slots_96]
  · rw [upd_other _ _ _ e, slots_lt _ _ (by omega)]

/-- the wheel in its variable, and the book. -/
structure BK (w0 : World) (B : Nat) (now : Int) (V : Nat → Value) (f : Ls) (book : List Du) (wr : World) : Prop where
  blk : Blk wr B now V
  own : Own wr B 97 V (slots (f, book) [])
  below : Below B w0 wr
  right : Right now f
  wf : allP wfD f
  rep : Rep f book

section
variable {w0 wr w' : World} {B : Nat} {now now' : Int} {V V' : Nat → Value} {f f' : Ls} {book book' : List Du}
theorem BK.move (h : BK w0 B now V f book wr) (hb : Below wr.heap.size wr w') : BK w0 B now V f book w' :=
  ⟨h.blk.below hb h.blk.lt, h.own.below hb (Nat.le_refl _), h.below.trans (hb.mono (by have := h.blk.lt; omega)), h.right, h.wf, h.rep⟩
theorem BK.size (h : BK w0 B now V f book wr) : B + 1 ≤ wr.heap.size := h.blk.lt
theorem BK.lists (h : BK w0 B now V f book wr) : Own wr B 96 V f := (h.own.less (M := 96) (by omega)).ext (fun _ _ => rfl) (fun i hi => (slots_lt (f, book) [] hi).symm)
theorem BK.at (h : BK w0 B now V f book wr) : WheelAt wr V f := h.lists.at (Nat.le_refl _)
theorem BK.bookAt (h : BK w0 B now V f book wr) : OwnD wr B (V 96) book := by
  have := h.own.each 96 (by omega)
  rwa [slots_96] at this
theorem BK.len (h : BK w0 B now V f book wr) : (allM f).length = book.length := h.rep.perm.length_eq
theorem BK.few (h : BK w0 B now V f book wr) : book.length ≤ 500 := by rw [← h.len]; exact h.right.few
theorem BK.lens (h : BK w0 B now V f book wr) : ∀ i, i < 96 → (f i).length ≤ 8796093022208 := set_len h.right.few
theorem BK.one (h : BK w0 B now V f book wr) : ∀ i, i < 96 → (V i).oneCell' = true := h.at.one
theorem BK.cellNow (h : BK w0 B now V f book wr) : wr.cell? ⟨B, 0, none⟩ = some (.int .i64 now) := by rw [cell_of_blk h.blk, Cw_now]
theorem BK.bookNe (h : BK w0 B now V f book wr) : (V 96).ownBlock ≠ some B := h.own.ne_blk h.blk 96 (by omega)

/-- a wheel with other lists, in memory that is younger than the book, goes into the variable; the book is another one in its old block, or as it was. -/
theorem BK.turn (h : BK w0 B now V f book wr) {w1 : World} {V1 : Nat → Value} {vb : Value} (hO : Own w' wr.heap.size 96 V1 f') (hvb : OwnD w' B vb book') (hown : vb.ownBlock = (V 96).ownBlock ∨ ∃ g, vb.ownBlock = some g ∧ w1.heap.size ≤ g) (hO1 : ∀ i, i < 96 → ∀ g, (V1 i).ownBlock = some g → g < w1.heap.size)
    (hblk : Blk w' B now' (upd V1 96 vb)) (hbel : Below B w0 w') (hR : Right now' f') (hwf : allP wfD f') (hrep : Rep f' book') : BK w0 B now' (upd V1 96 vb) f' book' w' := by
  refine ⟨hblk, own97 hO (by have := h.size; omega) hvb (fun i hi g hg e => ?_), hbel, hR, hwf, hrep⟩
  rcases hown with h0 | ⟨g', h0, h1⟩
  · rw [h0] at e
    have := (h.bookAt.lt g e).2
    have := ((hO.each i hi).lt g hg).1
    omega
  · rw [h0] at e
    have := hO1 i hi g hg
    obtain rfl : g' = g := by simpa using e
    omega
/-- the same, the wheel stored whole into the variable. -/
theorem BK.renew (h : BK w0 B now V f book wr) {w1 : World} {V1 : Nat → Value} {vb : Value} {old : Array Value} (hO : Own w' wr.heap.size 96 V1 f') (hvb : OwnD w' B vb book') (hown : vb.ownBlock = (V 96).ownBlock ∨ ∃ g, vb.ownBlock = some g ∧ w1.heap.size ≤ g) (hO1 : ∀ i, i < 96 → ∀ g, (V1 i).ownBlock = some g → g < w1.heap.size)
    (hrow : w'.heap[B]? = some (.cells old 25 (0, 0))) (hbel : Below B w0 w') (hR : Right now' f') (hwf : allP wfD f') (hrep : Rep f' book') : BK w0 B now' (upd V1 96 vb) f' book' (w'.setRow B (Cw now' V1)) := by
  have hsz := h.size
  refine h.turn (w1 := w1) (hO.of_same fun i hi g hg => setRow_other _ _ _ _ (fun e => ?_)) (hvb.of_same fun g hg => setRow_other _ _ _ _ (fun e => ?_)) hown hO1 ?_ (below_setRow hbel (Nat.le_refl _) _) hR hwf hrep
  · have := ((hO.each i hi).lt g hg).1
    omega
  · exact hvb.ne hrow (by decide) (by rw [hg, e])
  · exact Blk.ext (setRow_heap _ _ _ _ _ _ hrow) (fun i hi => upd_other _ _ _ (by omega))
end
theorem allP_erase {P : Du → Prop} {f : Ls} (h : allP P f) (i k : Nat) : allP P (upd f i ((f i).eraseIdx k)) := by
  intro j hj d hd
  by_cases e : j = i
  · subst e; rw [upd_same] at hd; exact h j hj d (List.mem_of_mem_eraseIdx hd)
  · rw [upd_other _ _ _ e] at hd; exact h j hj d hd
theorem allP_set {P : Du → Prop} {f : Ls} (h : allP P f) {now id tm : Int} (hd : P ⟨id, tm⟩) : allP P (setM now f id tm) := fun j hj d hm => ok_of_mem h hd j hj d hm
end Go.Proofs.Ytefikkmhdjlccaa
