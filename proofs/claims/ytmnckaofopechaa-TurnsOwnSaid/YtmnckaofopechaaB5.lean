/- Round. -/
import Derived.Test.YtmnckaofopechaaB4
import Derived.BigRegion
namespace Go.Proofs.Ytmnckaofopechaa
open Go.RowKit

def served (q : Qu) (m : Nat) : Int := q.saved + q.share - (q.sizes.take m).sum
/-- what a round makes of a queue of which m go. -/
structure QStep (q q' : Qu) (m : Nat) : Prop where
  share : q'.share = q.share
  sizes : q'.sizes = q.sizes.drop m
  le : m ≤ q.sizes.length
  empty : q.sizes.length = 0 → q'.saved = q.saved
  some : 0 < q.sizes.length → 0 ≤ served q m ∧ (m < q.sizes.length → served q m < q.sizes.getD m 0) ∧ q'.saved = if m = q.sizes.length then 0 else served q m

def sentsTo (qs : List Qu) (M : Nat → Nat) (k : Nat) : List (Nat × Int) := (List.range k).flatMap fun j => ((qs.getD j default).sizes.take (M j)).map fun x => (j, x)
def sentCells (l : List (Nat × Int)) : List Value := l.flatMap fun p => [.int .i64 p.1, .int .i64 p.2]
theorem sentCells_append (a b : List (Nat × Int)) : sentCells (a ++ b) = sentCells a ++ sentCells b := by simp [sentCells]
theorem sentsTo_succ (qs : List Qu) (M : Nat → Nat) (k : Nat) : sentsTo qs M (k + 1) = sentsTo qs M k ++ ((qs.getD k default).sizes.take (M k)).map fun x => (k, x) := by
  simp [sentsTo, List.range_succ]
theorem sentsTo_congr (qs : List Qu) (M M' : Nat → Nat) (k : Nat) (h : ∀ j, j < k → M j = M' j) : sentsTo qs M k = sentsTo qs M' k := by
  induction k with
  | zero => rfl
  | succ k ih => rw [sentsTo_succ, sentsTo_succ, ih (fun j hj => h j (by omega)), h k (by omega)]
theorem sentsTo_length (qs : List Qu) (M : Nat → Nat) (k : Nat) (h : ∀ j, j < k → (qs.getD j default).sizes.length ≤ 200) : (sentsTo qs M k).length ≤ k * 200 := by
  induction k with
  | zero => simp [sentsTo]
  | succ k ih =>
    rw [sentsTo_succ, List.length_append, List.length_map, List.length_take]
    have := ih (fun j hj => h j (by omega))
    have := h k (by omega)
    omega

def Rounded (w w' : World) (B : Nat) (qs : List Qu) (e : Ending) : Prop :=
  Below B w w' ∧ ((¬ RightT qs ∧ ∃ r : Int, r ≠ 0 ∧ e = .returned (.tuple #[.slice none 0 0, .slice none 0 0, .int .i64 r])) ∨
    (RightT qs ∧ ∃ v l qs' M, e = .returned (.tuple #[v, l, .int .i64 0]) ∧ qs'.length = qs.length ∧ (∀ i, i < qs.length → QStep (qs.getD i default) (qs'.getD i default) (M i)) ∧
      TF w' B v qs' ∧ OwnsT w' B 32 2 IsI64 l (sentsTo qs M qs.length).length (sentCells (sentsTo qs M qs.length))))

theorem info32 : (Try.prog.info? 32).map (fun i => (i.zero, i.size, i.bytes)) = some (some (.agg #[.int .i64 0, .int .i64 0]), 2, 16) := by kernel_rfl

theorem TF.of_own {w : World} {B : Nat} {v : Value} {qs : List Qu} {ps : List (Qu × Value)} (hps : ps.map Prod.fst = qs) (h : OwnsT w B 35 3 AnyV v qs.length (qcells ps)) (hq : OwnQs w B ps) : TF w B v qs := by
  have hlen : ps.length = qs.length := by rw [← hps]; simp
  have hfst : ∀ i, i < qs.length → (ps.getD i default).1 = qs.getD i default := fun i hi => by
    subst hps
    have : i < ps.length := by omega
    simp [List.getD, this]
  rcases Nat.eq_zero_or_pos qs.length with h0 | hp
  · obtain ⟨h1, ⟨rfl, h0⟩ | ⟨g, cap, cur, rfl, a1, a2, a3, a4, a5, a6, a7⟩⟩ := h
    · exact ⟨none, 0, by rw [h0], by omega, fun _ => rfl, fun h => by omega⟩
    · exact ⟨_, cap, rfl, a3, (fun h => by cases h), fun h => by omega⟩
  · obtain ⟨g, cap, rfl, hr⟩ := QRow.of_own (by rw [hlen]; exact h) (by omega)
    rw [hlen] at hr ⊢
    have hc := hr.2.1
    exact ⟨_, cap, rfl, hc, (fun h => by cases h), fun _ => ⟨g, _, rfl, hr, fun i hi => ⟨hfst i hi, (hq.each i (by omega)).fresh⟩⟩⟩

theorem QRow.ne {w : World} {B B' g n cap m : Nat} {e size : Nat} {T : Nat → Value → Prop} {f : Nat → Qu × Value} {v : Value} {xs : List Value} (h : QRow w B g n cap f) (h' : OwnsT w B' e size T v m xs) (he : e ≠ 35) : v.ownBlock ≠ some g := by
  intro hg
  obtain ⟨_, ⟨rfl, _⟩ | ⟨g1, cap, cur, rfl, _, a, _⟩⟩ := h'
  · cases hg
  obtain ⟨_, _, cur2, b, _⟩ := h
  simp only [Value.ownBlock, Option.some.injEq] at hg
  subst hg
  rw [a] at b
  simp at b
  exact he b.2
theorem OwnsT.ne_cur {w : World} {B' m : Nat} {e e' size : Nat} {T : Nat → Value → Prop} {v : Value} {xs : List Value} (h' : OwnsT w B' e size T v m xs) {g : Nat} {cur : Array Value} (h : w.heap[g]? = some (.cells cur e' (0, 0))) (he : e ≠ e') : v.ownBlock ≠ some g := by
  intro hg
  obtain ⟨_, ⟨rfl, _⟩ | ⟨g1, cap, cur1, rfl, _, a, _⟩⟩ := h'
  · cases hg
  simp only [Value.ownBlock, Option.some.injEq] at hg
  subst hg
  rw [a] at h
  simp at h
  exact he h.2

/-- the state at the head of Round's inner loop. -/
structure RIn (w : World) (B g n cap k : Nat) (q : Qu) (u : Value) (f : Nat → Qu × Value) : Prop where
  row : QRow w B g n cap (fun j => if j = k then (q, u) else f j)
  fresh : ∀ j, j < n → FreshI w B (f j).2 (f j).1.sizes

theorem RIn.of_same {w w' : World} {B g n cap k : Nat} {q : Qu} {u : Value} {f : Nat → Qu × Value} (h : RIn w B g n cap k q u f) (h1 : w'.heap[g]? = w.heap[g]?) (h2 : ∀ g cur, B ≤ g → w.heap[g]? = some (.cells cur 3 (0, 0)) → w'.heap[g]? = w.heap[g]?) : RIn w' B g n cap k q u f :=
  ⟨h.row.of_same h1, fun j hj => (h.fresh j hj).of_same h2⟩

theorem RIn.grown {w w' : World} {B g n cap k : Nat} {q : Qu} {u : Value} {f : Nat → Qu × Value} (h : RIn w B g n cap k q u f) {v : Value} {m B' size : Nat} {T : Nat → Value → Prop} {xs : List Value} (ho : OwnsT w B' 32 size T v m xs) (hg : w.grownBy w' v.ownBlock) : RIn w' B g n cap k q u f := by
  refine h.of_same (hg.block g ?_ fun e => h.row.ne ho (by decide) e.symm) (fun g' cur _ hc => hg.block g' ?_ fun e => ho.ne_cur hc (by decide) e.symm)
  · obtain ⟨_, _, cur, hb, _⟩ := h.row
    exact lt_of_block hb
  · exact lt_of_block hc

theorem RIn.alloc {w : World} {B g n cap k : Nat} {q : Qu} {u : Value} {f : Nat → Qu × Value} (h : RIn w B g n cap k q u f) (o : Obj) : RIn (w.alloc o) B g n cap k q u f := by
  refine h.of_same (Below.heap_alloc _ _ _ ?_) (fun g' cur _ hc => Below.heap_alloc _ _ _ (lt_of_block hc))
  obtain ⟨_, _, cur, hb, _⟩ := h.row
  exact lt_of_block hb

theorem RIn.drewN {w : World} {B g n cap k : Nat} {q : Qu} {u : Value} {f : Nat → Qu × Value} (h : RIn w B g n cap k q u f) (a : Nat) : RIn (w.drewN a) B g n cap k q u f := h.of_same rfl (fun _ _ _ _ => rfl)
theorem OwnsT.drewN {w : World} {base : Nat} {e : TypeId} {size : Nat} {T : Nat → Value → Prop} {v : Value} {n : Nat} {xs : List Value} (h : OwnsT w base e size T v n xs) (a : Nat) : OwnsT (w.drewN a) base e size T v n xs := h
theorem IsI64_two (a b : Int) : ∀ (j : Nat) (u : Value), [Value.int .i64 a, .int .i64 b][j]? = some u → IsI64 (j % 2) u := by
  intro j u h
  match j, h with
  | 0, h => simp at h; exact ⟨a, h.symm⟩
  | 1, h => simp at h; exact ⟨b, h.symm⟩
theorem IsI64_agg2 : ∀ (j : Nat) (u : Value), (Value.cells (.agg #[.int .i64 0, .int .i64 0]))[j]? = some u → IsI64 j u := by
  intro j u h
  simp only [Value.cells] at h
  match j, h with
  | 0, h => simp at h; exact ⟨0, h.symm⟩
  | 1, h => simp at h; exact ⟨0, h.symm⟩
theorem oneCell_two (a b : Int) : ∀ u ∈ [Value.int .i64 a, Value.int .i64 b], u.oneCell' = true := by
  intro u hu; simp at hu; rcases hu with rfl | rfl <;> rfl

theorem FreshI.setCell {w : World} {B : Nat} {v : Value} {xs : List Int} (h : FreshI w B v xs) {g o : Nat} {cur : Array Value} {t : TypeId} (hb : w.heap[g]? = some (.cells cur t (0, 0))) (ht : t ≠ 3) (u : Value) : FreshI (w.setCell ⟨g, o, none⟩ u) B v xs :=
  h.of_same fun g' cur' _ hc => Below.heap_setCell _ _ _ _ (fun e => by simp only at e; subst e; rw [hb] at hc; simp at hc; exact ht hc.2)

theorem RIn.saved {w : World} {B g n cap k : Nat} {q : Qu} {u : Value} {f : Nat → Qu × Value} (h : RIn w B g n cap k q u f) (s : Int) : RIn (w.setCell ⟨g, k * 3 + 1, none⟩ (.int .i64 s)) B g n cap k { q with saved := s } u f := by
  refine ⟨(h.row.set_saved k s).congr fun i hi => ?_, fun j hj => ?_⟩
  · by_cases e : i = k <;> simp [e]
  · obtain ⟨_, _, cur, hb, _⟩ := h.row
    exact (h.fresh j hj).setCell hb (by decide) _

theorem RIn.cells {w : World} {B g n cap k : Nat} {q : Qu} {u : Value} {f : Nat → Qu × Value} (h : RIn w B g n cap k q u f) (hk : k < n) :
    w.cell? ⟨g, k * 3, none⟩ = some (.int .i64 q.share) ∧ w.cell? ⟨g, k * 3 + 1, none⟩ = some (.int .i64 q.saved) ∧ w.cell? ⟨g, k * 3 + 2, none⟩ = some u ∧ ∀ o, w.frozen? ⟨g, o, none⟩ = false := by
  have := h.row.cells hk
  simpa using this

theorem FreshI.cell {w : World} {B : Nat} {xs : List Int} {g o n c : Nat} (h : FreshI w B (.slice (some ⟨g, o, none⟩) n c) xs) {i : Nat} (hi : i < xs.length) : w.cell? ⟨g, o + i, none⟩ = some (.int .i64 (xs.getD i 0)) := by
  obtain ⟨a, cap, e, h1, h2, h3⟩ := h
  obtain ⟨g', o', cur, rfl, _, hg, _, _, hc⟩ := h3 (by omega)
  simp only [Value.slice.injEq, Option.some.injEq, Addr.mk.injEq, and_true] at e
  obtain ⟨⟨rfl, rfl⟩, _⟩ := e
  rw [cell_of_blk hg]
  exact hc i hi

/-- the state at the head of Round's outer loop. -/
structure RState (w : World) (B g n cap : Nat) (qs : List Qu) (k : Nat) (M : Nat → Nat) (f : Nat → Qu × Value) : Prop where
  row : QRow w B g n cap f
  fresh : ∀ j, j < n → FreshI w B (f j).2 (f j).1.sizes
  done : ∀ j, j < k → QStep (qs.getD j default) (f j).1 (M j)
  todo : ∀ j, k ≤ j → j < n → (f j).1 = qs.getD j default

theorem FreshI.drop {w : World} {B : Nat} {xs : List Int} {a a' : Option Addr} {n c : Nat} (h : FreshI w B (.slice a n c) xs) {m : Nat} (hm : m ≤ xs.length) (ha : c ≠ m → a' = a.map (fun x => ⟨x.block, x.off + m, none⟩)) (hnn : a' ≠ none) : FreshI w B (.slice a' (n - m) (c - m)) (xs.drop m) := by
  obtain ⟨a1, cap, e, h1, h2, h3⟩ := h
  simp only [Value.slice.injEq] at e
  obtain ⟨rfl, rfl, rfl⟩ := e
  refine ⟨a', c - m, by simp, by simp; omega, fun e => absurd e hnn, fun hc => ?_⟩
  obtain ⟨g, o, cur, rfl, hB, hg, hfit, hint, hcell⟩ := h3 (by omega)
  refine ⟨g, o + m, cur, ha (by omega), hB, hg, ⟨by omega, by omega⟩, hint, fun i hi => ?_⟩
  simp only [List.length_drop] at hi
  rw [Nat.add_assoc, hcell (m + i) (by omega)]
  simp [List.getD]

theorem RState.next {w0 w : World} {B g n cap k m : Nat} {qs : List Qu} {M : Nat → Nat} {f : Nat → Qu × Value} {q' : Qu} {v' : Value} (h : RState w0 B g n cap qs k M f)
    (hrow : QRow w B g n cap (fun j => if j = k then (q', v') else f j)) (hfr : ∀ j, j < n → j ≠ k → FreshI w B (f j).2 (f j).1.sizes) (hv : FreshI w B v' q'.sizes) (hq : QStep (qs.getD k default) q' m) :
    RState w B g n cap qs (k + 1) (fun j => if j = k then m else M j) (fun j => if j = k then (q', v') else f j) := by
  refine ⟨hrow, fun j hj => ?_, fun j hj => ?_, fun j hj hn => ?_⟩
  · by_cases e : j = k
    · subst e; simpa using hv
    · simpa [e] using hfr j hj e
  · by_cases e : j = k
    · subst e; simpa using hq
    · simpa [e] using h.done j (by omega)
  · rw [if_neg (by omega)]
    exact h.todo j (by omega) hn

theorem sents_next {qs : List Qu} {M : Nat → Nat} {k m : Nat} {q : Qu} (hq : q = qs.getD k default) (hm : m ≤ q.sizes.length) :
    sentsTo qs (fun j => if j = k then m else M j) (k + 1) = sentsTo qs M k ++ (q.sizes.take m).map (fun x => (k, x)) ∧ (sentsTo qs (fun j => if j = k then m else M j) (k + 1)).length = (sentsTo qs M k).length + m := by
  subst hq
  have e : sentsTo qs (fun j => if j = k then m else M j) (k + 1) = sentsTo qs M k ++ ((qs.getD k default).sizes.take m).map (fun x => (k, x)) := by
    rw [sentsTo_succ, sentsTo_congr qs _ M k (fun j hj => by rw [if_neg (by omega)])]
    simp
  refine ⟨e, ?_⟩
  rw [e, List.length_append, List.length_map, List.length_take]
  omega

set_option maxRecDepth 100000 in
set_option maxHeartbeats 4000000 in
theorem c7 (v : Value) (qs : List Qu) (w : World) (h : TurnsAt w v qs) (hl : qs.length ≤ 3518437208781) (hl2 : ∀ i, i < qs.length → (qs.getD i default).sizes.length ≤ 17592186043904) :
    Calls Try.prog 7 #[v] w fun e w' => Rounded w w' w.heap.size qs e := by
  generalize hB : w.heap.size = B at *
  have hvs : ∃ a n c, v = .slice a n c := by obtain ⟨a, cap, rfl, _⟩ := h; exact ⟨_, _, _, rfl⟩
  obtain ⟨a0, n0, c0, rfl⟩ := hvs
  go_enter Try.func7, Try.ntmps7
  go_wp2_with (go_at_call 6; refine (c6 _ _ _ h hl hl2).mono ?_; rintro e w1 ⟨⟨r, rfl, hr⟩, hb1⟩; rw [hB] at hb1; have Hr := Lib.hid hr; clear hr)
  · have hr : (r != 0) = true := by assumption
    go_ret3
    exact ⟨hb1, .inl ⟨fun hR => by have := Hr.out.2 hR; subst this; simp at hr, r, by simpa using hr, rfl⟩⟩
  · have hr : (r != 0) = false := by assumption
    have hR : Hid (RightT qs) := Hr.out.1 (by simpa using hr)
    clear Hr hr
    have hs1 := hb1.size
    refine (c19 _ qs _ (h.below hB.symm hb1) hl hl2).mono ?_
    rintro e w2 ⟨v2, ps, rfl, hps, hown, hqs, hb2⟩
    have hTF := TF.of_own hps (hown.base_le (show B ≤ w1.heap.size by omega)) ⟨fun i hi => (hqs.each i hi).base_le (by omega), hqs.apart⟩
    have hb2' : Below B w w2 := hb1.trans (hb2.mono (by omega))
    clear hps hown hqs hb2 hb1 hs1
    obtain ⟨a2, cap, rfl, hcap, hnil, hst0⟩ := hTF
    obtain ⟨g, hst⟩ : ∃ g, 0 < qs.length → a2 = some ⟨g, 0, none⟩ ∧ ∃ f, QRow w2 B g qs.length cap f ∧ ∀ i, i < qs.length → (f i).1 = qs.getD i default ∧ FreshI w2 B (f i).2 (f i).1.sizes := by
      rcases Nat.eq_zero_or_pos qs.length with h0 | hp
      · exact ⟨0, fun h => by omega⟩
      · obtain ⟨g, f, e, r⟩ := hst0 hp
        exact ⟨g, fun _ => ⟨e, f, r⟩⟩
    clear hst0
    have hsz2 := hb2'.size
    go_wp2_with fail
    go_loopw [6, 19] (fun out i wr => ∃ (k : Nat) (M : Nat → Nat), k ≤ qs.length ∧ i = .int .i64 k ∧ OwnsT wr B 32 2 IsI64 out (sentsTo qs M k).length (sentCells (sentsTo qs M k)) ∧
      (0 < qs.length → ∃ f, RState wr B g qs.length cap qs k M f) ∧ Below B w wr) (fun _ i _ => qs.length - (intOf i).toNat)
    case atStart =>
      refine ⟨0, fun _ => 0, Nat.zero_le _, rfl, OwnsT.nil _ _ _ _ _, fun hp => ?_, hb2'⟩
      obtain ⟨_, f, hr, hf⟩ := hst hp
      exact ⟨f, hr, fun j hj => (hf j hj).2, fun j hj => by omega, fun j _ hj => (hf j hj).1⟩
    case round =>
      obtain ⟨k, M, hk, rfl, hout, hrs, hbel⟩ := hrel
      by_cases hlt : k < qs.length
      · obtain ⟨f, hrs⟩ := hrs (by omega)
        obtain rfl := (hst (by omega)).1
        clear hst
        obtain ⟨q1, q2, q3, q4⟩ := hrs.row.cells hlt
        have hRk := Lib.hid (hR.out.2 k hlt)
        have htodo := hrs.todo k (Nat.le_refl _) hlt
        have hI := hrs.fresh k hlt
        rw [← htodo] at hRk
        have Htodo := Lib.hid htodo; clear htodo
        generalize hq : f k = p at *
        have Hq := Lib.hid hq; clear hq
        obtain ⟨⟨sh, sv, sz⟩, u⟩ := p
        simp only at q1 q2 q3 hI hRk
        have hI0 := Lib.hid hI
        obtain ⟨a3, c3, rfl, hc3, hn3, hI⟩ := hI
        have f1 := q4 (k * 3 + 1)
        have f2 := q4 (k * 3 + 2)
        clear q4
        by_cases h0 : sz.length = 0
        · clear hI
          have hq0 : ((sz.length : Int) == 0) = true := by rw [beq_iff_eq]; omega
          have hQ : QStep (qs.getD k default) ⟨sh, sv, sz⟩ 0 := by
            rw [← Htodo.out]
            exact ⟨rfl, by simp, by simp, fun _ => rfl, fun h => by simp only at h; omega⟩
          have hnx := hrs.next (w := wr) (q' := ⟨sh, sv, sz⟩) (v' := .slice a3 sz.length c3) (hrs.row.congr fun i hi => by by_cases e : i = k <;> simp [e, Hq.out]) (fun j hj _ => hrs.fresh j hj) hI0.out hQ
          obtain ⟨hs1, hs2⟩ := sents_next (M := M) (m := 0) Htodo.out (by simp)
          have Hnx := Lib.hid hnx
          have hH0 := Lib.hid h0
          clear hrs hnx h0
          have Hout := Lib.hid hout
          clear hout
          go_wp2_with fail
          go_roundw
          case rel =>
            refine ⟨k + 1, fun j => if j = k then 0 else M j, by omega, by go_num, ?_, fun _ => ⟨_, Hnx.out⟩, hbel⟩
            rw [hs2, hs1]; simpa using Hout.out
          case measure => simp [intOf]; omega
        · have hq0 : ((sz.length : Int) == 0) = false := by rw [beq_eq_false_iff_ne]; omega
          have hR1 := hRk.out
          obtain ⟨g2, o2, rfl⟩ : ∃ g2 o2, a3 = some ⟨g2, o2, none⟩ := by obtain ⟨g2, o2, cur2, e, _⟩ := hI (by omega); exact ⟨g2, o2, e⟩
          clear hI hR1
          have hb1 := (sizeB_iff _).1 hRk.out.2.1
          have hb2 := (sizeB_iff _).1 (hRk.out.2.2.1 0 (by show 0 < sz.length; omega))
          have hb3 := hRk.out.2.2.2.1
          have hb4 := hRk.out.2.2.2.2.2 (by show 0 < sz.length; omega)
          have hb5 := hRk.out.1
          simp only at hb1 hb2 hb3 hb4 hb5
          have hb6 : sv ≤ 1000000 := by omega
          obtain ⟨hb1, hb1'⟩ := hb1
          clear hb2 hb4
          have hin0 : RIn wr B g qs.length cap k ⟨sh, sv, sz⟩ (.slice (some ⟨g2, o2, none⟩) sz.length c3) f := ⟨hrs.row.congr fun i hi => by by_cases e : i = k <;> simp [e, Hq.out], hrs.fresh⟩
          have hin1 := hin0.saved (sv + sh)
          clear hin0
          go_wp2_with fail
          go_region
          go_wp2_with fail
          have hsb := hbel.size
          have hB0 : B ≤ g := hrs.row.1
          have hL := sentsTo_length qs M k (fun j hj => (hR.out.2 j (by omega)).1)
          have hn16 := hR.out.1
          have hrow := hrs.row
          have Hrs := Lib.hid hrs; clear hrs hrow
          go_loopw [6, 9] (fun out i wr2 => ∃ (m : Nat) (S : Int), m ≤ sz.length ∧ i = .int .i64 m ∧ 0 ≤ S ∧ S ≤ 2000000 ∧ Hid (S = sv + sh - (sz.take m).sum) ∧
             OwnsT wr2 B 32 2 IsI64 out ((sentsTo qs M k).length + m) (sentCells (sentsTo qs M k ++ (sz.take m).map fun x => (k, x))) ∧ RIn wr2 B g qs.length cap k ⟨sh, S, sz⟩ (.slice (some ⟨g2, o2, none⟩) sz.length c3) f ∧ Below B w wr2) (fun _ i _ => sz.length - (intOf i).toNat)
          case atStart =>
            refine ⟨0, sv + sh, Nat.zero_le _, rfl, by omega, by omega, by show sv + sh = sv + sh - (sz.take 0).sum; simp, ?_, ?_, ?_⟩
            · have := (hout.setCell_other (a := ⟨g, k * 3 + 1, none⟩) (fun e => Hrs.out.row.ne hout (by decide) e) (.int .i64 (sv + sh))).drew
              simpa using this
            · exact hin1.of_same rfl (fun _ _ _ _ => rfl)
            · exact (hbel.setCell (by exact hB0) _).drew
          case round =>
            clear q1 q2 q3 hout hbel hin1 f1 f2 hsb
            obtain ⟨m, S, hm, rfl, hS0, hS1, hS, hout, hin, hbel⟩ := hrel
            obtain ⟨q1, q2, q3, q4⟩ := hin.cells hlt
            simp only at q1 q2 q3
            have f1 := q4 (k * 3 + 1)
            have f2 := q4 (k * 3 + 2)
            have hsb := hbel.size
            clear q4
            by_cases hml : m < sz.length
            · have hx : FreshI wr (B) (.slice (some ⟨g2, o2, none⟩) sz.length c3) sz := by
                have := hin.fresh k hlt
                rw [Hq.out] at this; exact this
              have hx := hx.cell hml
              have hxb := (sizeB_iff _).1 (hRk.out.2.2.1 m hml)
              simp only at hxb
              have hsum : Hid ((sz.take (m + 1)).sum = (sz.take m).sum + sz.getD m 0) := by
                show _ = _
                rw [List.take_succ_eq_append_getElem hml, List.sum_append]; simp [List.getD, hml]
              have htake : Hid (sz.take (m + 1) = sz.take m ++ [sz.getD m 0]) := by
                show _ = _
                rw [List.take_succ_eq_append_getElem hml]; simp [List.getD, hml]
              generalize hxx : sz.getD m 0 = x at *
              have Hxx := Lib.hid hxx; clear hxx
              have d0 : (m : Int) < sz.length := by omega
              have d1 : decide ((m : Int) < sz.length) = true := by simpa using hml
              have d2 : decide (m < sz.length) = true := by simpa using hml
              by_cases hxs : x ≤ S
              · have d3 : decide (x ≤ S) = true := by simpa using hxs
                go_wp2_with fail
                go_quiet (fail)
                clear d0 d1 d2 d3
                go_wp2_with (at_builtin; go_loud (refine wpList_append_ownT _ rfl _ _ 28 rfl B 32 (.agg #[.int .i64 0, .int .i64 0]) 2 16 IsI64 Try.underlying28 info32 rfl (by decide) IsI64_agg2 _ ((sentsTo qs M k).length + m) _ rfl ((hout.drewN nq).alloc _) (some ⟨wr.heap.size, 0, none⟩) 1 1 [.int .i64 k, .int .i64 x] rfl rfl (by intro h; cases h) ?c1 (oneCell_two _ _) (IsI64_two _ _) ?c4 ?c5 ?c6 ?_))
                case c1 => exact src_new (wr.drewN nq) [_, _] 32 _ rfl
                case c4 => unfold maxLen; omega
                case c5 => omega
                case c6 => simp; omega
                intro v' w3 hown' hgrow _ _
                have hin3 := ((hin.drewN nq).alloc (.cells #[.int .i64 k, .int .i64 x] 32)).grown ((hout.drewN nq).alloc _) hgrow
                have hbel3 : Below B w w3 := ((hbel.drewN nq).alloc (by simp; omega) _).grown hgrow (by simp; omega) (fun g hg => (hout.lt g hg).1)
                have hsb3 := hbel3.size
                obtain ⟨p1, p2, p3, p4⟩ := hin3.cells hlt
                simp only at p1 p2 p3
                have f3 := p4 (k * 3 + 1)
                have px : FreshI w3 B (.slice (some ⟨g2, o2, none⟩) sz.length c3) sz := by
                  have := hin3.fresh k hlt
                  rw [Hq.out] at this; exact this
                have px := px.cell hml
                rw [Hxx.out] at px
                have hin4 := hin3.saved (S - x)
                have hout4 := hown'.setCell_other (a := ⟨g, k * 3 + 1, none⟩) (fun e => hin3.row.ne hown' (by decide) e) (.int .i64 (S - x))
                have hbel4 := hbel3.setCell (p := ⟨g, k * 3 + 1, none⟩) (by exact hB0) (.int .i64 (S - x))
                clear q1 q2 q3 hx f1 f2 hgrow hown' hin hout hbel p4 hin3 hbel3
                go_wp2_with fail
                go_region
                go_wp2_with fail
                go_roundw
                case rel =>
                  refine ⟨m + 1, S - x, by omega, by go_num, by omega, by omega, ?_, ?_, hin4.of_same rfl (fun _ _ _ _ => rfl), hbel4.drew⟩
                  · show S - x = sv + sh - (sz.take (m + 1)).sum
                    rw [hsum.out, hS.out]; omega
                  · have := hout4.drew
                    rw [htake.out, List.map_append, ← List.append_assoc, sentCells_append, List.map_take, ← Nat.add_assoc]
                    exact this
                case measure => simp [intOf]; omega
              · have d3 : decide (x ≤ S) = false := by simpa using hxs
                go_wp2_with fail
                go_quiet (fail)
                go_wp2_with fail
                have hrow := hin.row.set_sizes k ⟨sh, S, sz.drop m⟩ (.slice (some ⟨g2, o2 + m, none⟩) (sz.length - m) (c3 - m)) (by simp)
                have hblk : ∃ cur, wr.heap[g]? = some (.cells cur 35 (0, 0)) := by obtain ⟨_, _, cur, hb, _⟩ := hin.row; exact ⟨cur, hb⟩
                obtain ⟨cur, hblk⟩ := hblk
                have hfr := fun j (hj : j < qs.length) => (hin.fresh j hj).setCell (o := k * 3 + 2) hblk (by decide) (.slice (some ⟨g2, o2 + m, none⟩) (sz.length - m) (c3 - m))
                have hfk := hfr k hlt
                rw [Hq.out] at hfk
                have hfk' := hfk.drop (m := m) hm (a' := some ⟨g2, o2 + m, none⟩) (fun _ => rfl) (by simp)
                have hQ : QStep (qs.getD k default) ⟨sh, S, sz.drop m⟩ m := by
                  rw [← Htodo.out]
                  exact ⟨rfl, rfl, hm, fun h => absurd h h0, fun _ => ⟨by show 0 ≤ sv + sh - (sz.take m).sum; rw [← hS.out]; exact hS0, fun _ => by show sv + sh - (sz.take m).sum < sz.getD m 0; rw [← hS.out, Hxx.out]; omega, by rw [if_neg (by show m ≠ sz.length; omega)]; exact hS.out⟩⟩
                have hnx := Hrs.out.next (w := wr.setCell ⟨g, k * 3 + 2, none⟩ (.slice (some ⟨g2, o2 + m, none⟩) (sz.length - m) (c3 - m))) (hrow.congr fun i hi => by by_cases e : i = k <;> simp [e]) (fun j hj _ => hfr j hj) hfk' hQ
                have hout4 := hout.setCell_other (a := ⟨g, k * 3 + 2, none⟩) (fun e => hin.row.ne hout (by decide) e) (.slice (some ⟨g2, o2 + m, none⟩) (sz.length - m) (c3 - m))
                obtain ⟨hs1, hs2⟩ := sents_next (M := M) (m := m) Htodo.out hm
                go_roundw
                case rel =>
                  refine ⟨k + 1, fun j => if j = k then m else M j, by omega, by go_num, ?_, fun _ => ⟨_, hnx.row.of_same rfl, fun j hj => (hnx.fresh j hj).of_same (fun _ _ _ _ => rfl), hnx.done, hnx.todo⟩, ?_⟩
                  · rw [hs2, hs1]; exact hout4
                  · exact (hbel.drewN nq).setCell (by exact hB0) _
                case measure => simp [intOf]; omega
            · have d2 : decide (m < sz.length) = false := by simpa using hml
              have d1 : decide ((m : Int) < sz.length) = false := by simpa using hml
              go_wp2_with fail
              go_quiet (fail)
              go_wp2_with fail
              have hV : ∃ V, V = Value.slice (if c3 = m then some ⟨g2, o2, none⟩ else some ⟨g2, o2 + m, none⟩) (sz.length - m) (c3 - m) := ⟨_, rfl⟩
              obtain ⟨V, hV⟩ := hV
              rw [← hV]
              have hrow := ((hin.row.set_sizes k ⟨sh, S, sz.drop m⟩ V (by simp)).set_saved k 0)
              have hblk : ∃ cur, wr.heap[g]? = some (.cells cur 35 (0, 0)) := by obtain ⟨_, _, cur, hb, _⟩ := hin.row; exact ⟨cur, hb⟩
              obtain ⟨cur, hblk⟩ := hblk
              have hfr := fun j (hj : j < qs.length) => ((hin.fresh j hj).setCell (o := k * 3 + 2) hblk (by decide) V).setCell (o := k * 3 + 1) (heap_setCell_cells V hblk) (by decide) (.int .i64 0)
              have hfk := hfr k hlt
              rw [Hq.out] at hfk
              have hfk' := hfk.drop (m := m) hm (a' := if c3 = m then some ⟨g2, o2, none⟩ else some ⟨g2, o2 + m, none⟩) (fun h => by rw [if_neg h]; rfl) (by split <;> simp)
              rw [← hV] at hfk'
              have hQ : QStep (qs.getD k default) ⟨sh, 0, sz.drop m⟩ m := by
                rw [← Htodo.out]
                exact ⟨rfl, rfl, hm, fun h => absurd h h0, fun _ => ⟨by show 0 ≤ sv + sh - (sz.take m).sum; rw [← hS.out]; exact hS0, fun h => by exfalso; simp only at h; omega, by rw [if_pos (by show m = sz.length; omega)]⟩⟩
              have hnx := Hrs.out.next (w := (wr.setCell ⟨g, k * 3 + 2, none⟩ V).setCell ⟨g, k * 3 + 1, none⟩ (.int .i64 0)) (hrow.congr fun i hi => by by_cases e : i = k <;> simp [e]) (fun j hj _ => hfr j hj) hfk' hQ
              have hout3 := hout.setCell_other (a := ⟨g, k * 3 + 2, none⟩) (fun e => hin.row.ne hout (by decide) e) V
              have hout4 := hout3.setCell_other (a := ⟨g, k * 3 + 1, none⟩) (fun e => hin.row.ne hout (by decide) e) (.int .i64 0)
              obtain ⟨hs1, hs2⟩ := sents_next (M := M) (m := m) Htodo.out hm
              clear hV
              go_roundw
              case rel =>
                refine ⟨k + 1, fun j => if j = k then m else M j, by omega, by go_num, ?_, fun _ => ⟨_, hnx.row.of_same rfl, fun j hj => (hnx.fresh j hj).of_same (fun _ _ _ _ => rfl), hnx.done, hnx.todo⟩, ?_⟩
                · rw [hs2, hs1]; exact hout4
                · exact ((hbel.drewN nq).setCell (by exact hB0) _).setCell (by exact hB0) _
              case measure => simp [intOf]; omega
      · obtain rfl : k = qs.length := by omega
        obtain ⟨qs', e1, e2, e3⟩ : ∃ qs' : List Qu, qs'.length = qs.length ∧ (∀ i, i < qs.length → QStep (qs.getD i default) (qs'.getD i default) (M i)) ∧ TF wr B (.slice a2 qs.length cap) qs' := by
          rcases Nat.eq_zero_or_pos qs.length with h0 | hp
          · exact ⟨[], by simp [h0], fun i hi => by omega, a2, cap, by simp [h0], by simp, hnil, fun h => by simp at h⟩
          · obtain ⟨f, hf⟩ := hrs hp
            have eg : ∀ i, i < qs.length → ((List.range qs.length).map fun i => (f i).1).getD i default = (f i).1 := fun i hi => by simp [List.getD, hi]
            refine ⟨(List.range qs.length).map fun i => (f i).1, by simp, fun i hi => by rw [eg i hi]; exact hf.done i hi, a2, cap, by simp, by simpa using hcap, hnil, fun _ => ⟨g, f, (hst hp).1, by simpa using hf.row, fun i hi => ?_⟩⟩
            simp only [List.length_map, List.length_range] at hi
            exact ⟨(eg i hi).symm, hf.fresh i hi⟩
        have E2 := Lib.hid e2
        have Hrs := Lib.hid hrs
        have Hst := Lib.hid hst
        have E1 := Lib.hid e1
        have E3 := Lib.hid e3
        clear e1 e3 e2 hrs hst
        go_wp2_with fail
        go_ret3
        exact ⟨hbel, .inr ⟨hR.out, _, _, qs', M, rfl, E1.out, E2.out, E3.out, hout⟩⟩
end Go.Proofs.Ytmnckaofopechaa
