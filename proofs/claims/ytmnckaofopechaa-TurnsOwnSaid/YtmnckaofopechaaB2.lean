/- own hands back queues of the call's own. -/
import Derived.Test.YtmnckaofopechaaB1
namespace Go.Proofs.Ytmnckaofopechaa
open Go.RowKit

theorem Below.of_alloc (w : World) (o : Obj) : Below w.heap.size w (w.alloc o) := (Below.refl _ _).alloc (Nat.le_refl _) _
theorem IntsAt.alloc {w : World} {v : Value} {xs : List Int} (h : IntsAt w v xs) (o : Obj) : IntsAt (w.alloc o) v xs := h.below rfl (Below.of_alloc w o)

theorem OwnsT.of_row {w : World} {base : Nat} {e : TypeId} {size : Nat} {v : Value} {n : Nat} {xs : List Value} (h : w.ownsRow base e size v n xs) : OwnsT w base e size (fun _ _ => True) v n xs := by
  obtain ⟨h1, h2 | ⟨g, cap, cur, a1, a2, a3, a4, a5, a6, a7⟩⟩ := h
  · exact ⟨h1, .inl h2⟩
  · exact ⟨h1, .inr ⟨g, cap, cur, a1, a2, a3, a4, a5, a6, a7, fun _ _ _ => trivial⟩⟩

def AnyV (_ : Nat) (_ : Value) : Prop := True

def qcells (ps : List (Qu × Value)) : List Value := ps.flatMap fun p => [.int .i64 p.1.share, .int .i64 p.1.saved, p.2]
theorem qcells_append (a b : List (Qu × Value)) : qcells (a ++ b) = qcells a ++ qcells b := by simp [qcells]

structure OwnQs (w : World) (B : Nat) (ps : List (Qu × Value)) : Prop where
  each : ∀ i, i < ps.length → OwnsI w B (ps.getD i default).2 (ps.getD i default).1.sizes
  apart : ∀ i j g, i < j → j < ps.length → (ps.getD i default).2.ownBlock = some g → (ps.getD j default).2.ownBlock ≠ some g

/-- a local struct of three cells, behind a call that keeps what there was. -/
theorem local3 {w w2 : World} {t : TypeId} {x y z : Value} (h : Below (w.alloc (.cells #[x, y, z] t)).heap.size (w.alloc (.cells #[x, y, z] t)) w2) :
    w2.cell? ⟨w.heap.size, 0, none⟩ = some x ∧ w2.cell? ⟨w.heap.size, 1, none⟩ = some y ∧ w2.cell? ⟨w.heap.size, 2, none⟩ = some z ∧ ∀ o, w2.frozen? ⟨w.heap.size, o, none⟩ = false := by
  have hb := h.block w.heap.size (by simp)
  rw [heap_alloc_new] at hb
  refine ⟨by simp [World.cell?, hb], by simp [World.cell?, hb], by simp [World.cell?, hb], fun o => by simp [World.frozen?, hb]⟩

theorem OwnsI.shape {w : World} {B : Nat} {v : Value} {xs : List Int} (h : OwnsI w B v xs) : ∃ a cap, v = .slice a xs.length cap := by
  obtain ⟨_, ⟨rfl, h0⟩ | ⟨g, cap, cur, rfl, _⟩⟩ := h
  · exact ⟨none, 0, by rw [h0]⟩
  · exact ⟨_, _, rfl⟩

theorem OwnsT.ne_block {w : World} {base base' : Nat} {e e' : TypeId} {size size' : Nat} {T T' : Nat → Value → Prop} {v v' : Value} {n n' : Nat} {xs xs' : List Value} (h : OwnsT w base e size T v n xs) (h' : OwnsT w base' e' size' T' v' n' xs') (hne : e ≠ e') {g : Nat} (hg : v.ownBlock = some g) : v'.ownBlock ≠ some g := by
  intro hg'
  obtain ⟨_, ⟨rfl, _⟩ | ⟨g1, cap, cur, rfl, _, a, _⟩⟩ := h
  · cases hg
  obtain ⟨_, ⟨rfl, _⟩ | ⟨g2, cap', cur', rfl, _, b, _⟩⟩ := h'
  · cases hg'
  simp only [Value.ownBlock, Option.some.injEq] at hg hg'
  subst hg; subst hg'
  rw [a] at b
  simp at b
  exact hne b.2

theorem src_new (w : World) (cs : List Value) (t : TypeId) (n : Nat) (hn : n = w.heap.size) : ∀ a : Addr, some (⟨n, 0, none⟩ : Addr) = some a → ∀ (j : Nat) (u : Value), cs[j]? = some u → (w.alloc (.cells cs.toArray t)).cell? (a.add j) = some u := by
  intro a ha j u hu
  obtain rfl := Option.some.inj ha
  subst hn
  rw [Addr.add_lit, Nat.zero_add, World.cell?_alloc_new]
  simpa using hu

theorem OwnQs.snoc {wr w3 : World} {B N : Nat} {ps : List (Qu × Value)} {q : Qu} {v : Value} (h : OwnQs wr B ps) (hN : N = wr.heap.size) (hB : B ≤ N)
    (hk : ∀ i g, i < ps.length → (ps.getD i default).2.ownBlock = some g → w3.heap[g]? = wr.heap[g]?) (hv : OwnsI w3 N v q.sizes) : OwnQs w3 B (ps ++ [(q, v)]) := by
  have e1 : ∀ i, i < ps.length → (ps ++ [(q, v)]).getD i default = ps.getD i default := fun i hi => by simp [List.getD, List.getElem?_append, hi]
  have e2 : (ps ++ [(q, v)]).getD ps.length default = (q, v) := by simp [List.getD]
  constructor
  · intro i hi
    by_cases hl : i < ps.length
    · rw [e1 i hl]
      exact (h.each i hl).of_same fun g hg => hk i g hl hg
    · obtain rfl : i = ps.length := by simp at hi; omega
      rw [e2]
      exact hv.base_le hB
  · intro i j g hij hj
    have hi : i < ps.length := by simp at hj; omega
    rw [e1 i hi]
    by_cases hl : j < ps.length
    · rw [e1 j hl]; exact h.apart i j g hij hl
    · obtain rfl : j = ps.length := by simp at hj; omega
      rw [e2]
      intro hg hg'
      have h1 := (h.each i hi).lt g hg
      have h2 := hv.lt g hg'
      omega

theorem info35 : (Try.prog.info? 35).map (fun i => (i.zero, i.size, i.bytes)) = some (some (.agg #[.int .i64 0, .int .i64 0, .slice none 0 0]), 3, 40) := by kernel_rfl

set_option maxHeartbeats 400000 in
theorem c19 (v : Value) (qs : List Qu) (w : World) (h : TurnsAt w v qs) (hl : qs.length ≤ 3518437208781) (hl2 : ∀ i, i < qs.length → (qs.getD i default).sizes.length ≤ 17592186043904) :
    Calls Try.prog 19 #[v] w fun e w' => ∃ v' ps, e = .returned v' ∧ ps.map Prod.fst = qs ∧ OwnsT w' w.heap.size 35 3 AnyV v' qs.length (qcells ps) ∧ OwnQs w' w.heap.size ps ∧ Below w.heap.size w w' := by
  obtain ⟨a, cap, rfl, hc, _, h⟩ := h
  generalize hB : w.heap.size = B at *
  obtain ⟨i0, hi, hz0, hz1, hz2⟩ := info_parts info35
  go_enter Try.func19, Try.ntmps19
  go_wp2_with (at_make; refine wpList_make_own _ rfl _ _ 23 rfl B 35 i0 _ 3 Try.underlying23 hi hz0 hz1 _ _ _ qs.length rfl rfl rfl ?c1 ?c2 ?c3 ?_)
  case c1 => rw [hz2]; omega
  case c2 => unfold maxLen; omega
  case c3 => omega
  intro w1 hown hgrow
  have hbel1 : Below B w w1 := (Below.refl B w).grown hgrow (by omega) (by intro k hk; cases hk)
  have hown1 := OwnsT.of_row hown
  clear hown hgrow
  go_wp2_with fail
  go_loopw [3, 11] (fun v i wr => ∃ (k : Nat) (ps : List (Qu × Value)), k ≤ qs.length ∧ i = .int .i64 k ∧ Hid (ps.map Prod.fst = qs.take k ∧ ps.length = k) ∧ OwnsT wr B 35 3 AnyV v k (qcells ps) ∧ OwnQs wr B ps ∧ Below B w wr) (fun _ i _ => qs.length - (intOf i).toNat)
  case atStart => exact ⟨0, [], Nat.zero_le _, rfl, ⟨by simp, rfl⟩, hown1, ⟨fun i hi => by simp at hi, fun i j g hij hj => by simp at hj⟩, hbel1⟩
  case round =>
    obtain ⟨k, ps, hk, rfl, hps, hown, hqs, hbel⟩ := hrel
    clear hown1 hbel1
    by_cases hlt : k < qs.length
    · obtain ⟨b, o, rfl, hh⟩ := h (by intro h0; subst h0; simp at hlt)
      have hq2 := hl2 k hlt
      obtain ⟨q1, q2, u, q3, q4⟩ := hh k hlt
      clear hh h hl2
      generalize hq : qs.getD k default = q at *
      have Hq := Lib.hid hq; clear hq
      have hbb : b < B := by rw [← hB]; exact World.block_lt_of_cell? w _ q1
      rw [← hbel.cell (by exact hbb)] at q1 q2 q3
      have hI := q4.below hB.symm hbel
      clear q4
      obtain ⟨sh, sv, sz⟩ := q
      simp only at *
      have hu : u.oneCell' = true := by obtain ⟨a2, cap2, rfl, _⟩ := hI; rfl
      obtain ⟨a2, n2, cap2, rfl⟩ : ∃ a2 n2 cap2, u = .slice a2 n2 cap2 := by obtain ⟨a2, cap2, rfl, _⟩ := hI; exact ⟨_, _, _, rfl⟩
      have hnb : u3.ownBlock ≠ some wr.heap.size := fun e => by have := (hown.lt _ e).2; omega
      have hszB := hbel.size
      go_wp2_with (first
        | (go_at_call 10; refine (c10 _ _ _ (hI.alloc _) hq2).mono ?_; rintro e w2 ⟨v2, rfl, hI2, hbel2⟩; obtain ⟨d0, d1, d2, d3⟩ := local3 hbel2; obtain ⟨a3, c3, rfl⟩ := hI2.shape; have d4 := d3 2; clear d3; have hown2 := (hown.alloc (.cells #[.int .i64 sh, .int .i64 sv, .slice a2 n2 cap2] 35)).below hbel2 (Nat.le_refl _))
        | (at_builtin; go_loud (refine wpList_append_ownT _ rfl _ _ 23 rfl B 35 (.agg #[.int .i64 0, .int .i64 0, .slice none 0 0]) 3 40 AnyV Try.underlying23 info35 rfl (by decide) (fun _ _ _ => trivial) _ k (qcells ps) rfl ((hown2.setCell_other (a := ⟨wr.heap.size, 2, none⟩) hnb _).alloc _) (some ⟨w2.heap.size, 0, none⟩) 1 1 [.int .i64 sh, .int .i64 sv, .slice a3 sz.length c3] rfl rfl (by intro h; cases h) ?c1 ?c2 (fun _ _ _ => trivial) ?c4 ?c5 ?c6 ?_)))
      case c1 => exact src_new (w2.setCell _ _) [_, _, _] 35 _ (by simp)
      case c2 => intro u hu; simp at hu; rcases hu with rfl | rfl | rfl <;> rfl
      case c4 => unfold maxLen; omega
      case c5 => omega
      case c6 => have := hbel2.size; simp at this ⊢; omega
      intro v' w3 hown' hgrow _ _
      have hN := hbel2.size
      simp only [World.size_alloc] at hN
      have hkeep : ∀ g, g < w2.heap.size → some g ≠ u3.ownBlock → g ≠ wr.heap.size → w3.heap[g]? = w2.heap[g]? := fun g hg hne hn => by
        rw [hgrow.block g (by simp; omega) hne, Below.heap_alloc _ _ _ (by simpa using hg), Below.heap_setCell _ _ _ _ hn]
      have hqs' : OwnQs w3 B (ps ++ [(⟨sh, sv, sz⟩, .slice a3 sz.length c3)]) := by
        refine hqs.snoc (N := wr.heap.size) rfl (by omega) (fun i g hi hg => ?_) ?_
        · have hg1 := (hqs.each i hi).lt g hg
          have hne := hown.ne_block (hqs.each i hi) (by decide) (g := g)
          rw [hkeep g (by omega) (fun e => hne e.symm hg) (by omega), hbel2.block g (by simp; omega), Below.heap_alloc _ _ _ (by omega)]
        · refine (hI2.of_same fun g hg => ?_).base_le (by simp)
          have := hI2.lt g hg
          simp only [World.size_alloc] at this
          exact hkeep g (by omega) (fun e => by have := (hown.lt g e.symm).2; omega) (by omega)
      have hbel3 : Below B w w3 := by
        refine Below.grown ?_ hgrow (by simp; omega) (fun g hg => (hown.lt g hg).1)
        refine Below.alloc (Below.setCell ?_ (by simp; omega) _) (by simp; omega) _
        exact (hbel.alloc (by omega) _).trans (hbel2.mono (by simp; omega))
      have hown3 : OwnsT w3 B 35 3 AnyV v' (k + 1) (qcells (ps ++ [(⟨sh, sv, sz⟩, .slice a3 sz.length c3)])) := by
        rw [qcells_append]; exact hown'
      have hps' : Hid ((ps ++ [((⟨sh, sv, sz⟩ : Qu), (Value.slice a3 sz.length c3))]).map Prod.fst = qs.take (k + 1) ∧ (ps ++ [((⟨sh, sv, sz⟩ : Qu), (Value.slice a3 sz.length c3))]).length = k + 1) := by
        refine ⟨?_, by simp [hps.out.2]⟩
        rw [List.map_append, hps.out.1, List.take_succ_eq_append_getElem hlt]
        have := Hq.out
        simp [List.getD, hlt] at this
        simp [this]
      clear hown hown2 hqs hbel hgrow hI hI2 hbel2 hkeep hps d0 d1 d2 d4 hown' q1 q2 q3 hu
      go_wp2_with fail
      go_roundw
      case rel => exact ⟨k + 1, _, by omega, by go_num, hps', hown3, hqs', hbel3⟩
      case measure => simp [intOf]; omega
    · go_wp2_with fail
      go_ret
      exact ⟨_, ps, rfl, by rw [hps.out.1, List.take_of_length_le (by omega)], by rw [show qs.length = k from by omega]; exact hown, hqs, hbel⟩
end Go.Proofs.Ytmnckaofopechaa
