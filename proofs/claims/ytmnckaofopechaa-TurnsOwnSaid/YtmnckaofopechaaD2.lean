/- TurnsOwn. -/
import Derived.Test.YtmnckaofopechaaD1
import Derived.Deep.RegionLaw
import Derived.Deep.CutBlock
namespace Go.Proofs.Ytmnckaofopechaa
open Go.RowKit

theorem index42_0 (a b : Option Addr) (n c m d : Nat) (w : World) : (Instr.index 42 (.agg #[.slice a n c, .slice b m d]) (.int .i64 0)).run Try.prog w = .ok (.slice a n c) w := by
  unfold Instr.index
  simp [go_sem, run_underlying Try.underlying42, part, Try.sizeOf23, Try.isAgg23]
theorem index42_1 (a b : Option Addr) (n c m d : Nat) (w : World) : (Instr.index 42 (.agg #[.slice a n c, .slice b m d]) (.int .i64 1)).run Try.prog w = .ok (.slice b m d) w := by
  unfold Instr.index
  simp [go_sem, run_underlying Try.underlying42, part, Try.sizeOf23, Try.isAgg23]

/-- one element of queues that may be written. -/
theorem WT.elem {w : World} {B n c i : Nat} {a : Option Addr} (h : WT w B (.slice a n c)) (hi : i < n) :
    ∃ g x y au nu cu, a = some ⟨g, 0, none⟩ ∧ B ≤ g ∧ g < w.heap.size ∧ n ≤ c ∧ w.cell? ⟨g, i * 3, none⟩ = some (.int .i64 x) ∧ w.cell? ⟨g, i * 3 + 1, none⟩ = some (.int .i64 y) ∧ w.cell? ⟨g, i * 3 + 2, none⟩ = some (.slice au nu cu) ∧
      w.frozen? ⟨g, i * 3, none⟩ = false ∧ WI w B (.slice au nu cu) ∧ (∀ z, Pres w (w.setCell ⟨g, i * 3, none⟩ (.int .i64 z))) := by
  obtain ⟨a', n', c', e, h1, h2, h3⟩ := h
  simp only [Value.slice.injEq] at e
  obtain ⟨rfl, rfl, rfl⟩ := e
  obtain ⟨g, cur, rfl, hB, hg, hc⟩ := h3 (by omega)
  obtain ⟨⟨x, hx⟩, ⟨y, hy⟩, u, hu, hw⟩ := hc i hi
  obtain ⟨au, nu, cu, rfl, r⟩ := hw
  exact ⟨g, x, y, au, nu, cu, rfl, hB, lt_of_block hg, h1, by rw [cell_of_blk hg]; exact hx, by rw [cell_of_blk hg]; exact hy, by rw [cell_of_blk hg]; exact hu, free_of_blk hg, ⟨au, nu, cu, rfl, r⟩, fun z => Pres.set_share hg z x (by omega) hx⟩

theorem WI.elem {w : World} {B n c i : Nat} {a : Option Addr} (h : WI w B (.slice a n c)) (hi : i < c) :
    ∃ g o z, a = some ⟨g, o, none⟩ ∧ B ≤ g ∧ w.cell? ⟨g, o + i, none⟩ = some (.int .i64 z) ∧ w.frozen? ⟨g, o + i, none⟩ = false ∧ (∀ z, Pres w (w.setCell ⟨g, o + i, none⟩ (.int .i64 z))) := by
  obtain ⟨a', n', c', e, h1, h2, h3⟩ := h
  simp only [Value.slice.injEq] at e
  obtain ⟨rfl, rfl, rfl⟩ := e
  obtain ⟨g, o, cur, rfl, hB, hg, hs, hc⟩ := h3 (by omega)
  have hlt : o + i < cur.size := by omega
  obtain ⟨z, hz⟩ := hc (o + i) _ (Array.getElem?_eq_getElem hlt)
  exact ⟨g, o, z, rfl, hB, by rw [cell_of_blk hg, Array.getElem?_eq_getElem hlt, hz], free_of_blk hg, fun z => Pres.set_int hg z⟩

theorem WI.le {w : World} {B n c : Nat} {a : Option Addr} (h : WI w B (.slice a n c)) : n ≤ c ∧ c ≤ maxLen := by
  obtain ⟨a', n', c', e, h1, h2, h3⟩ := h
  simp only [Value.slice.injEq] at e
  obtain ⟨rfl, rfl, rfl⟩ := e
  exact ⟨h1, h2⟩

set_option maxRecDepth 100000 in
set_option maxHeartbeats 4000000 in
theorem c4 (v : Value) (qs : List Qu) (queue n : Int) (w : World) (h : TurnsAt w v qs) (hl : qs.length ≤ 3518437208781) (hl2 : ∀ i, i < qs.length → (qs.getD i default).sizes.length ≤ 17592186043904) :
    Calls Try.prog 4 #[v, .int .i64 queue, .int .i64 n] w fun e w' => e = .returned (.bool true) ∧ Below w.heap.size w w' := by
  generalize hB : w.heap.size = B at *
  obtain ⟨a0, c0, rfl⟩ : ∃ a c, v = .slice a qs.length c := by obtain ⟨a, cap, rfl, _⟩ := h; exact ⟨_, _, rfl⟩
  go_enter Try.func4, Try.ntmps4
  go_wp2_with fail
  go_loopw [7, 25] (fun v i wr => ∃ (k : Nat) (ps : List (Qu × Value)), k ≤ qs.length ∧ i = .int .i64 k ∧ Hid (ps.map Prod.fst = qs.take k ∧ ps.length = k) ∧ OwnsT wr B 35 3 AnyV v k (qcells ps) ∧ OwnQs wr B ps ∧ Below B w wr) (fun _ i _ => qs.length - (intOf i).toNat)
  case atStart => exact ⟨0, [], Nat.zero_le _, rfl, ⟨by simp, rfl⟩, OwnsT.nil _ _ _ _ _, ⟨fun i hi => by simp at hi, fun i j g hij hj => by simp at hj⟩, Below.refl _ _⟩
  case round =>
    obtain ⟨k, ps, hk, rfl, hps, hown, hqs, hbel⟩ := hrel
    by_cases hlt : k < qs.length
    · have h' := h
      obtain ⟨a', cap', e', _, _, h'⟩ := h'
      simp only [Value.slice.injEq, true_and] at e'
      obtain ⟨rfl, rfl⟩ := e'
      obtain ⟨b, o, rfl, hh⟩ := h' (by intro h0; subst h0; simp at hlt)
      have hq2 := hl2 k hlt
      obtain ⟨q1, q2, u, q3, q4⟩ := hh k hlt
      clear hh h' hl2
      generalize hq : qs.getD k default = q at *
      have Hq := Lib.hid hq; clear hq
      have hbb : b < B := by rw [← hB]; exact World.block_lt_of_cell? w _ q1
      rw [← hbel.cell (by exact hbb)] at q1 q2 q3
      have hI := q4.below hB.symm hbel
      clear q4
      obtain ⟨sh, sv, sz⟩ := q
      simp only at *
      have hu : u.oneCell' = true := by obtain ⟨a2, cap2, rfl, _⟩ := hI; rfl
      obtain ⟨a2, n2, cap2, rfl⟩ : ∃ a2 n2 cap2, u = .slice a2 n2 cap2 := by obtain ⟨a2, cap2, rfl, _⟩ := hI; exact ⟨_, _, _, rfl⟩
      have hnb : u7.ownBlock ≠ some wr.heap.size := fun e => by have := (hown.lt _ e).2; omega
      have hszB := hbel.size
      go_wp2_with (first
        | (go_at_call 10; refine (c10 _ _ _ (hI.alloc _) hq2).mono ?_; rintro e w2 ⟨v2, rfl, hI2, hbel2⟩; obtain ⟨d0, d1, d2, d3⟩ := local3 hbel2; obtain ⟨a3, c3, rfl⟩ := hI2.shape; have d4 := d3 2; clear d3; have hown2 := (hown.alloc (.cells #[.int .i64 sh, .int .i64 sv, .slice a2 n2 cap2] 35)).below hbel2 (Nat.le_refl _))
        | (at_builtin; go_loud (refine wpList_append_ownT _ rfl _ _ 23 rfl B 35 (.agg #[.int .i64 0, .int .i64 0, .slice none 0 0]) 3 40 AnyV Try.underlying23 info35 rfl (by decide) (fun _ _ _ => trivial) _ k (qcells ps) rfl ((hown2.setCell_other (a := ⟨wr.heap.size, 2, none⟩) hnb _).alloc _) (some ⟨w2.heap.size, 0, none⟩) 1 1 [.int .i64 sh, .int .i64 sv, .slice a3 sz.length c3] rfl rfl (by intro h; cases h) ?c1 ?c2 (fun _ _ _ => trivial) ?c4 ?c5 ?c6 ?_)))
      case c1 => exact src_new (w2.setCell _ _) [_, _, _] 35 _ (by simp)
      case c2 => intro u hu; simp at hu; rcases hu with rfl | rfl | rfl <;> rfl
      case c4 => unfold maxLen; omega
      case c5 => omega
      case c6 => have := hbel2.size; simp at this ⊢; omega
      intro v' w3 hown' hgrow _ _
      have hN := hbel2.size
      simp only [World.size_alloc] at hN
      have hkeep : ∀ g, g < w2.heap.size → some g ≠ u7.ownBlock → g ≠ wr.heap.size → w3.heap[g]? = w2.heap[g]? := fun g hg hne hn => by
        rw [hgrow.block g (by simp; omega) hne, Below.heap_alloc _ _ _ (by simpa using hg), Below.heap_setCell _ _ _ _ hn]
      have hqs' : OwnQs w3 B (ps ++ [(⟨sh, sv, sz⟩, .slice a3 sz.length c3)]) := by
        refine hqs.snoc (N := wr.heap.size) rfl (by omega) (fun i g hi hg => ?_) ?_
        · have hg1 := (hqs.each i hi).lt g hg
          have hne := hown.ne_block (hqs.each i hi) (by decide) (g := g)
          rw [hkeep g (by omega) (fun e => hne e.symm hg) (by omega), hbel2.block g (by simp; omega), Below.heap_alloc _ _ _ (by omega)]
        · refine (hI2.of_same fun g hg => ?_).base_le (by simp)
          have := hI2.lt g hg
          simp only [World.size_alloc] at this
          exact hkeep g (by omega) (fun e => by have := (hown.lt g e.symm).2; omega) (by omega)
      have hbel3 : Below B w w3 := by
        refine Below.grown ?_ hgrow (by simp; omega) (fun g hg => (hown.lt g hg).1)
        refine Below.alloc (Below.setCell ?_ (by simp; omega) _) (by simp; omega) _
        exact (hbel.alloc (by omega) _).trans (hbel2.mono (by simp; omega))
      have hown3 : OwnsT w3 B 35 3 AnyV v' (k + 1) (qcells (ps ++ [(⟨sh, sv, sz⟩, .slice a3 sz.length c3)])) := by
        rw [qcells_append]; exact hown'
      have hps' : Hid ((ps ++ [((⟨sh, sv, sz⟩ : Qu), (Value.slice a3 sz.length c3))]).map Prod.fst = qs.take (k + 1) ∧ (ps ++ [((⟨sh, sv, sz⟩ : Qu), (Value.slice a3 sz.length c3))]).length = k + 1) := by
        refine ⟨?_, by simp [hps.out.2]⟩
        rw [List.map_append, hps.out.1, List.take_succ_eq_append_getElem hlt]
        have := Hq.out
        simp [List.getD, hlt] at this
        simp [this]
      clear hown hown2 hqs hbel hgrow hI hI2 hbel2 hkeep hps d0 d1 d2 d4 hown' q1 q2 q3 hu
      go_wp2_with fail
      go_roundw
      case rel => exact ⟨k + 1, _, by omega, by go_num, hps', hown3, hqs', hbel3⟩
      case measure => simp [intOf]; omega
    · have hTF := TF.of_own (by rw [hps.out.1, List.take_of_length_le (by omega)]) (show OwnsT wr B 35 3 AnyV u7 qs.length (qcells ps) by rw [show qs.length = k from by omega]; exact hown) hqs
      have hT1 := hTF.at
      obtain ⟨a1, c1, rfl⟩ : ∃ a c, u7 = .slice a qs.length c := by obtain ⟨a, cap, rfl, _⟩ := hTF; exact ⟨_, _, rfl⟩
      clear hps hown hqs hTF
      have hA := h.below hB.symm hbel
      have hsz := hbel.size
      go_wp2_with fail
      refine (c11 _ qs _ _ _ hA hl hl2).mono ?_
      rintro e w2 ⟨hb2, v2, r2, q2, rfl, hTF2, hl16⟩
      have hsz2 := hb2.size
      have hA2 := hA.below rfl hb2
      have hT2 := hT1.below rfl hb2
      have hW2 := hTF2.wt (by omega)
      obtain ⟨a2, n2, c2, rfl⟩ : ∃ a n c, v2 = .slice a n c := by obtain ⟨a, cap, rfl, _⟩ := hTF2; exact ⟨_, _, _, rfl⟩
      clear hTF2 hl16
      go_wp2_with fail
      have H7 := c7 _ qs _ hA2 hl hl2
      refine H7.mono ?_
      rintro e w3 ⟨hb3, he⟩
      have he' : ∃ a3 n3 c3 l r, e = .returned (.tuple #[.slice a3 n3 c3, l, .int .i64 r]) ∧ WT w3 w2.heap.size (.slice a3 n3 c3) := by
        rcases he with ⟨_, r, _, rfl⟩ | ⟨hR, v, l, qs', M, rfl, e1, _, hTF, _⟩
        · exact ⟨_, _, _, _, _, rfl, (TF.nil _ _).wt (by simp)⟩
        · have := hTF.wt (by have := hR.1; omega)
          obtain ⟨a, cap, rfl, _⟩ := hTF
          exact ⟨_, _, _, _, _, rfl, this⟩
      clear he
      obtain ⟨a3, n3, c3, l3, r3, rfl, hW3⟩ := he'
      have hsz3 := hb3.size
      have hA3 := hA2.below rfl hb3
      have hT3 := hT2.below rfl hb3
      have hW2 := hW2.pres (Pres.of_below hb3)
      have hW3 := hW3.base (B' := wr.heap.size) (by omega)
      have hb4 : Below B w w3 := (hbel.trans (hb2.mono (by omega))).trans (hb3.mono (by omega))
      have hb5 : Below wr.heap.size wr w3 := hb2.trans (hb3.mono (by omega))
      clear hb2 hb3 hA2 hT2
      go_wp2_with fail
      refine (c12 _ _ qs _ hA3 hT3 hl hl2).mono ?_
      rintro e w4 ⟨rfl, hb6⟩
      have hW2 := hW2.pres (Pres.of_below hb6)
      have hW3 := hW3.pres (Pres.of_below hb6)
      have hsz4 := hb6.size
      have hb5 : Below wr.heap.size wr w4 := hb5.trans (hb6.mono (by omega))
      have hb4 : Below B w w4 := hb4.trans (hb6.mono (by omega))
      clear hb6 hA3 hT3
      go_wp2_with fail
      have hA0 := Lib.hid hA
      have hT0 := Lib.hid hT1
      have hBr : Hid (wr.heap.size = wr.heap.size) := rfl
      obtain ⟨Br, HBr⟩ : ∃ Br, Hid (Br = wr.heap.size) := ⟨_, rfl⟩
      rw [← HBr.out] at hW2 hW3 hb5 hsz
      have hBr4 : Br ≤ w4.heap.size := by have := HBr.out; omega
      clear hA hT1 hBr hbel hsz2 hsz3 hsz4
      go_loopw [57] (fun i wr2 => ∃ k : Nat, k ≤ 2 ∧ i = .int .i64 k ∧ Pres w4 wr2 ∧ Below Br w4 wr2) (fun i _ => 2 - (intOf i).toNat)
      case atStart => exact ⟨0, by omega, rfl, Pres.refl _, Below.refl _ _⟩
      case round =>
        clear hlt hk
        obtain ⟨k, hk, rfl, hp, hbel⟩ := hrel
        by_cases hlt : k < 2
        · have hX : ∃ a n c, Hid (WT w4 Br (.slice a n c)) ∧ Hid ((k = 0 → a = a2 ∧ n = n2 ∧ c = c2) ∧ (k = 1 → a = a3 ∧ n = n3 ∧ c = c3)) := by
            by_cases e : k = 0
            · exact ⟨a2, n2, c2, hW2, ⟨fun _ => ⟨rfl, rfl, rfl⟩, fun h => by omega⟩⟩
            · exact ⟨a3, n3, c3, hW3, ⟨fun h => by omega, fun _ => ⟨rfl, rfl, rfl⟩⟩⟩
          obtain ⟨ax, nx, cx, hWX, hX⟩ := hX
          have hnx : nx ≤ 1000000000 := by obtain ⟨a, n, c, e, _, h, _⟩ := hWX.out; simp only [Value.slice.injEq] at e; obtain ⟨_, rfl, _⟩ := e; exact h
          have hidx : ∀ w, (Instr.index 42 (.agg #[.slice a2 n2 c2, .slice a3 n3 c3]) (.int .i64 (k : Int))).run Try.prog w = .ok (.slice ax nx cx) w := fun w => by
            rcases (show k = 0 ∨ k = 1 by omega) with e | e
            · obtain ⟨rfl, rfl, rfl⟩ := hX.out.1 e
              subst e
              exact index42_0 _ _ _ _ _ _ w
            · obtain ⟨rfl, rfl, rfl⟩ := hX.out.2 e
              subst e
              exact index42_1 _ _ _ _ _ _ w
          go_wp2_with fail
          clear hidx hX hb5 hW2 hW3
          go_loopw [62] (fun i wr3 => ∃ m : Nat, m ≤ nx ∧ i = .int .i64 m ∧ Pres w4 wr3 ∧ Below Br w4 wr3) (fun i _ => nx - (intOf i).toNat)
          case atStart => exact ⟨0, by omega, rfl, hp, hbel⟩
          case round =>
            clear hp hbel
            obtain ⟨m, hm, rfl, hp, hbel⟩ := hrel
            by_cases hmn : m < nx
            · obtain ⟨g, x, y, au, nu, cu, rfl, hBg, hgl, hnc, q1, q2, q3, q4, hWI, hset⟩ := (hWX.out.pres hp).elem hmn
              have HWI := Lib.hid (hWI.pres (Pres.alloc wr (.cells #[.int .i64 x, .int .i64 y, .slice au nu cu] 35)))
              obtain ⟨hcu1, hcu2⟩ := hWI.le
              unfold maxLen at hcu2
              clear hset hWI
              have hsz3 := hbel.size
              have hp2 := Lib.hid (hp.trans (Pres.alloc wr (.cells #[.int .i64 x, .int .i64 y, .slice au nu cu] 35)))
              have hb2 := Lib.hid (hbel.alloc (by omega) (.cells #[.int .i64 x, .int .i64 y, .slice au nu cu] 35))
              go_wp2_with fail
              clear q1 q2 q3 q4
              generalize wr.alloc (.cells #[.int .i64 x, .int .i64 y, .slice au nu cu] 35) = wq at *
              go_loopw [74] (fun i wr4 => ∃ j : Nat, j ≤ cu ∧ i = .int .i64 j ∧ Pres wq wr4 ∧ Below Br w4 wr4) (fun i _ => cu - (intOf i).toNat)
              case atStart => exact ⟨0, by omega, rfl, Pres.refl _, hb2.out⟩
              case round =>
                clear hp hbel
                obtain ⟨j, hj, rfl, hp, hbel⟩ := hrel
                by_cases hjc : j < cu
                · obtain ⟨gu, ou, z, rfl, hBu, r1, r2, hset⟩ := (HWI.out.pres hp).elem hjc
                  have Hset := Lib.hid hset
                  have Hp := Lib.hid hp
                  clear hset hp
                  go_wp2_with fail
                  go_roundw
                  case rel => exact ⟨j + 1, by omega, by go_num, Hp.out.trans (Hset.out _), hbel.setCell (by exact hBu) _⟩
                  case measure => simp [intOf]; omega
                · have Hp := Lib.hid (hp2.out.trans hp)
                  clear hp
                  go_wp2_with fail
                  go_roundw
                  case rel => exact ⟨m + 1, by omega, by go_num, Hp.out, hbel⟩
                  case measure => simp [intOf]; omega
            · have Hp := Lib.hid hp
              clear hp
              go_wp2_with fail
              go_loopw [87] (fun i wr4 => ∃ j : Nat, j ≤ nx ∧ i = .int .i64 j ∧ Pres w4 wr4 ∧ Below Br w4 wr4) (fun i _ => nx - (intOf i).toNat)
              case atStart => exact ⟨0, by omega, rfl, Hp.out, hbel⟩
              case round =>
                clear hbel Hp
                obtain ⟨j, hj, rfl, hp, hbel⟩ := hrel
                by_cases hjc : j < nx
                · obtain ⟨g, x, y, au, nu, cu, rfl, hBg, hgl, hnc, q1, q2, q3, q4, hWI, hset⟩ := (hWX.out.pres hp).elem hjc
                  have Hset := Lib.hid hset
                  have Hp := Lib.hid hp
                  clear hset hp hWI
                  go_wp2_with fail
                  go_roundw
                  case rel => exact ⟨j + 1, by omega, by go_num, Hp.out.trans (Hset.out _), hbel.setCell (by exact hBg) _⟩
                  case measure => simp [intOf]; omega
                · have Hp := Lib.hid hp
                  clear hp
                  go_wp2_with fail
                  go_roundw
                  case rel => exact ⟨k + 1, by omega, by go_num, Hp.out, hbel⟩
                  case measure => simp [intOf]; omega
        · have hb5' := hb5.trans hbel
          have hAf := Lib.hid (hA0.out.below HBr.out hb5')
          have hTf := Lib.hid (hT0.out.below HBr.out hb5')
          have hbB : Below B w wr := hb4.trans (hbel.mono (by omega))
          have hszB := hbB.size
          clear hp hbel hb5'
          go_wp2_with fail
          refine (c5 _).mono ?_
          rintro e w5 ⟨rfl, hb6⟩
          have hAg := hAf.out.below rfl hb6
          have hTg := hTf.out.below rfl hb6
          have hb7 : Below B w w5 := hbB.trans (hb6.mono (by omega))
          have hsz5 := hb6.size
          clear hb6 hbB
          go_wp2_with (go_at_call 12; refine (c12 _ _ qs _ hAg hTg hl hl2).mono ?_; rintro e w6 ⟨rfl, hb8⟩)
          go_ret
          exact ⟨rfl, hb7.trans (hb8.mono (by omega))⟩
end Go.Proofs.Ytmnckaofopechaa
