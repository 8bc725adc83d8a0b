/- WheelOf: the lists that things make. -/
import Derived.Test.YtefikkmhdjlccaaV1
import Derived.Test.YtefikkmhdjlccaaO2
namespace Go.Proofs.Ytefikkmhdjlccaa
open Go.RowKit

/-- the lists that things make. -/
def ofM (now : Int) (l : List Du) : Ls := fun j => l.filter (fun d => listM now d.tm == j)
theorem ofM_nil (now : Int) : ofM now [] = fun _ => [] := rfl
theorem ofM_snoc (now : Int) (l : List Du) (d : Du) : ofM now (l ++ [d]) = upd (ofM now l) (listM now d.tm) (ofM now l (listM now d.tm) ++ [d]) := by
  funext j
  by_cases e : j = listM now d.tm
  · subst e
    rw [upd_same]
    simp [ofM, List.filter_append]
  · rw [upd_other _ _ _ e]
    have : (listM now d.tm == j) = false := by simpa using fun h : listM now d.tm = j => e h.symm
    simp [ofM, List.filter_append, this]
theorem ofM_right {now : Int} {f : Ls} (h : Right now f) {i : Nat} (hi : i < 96) : ofM now (allM f) i = f i := by
  unfold ofM allM
  rw [filter_allTo f _ i 96 (fun j hj hne => ?_), if_pos hi]
  · exact List.filter_eq_self.2 fun d hd => by simpa using (h.each i hi d hd).2.2
  · rw [List.filter_eq_nil_iff]
    intro d hd
    have := (h.each j hj d hd).2.2
    simp; omega

/-- what WheelOf's walk carries along. -/
def WoSt (w : World) (B : Nat) (N : Int) (F : Ls) (wr : World) : Prop := ∃ V', Blk wr B 0 nilV ∧ Blk wr (B + 1) N V' ∧ Own wr (B + 2) 96 V' F ∧ Below B w wr ∧ B + 2 ≤ wr.heap.size
theorem WoSt.put {w wr w' : World} {B : Nat} {N : Int} {V : Nat → Value} {F : Ls} {i : Nat} {l : List Du} (h0 : Blk wr B 0 nilV) (h1 : Blk wr (B + 1) N V) (ho : Own wr (B + 2) 96 V F) (hb : Below B w wr) (hs : B + 2 ≤ wr.heap.size) (hi : i < 96) (hp : PutEnd wr (B + 2) (B + 1) N V i l w') : WoSt w B N (upd F i l) w' := by
  obtain ⟨v', p1, p2, p3, p4⟩ := hp
  have hlow : ∀ x, (x = B + 1 ∨ (V i).ownBlock = some x) → B + 1 ≤ x := fun x hx => by
    rcases hx with rfl | hx
    · exact Nat.le_refl _
    · have := ((ho.each i hi).lt x hx).1; omega
  have hbel := p3.below hlow (by omega)
  refine ⟨upd V i v', h0.below hbel (by omega), p1, ho.turn hi p2 (fun j hj hne k hk => ?_) p4, hb.trans (hbel.mono (by omega)), by have := p3.size; omega⟩
  refine p3.block k ((ho.each j hj).lt k hk).2 (fun hx => ?_)
  rcases hx with rfl | hx
  · exact ho.ne_blk h1 j hj hk
  · exact ho.apart j i hj hi hne k hk hx

set_option maxHeartbeats 2000000 in
theorem c30 (N : Nat) (v : Value) (l : List Du) (w : World) (h : DuesAt w v l) (hl : l.length ≤ 500) (hN : N < 16777216) (hd : ∀ d ∈ l, (N : Int) < d.tm ∧ d.tm < 16777216) :
    Calls Try.prog 30 #[.int .i64 N, v] w fun e w' => ∃ V', e = .returned (.agg (Cw N V')) ∧ Own w' w.heap.size 96 V' (ofM N l) ∧ Below w.heap.size w w' := by
  obtain ⟨a, cap, rfl, hc, _, _⟩ := id h
  generalize hB : w.heap.size = B at *
  obtain ⟨w1, hW⟩ : ∃ w1, w1 = (w.alloc (.cells (Cw 0 nilV) 25)).alloc (.cells (Cw N nilV) 25) := ⟨_, rfl⟩
  have hs1 : w1.heap.size = B + 2 := by rw [hW]; simp [hB]
  have hb1 : Below B w w1 := by rw [hW]; exact (((Below.refl B w).alloc (by omega) _).alloc (by simp; omega) _)
  have k0 : Blk w1 B 0 nilV := by
    rw [hW, Blk, Below.heap_alloc _ _ _ (by simp; omega), ← hB]; exact heap_alloc_new w _
  have k1 : Blk w1 (B + 1) N nilV := by
    have := heap_alloc_new (w.alloc (.cells (Cw 0 nilV) 25)) (.cells (Cw N nilV) 25)
    rw [hW, Blk]
    simpa [hB] using this
  have r1 : ((w.alloc (.cells (Cw 0 nilV) 25)).alloc (.cells (Cw 0 nilV) 25)).heap[B + 1]? = some (.cells (Cw 0 nilV) 25 (0, 0)) := by
    have := heap_alloc_new (w.alloc (.cells (Cw 0 nilV) 25)) (.cells (Cw 0 nilV) 25)
    simpa [hB] using this
  have R1 := Lib.hid r1
  have Hb1 := Lib.hid hb1
  have K0 := Lib.hid k0
  have K1 := Lib.hid k1
  have H0 := Lib.hid h
  have HW := Lib.hid hW
  have Hd := Lib.hid hd
  have hs1l : B + 2 ≤ w1.heap.size := by omega
  clear hb1 k0 k1 h hW hs1 r1 hd
  have zv := zv25
  go_enter Try.func30, Try.ntmps30
  go_wp2_with (refine wpList_store_row rfl 25 (.tmp 5) (.tmp 10) rfl (B + 1) ((Cw 0 nilV).setIfInBounds 0 (.int .i64 N)) rfl rfl 25 (Cw 0 nilV) R1.out (by rw [Cw_tick, Cw_size]; exact info25) (by rw [Cw_tick, Cw_size, Cw_size]) (by rw [Cw_tick]; exact Cw_one _ _ (fun _ _ => rfl)) ?_; rw [Cw_tick, setRow_alloc_at _ _ _ _ _ (by simp [hB])])
  rw [← HW.out]
  go_loopw [13] (fun i wr => ∃ k : Nat, k ≤ l.length ∧ i = .int .i64 k ∧ WoSt w B N (ofM N (l.take k)) wr) (fun i _ => l.length - (intOf i).toNat)
  case atStart => exact ⟨0, by omega, rfl, nilV, K0.out, K1.out, Own.zero _ _ _, Hb1.out, hs1l⟩
  case round =>
    clear K0 K1
    obtain ⟨k, hk, rfl, V', K0, K1, ho, hbel, hsz⟩ := hrel
    by_cases hlt : k < l.length
    · have hdk := Hd.out _ (getD_mem hlt)
      have htake : Hid (ofM N (l.take (k + 1)) = upd (ofM N (l.take k)) (listM N (l.getD k default).tm) (ofM N (l.take k) (listM N (l.getD k default).tm) ++ [l.getD k default])) := by
        show _ = _
        rw [← ofM_snoc]
        congr 1
        rw [List.take_add_one]
        simp [List.getD, hlt]
      have hD := H0.out.below hB.symm hbel
      obtain ⟨a', c', e0, _, _, hDc⟩ := hD
      simp only [Value.slice.injEq, true_and] at e0
      obtain ⟨rfl, rfl⟩ := e0
      obtain ⟨b, o, rfl, hcell⟩ := hDc (by intro e; rw [e] at hlt; simp at hlt)
      obtain ⟨q1, q2⟩ := hcell k hlt
      clear hDc hcell
      generalize hdd : l.getD k default = d at *
      obtain ⟨id, tm⟩ := d
      simp only at q1 q2 hdk
      obtain ⟨t, rfl⟩ := Int.eq_ofNat_of_zero_le (show 0 ≤ tm by omega)
      have hg0 : (k : Int) < l.length := by omega
      have K0 := Lib.hid K0
      have K1 := Lib.hid K1
      have Ho := Lib.hid ho
      have Hbel := Lib.hid hbel
      have Hdd := Lib.hid hdd
      clear ho hbel hdd
      have hi := listN_lt N t
      have hlN : listM (N : Int) (t : Int) = listN N t := by rw [listM, show ((N : Int)).toNat = N by omega, show ((t : Int)).toNat = t by omega]
      rw [hlN] at htake
      have hc33 := fun wx => c33 N t wx hN (by omega) (by omega)
      generalize hI : listN N t = i at *
      have hlen : Hid ((ofM N (l.take k) i).length ≤ 500) := by
        show _ ≤ _
        unfold ofM
        have := List.length_filter_le (fun d => listM (N : Int) d.tm == i) (l.take k)
        rw [List.length_take] at this
        omega
      generalize hL : ofM N (l.take k) i = L at *
      have hlen := hlen.out
      obtain ⟨av, cv, hv⟩ := (Ho.out.each i hi).shape
      rw [hL] at hv
      have Hc := Lib.hid hc33
      have HI := Lib.hid hI
      have HL := Lib.hid hL
      have Hv := Lib.hid hv
      have hi0 : (i : Int) < 96 := by omega
      clear hc33 hI hL hv hlN
      go_upto_block 1 with fail
      go_cut [] (fun wx => WoSt w B N (ofM N (l.take (k + 1))) wx)
      case first =>
        go_wp2_with fail
        refine (Hc.out _).mono ?_
        rintro e w2 ⟨rfl, n2, rfl⟩
        obtain ⟨w1, hW1⟩ : ∃ w1, (wr.alloc (.cells #[.int .i64 id, .int .i64 (t : Int)] 33)).drewN n2 = w1 := ⟨_, rfl⟩
        have hbel1 : Below wr.heap.size wr w1 := by rw [← hW1]; exact (Below.of_alloc wr _).drewN' n2
        have hb0 : Blk w1 B 0 nilV := K0.out.below hbel1 (by omega)
        have hb1 : Blk w1 (B + 1) N V' := K1.out.below hbel1 (by omega)
        have hoO : Own w1 (B + 2) 96 V' (ofM N (l.take k)) := Ho.out.below hbel1 (Nat.le_refl _)
        have ho1 : OwnD w1 (B + 2) (V' i) L := by have := hoO.each i hi; rwa [HL.out] at this
        have hd1 : w1.heap[wr.heap.size]? = some (.cells #[.int .i64 id, .int .i64 (t : Int)] 33 (0, 0)) := by rw [← hW1]; exact heap_alloc_new wr _
        have hs1 : wr.heap.size + 1 ≤ w1.heap.size := by rw [← hW1]; simp
        have hbelw : Below B w w1 := Hbel.out.trans (hbel1.mono (by omega))
        have hgl1 : B + 1 < w1.heap.size := by omega
        have hdl1 : wr.heap.size < w1.heap.size := by omega
        have HW1 := Lib.hid hW1
        rw [HW1.out]
        clear q1 q2 hW1 hbel1
        have k1 : w1.cell? ⟨B + 1, 1 + i, none⟩ = some (.slice av L.length cv) := by rw [Nat.add_comm 1 i, cell_of_blk hb1, Cw_get _ _ i hi, Hv.out]
        have k2 : w1.frozen? ⟨B + 1, 1 + i, none⟩ = false := free_of_blk hb1
        have d0 : w1.cell? ⟨wr.heap.size, 0, none⟩ = some (.int .i64 id) := by rw [cell_of_blk hd1]; rfl
        have d1 : w1.cell? ⟨wr.heap.size, 1, none⟩ = some (.int .i64 (t : Int)) := by rw [cell_of_blk hd1]; rfl
        have hgo : ∀ v6 w6, ((w1.alloc (.cells #[.int .i64 id, .int .i64 (t : Int)] 33)).drew).grownBy w6 (Value.slice av L.length cv).ownBlock → OwnsT w6 (B + 2) 33 2 DuT v6 (L.length + 1) (duCells L ++ [.int .i64 id, .int .i64 (t : Int)]) →
            (v6.ownBlock = (Value.slice av L.length cv).ownBlock ∨ v6.ownBlock = some ((w1.alloc (.cells #[.int .i64 id, .int .i64 (t : Int)] 33)).drew).heap.size) →
            w6.frozen? ⟨B + 1, 1 + i, none⟩ = false ∧ w6.cell? ⟨B + 1, 1 + i, none⟩ = some (.slice av L.length cv) ∧ WoSt w B N (ofM N (l.take (k + 1))) (w6.setCell ⟨B + 1, 1 + i, none⟩ v6) := by
          intro v6 w6 hg6 ho6 hv6
          rw [← Hv.out] at hg6 hv6
          have hb6 : Blk w6 (B + 1) N V' := by
            refine hb1.keep ((hg6.block (B + 1) (by simp; omega) (fun e => ho1.ne hb1 (by decide) e.symm)).trans ?_)
            exact Below.heap_alloc w1 _ (B + 1) hb1.lt
          have ho6' : OwnD w6 (B + 2) v6 (L ++ [⟨id, t⟩]) := by
            unfold OwnD
            rw [duCells_append, List.length_append]
            exact ho6
          refine ⟨free_of_blk hb6, by rw [Nat.add_comm 1 i, cell_of_blk hb6, Cw_get _ _ i hi, Hv.out], ?_⟩
          rw [htake.out]
          refine WoSt.put hb0 hb1 hoO hbelw (by omega) hi ⟨v6, ?_, ?_, ?_, ?_⟩
          · rw [Nat.add_comm 1 i]; exact hb6.set hi v6
          · exact ho6'.of_same (fun k hk => Below.heap_setCell _ _ _ _ (fun e => ho6'.ne hb6 (by decide) (by rw [hk, e])))
          · exact ((((Fr.refl (fun x => x = B + 1 ∨ (V' i).ownBlock = some x) w1).alloc _).drew).grown hg6 (fun k hk => .inl (.inr hk))).setCell (.inl (.inl rfl)) _
          · rcases hv6 with h | h
            · exact .inr (.inl h)
            · exact .inr (.inr ⟨_, h, by simp⟩)
        have Hgo := Lib.hid hgo
        have ho1 := Hv.out ▸ ho1
        have Ho1 := Lib.hid ho1
        have hb1l : B + 2 ≤ w1.heap.size := by omega
        clear hgo ho1 hb1 hd1 hb0 hoO hbelw
        go_wp2_with fail
        go_region_law (refine step_append_ownT _ rfl _ _ 22 rfl (B + 2) 33 (.agg #[.int .i64 0, .int .i64 0]) 2 16 DuT Try.underlying22 info33 rfl (by decide) DuT_zero (.slice av L.length cv) L.length (duCells L) (by simp [Act.eval]) (by exact (Ho1.out.alloc _).drew) (some ⟨w1.heap.size, 0, none⟩) 1 1 [.int .i64 id, .int .i64 (t : Int)] (by simp [Act.eval]) rfl (by intro h; cases h) (by exact src_new w1 [_, _] 33 _ rfl) (one_cells [⟨id, t⟩]) (DuT_cells [⟨id, t⟩] _) (by unfold maxLen; omega) (by omega) (by simp; omega) ?_; intro v6 w6 hown6 hgrow6 _ hv6; obtain ⟨hf6, hc6, hx6⟩ := Hgo.out v6 w6 hgrow6 hown6 hv6; obtain ⟨av6, cv6, rfl⟩ := hown6.shape; have Hx6 := Lib.hid hx6; clear hgrow6 hown6 hv6 hx6)
        all_goals
          go_wp2_with fail
          go_meet
          case rel => exact Hx6.out
      case rest =>
        have Hcut := Lib.hid hcut
        clear hcut
        go_wp2_with fail
        go_roundw
        case rel => exact ⟨k + 1, by omega, by go_num, Hcut.out⟩
        case measure => simp [intOf]; omega
    · obtain rfl : k = l.length := by omega
      rw [List.take_length] at ho
      have k0 := Lib.hid K0
      have k1 := Lib.hid K1
      have Ho := Lib.hid ho
      have One := Lib.hid (ho.at (Nat.le_refl _)).one
      clear K0 K1 ho
      go_wp2_with (first
        | (refine wpList_load_row rfl 25 (.tmp 5) rfl (B + 1) rfl 25 (Cw N V') (0, 0) _ k1.out Try.underlying25 rfl (by rw [Cw_size]; exact info25) ?_)
        | (refine wpList_store_row rfl 25 (.tmp 4) (.tmp 32) rfl B (Cw N V') rfl rfl 25 (Cw 0 nilV) k0.out (by rw [Cw_size]; exact info25) (by rw [Cw_size, Cw_size]) (Cw_one N V' One.out) ?_))
      refine bodyPost_ret (ret25_1 rfl _ _ B N V' rfl (setRow_heap _ _ _ _ _ _ k0.out)) rfl ?_
      refine ⟨V', rfl, ?_, below_setRow hbel (by omega) _⟩
      refine (Ho.out.of_same fun i hi g hg => setRow_other _ _ _ _ (fun e => ?_)).base (by omega)
      exact Ho.out.ne_blk k0.out i hi (by rw [hg, e])
end Go.Proofs.Ytefikkmhdjlccaa
