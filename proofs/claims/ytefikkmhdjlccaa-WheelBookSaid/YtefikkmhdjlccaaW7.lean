/- A turn: the walk. -/
import Derived.Test.YtefikkmhdjlccaaW6
namespace Go.Proofs.Ytefikkmhdjlccaa
open Go.RowKit

theorem mask_eq (nw j : Nat) (hj : j ≤ 5) (hn : nw < 16777216) : bits BinOp.and IntKind.i64 (nw : Int) (wrap64 (wrap64 (2 ^ (4 * j)) - 1)) = ((nw % 16 ^ j : Nat) : Int) := by
  have e : wrap64 (wrap64 (2 ^ (4 * j)) - 1) = ((2 ^ (4 * j) - 1 : Nat) : Int) := by
    rcases (show j = 0 ∨ j = 1 ∨ j = 2 ∨ j = 3 ∨ j = 4 ∨ j = 5 by omega) with rfl | rfl | rfl | rfl | rfl | rfl <;> simp [wrap64]
  have hp : 2 ^ (4 * j) ≤ 2 ^ 20 := Nat.pow_le_pow_right (by decide) (by omega)
  rw [e, i64_and_nat nw (2 ^ (4 * j) - 1) (by omega) (by omega), Nat.and_two_pow_sub_one_eq_mod, Nat.pow_mul]

theorem idx_eq (nw j : Nat) (hj : j ≤ 5) (hn : nw < 16777216) : wrap64 (16 * (j : Int) + bits BinOp.and IntKind.i64 ((nw : Int) / 2 ^ (4 * j)) 15) = ((idxM nw j : Nat) : Int) := by
  have hm : nw / 2 ^ (4 * j) < 16777216 := Nat.lt_of_le_of_lt (Nat.div_le_self _ _) hn
  have e1 : ((nw : Int) / 2 ^ (4 * j)) = ((nw / 2 ^ (4 * j) : Nat) : Int) := by simp
  have e2 : (2 : Nat) ^ (4 * j) = 16 ^ j := by rw [Nat.pow_mul]
  rw [e1]
  have e3 := i64_and_nat (nw / 2 ^ (4 * j)) 15 (by omega) (by omega)
  have e4 := Nat.and_two_pow_sub_one_eq_mod (nw / 2 ^ (4 * j)) 4
  rw [show ((15 : Int)) = ((15 : Nat) : Int) from rfl, e3, show (15 : Nat) = 2 ^ 4 - 1 from rfl, e4]
  have hlt := idxM_lt nw j hj
  unfold idxM at hlt ⊢
  rw [Int.toNat_natCast] at hlt ⊢
  rw [e2]
  unfold wrap64
  omega

set_option maxHeartbeats 1000000 in
theorem c23 (g B : Nat) (now : Nat) (V0 : Nat → Value) (f : Ls) (w : World) (hb : Blk w g now V0) (ho : Own w B 96 V0 f) (hB : B ≤ w.heap.size) (hn : now + 1 < 16777216) (hok : okT f) (hc : (allM f).length ≤ 500) :
    Calls Try.prog 23 #[.pointer (some ⟨g, 0, none⟩)] w fun e w' => ∃ V, e = .returned (V 96) ∧ TurnSt w B g ((now + 1 : Nat) : Int) V0 w' 97 V (slots (turnM ((now + 1 : Nat) : Int) f) []) := by
  have hgl := hb.lt
  have k0 : w.cell? ⟨g, 0, none⟩ = some (.int .i64 now) := by rw [cell_of_blk hb, Cw_now]
  have k1 : w.frozen? ⟨g, 0, none⟩ = false := free_of_blk hb
  have st0 : ∃ w1, w1 = w.setCell ⟨g, 0, none⟩ (.int .i64 ((now : Int) + 1)) := ⟨_, rfl⟩
  obtain ⟨w1, hW⟩ := st0
  have hst : ∃ V, V 96 = .slice none 0 0 ∧ TurnSt w B g ((now + 1 : Nat) : Int) V0 w1 97 V (slots (f, []) []) := by
    refine ⟨upd V0 96 (.slice none 0 0), upd_same _ _ _, ?_⟩
    subst hW
    have hb1 := hb.tick ((now : Int) + 1)
    refine ⟨Blk.ext hb1 (fun j hj => upd_other _ _ _ (by omega)), ?_, (Fr.refl _ w).setCell (.inl (.inl rfl)) _, fun i hi x hx => ?_, hB, by omega⟩
    · have O := (ho.setCell (p := ⟨g, 0, none⟩) (fun i hi => ho.ne_blk hb i hi) (.int .i64 ((now : Int) + 1))).push (OwnD.nil _ B) (fun i hi k hk => by simp [Value.ownBlock])
      refine O.ext (fun _ _ => rfl) (fun i hi => ?_)
      by_cases e : i = 96
      · subst e; rw [upd_same]; rfl
      · rw [upd_other _ _ _ e]; simp [slots, show i < 96 by omega]
    · by_cases e : i = 96
      · subst e; rw [upd_same] at hx; simp [Value.ownBlock] at hx
      · rw [upd_other _ _ _ e] at hx; exact .inl ⟨i, by omega, hx⟩
  obtain ⟨V1, hV1, hst⟩ := hst
  have Hst := Lib.hid hst
  have HV1 := Lib.hid hV1
  have HW := Lib.hid hW
  clear hst hV1 hW hb ho
  go_enter Try.func23, Try.ntmps23
  go_wp2_with fail
  rw [← HW.out]
  clear k0 k1
  generalize hnw : now + 1 = nw at *
  go_loopw [3, 4] (fun v3 v4 wr => ∃ (k : Nat) (V : Nat → Value) (s : Ls × List Du), k ≤ 6 ∧ v4 = .int .i64 ((k : Int) - 1) ∧ v3 = V 96 ∧ TurnSt w B g (nw : Int) V0 wr 97 V (slots s []) ∧ Hid (roundsM nw k s = turnM nw f) ∧ cntM s ≤ 500 ∧ okT s.1) (fun _ v4 _ => (intOf v4 + 1).toNat)
  case atStart => exact ⟨6, V1, (f, []), Nat.le_refl _, by go_num, HV1.out.symm, Hst.out, rfl, by simpa [cntM] using hc, hok⟩
  case round =>
    obtain ⟨k, V, s, hk, hv4, hv3, hst, hrest, hcnt, hok2⟩ := hrel
    obtain ⟨a3, n3, hv96⟩ := (hst.own.each 96 (by omega)).shape
    have hv3 := hv3.trans hv96
    subst hv3
    by_cases h0 : k = 0
    · subst h0
      rw [show ((0 : Nat) : Int) - 1 = -1 from rfl] at hv4
      subst hv4
      have hs : s = turnM nw f := hrest.out
      have Hst := Lib.hid (hs ▸ hst)
      have Hv96 := Lib.hid hv96
      clear hst hv96 hs
      go_wp2_with fail
      go_ret
      subst hnw
      exact ⟨V, by rw [Hv96.out]; rfl, Hst.out⟩
    · obtain ⟨j, rfl⟩ : ∃ j, k = j + 1 := ⟨k - 1, by omega⟩
      rw [show ((j + 1 : Nat) : Int) - 1 = (j : Int) from by omega] at hv4
      subst hv4
      have c0 : wr.cell? ⟨g, 0, none⟩ = some (.int .i64 nw) := by rw [cell_of_blk hst.blk, Cw_now]
      have hj : j ≤ 5 := by omega
      have hme := mask_eq nw j hj hn
      have hie := idx_eq nw j hj hn
      have hil := idxM_lt nw j hj
      generalize hI : idxM (nw : Int) j = i at *
      obtain ⟨ai, ci, hvi⟩ := (hst.own.each i (by omega)).shape
      have c1 : wr.cell? ⟨g, 1 + i, none⟩ = some (.slice ai (slots s [] i).length ci) := by rw [Nat.add_comm, cell_of_blk hst.blk, Cw_get _ _ i hil, hvi]
      have c2 : wr.frozen? ⟨g, 1 + i, none⟩ = false := free_of_blk hst.blk
      have Hst := Lib.hid hst
      have Hok := Lib.hid hok2
      have Hv96 := Lib.hid hv96
      have Hvi := Lib.hid hvi
      have HI := Lib.hid hI
      clear hst hok2 hv96 hvi hI
      by_cases hm : nw % 16 ^ j = 0
      · have hb : (bits BinOp.and IntKind.i64 (nw : Int) (wrap64 (wrap64 (2 ^ (4 * j)) - 1)) != 0) = false := by rw [hme, hm]; rfl
        have Hm := Lib.hid hm
        clear hme hm
        go_wp2_with fail
        go_quiet (fail)
        go_wp2_with fail
        have hst2 : ∃ V2, V2 96 = .slice a3 (slots s [] 96).length n3 ∧ V2 97 = .slice ai (slots s [] i).length ci ∧ TurnSt w B g (nw : Int) V0 ((wr.drewN nq).setCell ⟨g, 1 + i, none⟩ (.slice none 0 0)) 98 V2 (slots (upd s.1 i [], s.2) (s.1 i)) := by
          have h2 := (Hst.out.drewN nq).take hil
          rw [Nat.add_comm] at h2
          refine ⟨_, ?_, ?_, h2.ext (fun x hx => ?_)⟩
          · rw [upd_other _ _ _ (by omega), upd_other _ _ _ (by omega)]; exact Hv96.out
          · rw [upd_same]; exact Hvi.out
          · by_cases e : x = 97
            · subst e; rw [upd_same, slots_97, slots_lt _ _ hil]
            · rw [upd_other _ _ _ e]
              by_cases e2 : x = i
              · subst e2; rw [upd_same, slots_lt _ _ hil]; exact upd_same _ _ _
              · rw [upd_other _ _ _ e2]
                by_cases e3 : x < 96
                · rw [slots_lt _ _ e3, slots_lt _ _ e3]; exact upd_other _ _ _ e2
                · obtain rfl : x = 96 := by omega
                  rw [slots_96, slots_96]
        generalize (wr.drewN nq).setCell ⟨g, 1 + i, none⟩ (.slice none 0 0) = w2 at *
        obtain ⟨V2, hv2, hv2i, hst2⟩ := hst2
        have Hst2 := Lib.hid hst2
        have Hv2 := Lib.hid hv2
        have Hv2i := Lib.hid hv2i
        have hin : (slots s [] i).length = (s.1 i).length := by rw [slots_lt _ _ hil]
        rw [hin] at Hv2i
        rw [hin]
        have hli := len_le_cnt s hil
        have hc0 : cntM (upd s.1 i [], s.2) + (s.1 i).length ≤ 500 := by
          have := allM_upd_len s.1 i [] hil
          unfold cntM at hcnt ⊢
          simp at this ⊢
          omega
        clear hst2 hv2 hv2i hb hie c0 c1 c2 hin Hst Hvi
        go_loopw [3, 54] (fun v3 v54 wr2 => ∃ (m : Nat) (V : Nat → Value) (s2 : Ls × List Du), m ≤ (s.1 i).length ∧ v54 = .int .i64 m ∧ v3 = V 96 ∧ V 97 = .slice ai (s.1 i).length ci ∧ TurnSt w B g (nw : Int) V0 wr2 98 V (slots s2 (s.1 i)) ∧ Hid (s2 = ((s.1 i).take m).foldl (put1 nw) (upd s.1 i [], s.2))) (fun _ v54 _ => ((s.1 i).length - (intOf v54).toNat))
        case atStart => exact ⟨0, V2, (upd s.1 i [], s.2), Nat.zero_le _, rfl, Hv2.out.symm, Hv2i.out, Hst2.out, rfl⟩
        case round =>
          clear hv3 Hv96
          obtain ⟨m, V, s2, hm, rfl, hv3, hv97, hst, hs2⟩ := hrel
          obtain ⟨a3, n3, hv96⟩ := (hst.own.each 96 (by omega)).shape
          have hv3 := hv3.trans hv96
          subst hv3
          have hcm : cntM s2 = cntM (upd s.1 i [], s.2) + m := by
            rw [hs2.out, fold_cnt, List.length_take]; omega
          by_cases hlt : m < (s.1 i).length
          · have hat := (hst.own.each 97 (by omega)).at
            rw [hv97, slots_97] at hat
            obtain ⟨a', c', e0, hcap, _, hat⟩ := hat
            simp only [Value.slice.injEq, true_and] at e0
            obtain ⟨rfl, rfl⟩ := e0
            obtain ⟨b, o, rfl, hat2⟩ := hat (by intro e; rw [e] at hlt; simp at hlt)
            obtain ⟨q1, q2⟩ := hat2 m hlt
            have hd := Hok.out i hil _ (getD_mem hlt)
            have hnext := fold_take_succ (put1 (nw : Int)) (upd s.1 i [], s.2) (s.1 i) m hlt
            rw [← hs2.out] at hnext
            clear hat hat2
            generalize (s.1 i).getD m default = d at *
            obtain ⟨id, tm⟩ := d
            obtain ⟨t, ht⟩ := Int.eq_ofNat_of_zero_le hd.1
            simp only at *
            subst ht
            have hlt' : t < 16777216 := by omega
            have hb2 : b < wr.heap.size := World.block_lt_of_cell? _ _ q1
            have hg2 := hst.gl
            have c0 : wr.cell? ⟨g, 0, none⟩ = some (.int .i64 nw) := by rw [cell_of_blk hst.blk, Cw_now]
            have Hnext := Lib.hid hnext
            have Hst := Lib.hid (hst.alloc (.cells #[.int .i64 id, .int .i64 (t : Int)] 33))
            have Hv96 := Lib.hid hv96
            have Hv97 := Lib.hid hv97
            clear hst hv96 hv97 hnext hd hs2
            have hms : (m : Int) < (s.1 i).length := by omega
            by_cases hq : t = nw
            · have hqb : ((t : Int) == (nw : Int)) = true := by rw [beq_iff_eq]; omega
              have Hq := Lib.hid hq
              clear hq
              go_wp2_with fail
              go_quiet (fail)
              have hown := (Hst.out.own.each 96 (by omega))
              rw [Hv96.out] at hown
              have Hown := Lib.hid hown
              have h500 : (slots s2 (s.1 i) 96).length ≤ 500 := by
                rw [slots_96]
                have : s2.2.length ≤ cntM s2 := by unfold cntM; omega
                omega
              have hBs := Hst.out.base
              have hsz := Hst.out.size
              simp only [World.size_alloc] at hsz
              clear hown
              go_wp2_with (at_builtin; refine wpList_append_ownT _ rfl _ _ 22 rfl B 33 (.agg #[.int .i64 0, .int .i64 0]) 2 16 DuT Try.underlying22 info33 rfl (by decide) DuT_zero (.slice a3 (slots s2 (s.1 i) 96).length n3) (slots s2 (s.1 i) 96).length (duCells (slots s2 (s.1 i) 96)) rfl (by exact OwnsT.alloc Hown.out _) (some ⟨wr.heap.size + 1, 0, none⟩) 1 1 [.int .i64 id, .int .i64 (t : Int)] rfl rfl (by intro h; cases h) ?c1 ?c2 ?c3 ?c4 ?c5 ?c6 ?_)
              case c1 => exact src_new (wr.alloc _) [_, _] 33 _ (by simp)
              case c2 => exact one_cells [⟨id, t⟩]
              case c3 => exact DuT_cells [⟨id, t⟩] _
              case c4 => unfold maxLen; omega
              case c5 => omega
              case c6 => simp; omega
              intro v' w3 hown' hgrow _ hat
              have hst3 : TurnSt w B g (nw : Int) V0 w3 98 (upd V 96 v') (slots (put1 (nw : Int) s2 ⟨id, t⟩) (s.1 i)) := by
                have h1 := (Hst.out.drewN nq).alloc (.cells #[.int .i64 id, .int .i64 (t : Int)] 33)
                have h2 : OwnD w3 B v' (s2.2 ++ [⟨id, t⟩]) := by
                  unfold OwnD
                  rw [duCells_append, List.length_append, ← slots_96 s2 (s.1 i)]
                  exact hown'
                refine (h1.app (i := 96) (Nat.le_refl _) (by omega) h2 hgrow (by simpa using hat)).ext (fun x hx => ?_)
                exact slots_out Hq.out x
              have Hst3 := Lib.hid hst3
              obtain ⟨a4, n4, rfl⟩ := hown'.shape
              clear hown' hgrow hat hst3
              go_wp2_with fail
              go_roundw
              case rel => exact ⟨m + 1, _, _, by omega, by go_num, by rw [upd_same], by rw [upd_other _ _ _ (by omega)]; exact Hv97.out, Hst3.out, Hnext.out.symm⟩
              case measure => simp [intOf]; omega
            · have hqb : ((t : Int) == (nw : Int)) = false := by rw [beq_eq_false_iff_ne]; omega
              have Hq := Lib.hid hq
              clear hq
              go_wp2_with fail
              go_quiet (fail)
              go_wp2_with fail
              have HP := Hst.out.drewN nq
              have hiq := listN_lt nw t
              have hown := HP.own.each (listN nw t) (by omega)
              rw [slots_lt _ _ hiq] at hown
              have hle := len_le_cnt s2 hiq
              refine (c26 g B nw t id V (s2.1 (listN nw t)) _ HP.blk hown (Nat.le_trans HP.base HP.size) hn hlt' (fun e => Hq.out e.symm) (by omega)).mono ?_
              rintro e w3 ⟨rfl, hp⟩
              obtain ⟨V3, hst3, hV3⟩ := HP.put hiq hp
              have Hst3 := Lib.hid (hst3.ext (fun x hx => slots_put Hq.out x))
              have HV3 := Lib.hid hV3
              clear hst3 hp hV3 HP hown
              go_wp2_with fail
              go_roundw
              case rel => exact ⟨m + 1, _, _, by omega, by go_num, by rw [HV3.out 96 (by omega)], by rw [HV3.out 97 (by omega)]; exact Hv97.out, Hst3.out, Hnext.out.symm⟩
              case measure => simp [intOf]; omega
          · obtain rfl : m = (s.1 i).length := by omega
            have Hst := Lib.hid (hst.less (M := 97) (by omega) (by omega))
            have Hv96 := Lib.hid hv96
            have hre : s2 = roundM nw j s := by
              rw [hs2.out, List.take_of_length_le (Nat.le_refl _)]
              unfold roundM
              rw [if_pos (by rw [Int.toNat_natCast]; exact Hm.out), HI.out]
            have Hre := Lib.hid hre
            have Hs2 := hs2
            clear hst hv96 hv97 hs2 hre
            go_wp2_with fail
            go_roundw
            case rel =>
              refine ⟨j, V, s2, by omega, by go_num, Hv96.out.symm, Hst.out.ext (fun x hx => ?_), ?_, by omega, ?_⟩
              · unfold slots; split
                · rfl
                · rw [if_pos (by omega), if_pos (by omega)]
              · show _ = _
                rw [Hre.out, ← hrest.out, roundsM]
              · rw [Hre.out]; exact round_ok hj Hok.out
            case measure => simp [intOf]
      · have hb : (bits BinOp.and IntKind.i64 (nw : Int) (wrap64 (wrap64 (2 ^ (4 * j)) - 1)) != 0) = true := by rw [hme, bne_iff_ne]; omega
        have Hm := Lib.hid hm
        clear hme hm
        go_wp2_with fail
        go_quiet (fail)
        go_wp2_with fail
        go_roundw
        case rel =>
          refine ⟨j, V, s, by omega, by go_num, by rw [Hv96.out], Hst.out.drewN _, ?_, hcnt, Hok.out⟩
          have : roundM nw j s = s := by unfold roundM; rw [if_neg (by rw [Int.toNat_natCast]; exact Hm.out)]
          show _ = _
          rw [← hrest.out, roundsM, this]
        case measure => simp [intOf]
end Go.Proofs.Ytefikkmhdjlccaa
