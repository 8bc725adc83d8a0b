/- TurnsOrder. -/
import Derived.Test.YtmnckaofopechaaC0
import Derived.Deep.RegionLaw
import Derived.Deep.RegionHeld3
import Derived.Deep.AppendLies
import Derived.Deep.CutBlock
namespace Go.Proofs.Ytmnckaofopechaa
open Go.RowKit

theorem OwnsT.shape {w : World} {base : Nat} {e : TypeId} {size : Nat} {T : Nat → Value → Prop} {v : Value} {n : Nat} {xs : List Value} (h : OwnsT w base e size T v n xs) : ∃ a cap, v = .slice a n cap := by
  obtain ⟨_, ⟨rfl, h0⟩ | ⟨g, cap, cur, rfl, _⟩⟩ := h
  · exact ⟨none, 0, by rw [h0]⟩
  · exact ⟨_, _, rfl⟩

theorem info33 : (Try.prog.info? 33).map (fun i => (i.zero, i.size, i.bytes)) = some (some (.slice none 0 0), 1, 24) := by kernel_rfl

set_option maxRecDepth 100000 in
set_option maxHeartbeats 4000000 in
theorem c3 (v : Value) (qs : List Qu) (n : Int) (w : World) (h : TurnsAt w v qs) (hl : qs.length ≤ 3518437208781) (hl2 : ∀ i, i < qs.length → (qs.getD i default).sizes.length ≤ 17592186043904) :
    Calls Try.prog 3 #[v, .int .i64 n] w fun e w' => e = .returned (.bool true) ∧ Below w.heap.size w w' := by
  generalize hB : w.heap.size = B at *
  obtain ⟨a0, c0, rfl⟩ : ∃ a c, v = .slice a qs.length c := by obtain ⟨a, cap, rfl, _⟩ := h; exact ⟨_, _, rfl⟩
  go_enter Try.func3, Try.ntmps3
  go_wp2_with fail
  refine (c5 _).mono ?_
  rintro e w1 ⟨rfl, hb1⟩
  rw [hB] at hb1
  go_wp2_with fail
  refine (c6 _ _ _ (h.below hB.symm hb1) hl hl2).mono ?_
  rintro e w2 ⟨⟨r, rfl, hr⟩, hb2⟩
  have hb2 : Below B w w2 := hb1.trans (hb2.mono (by have := hb1.size; omega))
  have Hr := Lib.hid hr; clear hr hb1
  by_cases hr0 : r = 0
  · have hR : Hid (RightT qs) := Hr.out.1 hr0
    clear Hr
    subst hr0
    by_cases hn : n < 0 ∨ 100 < n
    · have hlast : ∀ w3, Below w2.heap.size w2 w3 → Below B w w3 := fun w3 hb => hb2.trans (hb.mono (by have := hb2.size; omega))
      have Hlast := Lib.hid hlast; clear hlast hb2
      rcases hn with hn | hn
      all_goals
        go_wp2_with fail
        refine (c5 _).mono ?_
        rintro e w3 ⟨rfl, hb3⟩
        have hb3 := Hlast.out w3 hb3
        go_wp2_with fail
        go_ret
        exact ⟨rfl, hb3⟩
    · have hn0 : 0 ≤ n := by omega
      have hn1 : n ≤ 100 := by omega
      clear hn
      have hs2 := hb2.size
      have h16 := hR.out.1
      have hmk := run_make_row' (P := Try.prog) 27 33 (.slice none 0 0) 24 Try.underlying27 info33 rfl .i64 .i64 qs.length (by omega) (by omega)
      obtain ⟨nn, rfl⟩ := Int.eq_ofNat_of_zero_le hn0
      go_wp2_with fail
      clear hmk
      have hrow0 : (w2.alloc (.cells (madeCells #[.slice none 0 0] qs.length) 33)).rowIs w2.heap.size 33 qs.length (fun _ => .slice none 0 0) := World.rowIs_made w2 (.slice none 0 0) qs.length 33
      have hsent0 : SentSt (w2.alloc (.cells (madeCells #[.slice none 0 0] qs.length) 33)) B w2.heap.size qs.length (fun _ => .slice none 0 0) (fun _ => []) :=
        ⟨by omega, hrow0, fun i _ => OwnsT.nil _ _ _ _ _, fun i j k _ _ _ h => by cases h⟩
      have hT2 := (h.below hB.symm hb2).below rfl (Below.of_alloc w2 (.cells (madeCells #[.slice none 0 0] qs.length) 33))
      have hb3 := hb2.alloc (o := .cells (madeCells #[.slice none 0 0] qs.length) 33) (by omega)
      generalize w2.heap.size = g at *
      generalize w2.alloc (.cells (madeCells #[.slice none 0 0] qs.length) 33) = w3 at *
      clear hb2 hs2 hrow0
      have hs3 := hb3.size
      go_loopw [6, 35] (fun t i wr => ∃ (j : Nat) (ts : List Qu) (val : Nat → Value) (L : Nat → List Int), j ≤ nn ∧ i = .int .i64 j ∧ (∃ a c, t = .slice a qs.length c) ∧ TurnsAt wr t ts ∧ Hid (ts.length = qs.length) ∧ Hid (RightT ts) ∧ SentSt wr B g qs.length val L ∧
         Hid (∀ i, i < qs.length → L i ++ (ts.getD i default).sizes = (qs.getD i default).sizes) ∧ Below B w wr) (fun _ i _ => nn - (intOf i).toNat)
      case atStart => exact ⟨0, qs, _, _, Nat.zero_le _, rfl, ⟨_, _, rfl⟩, hT2, rfl, hR, hsent0, fun i hi => by simp, hb3⟩
      case round =>
        clear hT2 hsent0 hb3 hs3
        obtain ⟨j, ts, val, L, hj, rfl, ⟨a1, c1, rfl⟩, hT, hlen, hRt, hsent, hLq, hbel⟩ := hrel
        have hsz := hbel.size
        by_cases hlt : j < nn
        · go_wp2_with (go_at_call 7; refine (c7 _ ts _ hT ?p1 ?p2).mono ?_)
          case p1 => rw [hlen.out]; omega
          case p2 => intro i hi; have := (hRt.out.2 i hi).1; omega
          rintro e w4 ⟨hb4, ⟨hn, _⟩ | ⟨_, v4, l4, ts', M, rfl, e1, e2, hTF, hl4⟩⟩
          · exact absurd hRt.out hn
          have E1 := Lib.hid (e1.trans hlen.out); clear e1
          have E2 := Lib.hid e2; clear e2
          have hRt' : Hid (RightT ts') := ⟨by rw [E1.out]; exact h16, fun i hi => by
            have hi2 : i < ts.length := by rw [hlen.out]; rw [E1.out] at hi; exact hi
            exact right_step (hRt.out.2 i hi2) (E2.out i hi2)⟩
          have hb5 : Below B w w4 := hbel.trans (hb4.mono (by omega))
          have hs4 := hb4.size
          have hsent4 := hsent.of_same (w' := w4) (fun k hk => hb4.block k hk)
          have hgl : g < wr.heap.size := hsent.row.lt
          have hout : Hid (∀ i k, i < qs.length → (val i).ownBlock = some k → k < wr.heap.size) := fun i k hi hk => ((hsent.each i hi).lt k hk).2
          obtain ⟨a4, c4, rfl⟩ : ∃ a c, v4 = .slice a qs.length c := by obtain ⟨a, cap, rfl, _⟩ := hTF; rw [E1.out]; exact ⟨_, _, rfl⟩
          have hTA := hTF.at
          clear hb4 hbel hsent hT
          generalize wr.heap.size = Br at *
          go_wp2_with (go_at_call 8; refine (c8 _ ts' _ hTA hRt').mono ?_)
          rintro e w5 ⟨rfl, hb6⟩
          have hb7 : Below B w w5 := hb5.trans (hb6.mono (by omega))
          have hs5 := hb6.size
          have hsent5 := hsent4.of_same (w' := w5) (fun k hk => hb6.block k hk)
          have hmid5 : Hid (∀ k, Br ≤ k → k < w4.heap.size → w5.heap[k]? = w4.heap[k]?) := fun k _ hk => hb6.block k hk
          have hlen16 := hlen.out
          have hsl := sentsTo_length ts M ts.length (fun j hj => (hRt.out.2 j hj).1)
          have hproj : Hid (∀ i, i < qs.length → proj i (sentsTo ts M ts.length) = (ts.getD i default).sizes.take (M i)) := fun i hi => by rw [proj_sents, if_pos (by omega)]
          have hfst : Hid (∀ m, m < (sentsTo ts M ts.length).length → ((sentsTo ts M ts.length).getD m default).1 < qs.length) := fun m hm => by have := sents_fst ts M ts.length m hm; omega
          have hl4' := SentsAt.of_own hl4
          have Hl4 := Lib.hid hl4; clear hl4
          generalize sentsTo ts M ts.length = S at *
          obtain ⟨al, cl, rfl, hlc, hln, hlcell⟩ := hl4'
          have hts16 : ts.length ≤ 16 := by omega
          have hS16 : S.length ≤ 3200 := by omega
          clear hb6 hsent4 hb5 hlen16
          go_wp2_with fail
          go_loopw [59] (fun i wr2 => ∃ (m : Nat) (val : Nat → Value) (L' : Nat → List Int), m ≤ S.length ∧ i = .int .i64 m ∧ SentSt wr2 B g qs.length val L' ∧ Hid (∀ i k, i < qs.length → (val i).ownBlock = some k → k < Br ∨ w4.heap.size ≤ k) ∧
            Hid (∀ k, Br ≤ k → k < w4.heap.size → wr2.heap[k]? = w4.heap[k]?) ∧ Hid (∀ i, i < qs.length → L' i = L i ++ proj i (S.take m)) ∧ w4.heap.size ≤ wr2.heap.size ∧ Below B w wr2) (fun i _ => S.length - (intOf i).toNat)
          case atStart => exact ⟨0, val, L, Nat.zero_le _, rfl, hsent5, fun i k hi hk => .inl (hout.out i k hi hk), hmid5, fun i hi => by simp [proj], hs5, hb7⟩
          case round =>
            clear hsent5 hmid5 hb7 hs5
            have hout0 := hout
            clear hout
            obtain ⟨m, val2, L', hm, rfl, hsent, hout, hmid, hL', hsz2, hbel⟩ := hrel
            by_cases hml : m < S.length
            · obtain ⟨b, o, rfl, hcs⟩ := hlcell (by intro e; subst e; simp at hml)
              obtain ⟨q1, q2⟩ := hcs m hml
              have hbw : Br ≤ b ∧ b < w4.heap.size := ⟨(Hl4.out.lt b rfl).1, (Hl4.out.lt b rfl).2⟩
              have hbk := hmid.out b hbw.1 hbw.2
              rw [← World.cell?_of_block (a := ⟨b, o + m * 2, none⟩) hbk] at q1
              rw [← World.cell?_of_block (a := ⟨b, o + m * 2 + 1, none⟩) hbk] at q2
              clear hcs hlcell hbk
              have hqn := hfst.out m hml
              have hnext : Hid (∀ i, i < qs.length → (if i = (S.getD m default).1 then L' (S.getD m default).1 ++ [(S.getD m default).2] else L' i) = L i ++ proj i (S.take (m + 1))) := fun i hi => by
                rw [proj_take_succ i S m hml]
                by_cases e : (S.getD m default).1 = i
                · rw [if_pos e.symm, if_pos e, e, hL'.out i hi, List.append_assoc]
                · rw [if_neg (fun h => e h.symm), if_neg e, List.append_nil, hL'.out i hi]
              have hlenq : (L' (S.getD m default).1).length ≤ 200 := by
                rw [hL'.out _ hqn, List.length_append]
                have a1 := proj_take_le (S.getD m default).1 S m
                rw [hproj.out _ hqn, List.length_take] at a1
                have a2 := congrArg List.length (hLq.out _ hqn)
                rw [List.length_append] at a2
                have a3 := (hR.out.2 _ hqn).1
                omega
              generalize S.getD m default = p at *
              obtain ⟨qi, x⟩ := p
              simp only at q1 q2 hqn hnext hlenq
              have hcell := hsent.row.cell hqn
              have hfrz := hsent.row.frozen qi
              have hown := hsent.each qi hqn
              obtain ⟨av, cv, hv⟩ := hown.shape
              have hgl2 := hsent.row.lt
              have hq0 : ¬ ((qi : Int) < 0) := by omega
              have hq1 : (qi : Int) < qs.length := by omega
              rw [hv] at hcell hown
              have Hv := Lib.hid hv; clear hv
              have hrowW := ((hsent.row.alloc (.cells #[.int .i64 qi, .int .i64 x] 32)).alloc (.cells #[.int .i64 x] 3)).drew
              have hneg : (Value.slice av (L' qi).length cv).ownBlock ≠ some g := by rw [← Hv.out]; exact hsent.ne hqn
              have hnx : (Value.slice av (L' qi).length cv).ownBlock ≠ some wr.heap.size := fun e => by have := (hown.lt _ e).2; omega
              have hgo : ∀ w6, (((wr.alloc (.cells #[.int .i64 qi, .int .i64 x] 32)).alloc (.cells #[.int .i64 x] 3)).drew).grownBy w6 (Value.slice av (L' qi).length cv).ownBlock → w6.frozen? ⟨g, qi, none⟩ = false ∧ w6.cell? ⟨g, qi, none⟩ = some (.slice av (L' qi).length cv) ∧ w6.cell? ⟨wr.heap.size, 0, none⟩ = some (.int .i64 qi) := fun w6 hg => by
                have hr := hrowW.of_block (hg.block g (by simp; omega) (fun e => hneg e.symm))
                refine ⟨hr.frozen qi, by rw [hr.cell hqn, Hv.out], ?_⟩
                rw [hg.cell_far _ (by simp; omega) (fun e => hnx e.symm)]
                simp [World.cell?_alloc_past]
              have Hgo := Lib.hid hgo; clear hgo
              have hfin : ∀ v6 w6, (((wr.alloc (.cells #[.int .i64 qi, .int .i64 x] 32)).alloc (.cells #[.int .i64 x] 3)).drew).grownBy w6 (Value.slice av (L' qi).length cv).ownBlock → OwnsT w6 B 3 1 IsI64 v6 ((L' qi).length + 1) ((L' qi).map (.int .i64) ++ [.int .i64 x]) →
                  (v6.ownBlock = (Value.slice av (L' qi).length cv).ownBlock ∨ v6.ownBlock = some (((wr.alloc (.cells #[.int .i64 qi, .int .i64 x] 32)).alloc (.cells #[.int .i64 x] 3)).drew).heap.size) → AfterIn w w4 B Br w4.heap.size g qs.length (fun j => if j = qi then L' qi ++ [x] else L' j) (w6.setCell ⟨g, qi, none⟩ v6) := fun v6 w6 hg ho hv => by
                rw [← Hv.out] at hg hv
                exact after_in hsent hqn hgl hout.out hmid.out hsz2 hbel hg (by simpa [OwnsI] using ho) hv
              have Hfin := Lib.hid hfin; clear hfin
              go_upto_block 3 with fail
              go_cut [] (fun wx => AfterIn w w4 B Br w4.heap.size g qs.length (fun j => if j = qi then L' qi ++ [x] else L' j) wx)
              case first =>
                clear hfrz hnext hrowW hneg
                go_wp2_with fail
                clear q1 q2
                go_region_law (refine step_append_ownT _ rfl _ _ 33 rfl B 3 (.int .i64 0) 1 8 IsI64 Try.underlying33 info3 rfl (by decide) IsI64_zero (.slice av (L' qi).length cv) (L' qi).length ((L' qi).map (.int .i64)) (by simp [Act.eval]) (by exact ((hown.alloc _).alloc _).drew) (some ⟨wr.heap.size + 1, 0, none⟩) 1 1 [.int .i64 x] (by simp [Act.eval]) rfl (by intro h; cases h) (by exact src_new (wr.alloc _) [_] 3 _ (by simp)) (ints_oneCell _ [x]) (IsI64_ints [x] (fun j => j % 1)) (by unfold maxLen; omega) (by omega) (by simp; omega) ?_; intro v6 w6 hown6 hgrow6 _ hv6; obtain ⟨av6, cv6, rfl⟩ := hown6.shape; obtain ⟨hf6, hc6, hx6⟩ := Hgo.out w6 hgrow6; have Hfin6 := Lib.hid (Hfin.out _ w6 hgrow6 hown6 hv6); clear hgrow6 hown6 hv6)
                all_goals
                  go_wp2_with fail
                  go_meet
                  case rel => exact Hfin6.out
              case rest =>
                obtain ⟨val3, hs1, hs2, hs3, hs4, hs5⟩ := hcut
                have Hs2 := Lib.hid hs2
                have Hs3 := Lib.hid hs3
                clear hs2 hs3 q1 q2 hcell hfrz hrowW hneg hnx hown
                go_wp2_with fail
                go_roundw
                case rel => exact ⟨m + 1, val3, _, by omega, by go_num, hs1, Hs2.out, Hs3.out, hnext.out, hs4, hs5⟩
                case measure => simp [intOf]; omega
            · have hfinal : Hid (∀ i, i < qs.length → L' i ++ (ts'.getD i default).sizes = (qs.getD i default).sizes) := fun i hi => by
                rw [hL'.out i hi, List.take_of_length_le (by omega), hproj.out i hi, ← hLq.out i hi, (E2.out i (by rw [hlen.out]; exact hi)).sizes, List.append_assoc, List.take_append_drop]
              have hTF' := hTF.of_range (w' := wr) hmid.out
              have hTA' := hTF'.at
              clear hlcell hTA hTF hTF'
              go_wp2_with fail
              go_roundw
              case rel => exact ⟨j + 1, ts', val2, L', by omega, by go_num, ⟨_, _, rfl⟩, hTA', E1, hRt', hsent, hfinal, hbel⟩
              case measure => simp [intOf]; omega
        · go_wp2_with fail
          clear hlt hj
          go_loopw [91] (fun i wr2 => ∃ k : Nat, k ≤ qs.length ∧ i = .int .i64 k ∧ SentSt wr2 B g qs.length val L ∧ TurnsAt wr2 (.slice a1 qs.length c1) ts ∧ Below B w wr2) (fun i _ => qs.length - (intOf i).toNat)
          case atStart => exact ⟨0, Nat.zero_le _, rfl, hsent, hT, hbel⟩
          case round =>
            clear hsent hT hbel hsz
            obtain ⟨k, hk, rfl, hsent, hT, hbel⟩ := hrel
            by_cases hlk : k < qs.length
            · have hsz := hbel.size
              have hA := h.below hB.symm hbel
              obtain ⟨a, cap, e, _, _, hA⟩ := hA
              simp only [Value.slice.injEq, true_and] at e
              obtain ⟨rfl, rfl⟩ := e
              obtain ⟨b, o, rfl, hA2⟩ := hA (by intro e; subst e; simp at hlk)
              obtain ⟨p1, p2, pu, p3, hI3⟩ := hA2 k hlk
              clear hA hA2
              have hT0 := Lib.hid hT
              obtain ⟨a, cap, e, _, _, hTc⟩ := hT
              have hlenT := hlen.out
              simp only [Value.slice.injEq] at e
              obtain ⟨rfl, hxl, rfl⟩ := e
              clear hxl
              obtain ⟨tb, tq, rfl, hTc2⟩ := hTc (by intro e; rw [e] at hlenT; simp at hlenT; omega)
              obtain ⟨_, _, tu, t3, hI2⟩ := hTc2 k (by omega)
              clear hTc hTc2 hlenT
              have hgk := hsent.row.cell hlk
              have hOk := hsent.each k hlk
              have hI1 := hOk.fresh.at
              have hgl := hsent.row.lt
              have hpb := World.block_lt_of_cell? _ _ p3
              have htb := World.block_lt_of_cell? _ _ t3
              simp only at hpb htb
              have hLk := Lib.hid (hLq.out k hlk)
              have hlen1 : (L k).length + (ts.getD k default).sizes.length ≤ 200 := by
                have := congrArg List.length (hLq.out k hlk)
                rw [List.length_append] at this
                have := (hR.out.2 k hlk).1
                omega
              generalize hqk : qs.getD k default = qk at *
              generalize htk : ts.getD k default = tk at *
              generalize hvk : val k = vk at *
              generalize hlk' : L k = lk at *
              clear hqk htk hvk hlk' hOk
              obtain ⟨sh, sv, sz⟩ := qk
              obtain ⟨tsh, tsv, tz⟩ := tk
              simp only at p1 p2 hI3 hI2 hLk hlen1
              obtain ⟨av, cv, rfl⟩ : ∃ a c, vk = .slice a lk.length c := by obtain ⟨a, c, rfl, _⟩ := hI1; exact ⟨_, _, rfl⟩
              obtain ⟨at', ct, rfl⟩ : ∃ a c, tu = .slice a tz.length c := by obtain ⟨a, c, rfl, _⟩ := hI2; exact ⟨_, _, rfl⟩
              obtain ⟨ap, cp, rfl⟩ : ∃ a c, pu = .slice a sz.length c := by obtain ⟨a, c, rfl, _⟩ := hI3; exact ⟨_, _, rfl⟩
              have hlkn : (k : Int) < qs.length := by omega
              have hlk0 : (0 : Int) ≤ k := by omega
              have hHS : ∀ W : World, Below (wr.heap.size + 1) (wr.alloc (.cells #[.int .i64 sh, .int .i64 sv, .slice ap sz.length cp] 35)) W → W.cell? ⟨g, k, none⟩ = some (.slice av lk.length cv) ∧ W.cell? ⟨tb, tq + k * 3 + 2, none⟩ = some (.slice at' tz.length ct) ∧ W.cell? ⟨wr.heap.size, 2, none⟩ = some (.slice ap sz.length cp) := fun W hW => by
                refine ⟨?_, ?_, ?_⟩
                · rw [hW.cell (by simp; omega), World.cell?_alloc_past _ _ _ hgl]; exact hgk
                · rw [hW.cell (by simp; omega), World.cell?_alloc_past _ _ _ htb]; exact t3
                · rw [hW.cell (by simp), World.cell?_alloc_at _ _ _ _ rfl]; rfl
              have HS := Lib.hid hHS; clear hHS
              have h1 := Lib.hid (hI1.alloc (.cells #[.int .i64 sh, .int .i64 sv, .slice ap sz.length cp] 35))
              have h2 := Lib.hid (hI2.alloc (.cells #[.int .i64 sh, .int .i64 sv, .slice ap sz.length cp] 35))
              have h3 := Lib.hid (hI3.alloc (.cells #[.int .i64 sh, .int .i64 sv, .slice ap sz.length cp] 35))
              clear hI1 hI2 hI3
              go_wp2_with fail
              clear p1 p2 p3
              go_region_held3 (fun w' => w'.cell? ⟨g, k, none⟩ = some (.slice av lk.length cv) ∧ w'.cell? ⟨tb, tq + k * 3 + 2, none⟩ = some (.slice at' tz.length ct) ∧ w'.cell? ⟨wr.heap.size, 2, none⟩ = some (.slice ap sz.length cp)) (first | go_keep | (exact ⟨by assumption, by assumption, by assumption⟩))
                (first
                  | (go_at_call 10; refine (c10 _ lk _ ?_ ?_).mono ?_; (exact h1.out); (omega); rintro e W1 ⟨v1, rfl, hO1, hB1⟩; have hB1 := ((Below.refl _ (wr.alloc (.cells #[.int .i64 sh, .int .i64 sv, .slice ap sz.length cp] 35))).drew.trans hB1); obtain ⟨s1, s2, s3⟩ := HS.out W1 (hB1.mono (by simp)); have i2 := Lib.hid (h2.out.below rfl hB1); have i3 := Lib.hid (h3.out.below rfl hB1); have hOb : ∀ k, v1.ownBlock = some k → wr.heap.size + 1 ≤ k := (fun k hk => by have := (hO1.lt k hk).1; simpa using this); have HOb := Lib.hid hOb; clear hOb; have hO1 := OwnsT.base_le hO1 (show B ≤ _ by simp; omega); have hsW1 := hB1.size; simp only [World.size_alloc] at hsW1; have hBW1 : Below B w W1 := (hbel.alloc (by omega) _).trans (hB1.mono (by simp; omega)))
                  | (go_at_call 9; refine (c9 _ _ sz _ ?_ ?_ ?_).mono ?_; (rw [← hLk.out]; exact hI4.out); (exact i4.out); (rw [← hLk.out]; simp; omega); rintro e W3 ⟨rfl, hB3⟩; have hB3 := hB2.trans (hB3.mono (by omega)); obtain ⟨s1, s2, s3⟩ := HS.out W3 hB3; have hBW3 : Below B w W3 := (hbel.alloc (by omega) _).trans (hB3.mono (by omega)); have hB3' : Below wr.heap.size wr W3 := (Below.of_alloc wr _).trans (hB3.mono (by omega)))
                  | (refine step_append_ownT _ rfl _ _ 33 rfl B 3 (.int .i64 0) 1 8 IsI64 Try.underlying33 info3 rfl (by decide) IsI64_zero v1 lk.length (lk.map (.int .i64)) (by simp [Act.eval]) hO1 at' tz.length ct (tz.map (.int .i64)) (by simp [Act.eval]) (by simp) (by obtain ⟨a, c, e, _, h2, _⟩ := i2.out; simp only [Value.slice.injEq] at e; obtain ⟨rfl, _, rfl⟩ := e; intro hn; have := h2 hn; omega) (by obtain ⟨a, c, e, _, _, h2⟩ := i2.out; simp only [Value.slice.injEq] at e; obtain ⟨rfl, _, rfl⟩ := e; exact IntsAt.src h2) (ints_oneCell _ _) (IsI64_ints _ (fun j => j % 1)) (by unfold maxLen; omega) (by omega) (by omega) ?_; intro v2 W2 hO2 hgrow2 _ _; have hB2 : Below (wr.heap.size + 1) (wr.alloc (.cells #[.int .i64 sh, .int .i64 sv, .slice ap sz.length cp] 35)) W2 := (hB1.mono (by simp)).trans ((Below.refl _ W1).grown hgrow2 (by omega) HOb.out); obtain ⟨s1, s2, s3⟩ := HS.out W2 hB2; have i4 := Lib.hid (h3.out.below (B := wr.heap.size + 1) (by simp) hB2); have hO2' : OwnsI W2 B v2 (lk ++ tz) := (by simpa [OwnsI] using hO2); have hI4 := Lib.hid hO2'.fresh.at; have hsW2 := hB2.size; simp only [World.size_alloc] at hsW2))
              have hsent3 := hsent.of_same (w' := W3) (fun k hk => hB3'.block k hk)
              have hT3 : TurnsAt W3 (.slice (some ⟨tb, tq, none⟩) qs.length c1) ts := hT0.out.below rfl hB3'
              clear s1 s2 s3 hB3 hB3' hbel hsent
              go_wp2_with fail
              go_roundw
              case rel => exact ⟨k + 1, by omega, by go_num, hsent3, hT3, hBW3⟩
              case measure => simp [intOf]; omega
            · go_wp2_with fail
              go_ret
              exact ⟨rfl, hbel⟩
  · have hr1 : (r != 0) = true := by simpa using hr0
    go_wp2_with fail
    refine (c5 _).mono ?_
    rintro e w3 ⟨rfl, hb3⟩
    have hb3 : Below B w w3 := hb2.trans (hb3.mono (by have := hb2.size; omega))
    go_wp2_with fail
    go_ret
    exact ⟨rfl, hb3⟩
end Go.Proofs.Ytmnckaofopechaa
