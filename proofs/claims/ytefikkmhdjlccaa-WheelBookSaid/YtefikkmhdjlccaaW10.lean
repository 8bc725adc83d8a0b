/- Tick. -/
import Derived.Test.YtefikkmhdjlccaaW9
namespace Go.Proofs.Ytefikkmhdjlccaa
open Go.RowKit

/-- a round of Tick, outside the walk: what has left behind a turn's round. -/
theorem tick_own {wr w' : World} {B g : Nat} {nw : Int} {V V2 : Nat → Value} {s s2 : Ls × List Du} (hO : Own wr B 97 V (slots s [])) (hG : Blk wr g nw V) {n2 : Int} (hT : TurnSt wr B g n2 V w' 97 V2 (slots s2 [])) : OwnD w' B (V 96) s.2 := by
  have h := hO.each 96 (by omega)
  rw [slots_96] at h
  refine h.of_same fun k hk => hT.fr.block k (h.lt k hk).2 (fun hS => ?_)
  rcases hS with rfl | ⟨j, hj, hjk⟩
  · exact hO.ne_blk hG 96 (by omega) hk
  · exact hO.apart j 96 (by omega) (by omega) (by omega) k hjk hk

theorem tick_step {wr w' w'' : World} {B g : Nat} {nw n2 : Int} {V V2 : Nat → Value} {s s2 : Ls × List Du} {v' : Value} (hO : Own wr B 97 V (slots s [])) (hG : Blk wr g nw V) (hT : TurnSt wr B g n2 V w' 97 V2 (slots s2 []))
    (ho : OwnD w'' B v' (s.2 ++ s2.2)) (hg : w'.grownBy w'' (V 96).ownBlock) (hat : v'.ownBlock = (V 96).ownBlock ∨ v'.ownBlock = some w'.heap.size) :
    Blk w'' g n2 (upd V2 96 v') ∧ Own w'' B 97 (upd V2 96 v') (slots (s2.1, s.2 ++ s2.2) []) := by
  have h0 := tick_own hO hG hT
  have hsz := hT.size
  have hap : ∀ i, i < 96 → ∀ k, (V2 i).ownBlock = some k → (V 96).ownBlock ≠ some k := fun i hi k hk e => by
    rcases hT.prov i (by omega) k hk with ⟨j, hj, hjk⟩ | hge
    · exact hO.apart j 96 (by omega) (by omega) (by omega) k hjk e
    · have := ((hO.each 96 (by omega)).lt k e).2; omega
  have O1 := (hT.own.less (M := 96) (by omega)).push h0 hap
  constructor
  · refine Blk.ext (hT.blk.keep (hg.block g hT.gl (fun e => ?_))) (fun i hi => upd_other _ _ _ (by omega))
    exact h0.ne hT.blk (by decide) e.symm
  · have O2 := O1.turn (w' := w'') (i := 96) (by omega) ho (fun j hj hne k hk => ?_) ?_
    · refine O2.ext (fun i hi => ?_) (fun i hi => ?_)
      · by_cases e : i = 96
        · subst e; rw [upd_same, upd_same]
        · rw [upd_other _ _ _ e, upd_other _ _ _ e, upd_other _ _ _ e]
      · by_cases e : i = 96
        · subst e; rw [upd_same, slots_96]
        · rw [upd_other _ _ _ e, upd_other _ _ _ e, slots_lt _ _ (by omega), slots_lt _ _ (by omega)]
    · rw [upd_other _ _ _ hne] at hk
      refine hg.block k ?_ (fun e => ?_)
      · exact ((hT.own.each j (by omega)).lt k hk).2
      · exact hap j (by omega) k hk e.symm
    · rw [upd_same]
      rcases hat with e | e
      · exact .inr (.inl e)
      · exact .inr (.inr ⟨_, e, Nat.le_refl _⟩)

theorem OwnD.nil_of {w : World} {B n c : Nat} {a : Option Addr} {l : List Du} (h : OwnD w B (.slice a n c) l) : a = none → n = 0 ∧ c = 0 := by
  rintro rfl
  obtain ⟨_, ⟨h1, h0⟩ | ⟨g, cap, cur, h1, _⟩⟩ := h
  · simp only [Value.slice.injEq] at h1; exact ⟨h1.2.1, h1.2.2⟩
  · simp at h1
theorem tickM_succ (nw m : Nat) (f : Ls) : tickM (nw : Int) f (m + 1) = ((turnM ((nw + m + 1 : Nat) : Int) (tickM (nw : Int) f m).1).1, (tickM (nw : Int) f m).2 ++ (turnM ((nw + m + 1 : Nat) : Int) (tickM (nw : Int) f m).1).2) := rfl

def tickOk (now : Int) (f : Ls) (n : Int) : Prop := Right now f ∧ 0 ≤ n ∧ n ≤ 10000 ∧ now + n < 16777216
/-- what Tick leaves. -/
def TickEnd (now : Int) (f : Ls) (n : Int) (w : World) (e : Ending) (w' : World) : Prop :=
  Below w.heap.size w w' ∧ ((¬ tickOk now f n ∧ ∃ r : Int, r ≠ 0 ∧ e = .returned (.tuple #[.agg (Cw 0 nilV), .slice none 0 0, .int .i64 r])) ∨
    (tickOk now f n ∧ ∃ V, e = .returned (.tuple #[.agg (Cw (now + n) V), V 96, .int .i64 0]) ∧ Own w' w.heap.size 97 V (slots (tickM now f n.toNat) [])))

theorem Right.ok {now : Int} {f : Ls} (h : Right now f) : okT f := fun i hi d hd => by have := h.each i hi d hd; have := h.now0; omega

set_option maxHeartbeats 4000000 in
theorem c7 (now n : Int) (V : Nat → Value) (f : Ls) (w : World) (h : WheelAt w V f) (hl : ∀ i, i < 96 → (f i).length ≤ 8796093022208) (hwf : ∀ i, i < 96 → ∀ d ∈ f i, (Lit.int .i64 d.id).wf = true) :
    Calls Try.prog 7 #[.agg (Cw now V), .int .i64 n] w (TickEnd now f n w) := by
  generalize hB : w.heap.size = B at *
  obtain ⟨w1, hW⟩ : ∃ w1, w1 = (w.alloc (.cells (Cw now V) 25)).alloc (.cells (Cw 0 nilV) 25) := ⟨_, rfl⟩
  have hs1 : w1.heap.size = B + 2 := by rw [hW]; simp [hB]
  have hb1 : Below B w w1 := by rw [hW]; exact (((Below.refl B w).alloc (by omega) _).alloc (by simp; omega) _)
  have k0 : Blk w1 B now V := by
    rw [hW, Blk, Below.heap_alloc _ _ _ (by simp; omega), ← hB]; exact heap_alloc_new w _
  have k1 : Blk w1 (B + 1) 0 nilV := by
    have := heap_alloc_new (w.alloc (.cells (Cw now V) 25)) (.cells (Cw 0 nilV) 25)
    rw [hW, Blk]
    simpa [hB] using this
  have h1 := h.below hB.symm hb1
  have r0 : ((w.alloc (.cells (Cw now V) 25)).alloc (.cells (Cw 0 nilV) 25)).heap[B]? = some (.cells (Cw now V) 25 (0, 0)) := by rw [← hW]; exact k0
  have R0 := Lib.hid r0
  have Hb1 := Lib.hid hb1
  have K0 := Lib.hid k0
  have K1 := Lib.hid k1
  have H1 := Lib.hid h1
  have HW := Lib.hid hW
  have hs1l : B + 2 ≤ w1.heap.size := by omega
  have Hwf := Lib.hid hwf
  clear hb1 k0 k1 h1 hW hs1 h r0 hwf
  have zv := zv25
  go_enter Try.func7, Try.ntmps7
  go_wp2_with (refine wpList_load_row rfl 25 (.tmp 2) rfl B rfl 25 (Cw now V) (0, 0) _ R0.out Try.underlying25 rfl (by rw [Cw_size]; exact info25) ?_)
  rw [← HW.out]
  refine (c16 now V f w1 H1.out hl Hwf.out).mono ?_
  rintro e w2 ⟨⟨r, rfl, hr⟩, hb2⟩
  have hs2 := hb2.size
  have K0 := Lib.hid (K0.out.below hb2 (by omega))
  have K1 := Lib.hid (K1.out.below hb2 (by omega))
  have H2 := Lib.hid (H1.out.below rfl hb2)
  have Hb2 := Lib.hid (Hb1.out.trans (hb2.mono (by omega)))
  have Hr := Lib.hid hr
  clear hb2 hr R0 H1 Hb1
  by_cases hr0 : r = 0
  · have hq : (r != 0) = false := by rw [hr0]; rfl
    have hR : Right now f := Hr.out.1 hr0
    have HR := Lib.hid hR
    have hn0 := hR.now0
    have hn1 := hR.now1
    subst hr0
    clear hR
    by_cases hok : 0 ≤ n ∧ n ≤ 10000 ∧ now + n < 16777216
    · obtain ⟨g0, g1, g2⟩ := hok
      have hfin : tickOk now f n := ⟨HR.out, g0, g1, g2⟩
      have Hfin := Lib.hid hfin
      have hok := HR.out.ok
      have hc5 := HR.out.few
      have Hok := Lib.hid hok
      clear hfin hok
      obtain ⟨nn, rfl⟩ := Int.eq_ofNat_of_zero_le g0
      obtain ⟨nw, rfl⟩ := Int.eq_ofNat_of_zero_le hn0
      have d0 : decide ((nn : Int) < 0) = false := decide_eq_false (by omega)
      have d1 : decide ((nn : Int) > 10000) = false := decide_eq_false (by omega)
      have d2 : decide ((nw : Int) + nn ≥ 16777216) = false := decide_eq_false (by omega)
      have k0 : w2.cell? ⟨B, 0, none⟩ = some (.int .i64 nw) := by rw [cell_of_blk K0.out, Cw_now]
      go_wp2_with (refine wpList_load_row rfl 25 (.tmp 2) rfl B rfl 25 (Cw nw V) (0, 0) _ K0.out Try.underlying25 rfl (by rw [Cw_size]; exact info25) ?_)
      refine (c22 nw V f w2 H2.out hl).mono ?_
      rintro e w3 ⟨V1, rfl, ho3, hb3⟩
      have hs3 := hb3.size
      have K0 := Lib.hid (K0.out.below hb3 (by omega))
      have K1 := Lib.hid (K1.out.below hb3 (by omega))
      have O3 := Lib.hid ho3
      have Hb3 := Lib.hid (Hb2.out.trans (hb3.mono (by omega)))
      have one1 := (ho3.at (Nat.le_refl _)).one
      have One := Lib.hid one1
      clear k0 ho3 hb3 Hb2 H2 one1
      go_wp2_with (refine wpList_store_row rfl 25 (.tmp 2) (.tmp 30) rfl B (Cw nw V1) rfl rfl 25 (Cw nw V) K0.out (by rw [Cw_size]; exact info25) (by rw [Cw_size, Cw_size]) (Cw_one nw V1 One.out) ?_)
      obtain ⟨w4, hW4⟩ : ∃ w4, w3.setRow B (Cw nw V1) = w4 := ⟨_, rfl⟩
      have hst : ∃ V', V' 96 = .slice none 0 0 ∧ Blk w4 B nw V' ∧ Blk w4 (B + 1) 0 nilV ∧ Own w4 (B + 2) 97 V' (slots (f, []) []) ∧ Below B w w4 ∧ B + 2 ≤ w4.heap.size := by
        rw [← hW4]
        refine ⟨upd V1 96 (.slice none 0 0), upd_same _ _ _, Blk.ext (setRow_heap _ _ _ _ _ _ K0.out) (fun i hi => upd_other _ _ _ (by omega)), (setRow_other _ _ _ _ (by omega)).trans K1.out, ?_, below_setRow Hb3.out (Nat.le_refl _) _, by simp; omega⟩
        have O4 : Own (w3.setRow B (Cw nw V1)) (B + 2) 96 V1 f := (O3.out.of_same fun i hi g hg => setRow_other _ _ _ _ (fun e => O3.out.ne_blk K0.out i hi (by rw [hg, e]))).base (by omega)
        have O5 := O4.push (OwnD.nil _ _) (fun i hi k hk => by simp [Value.ownBlock])
        refine O5.ext (fun _ _ => rfl) (fun i hi => ?_)
        by_cases e : i = 96
        · subst e; rw [upd_same]; rfl
        · rw [upd_other _ _ _ e]; simp [slots, show i < 96 by omega]
      rw [hW4]
      obtain ⟨V4, hv4, hst⟩ := hst
      have Hst := Lib.hid hst
      have Hv4 := Lib.hid hv4
      clear K0 K1 O3 Hb3 One hW4 hst hv4
      go_loopw [8, 32] (fun v8 v32 wr => ∃ (m : Nat) (V' : Nat → Value), m ≤ nn ∧ v32 = .int .i64 m ∧ v8 = V' 96 ∧ Blk wr B ((nw + m : Nat) : Int) V' ∧ Blk wr (B + 1) 0 nilV ∧ Own wr (B + 2) 97 V' (slots (tickM nw f m) []) ∧ Below B w wr ∧ B + 2 ≤ wr.heap.size) (fun _ v32 _ => nn - (intOf v32).toNat)
      case atStart => exact ⟨0, V4, Nat.zero_le _, rfl, Hv4.out.symm, Hst.out.1, Hst.out.2.1, Hst.out.2.2.1, Hst.out.2.2.2.1, Hst.out.2.2.2.2⟩
      case round =>
        clear Hst Hv4
        obtain ⟨m, V', hm, rfl, hv8, hblk, hblk1, hown, hbel, hsz⟩ := hrel
        have hcm := tick_cnt (nw : Int) f m
        have hokm := tick_ok Hok.out (now := (nw : Int)) m
        by_cases hlt : m < nn
        · have ho8 := hown.each 96 (by omega)
          obtain ⟨a8, c8, hv96⟩ := ho8.shape
          have hv8 := hv8.trans hv96
          subst hv8
          have Hown := Lib.hid hown
          have Hblk := Lib.hid hblk
          have Hblk1 := Lib.hid hblk1
          have Hokm := Lib.hid hokm
          have Hv96 := Lib.hid hv96
          have hmn : (m : Int) < nn := by omega
          have h500 := len_le_cnt (tickM (nw : Int) f m) (i := 0) (by omega)
          have hall : (allM (tickM (nw : Int) f m).1).length ≤ 500 := by unfold cntM at hcm; omega
          have hout : (tickM (nw : Int) f m).2.length ≤ 500 := by unfold cntM at hcm; omega
          clear hown hblk hblk1 hokm hv96 ho8 hcm h500 hv8
          go_wp2_with fail
          refine (c23 B (B + 2) (nw + m) V' (tickM nw f m).1 wr Hblk.out ((Hown.out.less (M := 96) (by omega)).ext (fun _ _ => rfl) (fun i hi => (slots_lt _ _ hi).symm)) (by omega) (by omega) Hokm.out hall).mono ?_
          rintro e w5 ⟨V2, rfl, hT⟩
          have h9 := tick_own Hown.out Hblk.out hT
          have h10 : OwnD w5 (B + 2) (V2 96) (turnM ((nw + m + 1 : Nat) : Int) (tickM nw f m).1).2 := by
            have := hT.own.each 96 (by omega)
            rwa [slots_96] at this
          obtain ⟨a9, c9, hv2⟩ := h10.shape
          have hcnt2 := turn_cnt ((nw + m + 1 : Nat) : Int) (tickM nw f m).1
          have hl2 : (turnM ((nw + m + 1 : Nat) : Int) (tickM nw f m).1).2.length ≤ 500 := by unfold cntM at hcnt2; omega
          rw [hv2] at h10
          have hnil := h10.nil_of
          have hsrc := h10.at.src
          have h9' : OwnsT w5 (B + 2) 33 2 DuT (.slice a8 (slots (tickM nw f m) [] 96).length c8) (slots (tickM nw f m) [] 96).length (duCells (slots (tickM nw f m) [] 96)) := by
            rw [← Hv96.out, slots_96]; exact h9
          have hsz5 := hT.size
          have hl8 : (slots (tickM nw f m) [] 96).length ≤ 500 := by rw [slots_96]; exact hout
          have hblk15 : Blk w5 (B + 1) 0 nilV := Hblk1.out.keep (hT.fr.block _ Hblk1.out.lt (fun hS => by
            rcases hS with hS | ⟨x, hx, hxk⟩
            · omega
            · exact Hown.out.ne_blk Hblk1.out x (by omega) hxk))
          have hbel5 : Below B w w5 := hbel.trans (hT.fr.below (fun x hS => by
            rcases hS with rfl | ⟨j, hj, hjk⟩
            · exact Nat.le_refl _
            · have := ((Hown.out.each j (by omega)).lt x hjk).1; omega) (by omega))
          have H9 := Lib.hid h9'
          have Hnil := Lib.hid hnil
          have Hsrc := Lib.hid hsrc
          have Hb15 := Lib.hid hblk15
          have Hbel5 := Lib.hid hbel5
          have HT := Lib.hid hT
          have Hv2 := Lib.hid hv2
          have H9d := Lib.hid h9
          rw [Hv2.out]
          clear h9 h10 hcnt2 hv2 hnil hsrc h9' hblk15 hbel5 hT hbel
          go_wp2_with (at_builtin; go_loud (refine wpList_append_ownT _ rfl _ _ 22 rfl (B + 2) 33 (.agg #[.int .i64 0, .int .i64 0]) 2 16 DuT Try.underlying22 info33 rfl (by decide) DuT_zero (.slice a8 (slots (tickM nw f m) [] 96).length c8) (slots (tickM nw f m) [] 96).length (duCells (slots (tickM nw f m) [] 96)) rfl H9.out a9 (turnM ((nw + m + 1 : Nat) : Int) (tickM nw f m).1).2.length c9 (duCells (turnM ((nw + m + 1 : Nat) : Int) (tickM nw f m).1).2) rfl (duCells_length _) Hnil.out Hsrc.out (one_cells _) (DuT_cells _ _) ?c1 ?c2 ?c3 ?_))
          case c1 => unfold maxLen; omega
          case c2 => omega
          case c3 => omega
          intro v' w6 hown' hgrow _ hat
          have hown6 : OwnD w6 (B + 2) v' ((tickM nw f m).2 ++ (turnM ((nw + m + 1 : Nat) : Int) (tickM nw f m).1).2) := by
            unfold OwnD
            rw [duCells_append, List.length_append]
            rw [slots_96] at hown'
            exact hown'
          rw [← Hv96.out] at hgrow hat
          have hstep := tick_step Hown.out Hblk.out HT.out hown6 hgrow hat
          have hb16 : Blk w6 (B + 1) 0 nilV := Hb15.out.keep (hgrow.block _ Hb15.out.lt (fun e => H9d.out.ne Hb15.out (by decide) e.symm))
          have hbel6 : Below B w w6 := Hbel5.out.grown hgrow (by omega) (fun k hk => by have := (H9d.out.lt k hk).1; omega)
          have hsz6 := hgrow.size
          obtain ⟨a6, c6, rfl⟩ := hown6.shape
          have S1 := Lib.hid hstep.1
          have S2 := Lib.hid hstep.2
          have S3 := Lib.hid hb16
          have S4 := Lib.hid hbel6
          clear hown' hgrow hat hstep hown6 hb16 hbel6
          go_wp2_with fail
          go_roundw
          case rel => exact ⟨m + 1, _, by omega, by go_num, by rw [upd_same], S1.out, S3.out, by rw [tickM_succ]; exact S2.out, S4.out, by omega⟩
          case measure => simp [intOf]; omega
        · obtain rfl : m = nn := by omega
          obtain ⟨a8, c8, hv96⟩ := (hown.each 96 (by omega)).shape
          have hv8 := hv8.trans hv96
          subst hv8
          have one2 := ((hown.less (M := 96) (by omega)).at (Nat.le_refl _)).one
          have One := Lib.hid one2
          have Hown := Lib.hid hown
          have Hblk := Lib.hid hblk
          have Hblk1 := Lib.hid hblk1
          have Hv96 := Lib.hid hv96
          clear one2 hown hblk hblk1 hv96 hcm hokm hv8
          go_wp2_with (first
            | (refine wpList_load_row rfl 25 (.tmp 2) rfl B rfl 25 (Cw ((nw + m : Nat) : Int) V') (0, 0) _ Hblk.out Try.underlying25 rfl (by rw [Cw_size]; exact info25) ?_)
            | (refine wpList_store_row rfl 25 (.tmp 4) (.tmp 38) rfl (B + 1) (Cw ((nw + m : Nat) : Int) V') rfl rfl 25 (Cw 0 nilV) Hblk1.out (by rw [Cw_size]; exact info25) (by rw [Cw_size, Cw_size]) (Cw_one _ V' One.out) ?_))
          refine bodyPost_ret (ret25_3 rfl _ _ (B + 1) _ V' rfl (setRow_heap _ _ _ _ _ _ Hblk1.out)) rfl ?_
          refine ⟨by rw [hB]; exact below_setRow hbel (by omega) _, .inr ⟨Hfin.out, V', by rw [Hv96.out]; rfl, ?_⟩⟩
          rw [hB]
          refine (Hown.out.of_same fun i hi g hg => setRow_other _ _ _ _ (fun e => ?_)).base (by omega)
          exact Hown.out.ne_blk Hblk1.out i hi (by rw [hg, e])
    · have hno : ¬ tickOk now f n := fun h => hok h.2
      have k0 : w2.cell? ⟨B, 0, none⟩ = some (.int .i64 now) := by rw [cell_of_blk K0.out, Cw_now]
      have hbu : Try.prog.built 25 [] = some (Cw 0 nilV) := by kernel_rfl
      have Hno := Lib.hid hno
      have Hfin := Lib.hid (show Below w.heap.size w (w2.setRow (B + 1) (Cw 0 nilV)) from by rw [hB]; exact below_setRow Hb2.out (by omega) _)
      clear hno
      by_cases g0 : n < 0
      · have d0 : decide (n < 0) = true := decide_eq_true g0
        go_wp2_with (refine wpList_store_row rfl 25 (.tmp 4) (.tmp 28) rfl (B + 1) (Cw 0 nilV) rfl rfl 25 (Cw 0 nilV) K1.out (by rw [Cw_size]; exact info25) (by rw [Cw_size]) (Cw_one 0 nilV (fun _ _ => rfl)) ?_)
        exact bodyPost_ret (ret25_3 rfl _ _ (B + 1) 0 nilV rfl (setRow_heap _ _ _ _ _ _ K1.out)) rfl ⟨Hfin.out, .inl ⟨Hno.out, 1, by decide, rfl⟩⟩
      have d0 : decide (n < 0) = false := decide_eq_false g0
      by_cases g1 : 10000 < n
      · have d1 : decide (n > 10000) = true := decide_eq_true g1
        go_wp2_with (refine wpList_store_row rfl 25 (.tmp 4) (.tmp 28) rfl (B + 1) (Cw 0 nilV) rfl rfl 25 (Cw 0 nilV) K1.out (by rw [Cw_size]; exact info25) (by rw [Cw_size]) (Cw_one 0 nilV (fun _ _ => rfl)) ?_)
        exact bodyPost_ret (ret25_3 rfl _ _ (B + 1) 0 nilV rfl (setRow_heap _ _ _ _ _ _ K1.out)) rfl ⟨Hfin.out, .inl ⟨Hno.out, 1, by decide, rfl⟩⟩
      have d1 : decide (n > 10000) = false := decide_eq_false g1
      have g2 : 16777216 ≤ now + n := by omega
      have d2 : decide (now + n ≥ 16777216) = true := decide_eq_true g2
      go_wp2_with (refine wpList_store_row rfl 25 (.tmp 4) (.tmp 28) rfl (B + 1) (Cw 0 nilV) rfl rfl 25 (Cw 0 nilV) K1.out (by rw [Cw_size]; exact info25) (by rw [Cw_size]) (Cw_one 0 nilV (fun _ _ => rfl)) ?_)
      exact bodyPost_ret (ret25_3 rfl _ _ (B + 1) 0 nilV rfl (setRow_heap _ _ _ _ _ _ K1.out)) rfl ⟨Hfin.out, .inl ⟨Hno.out, 1, by decide, rfl⟩⟩
  · have hq : (r != 0) = true := by rw [bne_iff_ne]; exact hr0
    have hno : ¬ tickOk now f n := fun h => hr0 (Hr.out.2 h.1)
    have Hno := Lib.hid hno
    have Hr0 := Lib.hid hr0
    clear hr0 hno
    have hbu : Try.prog.built 25 [] = some (Cw 0 nilV) := by kernel_rfl
    go_wp2_with (refine wpList_store_row rfl 25 (.tmp 4) (.tmp 13) rfl (B + 1) (Cw 0 nilV) rfl rfl 25 (Cw 0 nilV) K1.out (by rw [Cw_size]; exact info25) (by rw [Cw_size]) (Cw_one 0 nilV (fun _ _ => rfl)) ?_)
    refine bodyPost_ret (ret25_3 rfl _ _ (B + 1) 0 nilV rfl (setRow_heap _ _ _ _ _ _ K1.out)) rfl ?_
    exact ⟨by rw [hB]; exact below_setRow Hb2.out (by omega) _, .inl ⟨Hno.out, r, Hr0.out, rfl⟩⟩
end Go.Proofs.Ytefikkmhdjlccaa
