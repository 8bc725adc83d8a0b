/- Set. -/
import Derived.Test.YtefikkmhdjlccaaW13
namespace Go.Proofs.Ytefikkmhdjlccaa
open Go.RowKit

structure SetOk (now : Int) (f : Ls) (id tm : Int) : Prop where
  right : Right now f
  lo : now < tm
  hi : tm < 16777216
  new : ∀ i, i < 96 → ∀ d ∈ f i, d.id ≠ id
  room : (allM f).length ≠ 500
def setM (now : Int) (f : Ls) (id tm : Int) : Ls := upd f (listM now tm) (f (listM now tm) ++ [⟨id, tm⟩])
def SetEnd (now : Int) (f : Ls) (id tm : Int) (w : World) (e : Ending) (w' : World) : Prop :=
  Below w.heap.size w w' ∧ ((¬ SetOk now f id tm ∧ ∃ r : Int, r ≠ 0 ∧ e = .returned (.tuple #[.agg (Cw 0 nilV), .int .i64 r])) ∨
    (SetOk now f id tm ∧ ∃ V', e = .returned (.tuple #[.agg (Cw now V'), .int .i64 0]) ∧ Own w' w.heap.size 96 V' (setM now f id tm)))

set_option maxHeartbeats 4000000 in
theorem c12 (now id tm : Int) (V : Nat → Value) (f : Ls) (w : World) (h : WheelAt w V f) (hl : ∀ i, i < 96 → (f i).length ≤ 8796093022208) (hwf : ∀ i, i < 96 → ∀ d ∈ f i, (Lit.int .i64 d.id).wf = true) :
    Calls Try.prog 12 #[.agg (Cw now V), .int .i64 id, .int .i64 tm] w (SetEnd now f id tm w) := by
  generalize hB : w.heap.size = B at *
  obtain ⟨w1, hW⟩ : ∃ w1, w1 = (w.alloc (.cells (Cw now V) 25)).alloc (.cells (Cw 0 nilV) 25) := ⟨_, rfl⟩
  have hs1 : w1.heap.size = B + 2 := by rw [hW]; simp [hB]
  have hb1 : Below B w w1 := by rw [hW]; exact (((Below.refl B w).alloc (by omega) _).alloc (by simp; omega) _)
  have k0 : Blk w1 B now V := by
    rw [hW, Blk, Below.heap_alloc _ _ _ (by simp; omega), ← hB]; exact heap_alloc_new w _
  have k1 : Blk w1 (B + 1) 0 nilV := by
    have := heap_alloc_new (w.alloc (.cells (Cw now V) 25)) (.cells (Cw 0 nilV) 25)
    rw [hW, Blk]
    simpa [hB] using this
  have h1 := h.below hB.symm hb1
  have r0 : ((w.alloc (.cells (Cw now V) 25)).alloc (.cells (Cw 0 nilV) 25)).heap[B]? = some (.cells (Cw now V) 25 (0, 0)) := by rw [← hW]; exact k0
  have R0 := Lib.hid r0
  have Hb1 := Lib.hid hb1
  have K0 := Lib.hid k0
  have K1 := Lib.hid k1
  have H1 := Lib.hid h1
  have HW := Lib.hid hW
  have hs1l : B + 2 ≤ w1.heap.size := by omega
  have Hwf := Lib.hid hwf
  clear hb1 k0 k1 h1 hW hs1 h r0 hwf
  have zv := zv25
  have hbu : Try.prog.built 25 [] = some (Cw 0 nilV) := by kernel_rfl
  go_enter Try.func12, Try.ntmps12
  go_wp2_with (refine wpList_load_row rfl 25 (.tmp 3) rfl B rfl 25 (Cw now V) (0, 0) _ R0.out Try.underlying25 rfl (by rw [Cw_size]; exact info25) ?_)
  rw [← HW.out]
  refine (c16 now V f w1 H1.out hl Hwf.out).mono ?_
  rintro e w2 ⟨⟨r, rfl, hr⟩, hb2⟩
  have hs2 := hb2.size
  have K0 := Lib.hid (K0.out.below hb2 (by omega))
  have K1 := Lib.hid (K1.out.below hb2 (by omega))
  have H2 := Lib.hid (H1.out.below rfl hb2)
  have Hb2 := Lib.hid (Hb1.out.trans (hb2.mono (by omega)))
  have Hr := Lib.hid hr
  clear hb2 hr R0 H1 Hb1
  by_cases hr0 : r = 0
  · have hq : (r != 0) = false := by rw [hr0]; rfl
    have hR : Right now f := Hr.out.1 hr0
    have HR := Lib.hid hR
    have hn0 := hR.now0
    have hn1 := hR.now1
    have hfew := hR.few
    subst hr0
    clear hR
    have k0 : w2.cell? ⟨B, 0, none⟩ = some (.int .i64 now) := by rw [cell_of_blk K0.out, Cw_now]
    by_cases g0 : tm ≤ now
    · have d0 : decide (tm ≤ now) = true := decide_eq_true g0
      go_wp2_with (refine wpList_store_row rfl 25 (.tmp 6) (.tmp 25) rfl (B + 1) (Cw 0 nilV) rfl rfl 25 (Cw 0 nilV) K1.out (by rw [Cw_size]; exact info25) (by rw [Cw_size]) (Cw_one 0 nilV (fun _ _ => rfl)) ?_)
      refine bodyPost_ret (ret25_2 rfl _ _ (B + 1) 0 nilV rfl (setRow_heap _ _ _ _ _ _ K1.out)) rfl ?_
      exact ⟨by rw [hB]; exact below_setRow Hb2.out (by omega) _, .inl ⟨fun h => by have := h.lo; omega, 1, by decide, rfl⟩⟩
    have d0 : decide (tm ≤ now) = false := decide_eq_false g0
    by_cases g1 : 16777216 ≤ tm
    · have d1 : decide (tm ≥ 16777216) = true := decide_eq_true g1
      go_wp2_with (refine wpList_store_row rfl 25 (.tmp 6) (.tmp 25) rfl (B + 1) (Cw 0 nilV) rfl rfl 25 (Cw 0 nilV) K1.out (by rw [Cw_size]; exact info25) (by rw [Cw_size]) (Cw_one 0 nilV (fun _ _ => rfl)) ?_)
      refine bodyPost_ret (ret25_2 rfl _ _ (B + 1) 0 nilV rfl (setRow_heap _ _ _ _ _ _ K1.out)) rfl ?_
      exact ⟨by rw [hB]; exact below_setRow Hb2.out (by omega) _, .inl ⟨fun h => by have := h.hi; omega, 1, by decide, rfl⟩⟩
    have d1 : decide (tm ≥ 16777216) = false := decide_eq_false g1
    go_wp2_with (refine wpList_load_row rfl 25 (.tmp 3) rfl B rfl 25 (Cw now V) (0, 0) _ K0.out Try.underlying25 rfl (by rw [Cw_size]; exact info25) ?_)
    refine (c24 now id V f w2 H2.out hl).mono ?_
    rintro e w3 ⟨hfind, hb3⟩
    have hs3 := hb3.size
    have K0 := Lib.hid (K0.out.below hb3 (by omega))
    have K1 := Lib.hid (K1.out.below hb3 (by omega))
    have H3 := Lib.hid (H2.out.below rfl hb3)
    have Hb3 := Lib.hid (Hb2.out.trans (hb3.mono (by omega)))
    clear hb3 H2 Hb2 k0
    rcases hfind with ⟨i, k, hi, hk, hid, rfl⟩ | ⟨hno, rfl⟩
    · have Hid' := Lib.hid hid
      clear hid
      go_wp2_with (refine wpList_store_row rfl 25 (.tmp 6) (.tmp 34) rfl (B + 1) (Cw 0 nilV) rfl rfl 25 (Cw 0 nilV) K1.out (by rw [Cw_size]; exact info25) (by rw [Cw_size]) (Cw_one 0 nilV (fun _ _ => rfl)) ?_)
      refine bodyPost_ret (ret25_2 rfl _ _ (B + 1) 0 nilV rfl (setRow_heap _ _ _ _ _ _ K1.out)) rfl ?_
      exact ⟨by rw [hB]; exact below_setRow Hb3.out (by omega) _, .inl ⟨fun h => h.new i hi _ (getD_mem hk) Hid'.out, 8, by decide, rfl⟩⟩
    have Hno := Lib.hid hno
    clear hno
    go_wp2_with (refine wpList_load_row rfl 25 (.tmp 3) rfl B rfl 25 (Cw now V) (0, 0) _ K0.out Try.underlying25 rfl (by rw [Cw_size]; exact info25) ?_)
    refine (c25 now V f w3 H3.out hl).mono ?_
    rintro e w4 ⟨rfl, hb4⟩
    have hs4 := hb4.size
    have K0 := Lib.hid (K0.out.below hb4 (by omega))
    have K1 := Lib.hid (K1.out.below hb4 (by omega))
    have H4 := Lib.hid (H3.out.below rfl hb4)
    have Hb4 := Lib.hid (Hb3.out.trans (hb4.mono (by omega)))
    clear hb4 H3 Hb3
    by_cases g2 : (allM f).length = 500
    · have d2 : (((allM f).length : Int) == 500) = true := by rw [g2]; rfl
      have G2 := Lib.hid g2
      clear g2
      go_wp2_with (refine wpList_store_row rfl 25 (.tmp 6) (.tmp 38) rfl (B + 1) (Cw 0 nilV) rfl rfl 25 (Cw 0 nilV) K1.out (by rw [Cw_size]; exact info25) (by rw [Cw_size]) (Cw_one 0 nilV (fun _ _ => rfl)) ?_)
      refine bodyPost_ret (ret25_2 rfl _ _ (B + 1) 0 nilV rfl (setRow_heap _ _ _ _ _ _ K1.out)) rfl ?_
      exact ⟨by rw [hB]; exact below_setRow Hb4.out (by omega) _, .inl ⟨fun h => h.room G2.out, 6, by decide, rfl⟩⟩
    have d2 : (((allM f).length : Int) == 500) = false := by rw [beq_eq_false_iff_ne]; omega
    have hok : SetOk now f id tm := ⟨HR.out, by omega, by omega, Hno.out, g2⟩
    have Hok := Lib.hid hok
    clear hok g2
    go_wp2_with (refine wpList_load_row rfl 25 (.tmp 3) rfl B rfl 25 (Cw now V) (0, 0) _ K0.out Try.underlying25 rfl (by rw [Cw_size]; exact info25) ?_)
    refine (c22 now V f w4 H4.out hl).mono ?_
    rintro e w5 ⟨V1, rfl, ho5, hb5⟩
    have hs5 := hb5.size
    have K0 := Lib.hid (K0.out.below hb5 (by omega))
    have K1 := Lib.hid (K1.out.below hb5 (by omega))
    have O5 := Lib.hid ho5
    have Hb5 := Lib.hid (Hb4.out.trans (hb5.mono (by omega)))
    have One := Lib.hid ((ho5.at (Nat.le_refl _)).one)
    clear ho5 hb5 Hb4 H4
    go_wp2_with (refine wpList_store_row rfl 25 (.tmp 3) (.tmp 40) rfl B (Cw now V1) rfl rfl 25 (Cw now V) K0.out (by rw [Cw_size]; exact info25) (by rw [Cw_size, Cw_size]) (Cw_one now V1 One.out) ?_)
    obtain ⟨w6, hW6⟩ : ∃ w6, w5.setRow B (Cw now V1) = w6 := ⟨_, rfl⟩
    have k6 : Blk w6 B now V1 := by rw [← hW6]; exact setRow_heap _ _ _ _ _ _ K0.out
    have k61 : Blk w6 (B + 1) 0 nilV := by rw [← hW6]; exact (setRow_other _ _ _ _ (by omega)).trans K1.out
    have o6 : Own w6 (B + 2) 96 V1 f := by
      rw [← hW6]
      exact (O5.out.of_same fun i hi g hg => setRow_other _ _ _ _ (fun e => O5.out.ne_blk K0.out i hi (by rw [hg, e]))).base (by omega)
    have hb6 : Below B w w6 := by rw [← hW6]; exact below_setRow Hb5.out (Nat.le_refl _) _
    have hs6 : B + 2 ≤ w6.heap.size := by rw [← hW6]; simp; omega
    rw [hW6]
    obtain ⟨nw, rfl⟩ := Int.eq_ofNat_of_zero_le hn0
    obtain ⟨t, rfl⟩ := Int.eq_ofNat_of_zero_le (show 0 ≤ tm by omega)
    have hiq := listN_lt nw t
    have hle := len_le_cnt (f, []) hiq
    have hcall := c26 B (B + 2) nw t id V1 (f (listN nw t)) w6 k6 (o6.each _ hiq) hs6 (by omega) (by omega) (by omega) (by unfold cntM at hle; simp at hle; omega)
    refine hcall.mono ?_
    rintro e w7 ⟨rfl, v', p1, p2, p3, p4⟩
    have hk7 : Blk w7 (B + 1) 0 nilV := k61.keep (p3.block _ k61.lt (fun hS => by
      rcases hS with hS | hS
      · omega
      · exact o6.ne_blk k61 _ hiq hS))
    have hO7 : Own w7 (B + 2) 96 (upd V1 (listN nw t) v') (setM (nw : Int) f id (t : Int)) := o6.turn hiq p2 (fun j hj hne k hk => p3.block k ((o6.each j hj).lt k hk).2 (fun hS => by
      rcases hS with rfl | hS
      · exact o6.ne_blk k6 j hj hk
      · exact o6.apart j _ hj hiq hne k hk hS)) p4
    have hb7 : Below B w w7 := hb6.trans (p3.below (fun x hS => by
      rcases hS with rfl | hS
      · exact Nat.le_refl _
      · have := ((o6.each _ hiq).lt x hS).1; omega) (by omega))
    have K0 := Lib.hid p1
    have K1 := Lib.hid hk7
    have O7 := Lib.hid hO7
    have Hb7 := Lib.hid hb7
    have One := Lib.hid ((hO7.at (Nat.le_refl _)).one)
    clear p1 p2 p3 p4 hk7 hO7 hb7 k6 k61 o6 hb6 hcall hW6
    go_wp2_with (first
      | (refine wpList_load_row rfl 25 (.tmp 3) rfl B rfl 25 (Cw (nw : Int) (upd V1 (listN nw t) v')) (0, 0) _ K0.out Try.underlying25 rfl (by rw [Cw_size]; exact info25) ?_)
      | (refine wpList_store_row rfl 25 (.tmp 6) (.tmp 45) rfl (B + 1) (Cw (nw : Int) (upd V1 (listN nw t) v')) rfl rfl 25 (Cw 0 nilV) K1.out (by rw [Cw_size]; exact info25) (by rw [Cw_size, Cw_size]) (Cw_one _ _ One.out) ?_))
    refine bodyPost_ret (ret25_2 rfl _ _ (B + 1) _ (upd V1 (listN nw t) v') rfl (setRow_heap _ _ _ _ _ _ K1.out)) rfl ?_
    refine ⟨by rw [hB]; exact below_setRow Hb7.out (by omega) _, .inr ⟨Hok.out, _, rfl, ?_⟩⟩
    rw [hB]
    refine (O7.out.of_same fun i hi g hg => setRow_other _ _ _ _ (fun e => ?_)).base (by omega)
    exact O7.out.ne_blk K1.out i hi (by rw [hg, e])
  · have hq : (r != 0) = true := by rw [bne_iff_ne]; exact hr0
    have hno : ¬ SetOk now f id tm := fun h => hr0 (Hr.out.2 h.right)
    have Hno := Lib.hid hno
    have Hr0 := Lib.hid hr0
    clear hr0 hno
    go_wp2_with (refine wpList_store_row rfl 25 (.tmp 6) (.tmp 15) rfl (B + 1) (Cw 0 nilV) rfl rfl 25 (Cw 0 nilV) K1.out (by rw [Cw_size]; exact info25) (by rw [Cw_size]) (Cw_one 0 nilV (fun _ _ => rfl)) ?_)
    refine bodyPost_ret (ret25_2 rfl _ _ (B + 1) 0 nilV rfl (setRow_heap _ _ _ _ _ _ K1.out)) rfl ?_
    exact ⟨by rw [hB]; exact below_setRow Hb2.out (by omega) _, .inl ⟨Hno.out, r, Hr0.out, rfl⟩⟩
end Go.Proofs.Ytefikkmhdjlccaa
