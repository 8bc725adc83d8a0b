/- WheelRight of a right wheel. -/
import Derived.Test.YtefikkmhdjlccaaV2
import Derived.Deep.RegionHeld3
namespace Go.Proofs.Ytefikkmhdjlccaa
open Go.RowKit

theorem step_load_row {P : Program} {ops : Array Oper} {o : Oper} {a : Act} {w : World} {K : Act → World → Prop} {Q : Exit → Act → World → Prop} {E : Prop} (hgd : o.guard = none) (ty : TypeId) (x : Operand) (ho : o.op = .load ty x)
    (g : Nat) (hx : a.eval x = .pointer (some ⟨g, 0, none⟩)) (t : TypeId) (cs : Array Value) (fr : Nat × Nat) (d : TypeDesc) (hg : w.heap[g]? = some (.cells cs t fr))
    (hu : P.underlying ty = some d) (hd : (match d with | .struct _ | .array _ _ => true | _ => false) = true) (hi : (P.info? ty).map (·.size) = some cs.size)
    (h : K (a.put o.dst (.agg cs)) w) : if Region.wanted o (yielded ops a.tmps) = true then Oper.wp P o a w K Q else E := by
  have hw : Region.wanted o (yielded ops a.tmps) = true := by simp [Region.wanted, hgd]
  rw [if_pos hw]
  exact wp_load_row ty x ho g hx t cs fr d hg hu hd hi h

theorem yieldsIf_load_row {P : Program} {ops : Array Oper} {S : World → Prop} {o : Oper} {a : Act} (hw : Region.wanted o (yielded ops a.tmps) = true) (ty : TypeId) (x : Operand) (ho : o.op = .load ty x)
    (g : Nat) (hx : a.eval x = .pointer (some ⟨g, 0, none⟩)) (t : TypeId) (cs : Array Value) (fr : Nat × Nat) (d : TypeDesc) (hS : ∀ w, S w → w.heap[g]? = some (.cells cs t fr))
    (hu : P.underlying ty = some d) (hd : (match d with | .struct _ | .array _ _ => true | _ => false) = true) (hi : (P.info? ty).map (·.size) = some cs.size) : YieldsIf P ops S o (.agg cs) a :=
  .inl ⟨hw, fun w hw' => by
    unfold execOp
    simp only [ho, hx, Instr.loadAt, Instr.sureAddr, Sem.run_bind, Sem.run_pure, Result.andThen_ok, run_loadVar_row w g t ty cs fr d (hS w hw') hu hd hi]⟩

theorem OwnD.base {w : World} {B B' : Nat} {v : Value} {l : List Du} (h : OwnD w B v l) (hB : B' ≤ B) : OwnD w B' v l := OwnsT.base_le h hB
theorem DuesAt.take {w : World} {a : Option Addr} {n c k : Nat} {l : List Du} (h : DuesAt w (.slice a n c) l) (hk : k ≤ l.length) : DuesAt w (.slice a k c) (l.take k) := by
  obtain ⟨a', c', e, h1, h2, h3⟩ := h
  simp only [Value.slice.injEq] at e
  obtain ⟨rfl, rfl, rfl⟩ := e
  have hlen : (l.take k).length = k := by rw [List.length_take]; omega
  refine ⟨a, c, by rw [hlen], by omega, h2, fun hne => ?_⟩
  obtain ⟨b, o, e, hc⟩ := h3 (by intro e; rw [e] at hne; simp at hne)
  refine ⟨b, o, e, fun i hi => ?_⟩
  rw [hlen] at hi
  have : (l.take k).getD i default = l.getD i default := by simp [List.getD, hi]
  rw [this]
  exact hc i (by omega)

theorem take_ids {l : List Du} (h : (l.map Du.id).Nodup) {k : Nat} (hk : k < l.length) : ∀ d ∈ l.take k, (d.id == (l.getD k default).id) = false := by
  intro d hd
  obtain ⟨j, hj, rfl⟩ := List.mem_iff_getElem.1 hd
  rw [List.length_take] at hj
  rw [List.getElem_take]
  have hne : j ≠ k := by omega
  have h1 : ¬ (l.map Du.id)[j]'(by rw [List.length_map]; omega) = (l.map Du.id)[k]'(by rw [List.length_map]; omega) := fun e => hne ((List.getElem_inj h).1 e)
  simp only [List.getElem_map] at h1
  simpa [List.getD, hk] using h1

set_option maxHeartbeats 4000000 in
theorem c14 (now : Int) (V : Nat → Value) (f : Ls) (w : World) (h : WheelAt w V f) (hR : Right now f) :
    Calls Try.prog 14 #[.agg (Cw now V)] w fun e w' => e = .returned (.int .i64 0) ∧ Below w.heap.size w w' := by
  generalize hB : w.heap.size = B at *
  obtain ⟨w1, hW⟩ : ∃ w1, w.alloc (.cells (Cw now V) 25) = w1 := ⟨_, rfl⟩
  have hs1 : B + 1 ≤ w1.heap.size := by rw [← hW]; simp [hB]
  have hb1 : Below B w w1 := by rw [← hW]; exact (Below.refl B w).alloc (by omega) _
  have k0 : Blk w1 B now V := by rw [← hW, ← hB]; exact Blk.new w now V
  have r0 : (w.alloc (.cells (Cw now V) 25)).heap[B]? = some (.cells (Cw now V) 25 (0, 0)) := by rw [hW]; exact k0
  have R0 := Lib.hid r0
  have K0 := Lib.hid k0
  have H0 := Lib.hid h
  have H1 := Lib.hid (h.below hB.symm hb1)
  have Hb1 := Lib.hid hb1
  have HW := Lib.hid hW
  have HR := Lib.hid hR
  have hn0 := hR.now0
  have hn1 := hR.now1
  have hfew := hR.few
  obtain ⟨N, rfl⟩ := Int.eq_ofNat_of_zero_le hn0
  clear h hW hb1 hR k0 r0
  go_enter Try.func14, Try.ntmps14
  go_wp2_with (refine wpList_load_row rfl 25 (.tmp 1) rfl B rfl 25 (Cw N V) (0, 0) _ R0.out Try.underlying25 rfl (by rw [Cw_size]; exact info25) ?_)
  rw [HW.out]
  refine (c15 N V f w1 H1.out hfew).mono ?_
  rintro e w2 ⟨v, rfl, ho, hb2⟩
  have hs2 := hb2.size
  have K0 := Lib.hid (K0.out.below hb2 (by omega))
  have Hb2 := Lib.hid (Hb1.out.trans (hb2.mono (by omega)))
  have hids := HR.out.ids
  have hmem : ∀ d ∈ allM f, (N : Int) < d.tm ∧ d.tm < 16777216 := fun d hd => by
    obtain ⟨i, hi, hd⟩ := (allTo_mem f d 96).1 hd
    have := HR.out.each i hi d hd
    exact ⟨this.1, this.2.1⟩
  have hof : ∀ i, i < 96 → ofM N (allM f) i = f i := fun i hi => ofM_right HR.out hi
  generalize hL : allM f = L at *
  obtain ⟨a, c, rfl⟩ := ho.shape
  have Ho := Lib.hid (ho.base (B' := B) (by omega))
  have Hids := Lib.hid hids
  have Hmem := Lib.hid hmem
  have Hof := Lib.hid hof
  have hnow : w2.cell? ⟨B, 0, none⟩ = some (.int .i64 N) := by rw [cell_of_blk K0.out, Cw_now]
  have d0 : decide ((L.length : Int) > 500) = false := decide_eq_false (by omega)
  clear ho hb2 hids hmem R0 H1 hof
  go_wp2_with fail
  refine (c27 _ _ _ _ (by omega) (by omega)).mono ?_
  rintro e w3 ⟨rfl, rfl⟩
  clear hnow
  go_wp2_with fail
  go_loopw [17] (fun i wr => ∃ k : Nat, k ≤ L.length ∧ i = .int .i64 k ∧ Below w3.heap.size w3 wr) (fun i _ => L.length - (intOf i).toNat)
  case atStart => exact ⟨0, by omega, rfl, Below.refl _ _⟩
  case round =>
    obtain ⟨k, hk, rfl, hbel⟩ := hrel
    have hsz := hbel.size
    have K0' := K0.out.below hbel (by omega)
    have hD := Ho.out.at.below rfl hbel
    have Hbel := Lib.hid hbel
    clear hbel
    by_cases hlt : k < L.length
    · have hdk := Hmem.out _ (getD_mem hlt)
      have hno := take_ids Hids.out hlt
      have hnow : wr.cell? ⟨B, 0, none⟩ = some (.int .i64 N) := by rw [cell_of_blk K0', Cw_now]
      have hDt := hD.take hk
      obtain ⟨a', c', e0, hac, _, hDc⟩ := hD
      simp only [Value.slice.injEq, true_and] at e0
      obtain ⟨rfl, rfl⟩ := e0
      obtain ⟨b, o, rfl, hcell⟩ := hDc (by intro e; rw [e] at hlt; simp at hlt)
      obtain ⟨q1, q2⟩ := hcell k hlt
      clear hDc hcell
      generalize hdd : L.getD k default = d at *
      obtain ⟨id, tm⟩ := d
      simp only at q1 q2 hdk hno
      have hg0 : (k : Int) < L.length := by omega
      have hBlt : B < wr.heap.size := by omega
      have HDt := Lib.hid (hDt.below rfl (Below.of_alloc wr (.cells #[.int .i64 id, .int .i64 tm] 33)))
      have Hno := Lib.hid hno
      have hA := Lib.hid (asks29 wr.heap.size id tm (wr.alloc (.cells #[.int .i64 id, .int .i64 tm] 33)) (heap_alloc_new wr _))
      have Hbel' := Lib.hid (Hbel.out.alloc hsz (.cells #[.int .i64 id, .int .i64 tm] 33))
      clear hno hDt hdd K0'
      go_wp2_with fail
      refine (c27 _ _ _ _ (by omega) (by omega)).mono ?_
      rintro e w4 ⟨rfl, rfl⟩
      go_wp2_with fail
      refine (c28 _ (L.take k) 29 wr.heap.size (fun d => d.id == id) _ HDt.out (by rw [List.length_take]; omega) (by simp) hA.out ent29 Hno.out).mono ?_
      rintro e w5 ⟨rfl, hb5⟩
      have Hb5 := Lib.hid (Hbel'.out.trans (hb5.mono (by simp; omega)))
      clear hb5
      go_wp2_with fail
      go_roundw
      case rel => exact ⟨k + 1, by omega, by go_num, Hb5.out⟩
      case measure => simp [intOf]; omega
    · have hbw := Hb2.out.trans (Hbel.out.mono (by omega))
      have hnow : wr.cell? ⟨B, 0, none⟩ = some (.int .i64 N) := by rw [cell_of_blk K0', Cw_now]
      have hrow : wr.heap[B]? = some (.cells (Cw N V) 25 (0, 0)) := K0'
      have hS : Hid (∀ w', Below wr.heap.size wr w' → w'.heap[B]? = some (.cells (Cw N V) 25 (0, 0)) ∧ w'.cell? ⟨B, 0, none⟩ = some (.int .i64 N)) := fun w' hb => by
        have := K0'.below hb (by omega)
        exact ⟨this, by rw [cell_of_blk this, Cw_now]⟩
      have hat : Hid (∀ w', Below wr.heap.size wr w' → WheelAt w' V f) := fun w' hb => H0.out.below hB.symm (hbw.trans (hb.mono (by omega)))
      have Hbw := Lib.hid hbw
      have HD := Lib.hid hD
      have hset := set_len HR.out.few
      have Hset := Lib.hid hset
      clear hD K0' hbw hset hk
      go_wp2_with fail
      refine wp_region_held_drew (S := fun w' => w'.heap[B]? = some (.cells (Cw N V) 25 (0, 0)) ∧ w'.cell? ⟨B, 0, none⟩ = some (.int .i64 N)) (by kernel_rfl) ⟨hrow, hnow⟩ (fun hHeld => ?_)
      refine wpAnyH_take (i := 0) (v := .agg (Cw N V)) rfl (by kernel_rfl) (by kernel_rfl) (by kernel_rfl) (fun _ _ _ h => h) (yieldsIf_load_row (by rfl) 25 (.tmp 1) rfl B rfl 25 (Cw N V) (0, 0) _ (fun _ h => h.1) Try.underlying25 rfl (by rw [Cw_size]; exact info25)) hHeld ?_
      simp only [List.getElem_toArray, List.getElem_cons_zero, Act.put, List.setIfInBounds_toArray, List.set_cons_zero, List.set_cons_succ]
      refine wpAnyH_take (i := 1) (v := .pointer (some ⟨B, 0, none⟩)) rfl (by kernel_rfl) (by kernel_rfl) (by kernel_rfl) (fun _ _ _ h => h) (Or.inl ⟨by rfl, fun w' hSw => ?t1⟩) hHeld ?_
      case t1 => go_simp
      simp only [List.getElem_toArray, List.getElem_cons_succ, List.getElem_cons_zero, Act.put, List.setIfInBounds_toArray, List.set_cons_zero, List.set_cons_succ]
      refine wpAnyH_take (i := 2) (v := .int .i64 N) rfl (by kernel_rfl) (by kernel_rfl) (by kernel_rfl) (fun _ _ _ h => h) (Or.inl ⟨by rfl, fun w' hSw => ?t2⟩) hHeld ?_
      case t2 => obtain ⟨_, hSw⟩ := hSw; go_simp
      simp only [List.getElem_toArray, List.getElem_cons_succ, List.getElem_cons_zero, Act.put, List.setIfInBounds_toArray, List.set_cons_zero, List.set_cons_succ]
      refine wpAnyH_take (i := 3) (v := .slice a L.length c) rfl (by kernel_rfl) (by kernel_rfl) (by kernel_rfl) (fun _ _ _ h => h) (Or.inl ⟨by rfl, fun w' hSw => ?t3⟩) hHeld ?_
      case t3 => go_simp
      simp only [List.getElem_toArray, List.getElem_cons_succ, List.getElem_cons_zero, Act.put, List.setIfInBounds_toArray, List.set_cons_zero, List.set_cons_succ]
      refine wpAnyH_ready (rs := [4]) (by kernel_rfl) (by simp) ?_
      refine AllReadyH.cons rfl (fun K hK => ?_) AllReadyH.nil
      simp only [List.getElem_toArray, List.getElem_cons_succ, List.getElem_cons_zero]
      go_simp
      refine (c30 N (.slice a L.length c) L _ (HD.out.below rfl (Below.refl _ _).drew) (by omega) (by omega) Hmem.out).mono ?_
      rintro e w6 ⟨V6, rfl, ho6, hb6⟩
      have hb6 : Below wr.heap.size wr w6 := ((Below.refl wr.heap.size wr).drew).trans hb6
      have hS6 := hS.out w6 hb6
      have hs6 := hb6.size
      have Ho6 := Lib.hid ho6
      have Hb6 := Lib.hid hb6
      clear ho6 hb6
      refine hK.out _ _ hS6 (fun hHeld => ?_)
      clear hK
      refine wpAnyH_ready (rs := [5]) (by kernel_rfl) (by simp) ?_
      refine AllReadyH.cons rfl (fun K hK => ?_) AllReadyH.nil
      simp only [List.getElem_toArray, List.getElem_cons_succ, List.getElem_cons_zero]
      go_simp
      refine (c9 N V V6 f _ (hat.out _ Hb6.out) (fun i hi => by have := Ho6.out.at (Nat.le_refl _) i hi; rwa [Hof.out i hi] at this) Hset.out).mono ?_
      rintro e w7 ⟨rfl, hb7⟩
      have hb7 : Below wr.heap.size wr w7 := Hb6.out.trans (hb7.mono hs6)
      have hS7 := hS.out w7 hb7
      have Hb7 := Lib.hid (Hbw.out.trans (hb7.mono (by omega)))
      clear hb7
      refine hK.out _ _ hS7 (fun hHeld => ?_)
      clear hK
      refine wpAnyH_take (i := 6) (v := .bool false) rfl (by kernel_rfl) (by kernel_rfl) (by kernel_rfl) (fun _ _ _ h => h) (Or.inl ⟨by rfl, fun w' hSw => ?t6⟩) hHeld ?_
      case t6 => go_simp
      simp only [List.getElem_toArray, List.getElem_cons_succ, List.getElem_cons_zero, Act.put, List.setIfInBounds_toArray, List.set_cons_zero, List.set_cons_succ]
      refine wpAnyH_done (by kernel_rfl) ?_ _
      go_wp2_with fail
      go_ret
      exact ⟨rfl, Hb7.out⟩
end Go.Proofs.Ytefikkmhdjlccaa
