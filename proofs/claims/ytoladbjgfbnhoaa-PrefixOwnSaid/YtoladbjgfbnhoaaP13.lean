/- Find, where there is something to be found. -/
import Derived.Test.YtoladbjgfbnhoaaP12
namespace Go.Proofs.Ytoladbjgfbnhoaa
open Go.RowKit

def findM (a : Int) : Nat → T → Option (Nat × Int) → Option (Nat × Int)
  | _, .nil, b => b
  | 0, .node s v _ _, b => if s then some (32, v) else b
  | d + 1, .node s v l r, b => findM a d (if bitM a (32 - (d + 1)) = 0 then l else r) (if s then some (32 - (d + 1), v) else b)

/-- the best one so far. -/
def BestAt (wr : World) (C : Nat) (vb : Value) : Option (Nat × Int) → Prop
  | none => vb = .pointer none ∧ ∃ x y, wr.heap[C]? = some (.cells #[x, y] 27 (0, 0))
  | some (lg, v) => ∃ bb z, vb = .pointer (some ⟨bb, 0, none⟩) ∧ wr.cell? ⟨bb, 3, none⟩ = some (.int .i64 v) ∧ bb < C ∧ wr.heap[C]? = some (.cells #[.int .u32 z, .int .i64 lg] 27 (0, 0))

theorem BestAt.drewN {wr : World} {C : Nat} {vb : Value} {bm : Option (Nat × Int)} (h : BestAt wr C vb bm) (n : Nat) : BestAt (wr.drewN n) C vb bm := by
  cases bm <;> exact h

def FoundEnd (w : World) (lg : Nat) (v : Int) (e : Ending) (w' : World) : Prop :=
  Below w.heap.size w w' ∧ ∃ z : Int, e = .returned (.tuple #[.agg #[.int .u32 z, .int .i64 lg], .int .i64 v, .int .i64 0])

/-- three results, the first one in a cell. -/
theorem ret_cell27 {fn : Func} {p u q : Tmp} (h : fn.results = #[.cell p 27, .tmp u, .tmp q]) (tmps : Array Value) (w : World) (g : Nat) (x y : Value) (hp : tmps.getD p undef = .pointer (some ⟨g, 0, none⟩)) (hg : w.heap[g]? = some (.cells #[x, y] 27 (0, 0))) :
    (results fn tmps).run Try.prog w = .ok (.tuple #[.agg #[x, y], tmps.getD u undef, tmps.getD q undef]) w := by
  have hl := run_loadVar_row (P := Try.prog) w g 27 27 #[x, y] (0, 0) _ hg Try.underlying27 rfl (by kernel_rfl)
  have hp' : tmps[p]?.getD undef = .pointer (some ⟨g, 0, none⟩) := by simpa using hp
  simp [results, h, hp', asAddr, hl]

theorem found_end {w w1 w2 wr : World} {B C lg : Nat} {v z : Int} {x y : Value} (hB : w.heap.size = B) (h1 : Below B w w1) (hs1 : w1.heap.size = B + 2) (h2 : Below w1.heap.size w1 w2) (hC : w2.heap.size = C) (h3 : Below C w2 wr) (hr : wr.heap[B + 1]? = some (.cells #[x, y] 27 (0, 0))) :
    let wz := ((wr.setCell ⟨B + 1, 0, none⟩ (.int .u32 z)).setCell ⟨B + 1, 1, none⟩ (.int .i64 lg)).drew
    wz.heap[B + 1]? = some (.cells #[.int .u32 z, .int .i64 lg] 27 (0, 0)) ∧ FoundEnd w lg v (.returned (.tuple #[.agg #[.int .u32 z, .int .i64 lg], .int .i64 v, .int .i64 0])) wz := by
  intro wz
  refine ⟨?_, ?_, z, rfl⟩
  · show ((wr.setCell ⟨B + 1, 0, none⟩ (.int .u32 z)).setCell ⟨B + 1, 1, none⟩ (.int .i64 lg)).heap[B + 1]? = _
    simpa using heap_setCell_cells (o := 1) (.int .i64 lg) (heap_setCell_cells (o := 0) (.int .u32 z) hr)
  rw [hB]
  have := h2.size
  exact ((((h1.trans (h2.mono (by omega))).trans (h3.mono (by omega))).setCell (by simp) _).setCell (by simp) _).drew

theorem findM_nil (a : Int) (d : Nat) (b : Option (Nat × Int)) : findM a d .nil b = b := by cases d <;> rfl

set_option maxHeartbeats 4000000 in
theorem c14 (sv : Value) (ns : List Nd) (t : T) (a v : Int) (lg : Nat) (w : World) (h : NodesAt w sv ns) (hl : ns.length ≤ 4398046511104) (ha : 0 ≤ a) (ha2 : a < 4294967296) (hrd : readM ns = some t) (hf : findM a 32 t none = some (lg, v)) :
    Calls Try.prog 14 #[.agg #[sv], .int .u32 a] w (FoundEnd w lg v) := by
  obtain ⟨sa, sc, rfl⟩ : ∃ sa sc, sv = .slice sa ns.length sc := by obtain ⟨x, y, h, _⟩ := h; exact ⟨x, y, h⟩
  generalize hB : w.heap.size = B at *
  have hW : ∃ w1, w1 = (w.alloc (.cells #[.slice sa ns.length sc] 24)).alloc (.cells #[.int .u32 0, .int .i64 0] 27) := ⟨_, rfl⟩
  obtain ⟨w1, hW⟩ := hW
  have hs1 : w1.heap.size = B + 2 := by rw [hW]; simp [hB]
  have hb1 : Below B w w1 := by rw [hW, ← hB]; exact (Below.of_alloc w _).alloc (by simp) _
  have k1 : w1.heap[B + 1]? = some (.cells #[.int .u32 0, .int .i64 0] 27 (0, 0)) := by
    have := heap_alloc_new (w.alloc (.cells #[.slice sa ns.length sc] 24)) (.cells #[.int .u32 0, .int .i64 0] 27)
    rw [hW]
    simpa [hB] using this
  have hread := c9 _ ns w1 (h.below hB.symm hb1) hl
  have Hb1 := Lib.hid hb1
  have K1 := Lib.hid k1
  have Hs1 := Lib.hid hs1
  have HW := Lib.hid hW
  have Hread := Lib.hid hread
  have Hrd := Lib.hid hrd
  have Hf := Lib.hid hf
  clear hb1 k1 hs1 hW hread h hrd hf
  go_enter Try.func14, Try.ntmps14
  go_wp2_with (go_at_call 9; go_loud (rw [← HW.out]; refine Hread.out.mono ?_; rintro e w2 ⟨hb2, hr⟩; rw [Hrd.out] at hr; obtain ⟨p, rfl, hT⟩ := hr; have e1 := (hb2.block (B + 1) (by rw [Hs1.out]; omega)).trans K1.out; have c1 := cell_of_blk (o := 0) e1; have c1b := cell_of_blk (o := 1) e1; have f1 := free_of_blk (o := 0) e1; have f1b := free_of_blk (o := 1) e1; have E1 := Lib.hid e1; have Hb2 := Lib.hid hb2; have HT := Lib.hid hT; have hz2 := hb2.size; rw [Hs1.out] at hz2; clear hb2 e1 hT))
  generalize hC : w2.heap.size = C at *
  go_loopw [7, 9, 11] (fun vat vb vd wr => ∃ (dp d : Nat) (t' : T) (p : Option Addr) (bm : Option (Nat × Int)), vat = .pointer p ∧ vd = .int .i64 dp ∧ dp + d = 32 ∧ Hid (TreeAt wr (fun b => b < C) p t') ∧ Hid (findM a d t' bm = some (lg, v)) ∧ Hid (BestAt wr C vb bm) ∧ Below C w2 wr ∧ C < wr.heap.size) (fun _ _ vd _ => 33 - (intOf vd).toNat)
  case atStart =>
    refine ⟨0, 32, t, p, none, rfl, rfl, rfl, ?_, Hf, ⟨rfl, _, _, by rw [← hC]; exact heap_alloc_new w2 _⟩, hC ▸ Below.of_alloc w2 _, by simp [hC]⟩
    refine (HT.out.at.of_same (fun x hx _ => ?_)).mono (fun x hx => hx.2)
    rw [Below.heap_alloc _ _ _ (by omega)]
  case round =>
    clear c1 c1b f1 f1b
    obtain ⟨dp, d, t', p', bm, rfl, rfl, hd, hTr, hfr, hbest, hbel, hsz⟩ := hrel
    have e1 := (hbel.block (B + 1) (by omega)).trans E1.out
    have c1 := cell_of_blk (o := 0) e1
    have c1b := cell_of_blk (o := 1) e1
    have f1 := free_of_blk (o := 0) e1
    have f1b := free_of_blk (o := 1) e1
    have R1 := Lib.hid e1
    have Hbel := Lib.hid hbel
    clear e1 hbel
    have hlt1 : B + 1 < C := by omega
    cases t' with
    | nil =>
      obtain rfl : p' = none := hTr.out
      have hb2 := hbest.out
      rw [findM_nil] at hfr
      rw [hfr.out] at hb2
      obtain ⟨bb, z, rfl, g3, hbb, hC2⟩ := hb2
      have g0 := cell_of_blk (o := 0) hC2
      have g1 := cell_of_blk (o := 1) hC2
      clear hTr hbest hC2
      go_wp2_with fail
      go_region
      all_goals
        go_wp2_with fail
        have hfe := found_end (z := z) (lg := lg) (v := v) hB Hb1.out Hs1.out Hb2.out hC Hbel.out R1.out
        refine bodyPost_ret (ret_cell27 rfl _ _ (B + 1) (.int .u32 z) (.int .i64 lg) rfl hfe.1) rfl ?_
        exact hfe.2
    | node s v0 l r =>
      obtain ⟨b, pl, pr, rfl, hbC, hcs, hl', hr'⟩ := hTr.out
      have d0 := cell_of_blk (o := 0) hcs
      have d1 := cell_of_blk (o := 1) hcs
      have d2 := cell_of_blk (o := 2) hcs
      have d3 := cell_of_blk (o := 3) hcs
      have HL := Lib.hid hl'
      have HR := Lib.hid hr'
      have Hcs := Lib.hid hcs
      clear hl' hr' hcs hTr
      have hFC : ∃ x y, wr.heap[C]? = some (.cells #[x, y] 27 (0, 0)) := by
        have hb := hbest.out
        cases bm with
        | none => obtain ⟨_, x, y, h⟩ := hb; exact ⟨x, y, h⟩
        | some q => obtain ⟨q1, q2⟩ := q; obtain ⟨_, _, _, _, _, h⟩ := hb; exact ⟨_, _, h⟩
      obtain ⟨fx, fy, hFC⟩ := hFC
      have g0 := cell_of_blk (o := 0) hFC
      have g1 := cell_of_blk (o := 1) hFC
      have g2 := free_of_blk (o := 0) hFC
      have g4 := free_of_blk (o := 1) hFC
      have HFC := Lib.hid hFC
      clear hFC
      cases d with
      | zero =>
        obtain rfl : dp = 32 := by omega
        cases s with
        | true =>
          have hff := hfr.out
          simp only [findM, if_true, Option.some.injEq, Prod.mk.injEq] at hff
          obtain ⟨rfl, rfl⟩ := hff
          clear hbest hfr
          go_wp2_with (go_at_call 19; go_loud (refine (c19 a 32 _ (by omega)).mono ?_; rintro e w3 ⟨⟨z, rfl⟩, rfl⟩))
          go_region
          all_goals
            go_wp2_with fail
            have hr2 : ((w3.setCell ⟨C, 0, none⟩ (.int .u32 z)).setCell ⟨C, 1, none⟩ (.int .i64 32)).heap[B + 1]? = some (.cells #[.int .u32 0, .int .i64 0] 27 (0, 0)) := by
              rw [Below.heap_setCell _ _ _ _ (by simp; omega), Below.heap_setCell _ _ _ _ (by simp; omega)]; exact R1.out
            have hfe := found_end (z := z) (lg := 32) (v := v0) hB Hb1.out Hs1.out Hb2.out hC ((Hbel.out.setCell (p := ⟨C, 0, none⟩) (Nat.le_refl _) (.int .u32 z)).setCell (p := ⟨C, 1, none⟩) (Nat.le_refl _) (.int .i64 32)) hr2
            refine bodyPost_ret (ret_cell27 rfl _ _ (B + 1) (.int .u32 z) (.int .i64 32) rfl hfe.1) rfl ?_
            exact hfe.2
        | false =>
          have hb2 := hbest.out
          have hff := hfr.out
          simp only [findM, Bool.false_eq_true, if_false] at hff
          subst hff
          obtain ⟨bb, z, rfl, g3, hbb, hC2⟩ := hb2
          have HC2 := Lib.hid hC2
          have g0' := cell_of_blk (o := 0) hC2
          have g1' := cell_of_blk (o := 1) hC2
          clear hbest hC2 hfr g0 g1
          go_wp2_with fail
          go_region
          all_goals
            go_wp2_with fail
            have hfe := found_end (z := z) (lg := lg) (v := v) hB Hb1.out Hs1.out Hb2.out hC Hbel.out R1.out
            refine bodyPost_ret (ret_cell27 rfl _ _ (B + 1) (.int .u32 z) (.int .i64 lg) rfl hfe.1) rfl ?_
            exact hfe.2
      | succ d =>
        have hq : ((dp : Int) == 32) = false := by rw [beq_eq_false_iff_ne]; omega
        have hbt := bitM_lt a dp
        rcases Nat.lt_or_ge (bitM a dp) 1 with hk | hk
        · have hb0 : bitM a dp = 0 := by omega
          have Hbit : Hid (∀ w, Calls Try.prog 18 #[.int .u32 a, .int .i64 dp] w fun e w' => e = .returned (.int .i64 0) ∧ w' = w) := fun w => (c18 a dp w ha ha2 (by omega)).mono (by rintro e w' ⟨rfl, rfl⟩; rw [hb0]; exact ⟨rfl, rfl⟩)
          have hchild : Hid (findM a d l (if s then some (dp, v0) else bm) = some (lg, v)) := by
            have := hfr.out
            simp only [findM] at this
            rw [show 32 - (d + 1) = dp from by omega, hb0] at this
            exact this
          clear hb0 hk hbt hfr
          cases s with
          | true =>
            clear hbest
            go_wp2_with (go_at_call 19; go_loud (refine (c19 a dp _ (by omega)).mono ?_; rintro e w3 ⟨⟨z, rfl⟩, rfl⟩))
            go_quiet (first | (go_at_call 18; exact Calls.quiet_of_same (Hbit.out _)))
            go_wp2_with fail
            go_roundw
            case rel =>
              refine ⟨dp + 1, d, l, pl, some (dp, v0), rfl, by go_num, by omega, HL.out.of_same (fun x hx _ => ?_), hchild, ⟨b, z, rfl, ?_, hbC, ?_⟩, ((Hbel.out.setCell (p := ⟨C, 0, none⟩) (Nat.le_refl _) _).setCell (p := ⟨C, 1, none⟩) (Nat.le_refl _) _).drewN' _, by simpa using hsz⟩
              · exact (Below.heap_setCell _ _ _ _ (by simp; omega)).trans (Below.heap_setCell _ _ _ _ (by simp; omega))
              · have hb3 : ((w3.setCell ⟨C, 0, none⟩ (.int .u32 z)).setCell ⟨C, 1, none⟩ (.int .i64 dp)).heap[b]? = _ := ((Below.heap_setCell _ _ _ _ (by simp; omega)).trans (Below.heap_setCell _ _ _ _ (by simp; omega))).trans Hcs.out
                exact cell_of_blk (o := 3) hb3
              · simpa using heap_setCell_cells (o := 1) (.int .i64 dp) (heap_setCell_cells (o := 0) (.int .u32 z) HFC.out)
            case measure => simp [intOf]; omega
          | false =>
            go_wp2_with fail
            go_quiet (first | (go_at_call 18; exact Calls.quiet_of_same (Hbit.out _)))
            go_wp2_with fail
            go_roundw
            case rel => exact ⟨dp + 1, d, l, pl, bm, rfl, by go_num, by omega, HL.out.of_same (fun _ _ _ => rfl), hchild, hbest.out.drewN _, Hbel.out.drewN' _, hsz⟩
            case measure => simp [intOf]; omega
        · have hb0 : bitM a dp = 1 := by omega
          have Hbit : Hid (∀ w, Calls Try.prog 18 #[.int .u32 a, .int .i64 dp] w fun e w' => e = .returned (.int .i64 1) ∧ w' = w) := fun w => (c18 a dp w ha ha2 (by omega)).mono (by rintro e w' ⟨rfl, rfl⟩; rw [hb0]; exact ⟨rfl, rfl⟩)
          have hchild : Hid (findM a d r (if s then some (dp, v0) else bm) = some (lg, v)) := by
            have := hfr.out
            simp only [findM] at this
            rw [show 32 - (d + 1) = dp from by omega, hb0] at this
            exact this
          clear hb0 hk hbt hfr
          cases s with
          | true =>
            clear hbest
            go_wp2_with (go_at_call 19; go_loud (refine (c19 a dp _ (by omega)).mono ?_; rintro e w3 ⟨⟨z, rfl⟩, rfl⟩))
            go_quiet (first | (go_at_call 18; exact Calls.quiet_of_same (Hbit.out _)))
            go_wp2_with fail
            go_roundw
            case rel =>
              refine ⟨dp + 1, d, r, pr, some (dp, v0), rfl, by go_num, by omega, HR.out.of_same (fun x hx _ => ?_), hchild, ⟨b, z, rfl, ?_, hbC, ?_⟩, ((Hbel.out.setCell (p := ⟨C, 0, none⟩) (Nat.le_refl _) _).setCell (p := ⟨C, 1, none⟩) (Nat.le_refl _) _).drewN' _, by simpa using hsz⟩
              · exact (Below.heap_setCell _ _ _ _ (by simp; omega)).trans (Below.heap_setCell _ _ _ _ (by simp; omega))
              · have hb3 : ((w3.setCell ⟨C, 0, none⟩ (.int .u32 z)).setCell ⟨C, 1, none⟩ (.int .i64 dp)).heap[b]? = _ := ((Below.heap_setCell _ _ _ _ (by simp; omega)).trans (Below.heap_setCell _ _ _ _ (by simp; omega))).trans Hcs.out
                exact cell_of_blk (o := 3) hb3
              · simpa using heap_setCell_cells (o := 1) (.int .i64 dp) (heap_setCell_cells (o := 0) (.int .u32 z) HFC.out)
            case measure => simp [intOf]; omega
          | false =>
            go_wp2_with fail
            go_quiet (first | (go_at_call 18; exact Calls.quiet_of_same (Hbit.out _)))
            go_wp2_with fail
            go_roundw
            case rel => exact ⟨dp + 1, d, r, pr, bm, rfl, by go_num, by omega, HR.out.of_same (fun _ _ _ => rfl), hchild, hbest.out.drewN _, Hbel.out.drewN' _, hsz⟩
            case measure => simp [intOf]; omega
end Go.Proofs.Ytoladbjgfbnhoaa
