/- grow: a tree of nodes. -/
import Derived.Test.YtoladbjgfbnhoaaP1
import Derived.Deep.RegionWith
namespace Go.Proofs.Ytoladbjgfbnhoaa
open Go.RowKit

theorem cell_of_blk {w : World} {g o : Nat} {cur : Array Value} {t : TypeId} {fr : Nat × Nat} (h : w.heap[g]? = some (.cells cur t fr)) : w.cell? ⟨g, o, none⟩ = cur[o]? := by
  simp [World.cell?, h]
theorem free_of_blk {w : World} {g o : Nat} {cur : Array Value} {t : TypeId} (h : w.heap[g]? = some (.cells cur t (0, 0))) : w.frozen? ⟨g, o, none⟩ = false := by
  simp [World.frozen?, h]
theorem lt_of_block {w : World} {g : Nat} {o : Obj} (h : w.heap[g]? = some o) : g < w.heap.size := (Array.getElem?_eq_some_iff.1 h).1
theorem Below.of_alloc (w : World) (o : Obj) : Below w.heap.size w (w.alloc o) := (Below.refl _ _).alloc (Nat.le_refl _) _

/-- below B all is as it was, but for one block. -/
structure But (b B : Nat) (w w' : World) : Prop where
  os : w'.os = w.os
  tape : w'.tape = w.tape
  output : w'.output = w.output
  size : w.heap.size ≤ w'.heap.size
  block : ∀ k, k < B → k ≠ b → w'.heap[k]? = w.heap[k]?

theorem But.refl (b B : Nat) (w : World) : But b B w w := ⟨rfl, rfl, rfl, Nat.le_refl _, fun _ _ _ => rfl⟩
theorem But.trans {b B : Nat} {w1 w2 w3 : World} (h : But b B w1 w2) (k : But b B w2 w3) : But b B w1 w3 :=
  ⟨k.os.trans h.os, k.tape.trans h.tape, k.output.trans h.output, Nat.le_trans h.size k.size, fun i hi hb => (k.block i hi hb).trans (h.block i hi hb)⟩
theorem But.mono {b B B' : Nat} {w w' : World} (h : But b B w w') (hB : B' ≤ B) : But b B' w w' := ⟨h.os, h.tape, h.output, h.size, fun k hk => h.block k (by omega)⟩
theorem But.alloc {b B : Nat} {w w' : World} (h : But b B w w') (hB : B ≤ w'.heap.size) (o : Obj) : But b B w (w'.alloc o) :=
  ⟨h.os, h.tape, h.output, by have := h.size; simp; omega, fun k hk hb => by rw [Below.heap_alloc _ _ _ (by omega)]; exact h.block k hk hb⟩
theorem But.setCell {b B : Nat} {w w' : World} (h : But b B w w') {a : Addr} (ha : a.block = b ∨ B ≤ a.block) (v : Value) : But b B w (w'.setCell a v) :=
  ⟨h.os, h.tape, h.output, by simpa using h.size, fun k hk hb => by rw [Below.heap_setCell _ _ _ _ (by omega)]; exact h.block k hk hb⟩
theorem But.drewN {b B : Nat} {w w' : World} (h : But b B w w') (n : Nat) : But b B w (w'.drewN n) := ⟨h.os, h.tape, h.output, h.size, h.block⟩
theorem But.drew {b B : Nat} {w w' : World} (h : But b B w w') : But b B w w'.drew := ⟨h.os, h.tape, h.output, h.size, h.block⟩
theorem But.below {b B : Nat} {w w' : World} (h : But b B w w') : Below (min b B) w w' := ⟨h.os, h.tape, h.output, h.size, fun k hk => h.block k (by omega) (by omega)⟩

theorem heap_setCell_cells {w : World} {g o : Nat} {cur : Array Value} {t : TypeId} {fr : Nat × Nat} (v : Value) (h : w.heap[g]? = some (.cells cur t fr)) : (w.setCell ⟨g, o, none⟩ v).heap[g]? = some (.cells (cur.setIfInBounds o v) t fr) := by
  simp [World.setCell, Array.getElem?_modify, h]

/-- what grow answers. -/
def GrowEnd (w : World) (b : Nat) (res : Option (T × Nat)) (e : Ending) (w' : World) : Prop :=
  ∃ p j, e = .returned (.pointer p) ∧ w'.heap[b]? = some (.cells #[.int .i64 j] 3 (0, 0)) ∧ But b w.heap.size w w' ∧
    match res with
    | none => p = none
    | some (t, k) => j = (k : Int) ∧ p ≠ none ∧ TreeIv w' w.heap.size w'.heap.size p t

/-- amid grow, k arms done. -/
def GSt (ns : List Nd) (g : Nat → Option (T × Nat)) (x : Nd) (tb b i k j : Nat) (pl pr : Option Addr) (wr : World) : Prop :=
  wr.heap[tb]? = some (.cells #[.pointer pl, .pointer pr, .bool x.set, .int .i64 x.val] 57 (0, 0)) ∧ wr.heap[b]? = some (.cells #[.int .i64 j] 3 (0, 0)) ∧
  ((k = 0 ∧ pl = none ∧ pr = none ∧ j = i) ∨ (k = 1 ∧ pr = none ∧ ∃ l, kidM g ns.length x.n0 i = some (l, j) ∧ TreeIv wr (tb + 1) wr.heap.size pl l) ∨
   (k = 2 ∧ ∃ l r j0 m, kidM g ns.length x.n0 i = some (l, j0) ∧ kidM g ns.length x.n1 j0 = some (r, j) ∧ tb < m ∧ m ≤ wr.heap.size ∧ TreeIv wr (tb + 1) m pl l ∧ TreeIv wr m wr.heap.size pr r))

theorem GrowEnd.shape {w w' : World} {b : Nat} {res : Option (T × Nat)} {e : Ending} (h : GrowEnd w b res e w') : ∃ p, e = .returned (.pointer p) := by
  obtain ⟨p, _, h, _⟩ := h; exact ⟨p, h⟩
theorem GrowEnd.keep {w w' : World} {b : Nat} {res : Option (T × Nat)} {e : Ending} (h : GrowEnd w b res e w') {g : Nat} {o : Obj} (hg : w.heap[g]? = some o) (hne : g ≠ b) : w'.heap[g]? = some o := by
  obtain ⟨_, _, _, _, h, _⟩ := h
  rw [h.block g (lt_of_block hg) hne]; exact hg

theorem GrowEnd.undrew {w w' : World} {b : Nat} {res : Option (T × Nat)} {e : Ending} (h : GrowEnd w.drew b res e w') : GrowEnd w b res e w' := by
  obtain ⟨p, j, h1, h2, h3, h4⟩ := h
  exact ⟨p, j, h1, h2, ⟨h3.os, h3.tape, h3.output, h3.size, h3.block⟩, h4⟩

/-- the world behind 't.next[k] = grow(..)'. -/
def Behind (g : Nat → Option (T × Nat)) (b : Nat) (w1 : World) (j : Nat) (a : Addr) (p : Option Addr) (wx : World) : Prop :=
  ∃ w2, GrowEnd w1 b (g j) (.returned (.pointer p)) w2 ∧ wx.heap = (w2.setCell a (.pointer p)).heap ∧ wx.os = w2.os ∧ wx.tape = w2.tape ∧ wx.output = w2.output

theorem Behind.facts {g : Nat → Option (T × Nat)} {b B j tb k : Nat} {w w1 wx : World} {cur : Array Value} {p : Option Addr} (h : Behind g b w1 j ⟨tb, k, none⟩ p wx) (htb : w1.heap[tb]? = some (.cells cur 57 (0, 0))) (hbut : But b B w w1) (hne : tb ≠ b) (hBtb : B ≤ tb) :
    ∃ j2, wx.heap[tb]? = some (.cells (cur.setIfInBounds k (.pointer p)) 57 (0, 0)) ∧ wx.heap[b]? = some (.cells #[.int .i64 j2] 3 (0, 0)) ∧ But b B w wx ∧ w1.heap.size ≤ wx.heap.size ∧
      (∀ q, q < w1.heap.size → q ≠ b → q ≠ tb → wx.heap[q]? = w1.heap[q]?) ∧ ((g j = none ∧ p = none) ∨ ∃ t k, g j = some (t, k) ∧ j2 = (k : Int) ∧ p ≠ none ∧ TreeIv wx w1.heap.size wx.heap.size p t) := by
  obtain ⟨w2, ⟨p', j2, he, hb2, hb3, hres⟩, e1, e2, e3, e4⟩ := h
  simp only [Ending.returned.injEq, Value.pointer.injEq] at he
  subst he
  have hlt := lt_of_block htb
  have ht2 : w2.heap[tb]? = some (.cells cur 57 (0, 0)) := by rw [hb3.block tb hlt hne]; exact htb
  have hs : wx.heap.size = w2.heap.size := by rw [e1]; simp
  have hs2 := hb3.size
  refine ⟨j2, by rw [e1]; exact heap_setCell_cells _ ht2, ?_, ?_, by omega, fun q h1 h2 h3 => ?_, ?_⟩
  · rw [e1, Below.heap_setCell _ _ _ _ (fun e => hne (by simpa using e.symm))]; exact hb2
  · refine ⟨by rw [e2, hb3.os, hbut.os], by rw [e3, hb3.tape, hbut.tape], by rw [e4, hb3.output, hbut.output], by have := hbut.size; omega, fun q h1 h2 => ?_⟩
    rw [e1, Below.heap_setCell _ _ _ _ (by simp; omega), hb3.block q (by omega) h2, hbut.block q h1 h2]
  · rw [e1, Below.heap_setCell _ _ _ _ (by simpa using h3), hb3.block q h1 h2]
  · cases hg : g j with
    | none => rw [hg] at hres; exact .inl ⟨rfl, hres⟩
    | some x =>
      obtain ⟨t, k'⟩ := x
      rw [hg] at hres
      obtain ⟨h1, h2, h3⟩ := hres
      refine .inr ⟨t, k', rfl, h1, h2, ?_⟩
      rw [hs]
      exact h3.of_same fun q h4 _ => by rw [e1, Below.heap_setCell _ _ _ _ (by simp; omega)]

theorem kidM_go {g : Nat → Option (T × Nat)} {len : Nat} {n : Int} {j : Nat} (h1 : n = (j : Int) + 1) (h2 : j + 1 < len) : kidM g len n j = g (j + 1) := by
  unfold kidM; rw [if_neg (by omega), if_pos ⟨h1, h2⟩]
theorem kidM_nil {g : Nat → Option (T × Nat)} {len : Nat} {n : Int} {j : Nat} (h : n = 0) : kidM g len n j = some (.nil, j) := by
  unfold kidM; rw [if_pos h]
theorem kidM_bad {g : Nat → Option (T × Nat)} {len : Nat} {n : Int} {j : Nat} (h0 : ¬ n = 0) (h : ¬ (n = (j : Int) + 1 ∧ j + 1 < len)) : kidM g len n j = none := by
  unfold kidM; rw [if_neg h0, if_neg h]
theorem nodeM_none0 {g : Nat → Option (T × Nat)} {ns : List Nd} {i : Nat} {x : Nd} (hx : ns.getD i default = x) (h : kidM g ns.length x.n0 i = none) : nodeM g ns i = none := by
  unfold nodeM; rw [hx, h]
theorem nodeM_none1 {g : Nat → Option (T × Nat)} {ns : List Nd} {i j : Nat} {x : Nd} {l : T} (hx : ns.getD i default = x) (h : kidM g ns.length x.n0 i = some (l, j)) (h1 : kidM g ns.length x.n1 j = none) : nodeM g ns i = none := by
  unfold nodeM; rw [hx, h]; simp only; rw [h1]
theorem nodeM_some {g : Nat → Option (T × Nat)} {ns : List Nd} {i j k : Nat} {x : Nd} {l r : T} (hx : ns.getD i default = x) (h : kidM g ns.length x.n0 i = some (l, j)) (h1 : kidM g ns.length x.n1 j = some (r, k)) : nodeM g ns i = some (.node x.set x.val l r, k) := by
  unfold nodeM; rw [hx, h]; simp only; rw [h1]

theorem grow_none {g : Nat → Option (T × Nat)} {ns : List Nd} {i b B : Nat} {w wx : World} {z : Int} (hres : nodeM g ns i = none) (hB : w.heap.size = B) (hbut : But b B w wx) (hbb : wx.heap[b]? = some (.cells #[.int .i64 z] 3 (0, 0))) : GrowEnd w b (nodeM g ns i) (.returned (.pointer none)) wx := by
  subst hB
  rw [hres]
  exact ⟨none, z, rfl, hbb, hbut, rfl⟩

theorem index29_0 (a b : Int) (w : World) : (Instr.index 29 (.agg #[.int .i64 a, .int .i64 b]) (.int .i64 0)).run Try.prog w = .ok (.int .i64 a) w := by
  unfold Instr.index
  simp [go_sem, run_underlying Try.underlying29, part, Try.sizeOf3, Try.isAgg3]
theorem index29_1 (a b : Int) (w : World) : (Instr.index 29 (.agg #[.int .i64 a, .int .i64 b]) (.int .i64 1)).run Try.prog w = .ok (.int .i64 b) w := by
  unfold Instr.index
  simp [go_sem, run_underlying Try.underlying29, part, Try.sizeOf3, Try.isAgg3]

set_option maxHeartbeats 1000000 in
theorem c15_step (ns : List Nd) (g : Nat → Option (T × Nat)) (v : Value) (dp : Nat) (hdp : dp ≤ 32) (w0 : World) (h : NodesAt w0 v ns) (hlen : ns.length ≤ 500)
    (ih : ∀ (i b : Nat) (w : World), i < ns.length → Below w0.heap.size w0 w → w0.heap.size ≤ b → w.heap[b]? = some (.cells #[.int .i64 i] 3 (0, 0)) → dp < 32 →
      Calls Try.prog 15 #[v, .pointer (some ⟨b, 0, none⟩), .int .i64 ((dp : Int) + 1)] w (GrowEnd w b (g i))) (hg : dp = 32 → ∀ i, g i = none) (hgl : ∀ i x j, i < ns.length → g i = some (x, j) → i ≤ j ∧ j < ns.length ∧ x.size + i = j + 1)
    (i b : Nat) (w : World) (hi : i < ns.length) (hw : Below w0.heap.size w0 w) (hb0 : w0.heap.size ≤ b) (hb : w.heap[b]? = some (.cells #[.int .i64 i] 3 (0, 0))) :
    Calls Try.prog 15 #[v, .pointer (some ⟨b, 0, none⟩), .int .i64 dp] w (GrowEnd w b (nodeM g ns i)) := by
  obtain ⟨a, cap, rfl, hcap, _, h3⟩ := h
  obtain ⟨gb, o, rfl, hcell⟩ := h3 (by intro h0; subst h0; simp at hi)
  obtain ⟨q0, q1, q2, q3⟩ := hcell i hi
  clear hcell h3
  have hgb := World.block_lt_of_cell? _ _ q0
  simp only at hgb
  rw [← hw.cell (by exact hgb)] at q0 q1 q2 q3
  generalize hx : ns.getD i default = x at *
  have Hx := Lib.hid hx; clear hx
  have c0 : w.cell? ⟨b, 0, none⟩ = some (.int .i64 i) := by rw [cell_of_blk hb]; rfl
  have hbs := lt_of_block hb
  obtain ⟨n0, n1, xs, xv⟩ := x
  simp only at q0 q1 q2 q3
  have Ih := Lib.hid ih
  have Hg := Lib.hid hg
  have Hgl := Lib.hid hgl
  have Hw := Lib.hid hw
  have Hb := Lib.hid hb
  clear ih hg hgl hw hb
  go_enter Try.func15, Try.ntmps15
  go_wp2_with fail
  generalize hB : w.heap.size = B at *
  have i0 := index29_0 n0 n1
  have i1 := index29_1 n0 n1
  go_loopw [25] (fun kv wr => ∃ (k j : Nat) (pl pr : Option Addr), kv = .int .i64 k ∧ j < ns.length ∧ k ≤ 2 ∧ GSt ns g ⟨n0, n1, xs, xv⟩ (B + 1) b i k j pl pr wr ∧ But b B w wr ∧ B + 2 ≤ wr.heap.size) (fun kv _ => 2 - (intOf kv).toNat)
  case atStart =>
    refine ⟨0, i, none, none, rfl, hi, by omega, ⟨?_, ?_, .inl ⟨rfl, rfl, rfl, rfl⟩⟩, ?_, ?_⟩
    · have := heap_alloc_new (w.alloc (.cells #[.int .i64 n0, .int .i64 n1, .bool xs, .int .i64 xv] 31)) (.cells #[.pointer none, .pointer none, .bool xs, .int .i64 xv] 57)
      simpa [hB] using this
    · rw [Below.heap_alloc _ _ _ (by simp; omega), Below.heap_alloc _ _ _ (by omega)]; exact Hb.out
    · exact ((But.refl b B w).alloc (by omega) _).alloc (by simp; omega) _
    · simp; omega
  case round =>
    obtain ⟨k, j, pl, pr, rfl, hj, hk, ⟨htb, hbb, hst⟩, hbut, hsz⟩ := hrel
    clear c0 q0 q1 q2 q3
    have d0 : wr.cell? ⟨B + 1, 0, none⟩ = some (.pointer pl) := by rw [cell_of_blk htb]; rfl
    have d1 : wr.cell? ⟨B + 1, 1, none⟩ = some (.pointer pr) := by rw [cell_of_blk htb]; rfl
    have e0 : wr.cell? ⟨b, 0, none⟩ = some (.int .i64 j) := by rw [cell_of_blk hbb]; rfl
    have f0 : wr.frozen? ⟨b, 0, none⟩ = false := free_of_blk hbb
    have f1 : wr.frozen? ⟨B + 1, 0, none⟩ = false := free_of_blk htb
    have f2 : wr.frozen? ⟨B + 1, 1, none⟩ = false := free_of_blk htb
    have Hst := Lib.hid hst
    have Htb := Lib.hid htb
    have Hbb := Lib.hid hbb
    have Hbut := Lib.hid hbut
    clear hst htb hbb hbut
    obtain rfl | rfl | rfl : k = 0 ∨ k = 1 ∨ k = 2 := by omega
    · have hst : pl = none ∧ pr = none ∧ j = i := by
        rcases Hst.out with ⟨_, h⟩ | ⟨h, _⟩ | ⟨h, _⟩
        · exact h
        · omega
        · omega
      have Hst2 := Lib.hid hst
      clear hst Hst
      by_cases h0 : n0 = 0
      · have hq0 : (n0 == 0) = true := by rw [beq_iff_eq]; exact h0
        have H0 := Lib.hid h0; clear h0
        go_wp2_with fail
        go_roundw
        case rel => exact ⟨1, j, pl, pr, by go_num, hj, by omega, ⟨Htb.out, Hbb.out, .inr (.inl ⟨rfl, Hst2.out.2.1, T.nil, by rw [← Hst2.out.2.2]; exact kidM_nil H0.out, Hst2.out.1⟩)⟩, Hbut.out, hsz⟩
        case measure => simp [intOf]
      · have hq0 : (n0 == 0) = false := by rw [beq_eq_false_iff_ne]; exact h0
        have H0 := Lib.hid h0; clear h0
        have Hb1 := Lib.hid (heap_setCell_cells (o := 0) (.int .i64 ((j : Int) + 1)) Hbb.out)
        have Hbut1 := Lib.hid (Hbut.out.setCell (a := ⟨b, 0, none⟩) (.inl rfl) (.int .i64 ((j : Int) + 1)))
        by_cases h1 : n0 = (j : Int) + 1
        · have hq1 : (n0 == (j : Int) + 1) = true := by rw [beq_iff_eq]; exact h1
          have H1 := Lib.hid h1; clear h1
          by_cases h2 : j + 1 < ns.length
          · by_cases h3 : dp < 32
            · have hq3 : ((dp : Int) == 32) = false := by rw [beq_eq_false_iff_ne]; omega
              have hq4 : decide ((j : Int) + 1 ≥ ns.length) = false := by simp; omega
              have hcall : ∀ wx : World, wx.heap = (wr.setCell ⟨b, 0, none⟩ (.int .i64 ((j : Int) + 1))).heap → wx.os = wr.os → wx.tape = wr.tape → wx.output = wr.output →
                  Calls Try.prog 15 #[.slice (some ⟨gb, o, none⟩) ns.length cap, .pointer (some ⟨b, 0, none⟩), .int .i64 ((dp : Int) + 1)] wx (GrowEnd wx b (g (j + 1))) := by
                intro wx e1 e2 e3 e4
                refine Ih.out (j + 1) b wx h2 ?_ hb0 ?_ h3
                · refine Hw.out.trans ⟨e2.trans Hbut.out.os, e3.trans Hbut.out.tape, e4.trans Hbut.out.output, by rw [e1]; exact Hbut1.out.size, fun q hq => ?_⟩
                  rw [e1]
                  exact Hbut1.out.block q (by omega) (by omega)
                · rw [e1]
                  simpa using Hb1.out
              have Hcall := Lib.hid hcall; clear hcall
              have Htb1 := Lib.hid ((Below.heap_setCell wr ⟨b, 0, none⟩ (.int .i64 ((j : Int) + 1)) (B + 1) (by simp; omega)).trans Htb.out)
              go_wp2_with fail
              have hwr : IntKind.i64.wrap ((dp : Int) + 1) = (dp : Int) + 1 := by rw [IntKind.wrap_i64]; omega
              clear e0 hq0 hq1 hq3 hq4
              go_region_with (go_at_call 15; refine (Hcall.out _ ?_ ?_ ?_ ?_).mono ?_; (exact rfl); (exact rfl); (exact rfl); (exact rfl); rintro e w2 hend; obtain ⟨p, rfl⟩ := hend.shape; have Hend := Lib.hid hend; have g0 := hend.keep Htb1.out (by omega); have g1 := cell_of_blk (o := 0) g0; have g2 := free_of_blk (o := 0) g0; clear hend g0)
              have hcut : Behind g b (wr.setCell ⟨b, 0, none⟩ (.int .i64 ((j : Int) + 1))) (j + 1) ⟨B + 1, 0, none⟩ p (w2.setCell ⟨B + 1, 0, none⟩ (.pointer p)) := ⟨w2, Hend.out.undrew, rfl, rfl, rfl, rfl⟩
              clear Hend g1 g2
              generalize w2.setCell ⟨B + 1, 0, none⟩ (.pointer p) = wc at *
              have hse : (wr.setCell ⟨b, 0, none⟩ (.int .i64 ((j : Int) + 1))).heap.size = wr.heap.size := by simp
              clear d0 d1 f0 f1 f2 Hcall
              obtain ⟨j2, k1, k2, k3, k4, k5, k6⟩ := hcut.facts Htb1.out Hbut1.out (by omega) (by omega)
              clear hcut
              have k1' : wc.heap[B + 1]? = some (.cells #[.pointer p, .pointer pr, .bool xs, .int .i64 xv] 57 (0, 0)) := k1
              have g1 : wc.cell? ⟨B + 1, 0, none⟩ = some (.pointer p) := by rw [cell_of_blk k1']; rfl
              have hsz2 : B + 2 ≤ wc.heap.size := lt_of_block k1'
              rw [hse] at k4 k5 k6
              have K1 := Lib.hid k1'
              have K2 := Lib.hid k2
              have K3 := Lib.hid k3
              have K5 := Lib.hid k5
              clear k1 k1' k2 k3 k5
              rcases k6 with ⟨k6, rfl⟩ | ⟨t, jj, k6, rfl, k7, k8⟩
              · have K6 := Lib.hid k6; clear k6
                go_wp2_with fail
                go_ret
                exact grow_none (nodeM_none0 Hx.out (by rw [← Hst2.out.2.2]; rw [kidM_go H1.out h2]; exact K6.out)) hB K3.out K2.out
              · obtain ⟨q, rfl⟩ : ∃ q, p = some q := by cases p with | none => exact absurd rfl k7 | some q => exact ⟨q, rfl⟩
                have K6 := Lib.hid k6
                have K8 := Lib.hid k8
                have hjj := (Hgl.out _ _ _ h2 k6).2.1
                clear k6 k7 k8
                go_wp2_with fail
                rw [← H1.out]
                go_roundw
                case rel => exact ⟨1, jj, some q, pr, by go_num, hjj, by omega, ⟨K1.out, K2.out, .inr (.inl ⟨rfl, Hst2.out.2.1, t, by rw [← Hst2.out.2.2, kidM_go H1.out h2]; exact K6.out, K8.out.mono (by omega) (Nat.le_refl _)⟩)⟩, K3.out, hsz2⟩
                -- some q, pr, by go_num, hjj, by omega, ⟨K1.out, K2.out, .inr (.inl ⟨rfl, Hst2.out.2.1, t, by rw [← Hst2.out.2.2, kidM_go H1.out h2]; exact K6.out, K8.out.mono (by omega) (Nat.le_refl _)⟩)⟩, K3.out, hsz⟩
                case measure => simp [intOf]
            · obtain rfl : dp = 32 := by omega
              go_wp2_with fail
              go_ret
              exact grow_none (nodeM_none0 Hx.out (by rw [← Hst2.out.2.2]; rw [kidM_go H1.out h2]; exact Hg.out (by trivial) _)) hB Hbut1.out Hb1.out
          · go_wp2_with fail
            go_ret
            exact grow_none (nodeM_none0 Hx.out (by rw [← Hst2.out.2.2]; exact kidM_bad H0.out (fun h => h2 h.2))) hB Hbut1.out Hb1.out
        · have hq1 : (n0 == (j : Int) + 1) = false := by rw [beq_eq_false_iff_ne]; exact h1
          have H1 := Lib.hid h1; clear h1
          go_wp2_with fail
          go_ret
          exact grow_none (nodeM_none0 Hx.out (by rw [← Hst2.out.2.2]; exact kidM_bad H0.out (fun h => H1.out h.1))) hB Hbut1.out Hb1.out
    · have hst : pr = none ∧ ∃ l, kidM g ns.length n0 i = some (l, j) ∧ TreeIv wr (B + 1 + 1) wr.heap.size pl l := by
        rcases Hst.out with ⟨h, _⟩ | ⟨_, h⟩ | ⟨h, _⟩
        · omega
        · exact h
        · omega
      obtain ⟨hpr, l, hl, hT⟩ := hst
      have Hpr := Lib.hid hpr
      have Hl := Lib.hid hl
      have HT := Lib.hid hT
      clear hpr hl hT
      have hst := True.intro
      have Hst2 := Lib.hid hst
      clear hst Hst
      by_cases h0 : n1 = 0
      · have hq0 : (n1 == 0) = true := by rw [beq_iff_eq]; exact h0
        have H0 := Lib.hid h0; clear h0
        go_wp2_with fail
        go_roundw
        case rel => exact ⟨2, j, pl, pr, by go_num, hj, by omega, ⟨Htb.out, Hbb.out, .inr (.inr ⟨rfl, l, T.nil, j, wr.heap.size, Hl.out, kidM_nil H0.out, by omega, Nat.le_refl _, HT.out, Hpr.out⟩)⟩, Hbut.out, hsz⟩
        case measure => simp [intOf]
      · have hq0 : (n1 == 0) = false := by rw [beq_eq_false_iff_ne]; exact h0
        have H0 := Lib.hid h0; clear h0
        have Hb1 := Lib.hid (heap_setCell_cells (o := 0) (.int .i64 ((j : Int) + 1)) Hbb.out)
        have Hbut1 := Lib.hid (Hbut.out.setCell (a := ⟨b, 0, none⟩) (.inl rfl) (.int .i64 ((j : Int) + 1)))
        by_cases h1 : n1 = (j : Int) + 1
        · have hq1 : (n1 == (j : Int) + 1) = true := by rw [beq_iff_eq]; exact h1
          have H1 := Lib.hid h1; clear h1
          by_cases h2 : j + 1 < ns.length
          · by_cases h3 : dp < 32
            · have hq3 : ((dp : Int) == 32) = false := by rw [beq_eq_false_iff_ne]; omega
              have hq4 : decide ((j : Int) + 1 ≥ ns.length) = false := by simp; omega
              have hcall : ∀ wx : World, wx.heap = (wr.setCell ⟨b, 0, none⟩ (.int .i64 ((j : Int) + 1))).heap → wx.os = wr.os → wx.tape = wr.tape → wx.output = wr.output →
                  Calls Try.prog 15 #[.slice (some ⟨gb, o, none⟩) ns.length cap, .pointer (some ⟨b, 0, none⟩), .int .i64 ((dp : Int) + 1)] wx (GrowEnd wx b (g (j + 1))) := by
                intro wx e1 e2 e3 e4
                refine Ih.out (j + 1) b wx h2 ?_ hb0 ?_ h3
                · refine Hw.out.trans ⟨e2.trans Hbut.out.os, e3.trans Hbut.out.tape, e4.trans Hbut.out.output, by rw [e1]; exact Hbut1.out.size, fun q hq => ?_⟩
                  rw [e1]
                  exact Hbut1.out.block q (by omega) (by omega)
                · rw [e1]
                  simpa using Hb1.out
              have Hcall := Lib.hid hcall; clear hcall
              have Htb1 := Lib.hid ((Below.heap_setCell wr ⟨b, 0, none⟩ (.int .i64 ((j : Int) + 1)) (B + 1) (by simp; omega)).trans Htb.out)
              go_wp2_with fail
              have hwr : IntKind.i64.wrap ((dp : Int) + 1) = (dp : Int) + 1 := by rw [IntKind.wrap_i64]; omega
              clear e0 hq0 hq1 hq3 hq4
              go_region_with (go_at_call 15; refine (Hcall.out _ ?_ ?_ ?_ ?_).mono ?_; (exact rfl); (exact rfl); (exact rfl); (exact rfl); rintro e w2 hend; obtain ⟨p, rfl⟩ := hend.shape; have Hend := Lib.hid hend; have g0 := hend.keep Htb1.out (by omega); have g1 := cell_of_blk (o := 1) g0; have g2 := free_of_blk (o := 1) g0; clear hend g0)
              have hcut : Behind g b (wr.setCell ⟨b, 0, none⟩ (.int .i64 ((j : Int) + 1))) (j + 1) ⟨B + 1, 1, none⟩ p (w2.setCell ⟨B + 1, 1, none⟩ (.pointer p)) := ⟨w2, Hend.out.undrew, rfl, rfl, rfl, rfl⟩
              clear Hend g1 g2
              generalize w2.setCell ⟨B + 1, 1, none⟩ (.pointer p) = wc at *
              have hse : (wr.setCell ⟨b, 0, none⟩ (.int .i64 ((j : Int) + 1))).heap.size = wr.heap.size := by simp
              clear d0 d1 f0 f1 f2 Hcall
              obtain ⟨j2, k1, k2, k3, k4, k5, k6⟩ := hcut.facts Htb1.out Hbut1.out (by omega) (by omega)
              clear hcut
              have k1' : wc.heap[B + 1]? = some (.cells #[.pointer pl, .pointer p, .bool xs, .int .i64 xv] 57 (0, 0)) := k1
              have g1 : wc.cell? ⟨B + 1, 1, none⟩ = some (.pointer p) := by rw [cell_of_blk k1']; rfl
              have hsz2 : B + 2 ≤ wc.heap.size := lt_of_block k1'
              rw [hse] at k4 k5 k6
              have K1 := Lib.hid k1'
              have K2 := Lib.hid k2
              have K3 := Lib.hid k3
              have K5 := Lib.hid k5
              clear k1 k1' k2 k3 k5
              rcases k6 with ⟨k6, rfl⟩ | ⟨t, jj, k6, rfl, k7, k8⟩
              · have K6 := Lib.hid k6; clear k6
                go_wp2_with fail
                go_ret
                exact grow_none (nodeM_none1 Hx.out Hl.out (by show kidM g ns.length n1 j = none; rw [kidM_go H1.out h2]; exact K6.out)) hB K3.out K2.out
              · obtain ⟨q, rfl⟩ : ∃ q, p = some q := by cases p with | none => exact absurd rfl k7 | some q => exact ⟨q, rfl⟩
                have K6 := Lib.hid k6
                have K8 := Lib.hid k8
                have hjj := (Hgl.out _ _ _ h2 k6).2.1
                clear k6 k7 k8
                go_wp2_with fail
                rw [← H1.out]
                go_roundw
                case rel => exact ⟨2, jj, pl, some q, by go_num, hjj, by omega, ⟨K1.out, K2.out, .inr (.inr ⟨rfl, l, t, j, wr.heap.size, Hl.out, by show kidM g ns.length n1 j = _; rw [kidM_go H1.out h2]; exact K6.out, by omega, k4, HT.out.of_same (fun q h4 h5 => (K5.out q h5 (by omega) (by omega)).trans (Below.heap_setCell _ _ _ _ (by simp; omega))), K8.out⟩)⟩, K3.out, hsz2⟩
                -- pl, some q, by go_num, hjj, by omega, ⟨K1.out, K2.out, .inr (.inr ⟨rfl, l, t, j, wr.heap.size, Hl.out, by show kidM g ns.length n1 j = _; rw [kidM_go H1.out h2]; exact K6.out, by omega, k4, HT.out.of_same (fun q h4 h5 => (K5.out q h5 (by omega) (by omega)).trans (Below.heap_setCell _ _ _ _ (by simp; omega))), K8.out⟩)⟩, K3.out, hsz⟩
                case measure => simp [intOf]
            · obtain rfl : dp = 32 := by omega
              go_wp2_with fail
              go_ret
              exact grow_none (nodeM_none1 Hx.out Hl.out (by show kidM g ns.length n1 j = none; rw [kidM_go H1.out h2]; exact Hg.out (by trivial) _)) hB Hbut1.out Hb1.out
          · go_wp2_with fail
            go_ret
            exact grow_none (nodeM_none1 Hx.out Hl.out (by show kidM g ns.length n1 j = none; exact kidM_bad H0.out (fun h => h2 h.2))) hB Hbut1.out Hb1.out
        · have hq1 : (n1 == (j : Int) + 1) = false := by rw [beq_eq_false_iff_ne]; exact h1
          have H1 := Lib.hid h1; clear h1
          go_wp2_with fail
          go_ret
          exact grow_none (nodeM_none1 Hx.out Hl.out (by show kidM g ns.length n1 j = none; exact kidM_bad H0.out (fun h => H1.out h.1))) hB Hbut1.out Hb1.out
    · have hst : ∃ l r j0 m, kidM g ns.length n0 i = some (l, j0) ∧ kidM g ns.length n1 j0 = some (r, j) ∧ B + 1 < m ∧ m ≤ wr.heap.size ∧ TreeIv wr (B + 1 + 1) m pl l ∧ TreeIv wr m wr.heap.size pr r := by
        rcases Hst.out with ⟨h, _⟩ | ⟨h, _⟩ | ⟨_, h⟩
        · omega
        · omega
        · exact h
      have Hst2 := Lib.hid hst
      clear hst Hst
      go_wp2_with fail
      go_ret
      obtain ⟨l, r, j0, m, s1, s2, s3, s4, s5, s6⟩ := Hst2.out
      rw [nodeM_some Hx.out s1 s2]
      refine ⟨_, _, rfl, Hbb.out, by rw [hB]; exact Hbut.out, rfl, by simp, ?_⟩
      rw [hB]
      exact ⟨B + 1, m, pl, pr, rfl, by omega, s3, s4, Htb.out, s5, s6⟩

theorem c15 (ns : List Nd) (v : Value) (w0 : World) (h : NodesAt w0 v ns) (hlen : ns.length ≤ 500) : ∀ (d dp : Nat), dp + d = 32 → ∀ (i b : Nat) (w : World), i < ns.length → Below w0.heap.size w0 w → w0.heap.size ≤ b → w.heap[b]? = some (.cells #[.int .i64 i] 3 (0, 0)) →
    Calls Try.prog 15 #[v, .pointer (some ⟨b, 0, none⟩), .int .i64 dp] w (GrowEnd w b (growM ns d i))
  | 0, dp, hd, i, b, w, hi, hw, hb0, hb => c15_step ns _ v dp (by omega) w0 h hlen (fun _ _ _ _ _ _ _ h => by omega) (fun _ _ => rfl) (fun _ _ _ _ h => by cases h) i b w hi hw hb0 hb
  | d + 1, dp, hd, i, b, w, hi, hw, hb0, hb => c15_step ns _ v dp (by omega) w0 h hlen (fun i b w hi hw hb0 hb hdp => by
      have := c15 ns v w0 h hlen d (dp + 1) (by omega) i b w hi hw hb0 hb
      simpa using this) (fun h => by omega) (fun _ _ _ hi h => growM_le hi h) i b w hi hw hb0 hb

end Go.Proofs.Ytoladbjgfbnhoaa
