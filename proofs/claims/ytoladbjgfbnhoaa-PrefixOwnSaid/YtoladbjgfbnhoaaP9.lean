/- remove: a net out of a tree. -/
import Derived.Test.YtoladbjgfbnhoaaP8
namespace Go.Proofs.Ytoladbjgfbnhoaa
open Go.RowKit

def RemPost (w : World) (lo hi n : Nat) (e : Ending) (w' : World) : Prop :=
  ∃ q t' ok, e = .returned (.tuple #[.pointer q, .bool ok]) ∧ T.size t' ≤ n ∧ TreeAt w' (PB lo hi w.heap.size) q t' ∧ Out lo hi w w'

theorem RemPost.shape {w w' : World} {lo hi n : Nat} {e : Ending} (h : RemPost w.drew lo hi n e w') : ∃ q ok, e = .returned (.tuple #[.pointer q, .bool ok]) ∧ ∃ t', T.size t' ≤ n ∧ PutEnd w lo hi t' (.returned (.pointer q)) w' := by
  obtain ⟨q, t', ok, h, h1, h2, h3⟩ := h
  exact ⟨q, ok, h, t', h1, q, rfl, h2, ⟨h3.os, h3.tape, h3.output, h3.size, h3.block⟩⟩

theorem rem_end {w w' : World} {lo hi n : Nat} {t' : T} {q : Option Addr} {ok : Bool} (hs : T.size t' ≤ n) (hT : TreeAt w' (PB lo hi w.heap.size) q t') (ho : Out lo hi w w') : RemPost w lo hi n (.returned (.tuple #[.pointer q, .bool ok])) w' :=
  ⟨q, t', ok, rfl, hs, hT, ho⟩

set_option maxHeartbeats 2000000 in
theorem c13 (a : Int) (lg : Nat) (ha : 0 ≤ a) (ha2 : a < 4294967296) (hlg : lg ≤ 32) : ∀ (d dp : Nat), dp + d = lg → ∀ (t : T) (p : Option Addr) (lo hi : Nat) (w : World), TreeIv w lo hi p t → hi ≤ w.heap.size →
    Calls Try.prog 13 #[.pointer p, .agg #[.int .u32 a, .int .i64 lg], .int .i64 dp] w (RemPost w lo hi t.size) := by
  intro d
  induction d with
  | zero =>
    intro dp hd t p lo hi w hT hhi
    obtain rfl : dp = lg := by omega
    have hq : ((dp : Int) == (dp : Int)) = true := by simp
    generalize hB : w.heap.size = B at *
    cases t with
    | nil =>
      obtain rfl : p = none := hT
      go_enter Try.func13, Try.ntmps13
      go_wp2_with fail
      go_ret2
      exact rem_end (t' := .nil) (Nat.le_refl _) rfl ((Out.refl lo hi w).alloc _)
    | node s v0 l r =>
      obtain ⟨b, m, pl, pr, rfl, h1, h2, h3, h4, hl, hr⟩ := hT
      have hbs : b < B := hB ▸ lt_of_block h4
      have H4 := Lib.hid h4
      have Hl := Lib.hid hl
      have Hr := Lib.hid hr
      have f2 : w.frozen? ⟨b, 2, none⟩ = false := free_of_blk h4
      have f3 : w.frozen? ⟨b, 3, none⟩ = false := free_of_blk h4
      have g2 : w.cell? ⟨b, 2, none⟩ = some (.bool s) := by rw [cell_of_blk h4]; rfl
      have g3 : w.cell? ⟨b, 3, none⟩ = some (.int .i64 v0) := by rw [cell_of_blk h4]; rfl
      have hn := heap_setCell_cells (o := 3) (.int .i64 0) (heap_setCell_cells (o := 2) (.bool false) h4)
      have hn2 : (((w.setCell ⟨b, 2, none⟩ (.bool false)).setCell ⟨b, 3, none⟩ (.int .i64 0)).alloc (.cells #[.int .u32 a, .int .i64 dp] 27)).heap[b]? = some (.cells #[.pointer pl, .pointer pr, .bool false, .int .i64 0] 57 (0, 0)) := by
        rw [Below.heap_alloc _ _ _ (by simp; omega)]; exact hn
      have Hn2 := Lib.hid hn2
      have hbl : lo ≤ b ∧ b < hi := by omega
      have hfin : Out lo hi w (((w.setCell ⟨b, 2, none⟩ (.bool false)).setCell ⟨b, 3, none⟩ (.int .i64 0)).alloc (.cells #[.int .u32 a, .int .i64 dp] 27)) := (((Out.refl lo hi w).setCell (.inl hbl) _).setCell (.inl hbl) _).alloc _
      have Hfin := Lib.hid hfin
      clear h4 hl hr hn hn2 hfin
      go_enter Try.func13, Try.ntmps13
      go_wp2_with (go_at_call 16; go_loud (refine (c16 b _ _ _ _ _ Hn2.out).mono ?_; rintro e w1 ⟨rfl, rfl⟩))
      all_goals go_ret2
      · exact rem_end (t' := .nil) (Nat.zero_le _) rfl Hfin.out
      · refine rem_end (t' := .node false 0 l r) (Nat.le_refl _) ⟨b, pl, pr, rfl, .inl hbl, Hn2.out, ?_, ?_⟩ Hfin.out
        · refine (Hl.out.at.of_same (fun x hx hlt => ?_)).mono (fun x hx => .inl ⟨by omega, by omega⟩)
          rw [Below.heap_alloc _ _ _ (by simpa using hlt), Below.heap_setCell _ _ _ _ (by simp; omega), Below.heap_setCell _ _ _ _ (by simp; omega)]
        · refine (Hr.out.at.of_same (fun x hx hlt => ?_)).mono (fun x hx => .inl ⟨by omega, by omega⟩)
          rw [Below.heap_alloc _ _ _ (by simpa using hlt), Below.heap_setCell _ _ _ _ (by simp; omega), Below.heap_setCell _ _ _ _ (by simp; omega)]
  | succ d ih =>
    intro dp hd t p lo hi w hT hhi
    have hq : ((dp : Int) == (lg : Int)) = false := by rw [beq_eq_false_iff_ne]; omega
    have hbt := bitM_lt a dp
    have hwr : IntKind.i64.wrap ((dp : Int) + 1) = (dp : Int) + 1 := by rw [IntKind.wrap_i64]; omega
    have Hd : Hid (dp + 1 + d = lg) := by show _ = _; omega
    have hd32 : dp < 32 := by omega
    generalize hB : w.heap.size = B at *
    clear hd
    have Ih := Lib.hid ih
    clear ih
    cases t with
    | nil =>
      obtain rfl : p = none := hT
      go_enter Try.func13, Try.ntmps13
      go_wp2_with fail
      go_ret2
      exact rem_end (t' := .nil) (Nat.le_refl _) rfl ((Out.refl lo hi w).alloc _)
    | node s v0 l r =>
      obtain ⟨b, m, pl, pr, rfl, h1, h2, h3, h4, hl, hr⟩ := hT
      have hbs : b < B := hB ▸ lt_of_block h4
      have Hl := Lib.hid hl
      have Hr := Lib.hid hr
      have h5 : (w.alloc (.cells #[.int .u32 a, .int .i64 lg] 27)).heap[b]? = some (.cells #[.pointer pl, .pointer pr, .bool s, .int .i64 v0] 57 (0, 0)) := by rw [Below.heap_alloc _ _ _ (by omega)]; exact h4
      have H4 := Lib.hid h5
      have g0 : w.cell? ⟨b, 0, none⟩ = some (.pointer pl) := by rw [cell_of_blk h4]; rfl
      have g1 : w.cell? ⟨b, 1, none⟩ = some (.pointer pr) := by rw [cell_of_blk h4]; rfl
      have Hout : Hid (Out lo hi w (w.alloc (.cells #[.int .u32 a, .int .i64 lg] 27))) := (Out.refl lo hi w).alloc _
      clear h4 h5 hl hr
      have hcall0 : ∀ wx : World, wx.heap = (w.alloc (.cells #[.int .u32 a, .int .i64 lg] 27)).heap → Calls Try.prog 13 #[.pointer pl, .agg #[.int .u32 a, .int .i64 lg], .int .i64 ((dp : Int) + 1)] wx (RemPost wx (b + 1) m l.size) := by
        intro wx e
        have := Ih.out (dp + 1) Hd.out l pl (b + 1) m wx (Hl.out.of_same (fun x _ hx => by rw [e, Below.heap_alloc _ _ _ (by omega)])) (by rw [e]; simp; omega)
        simpa using this
      have hcall1 : ∀ wx : World, wx.heap = (w.alloc (.cells #[.int .u32 a, .int .i64 lg] 27)).heap → Calls Try.prog 13 #[.pointer pr, .agg #[.int .u32 a, .int .i64 lg], .int .i64 ((dp : Int) + 1)] wx (RemPost wx m hi r.size) := by
        intro wx e
        have := Ih.out (dp + 1) Hd.out r pr m hi wx (Hr.out.of_same (fun x _ hx => by rw [e, Below.heap_alloc _ _ _ (by omega)])) (by rw [e]; simp; omega)
        simpa using this
      have Hcall0 := Lib.hid hcall0
      have Hcall1 := Lib.hid hcall1
      clear hcall0 hcall1
      rcases Nat.lt_or_ge (bitM a dp) 1 with hk | hk
      · have hb0 : bitM a dp = 0 := by omega
        have Hb0 := Lib.hid hb0
        clear hb0 hk hbt
        go_enter Try.func13, Try.ntmps13
        go_wp2_with (go_at_call 18; go_loud (refine (c18 a dp _ ha ha2 (by omega)).mono ?_; rintro e w1 ⟨rfl, rfl⟩; rw [Hb0.out]))
        go_region_with (go_at_call 13; refine (Hcall0.out _ ?_).mono ?_; (exact rfl); rintro e w2 hend; obtain ⟨p, ok, rfl, t', hts, hend⟩ := hend.shape; have Hend := Lib.hid hend; have k0 := hend.keep H4.out (by omega); have k1 := cell_of_blk (o := 0) k0; have k2 := free_of_blk (o := 0) k0; have K0 := Lib.hid k0; clear hend k0)
        all_goals
          obtain ⟨t1, t2, t3⟩ := put_arm (k := 0) (p := none) (r := r) (b := b) (lo2 := b + 1) (hi2 := m) (other := pr) Hout.out (by exact .inl ⟨by omega, by omega⟩) (by omega) (fun x h1 h2 => .inl ⟨by omega, by omega⟩) ((Hr.out.at.of_same (fun x hx hlt => Below.heap_alloc _ _ _ hlt)).mono (fun x hx => ⟨.inl ⟨by omega, by omega⟩, by omega, by omega⟩)) (by simp [hB] <;> omega) Hend.out
          have hk3 : (w2.setCell ⟨b, 0, none⟩ (.pointer p)).heap[b]? = some (.cells #[.pointer p, .pointer pr, .bool s, .int .i64 v0] 57 (0, 0)) := heap_setCell_cells (o := 0) (.pointer p) K0.out
          have T1 := Lib.hid t1
          have T2 := Lib.hid t2
          have T3 := Lib.hid t3
          have HK3 := Lib.hid hk3
          clear t1 t2 t3 hk3 k1 k2 Hend K0
          generalize w2.setCell ⟨b, 0, none⟩ (.pointer p) = w3 at *
          go_wp2_with (go_at_call 16; go_loud (refine (c16 b _ _ _ _ _ HK3.out).mono ?_; rintro e w1 ⟨rfl, rfl⟩))
          all_goals go_ret2
          · exact rem_end (t' := .nil) (Nat.zero_le _) rfl T3.out
          · exact rem_end (t' := T.node s v0 t' r) (by simp only [T.size]; omega) ⟨b, _, _, rfl, .inl ⟨by omega, by omega⟩, HK3.out, T1.out, T2.out⟩ T3.out
      · have hb0 : bitM a dp = 1 := by omega
        have Hb0 := Lib.hid hb0
        clear hb0 hk hbt
        go_enter Try.func13, Try.ntmps13
        go_wp2_with (go_at_call 18; go_loud (refine (c18 a dp _ ha ha2 (by omega)).mono ?_; rintro e w1 ⟨rfl, rfl⟩; rw [Hb0.out]))
        go_region_with (go_at_call 13; refine (Hcall1.out _ ?_).mono ?_; (exact rfl); rintro e w2 hend; obtain ⟨p, ok, rfl, t', hts, hend⟩ := hend.shape; have Hend := Lib.hid hend; have k0 := hend.keep H4.out (by omega); have k1 := cell_of_blk (o := 1) k0; have k2 := free_of_blk (o := 1) k0; have K0 := Lib.hid k0; clear hend k0)
        all_goals
          obtain ⟨t1, t2, t3⟩ := put_arm (k := 1) (p := none) (r := l) (b := b) (lo2 := m) (hi2 := hi) (other := pl) Hout.out (by exact .inl ⟨by omega, by omega⟩) (by omega) (fun x h1 h2 => .inl ⟨by omega, by omega⟩) ((Hl.out.at.of_same (fun x hx hlt => Below.heap_alloc _ _ _ hlt)).mono (fun x hx => ⟨.inl ⟨by omega, by omega⟩, by omega, by omega⟩)) (by simp [hB] <;> omega) Hend.out
          have hk3 : (w2.setCell ⟨b, 1, none⟩ (.pointer p)).heap[b]? = some (.cells #[.pointer pl, .pointer p, .bool s, .int .i64 v0] 57 (0, 0)) := heap_setCell_cells (o := 1) (.pointer p) K0.out
          have T1 := Lib.hid t1
          have T2 := Lib.hid t2
          have T3 := Lib.hid t3
          have HK3 := Lib.hid hk3
          clear t1 t2 t3 hk3 k1 k2 Hend K0
          generalize w2.setCell ⟨b, 1, none⟩ (.pointer p) = w3 at *
          go_wp2_with (go_at_call 16; go_loud (refine (c16 b _ _ _ _ _ HK3.out).mono ?_; rintro e w1 ⟨rfl, rfl⟩))
          all_goals go_ret2
          · exact rem_end (t' := .nil) (Nat.zero_le _) rfl T3.out
          · exact rem_end (t' := T.node s v0 l t') (by simp only [T.size]; omega) ⟨b, _, _, rfl, .inl ⟨by omega, by omega⟩, HK3.out, T2.out, T1.out⟩ T3.out
end Go.Proofs.Ytoladbjgfbnhoaa
