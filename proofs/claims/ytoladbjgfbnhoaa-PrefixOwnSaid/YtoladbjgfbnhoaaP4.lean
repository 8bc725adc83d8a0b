/- put: a net into a tree. -/
import Derived.Test.YtoladbjgfbnhoaaP3
namespace Go.Proofs.Ytoladbjgfbnhoaa
open Go.RowKit

/-- what lies outside lo .. hi is as it was. -/
structure Out (lo hi : Nat) (w w' : World) : Prop where
  os : w'.os = w.os
  tape : w'.tape = w.tape
  output : w'.output = w.output
  size : w.heap.size ≤ w'.heap.size
  block : ∀ k, k < w.heap.size → ¬ (lo ≤ k ∧ k < hi) → w'.heap[k]? = w.heap[k]?

theorem Out.refl (lo hi : Nat) (w : World) : Out lo hi w w := ⟨rfl, rfl, rfl, Nat.le_refl _, fun _ _ _ => rfl⟩
theorem Out.below {lo hi B : Nat} {w w' : World} (h : Out lo hi w w') (hB : B ≤ lo) (hs : B ≤ w.heap.size) : Below B w w' := ⟨h.os, h.tape, h.output, h.size, fun k hk => h.block k (by omega) (by omega)⟩
theorem Out.alloc {lo hi : Nat} {w w' : World} (h : Out lo hi w w') (o : Obj) : Out lo hi w (w'.alloc o) :=
  ⟨h.os, h.tape, h.output, by have := h.size; simp; omega, fun k hk hb => by rw [Below.heap_alloc _ _ _ (by have := h.size; omega)]; exact h.block k hk hb⟩
theorem Out.setCell {lo hi : Nat} {w w' : World} (h : Out lo hi w w') {a : Addr} (ha : (lo ≤ a.block ∧ a.block < hi) ∨ w.heap.size ≤ a.block) (v : Value) : Out lo hi w (w'.setCell a v) :=
  ⟨h.os, h.tape, h.output, by simpa using h.size, fun k hk hb => by rw [Below.heap_setCell _ _ _ _ (by rintro rfl; omega)]; exact h.block k hk hb⟩

/-- the blocks that a tree may have behind a call: its old ones, and new ones. -/
def PB (lo hi S : Nat) (b : Nat) : Prop := (lo ≤ b ∧ b < hi) ∨ S ≤ b

def PutEnd (w : World) (lo hi : Nat) (t : T) (e : Ending) (w' : World) : Prop :=
  ∃ q, e = .returned (.pointer q) ∧ TreeAt w' (PB lo hi w.heap.size) q t ∧ Out lo hi w w'

theorem PutEnd.shape {w w' : World} {lo hi : Nat} {t : T} {e : Ending} (h : PutEnd w lo hi t e w') : ∃ q, e = .returned (.pointer q) := by
  obtain ⟨q, h, _⟩ := h; exact ⟨q, h⟩
theorem PutEnd.undrew {w w' : World} {lo hi : Nat} {t : T} {e : Ending} (h : PutEnd w.drew lo hi t e w') : PutEnd w lo hi t e w' := by
  obtain ⟨q, h1, h2, h3⟩ := h
  exact ⟨q, h1, h2, ⟨h3.os, h3.tape, h3.output, h3.size, h3.block⟩⟩
theorem PutEnd.keep {w w' : World} {lo hi : Nat} {t : T} {e : Ending} (h : PutEnd w lo hi t e w') {g : Nat} {o : Obj} (hg : w.heap[g]? = some o) (hne : ¬ (lo ≤ g ∧ g < hi)) : w'.heap[g]? = some o := by
  obtain ⟨_, _, _, h⟩ := h
  rw [h.block g (lt_of_block hg) hne]; exact hg

/-- an arm is put in; the other one stays. -/
theorem put_arm {w w1 w2 : World} {lo hi lo2 hi2 b k : Nat} {p : Option Nat} {other q : Option Addr} {l' : T} {r : T} (hout : Out lo hi w w1) (hb : PB lo hi w.heap.size b) (hbn : ¬ (lo2 ≤ b ∧ b < hi2)) (hsub : ∀ x, lo2 ≤ x → x < hi2 → PB lo hi w.heap.size x)
    (hother : TreeAt w1 (fun x => PB lo hi w.heap.size x ∧ ¬ (lo2 ≤ x ∧ x < hi2) ∧ x ≠ b) other r) (hblt : b < w1.heap.size) (hend : PutEnd w1 lo2 hi2 l' (.returned (.pointer q)) w2) :
    let w3 := w2.setCell ⟨b, k, p⟩ (.pointer q)
    TreeAt w3 (PB lo hi w.heap.size) q l' ∧ TreeAt w3 (PB lo hi w.heap.size) other r ∧ Out lo hi w w3 := by
  intro w3
  obtain ⟨q', he, h1, h2⟩ := hend
  simp only [Ending.returned.injEq, Value.pointer.injEq] at he
  subst he
  have hs1 := hout.size
  refine ⟨?_, ?_, ?_⟩
  · refine (h1.mono (Q := fun x => PB lo hi w.heap.size x ∧ x ≠ b) (fun x hx => ?_)).of_same (w' := w3) (fun x hx _ => Below.heap_setCell _ _ _ _ (by simpa using hx.2)) |>.mono (fun x hx => hx.1)
    rcases hx with hx | hx
    · exact ⟨hsub x hx.1 hx.2, by rintro rfl; exact hbn hx⟩
    · exact ⟨.inr (by omega), by omega⟩
  · exact (hother.of_same (w' := w3) (fun x hx hlt => by
      rw [Below.heap_setCell _ _ _ _ (by simpa using hx.2.2), h2.block x hlt hx.2.1])).mono (fun x hx => hx.1)
  · refine Out.setCell ⟨h2.os.trans hout.os, h2.tape.trans hout.tape, h2.output.trans hout.output, Nat.le_trans hs1 h2.size, fun x hx hn => ?_⟩ (by simpa [PB] using hb) _
    rw [h2.block x (by omega) (fun h => by rcases hsub x h.1 h.2 with h | h; exact hn h; omega), hout.block x hx hn]

def T.up : T → T
  | .nil => .node false 0 .nil .nil
  | t => t
def T.seton (v : Int) : T → T
  | .nil => .nil
  | .node _ _ l r => .node true v l r
def T.arm (k : Nat) (f : T → T) : T → T
  | .nil => .nil
  | .node s v l r => if k = 0 then .node s v (f l) r else .node s v l (f r)

def putM (a : Int) (long : Nat) (v : Int) : Nat → T → T
  | 0, t => T.seton v t.up
  | d + 1, t => T.arm (bitM a (long - (d + 1))) (putM a long v d) t.up

theorem putM_size (a : Int) (long : Nat) (v : Int) : ∀ (d : Nat) (t : T), (putM a long v d t).size ≤ t.size + d + 1
  | 0, .nil => by simp [putM, T.up, T.seton, T.size]
  | 0, .node s v l r => by simp [putM, T.up, T.seton, T.size]
  | d + 1, .nil => by
    have := putM_size a long v d .nil
    simp only [putM, T.up, T.arm]
    split <;> simp only [T.size] at this ⊢ <;> omega
  | d + 1, .node s v0 l r => by
    have h1 := putM_size a long v d l
    have h2 := putM_size a long v d r
    simp only [putM, T.up, T.arm]
    split <;> simp only [T.size] <;> omega

set_option maxHeartbeats 2000000 in
theorem c12 (a : Int) (lg : Nat) (v : Int) (ha : 0 ≤ a) (ha2 : a < 4294967296) (hlg : lg ≤ 32) : ∀ (d dp : Nat), dp + d = lg → ∀ (t : T) (p : Option Addr) (lo hi : Nat) (w : World), TreeIv w lo hi p t → hi ≤ w.heap.size →
    Calls Try.prog 12 #[.pointer p, .agg #[.int .u32 a, .int .i64 lg], .int .i64 v, .int .i64 dp] w (PutEnd w lo hi (putM a lg v d t)) := by
  intro d
  induction d with
  | zero =>
    intro dp hd t p lo hi w hT hhi
    obtain rfl : dp = lg := by omega
    have hq : ((dp : Int) == (dp : Int)) = true := by simp
    cases t with
    | nil =>
      obtain rfl : p = none := hT
      go_enter Try.func12, Try.ntmps12
      go_wp2_with fail
      go_ret
      have hn := heap_alloc_new (w.alloc (.cells #[.int .u32 a, .int .i64 dp] 27)) (.cells #[.pointer none, .pointer none, .bool true, .int .i64 v] 57)
      refine ⟨_, rfl, ⟨w.heap.size + 1, none, none, rfl, .inr (by omega), by simpa using hn, rfl, rfl⟩, ?_⟩
      exact ((Out.refl lo hi w).alloc _).alloc _
    | node s v0 l r =>
      obtain ⟨b, m, pl, pr, rfl, h1, h2, h3, h4, hl, hr⟩ := hT
      have H4 := Lib.hid h4
      have hbs := lt_of_block h4
      have Hl := Lib.hid hl
      have Hr := Lib.hid hr
      have f2 : w.frozen? ⟨b, 2, none⟩ = false := free_of_blk h4
      have f3 : w.frozen? ⟨b, 3, none⟩ = false := free_of_blk h4
      have g2 : w.cell? ⟨b, 2, none⟩ = some (.bool s) := by rw [cell_of_blk h4]; rfl
      have g3 : w.cell? ⟨b, 3, none⟩ = some (.int .i64 v0) := by rw [cell_of_blk h4]; rfl
      clear h4 hl hr
      go_enter Try.func12, Try.ntmps12
      go_wp2_with fail
      go_ret
      have hn := heap_setCell_cells (o := 3) (.int .i64 v) (heap_setCell_cells (o := 2) (.bool true) H4.out)
      have hbl : lo ≤ b ∧ b < hi := by omega
      have hbl2 : PB lo hi w.heap.size b := .inl hbl
      refine ⟨_, rfl, ⟨b, pl, pr, rfl, hbl2, ?_, ?_, ?_⟩, (((Out.refl lo hi w).setCell (.inl hbl) _).setCell (.inl hbl) _).alloc _⟩
      · rw [Below.heap_alloc _ _ _ (by simpa using hbs)]; exact hn
      · refine (Hl.out.at.of_same (fun x hx hlt => ?_)).mono (fun x hx => .inl ⟨by omega, by omega⟩)
        rw [Below.heap_alloc _ _ _ (by simpa using hlt), Below.heap_setCell _ _ _ _ (by simp; omega), Below.heap_setCell _ _ _ _ (by simp; omega)]
      · refine (Hr.out.at.of_same (fun x hx hlt => ?_)).mono (fun x hx => .inl ⟨by omega, by omega⟩)
        rw [Below.heap_alloc _ _ _ (by simpa using hlt), Below.heap_setCell _ _ _ _ (by simp; omega), Below.heap_setCell _ _ _ _ (by simp; omega)]
  | succ d ih =>
    intro dp hd t p lo hi w hT hhi
    have hq : ((dp : Int) == (lg : Int)) = false := by rw [beq_eq_false_iff_ne]; omega
    have hbt := bitM_lt a dp
    have hwr : IntKind.i64.wrap ((dp : Int) + 1) = (dp : Int) + 1 := by rw [IntKind.wrap_i64]; omega
    have hdd : lg - (d + 1) = dp := by omega
    have Hd : Hid (dp + 1 + d = lg) := by show _ = _; omega
    have hd32 : dp < 32 := by omega
    have Hdd := Lib.hid hdd
    have hS : w.heap.size = w.heap.size := rfl
    generalize hB : w.heap.size = B at *
    clear hS hd hdd
    have Ih := Lib.hid ih
    clear ih
    cases t with
    | nil =>
      obtain rfl : p = none := hT
      have hn := heap_alloc_new (w.alloc (.cells #[.int .u32 a, .int .i64 lg] 27)) (.cells #[.pointer none, .pointer none, .bool false, .int .i64 0] 57)
      have hn2 : ((w.alloc (.cells #[.int .u32 a, .int .i64 lg] 27)).alloc (.cells #[.pointer none, .pointer none, .bool false, .int .i64 0] 57)).heap[B + 1]? = some (.cells #[.pointer none, .pointer none, .bool false, .int .i64 0] 57 (0, 0)) := by simpa [hB] using hn
      have H4 := Lib.hid hn2
      clear hn hn2
      have Hout : Hid (Out lo hi w ((w.alloc (.cells #[.int .u32 a, .int .i64 lg] 27)).alloc (.cells #[.pointer none, .pointer none, .bool false, .int .i64 0] 57))) := ((Out.refl lo hi w).alloc _).alloc _
      have hcall : ∀ wx : World, wx.heap = ((w.alloc (.cells #[.int .u32 a, .int .i64 lg] 27)).alloc (.cells #[.pointer none, .pointer none, .bool false, .int .i64 0] 57)).heap → Calls Try.prog 12 #[.pointer none, .agg #[.int .u32 a, .int .i64 lg], .int .i64 v, .int .i64 ((dp : Int) + 1)] wx (PutEnd wx 0 0 (putM a lg v d .nil)) := by
        intro wx _
        have := Ih.out (dp + 1) Hd.out .nil none 0 0 wx rfl (Nat.zero_le _)
        simpa using this
      have Hcall := Lib.hid hcall
      clear hcall
      rcases Nat.lt_or_ge (bitM a dp) 1 with hk | hk
      · have hb0 : bitM a dp = 0 := by omega
        have hm : putM a lg v (d + 1) .nil = T.node false 0 (putM a lg v d .nil) .nil := by simp only [putM, T.up, T.arm, Hdd.out, hb0]; rfl
        have Hb0 := Lib.hid hb0
        have Hm := Lib.hid hm
        clear hb0 hm hk hbt
        go_enter Try.func12, Try.ntmps12
        go_wp2_with (go_at_call 18; go_loud (refine (c18 a dp _ ha ha2 (by omega)).mono ?_; rintro e w1 ⟨rfl, rfl⟩; rw [Hb0.out]))
        go_region_with (go_at_call 12; refine (Hcall.out _ ?_).mono ?_; (exact rfl); rintro e w2 hend; obtain ⟨p, rfl⟩ := hend.shape; have Hend := Lib.hid hend; have k0 := hend.keep H4.out (by omega); have k1 := cell_of_blk (o := 0) k0; have k2 := free_of_blk (o := 0) k0; have K0 := Lib.hid k0; clear hend k0)
        all_goals
          go_wp2_with fail
          go_ret
          rw [Hm.out]
          obtain ⟨t1, t2, t3⟩ := put_arm (k := 0) (p := none) (r := .nil) (b := B + 1) (lo2 := 0) (hi2 := 0) (other := none) Hout.out (by rw [hB]; exact .inr (by omega)) (by omega) (fun x _ h => absurd h (Nat.not_lt_zero _)) (rfl) (by simp [hB] <;> omega) Hend.out.undrew
          refine ⟨_, rfl, ⟨B + 1, _, _, rfl, by rw [hB]; exact .inr (by omega), ?_, t1, t2⟩, t3⟩
          exact heap_setCell_cells (o := 0) (.pointer p) K0.out
      · have hb0 : bitM a dp = 1 := by omega
        have hm : putM a lg v (d + 1) .nil = T.node false 0 .nil (putM a lg v d .nil) := by simp only [putM, T.up, T.arm, Hdd.out, hb0]; rfl
        have Hb0 := Lib.hid hb0
        have Hm := Lib.hid hm
        clear hb0 hm hk hbt
        go_enter Try.func12, Try.ntmps12
        go_wp2_with (go_at_call 18; go_loud (refine (c18 a dp _ ha ha2 (by omega)).mono ?_; rintro e w1 ⟨rfl, rfl⟩; rw [Hb0.out]))
        go_region_with (go_at_call 12; refine (Hcall.out _ ?_).mono ?_; (exact rfl); rintro e w2 hend; obtain ⟨p, rfl⟩ := hend.shape; have Hend := Lib.hid hend; have k0 := hend.keep H4.out (by omega); have k1 := cell_of_blk (o := 1) k0; have k2 := free_of_blk (o := 1) k0; have K0 := Lib.hid k0; clear hend k0)
        all_goals
          go_wp2_with fail
          go_ret
          rw [Hm.out]
          obtain ⟨t1, t2, t3⟩ := put_arm (k := 1) (p := none) (r := .nil) (b := B + 1) (lo2 := 0) (hi2 := 0) (other := none) Hout.out (by rw [hB]; exact .inr (by omega)) (by omega) (fun x _ h => absurd h (Nat.not_lt_zero _)) (rfl) (by simp [hB] <;> omega) Hend.out.undrew
          refine ⟨_, rfl, ⟨B + 1, _, _, rfl, by rw [hB]; exact .inr (by omega), ?_, t2, t1⟩, t3⟩
          exact heap_setCell_cells (o := 1) (.pointer p) K0.out
    | node s v0 l r =>
      obtain ⟨b, m, pl, pr, rfl, h1, h2, h3, h4, hl, hr⟩ := hT
      have hbs : b < B := hB ▸ lt_of_block h4
      have Hl := Lib.hid hl
      have Hr := Lib.hid hr
      have h5 : (w.alloc (.cells #[.int .u32 a, .int .i64 lg] 27)).heap[b]? = some (.cells #[.pointer pl, .pointer pr, .bool s, .int .i64 v0] 57 (0, 0)) := by rw [Below.heap_alloc _ _ _ (by omega)]; exact h4
      have H4 := Lib.hid h5
      have g0 : w.cell? ⟨b, 0, none⟩ = some (.pointer pl) := by rw [cell_of_blk h4]; rfl
      have g1 : w.cell? ⟨b, 1, none⟩ = some (.pointer pr) := by rw [cell_of_blk h4]; rfl
      have Hout : Hid (Out lo hi w (w.alloc (.cells #[.int .u32 a, .int .i64 lg] 27))) := (Out.refl lo hi w).alloc _
      clear h4 h5 hl hr
      have hcall0 : ∀ wx : World, wx.heap = (w.alloc (.cells #[.int .u32 a, .int .i64 lg] 27)).heap → Calls Try.prog 12 #[.pointer pl, .agg #[.int .u32 a, .int .i64 lg], .int .i64 v, .int .i64 ((dp : Int) + 1)] wx (PutEnd wx (b + 1) m (putM a lg v d l)) := by
        intro wx e
        have := Ih.out (dp + 1) Hd.out l pl (b + 1) m wx (Hl.out.of_same (fun x _ hx => by rw [e, Below.heap_alloc _ _ _ (by omega)])) (by rw [e]; simp; omega)
        simpa using this
      have hcall1 : ∀ wx : World, wx.heap = (w.alloc (.cells #[.int .u32 a, .int .i64 lg] 27)).heap → Calls Try.prog 12 #[.pointer pr, .agg #[.int .u32 a, .int .i64 lg], .int .i64 v, .int .i64 ((dp : Int) + 1)] wx (PutEnd wx m hi (putM a lg v d r)) := by
        intro wx e
        have := Ih.out (dp + 1) Hd.out r pr m hi wx (Hr.out.of_same (fun x _ hx => by rw [e, Below.heap_alloc _ _ _ (by omega)])) (by rw [e]; simp; omega)
        simpa using this
      have Hcall0 := Lib.hid hcall0
      have Hcall1 := Lib.hid hcall1
      clear hcall0 hcall1
      rcases Nat.lt_or_ge (bitM a dp) 1 with hk | hk
      · have hb0 : bitM a dp = 0 := by omega
        have hm : putM a lg v (d + 1) (.node s v0 l r) = T.node s v0 (putM a lg v d l) r := by simp only [putM, T.up, T.arm, Hdd.out, hb0]; rfl
        have Hb0 := Lib.hid hb0
        have Hm := Lib.hid hm
        clear hb0 hm hk hbt
        go_enter Try.func12, Try.ntmps12
        go_wp2_with (go_at_call 18; go_loud (refine (c18 a dp _ ha ha2 (by omega)).mono ?_; rintro e w1 ⟨rfl, rfl⟩; rw [Hb0.out]))
        go_region_with (go_at_call 12; refine (Hcall0.out _ ?_).mono ?_; (exact rfl); rintro e w2 hend; obtain ⟨p, rfl⟩ := hend.shape; have Hend := Lib.hid hend; have k0 := hend.keep H4.out (by omega); have k1 := cell_of_blk (o := 0) k0; have k2 := free_of_blk (o := 0) k0; have K0 := Lib.hid k0; clear hend k0)
        all_goals
          go_wp2_with fail
          go_ret
          rw [Hm.out]
          obtain ⟨t1, t2, t3⟩ := put_arm (k := 0) (p := none) (r := r) (b := b) (lo2 := b + 1) (hi2 := m) (other := pr) Hout.out (by exact .inl ⟨by omega, by omega⟩) (by omega) (fun x h1 h2 => .inl ⟨by omega, by omega⟩) ((Hr.out.at.of_same (fun x hx hlt => Below.heap_alloc _ _ _ hlt)).mono (fun x hx => ⟨.inl ⟨by omega, by omega⟩, by omega, by omega⟩)) (by simp [hB] <;> omega) Hend.out.undrew
          refine ⟨_, rfl, ⟨b, _, _, rfl, .inl ⟨by omega, by omega⟩, ?_, t1, t2⟩, t3⟩
          exact heap_setCell_cells (o := 0) (.pointer p) K0.out
      · have hb0 : bitM a dp = 1 := by omega
        have hm : putM a lg v (d + 1) (.node s v0 l r) = T.node s v0 l (putM a lg v d r) := by simp only [putM, T.up, T.arm, Hdd.out, hb0]; rfl
        have Hb0 := Lib.hid hb0
        have Hm := Lib.hid hm
        clear hb0 hm hk hbt
        go_enter Try.func12, Try.ntmps12
        go_wp2_with (go_at_call 18; go_loud (refine (c18 a dp _ ha ha2 (by omega)).mono ?_; rintro e w1 ⟨rfl, rfl⟩; rw [Hb0.out]))
        go_region_with (go_at_call 12; refine (Hcall1.out _ ?_).mono ?_; (exact rfl); rintro e w2 hend; obtain ⟨p, rfl⟩ := hend.shape; have Hend := Lib.hid hend; have k0 := hend.keep H4.out (by omega); have k1 := cell_of_blk (o := 1) k0; have k2 := free_of_blk (o := 1) k0; have K0 := Lib.hid k0; clear hend k0)
        all_goals
          go_wp2_with fail
          go_ret
          rw [Hm.out]
          obtain ⟨t1, t2, t3⟩ := put_arm (k := 1) (p := none) (r := l) (b := b) (lo2 := m) (hi2 := hi) (other := pl) Hout.out (by exact .inl ⟨by omega, by omega⟩) (by omega) (fun x h1 h2 => .inl ⟨by omega, by omega⟩) ((Hl.out.at.of_same (fun x hx hlt => Below.heap_alloc _ _ _ hlt)).mono (fun x hx => ⟨.inl ⟨by omega, by omega⟩, by omega, by omega⟩)) (by simp [hB] <;> omega) Hend.out.undrew
          refine ⟨_, rfl, ⟨b, _, _, rfl, .inl ⟨by omega, by omega⟩, ?_, t2, t1⟩, t3⟩
          exact heap_setCell_cells (o := 1) (.pointer p) K0.out
end Go.Proofs.Ytoladbjgfbnhoaa
