/- read: the tree of a trie. -/
import Derived.Test.YtoladbjgfbnhoaaP2
namespace Go.Proofs.Ytoladbjgfbnhoaa
open Go.RowKit

def okNd (x : Nd) : Bool := x.set || (x.val == 0 && !(x.n0 == 0 && x.n1 == 0))
def bareT : T → Bool
  | .nil => false
  | .node s _ l r => !s && (decide (l = .nil) && decide (r = .nil))

def readM (ns : List Nd) : Option T :=
  if ns.length = 0 then some .nil else if 500 < ns.length then none else
    match growM ns 32 0 with
    | none => none
    | some (t, k) => if k + 1 = ns.length ∧ bareT t = false ∧ ∀ i, i < ns.length → okNd (ns.getD i default) = true then some t else none

def ReadEnd (w : World) (ns : List Nd) (e : Ending) (w' : World) : Prop :=
  Below w.heap.size w w' ∧ match readM ns with
    | none => ∃ r : Int, r ≠ 0 ∧ e = .returned (.tuple #[.pointer none, .int .i64 r])
    | some t => ∃ p, e = .returned (.tuple #[.pointer p, .int .i64 0]) ∧ TreeIv w' w.heap.size w'.heap.size p t

theorem readM_size {ns : List Nd} {t : T} (h : readM ns = some t) : t.size ≤ 500 := by
  unfold readM at h
  split at h
  · cases h; simp [T.size]
  · split at h
    · cases h
    · split at h
      · cases h
      · rename_i t' k hg
        split at h
        · cases h
          have := growM_le (by omega) hg
          omega
        · cases h

theorem read_bad {w w' : World} {ns : List Nd} {r : Int} (h : readM ns = none) (hr : r ≠ 0) (hb : Below w.heap.size w w') : ReadEnd w ns (.returned (.tuple #[.pointer none, .int .i64 r])) w' :=
  ⟨hb, by rw [h]; exact ⟨r, hr, rfl⟩⟩

theorem bareM_of {w : World} {lo hi m : Nat} {pl pr : Option Addr} {s : Bool} {v : Int} {l r : T} (hl : TreeIv w lo m pl l) (hr : TreeIv w m hi pr r) : bareM s pl pr = bareT (.node s v l r) := by
  have e1 : pl.isNone = decide (l = .nil) := by
    cases l with
    | nil => have : pl = none := hl; subst this; rfl
    | node => obtain ⟨b, m, pl', pr', rfl, _⟩ := hl; rfl
  have e2 : pr.isNone = decide (r = .nil) := by
    cases r with
    | nil => have : pr = none := hr; subst this; rfl
    | node => obtain ⟨b, m, pl', pr', rfl, _⟩ := hr; rfl
  simp [bareM, bareT, e1, e2]

theorem growM_node {ns : List Nd} {d i : Nat} {t : T} {k : Nat} (h : growM ns d i = some (t, k)) : ∃ s v l r, t = .node s v l r := by
  have : ∀ g, nodeM g ns i = some (t, k) → ∃ s v l r, t = .node s v l r := by
    intro g h
    unfold nodeM at h
    split at h
    · cases h
    · split at h
      · cases h
      · simp only [Option.some.injEq, Prod.mk.injEq] at h
        exact ⟨_, _, _, _, h.1.symm⟩
  cases d with
  | zero => exact this _ h
  | succ d => exact this _ h

theorem But.mono' {b : Nat} {w w1 w2 : World} (h : But b w1.heap.size w1 w2) (h1 : Below w.heap.size w w1) (hb : w.heap.size ≤ b := by omega) : Below w.heap.size w w2 :=
  h1.trans (h.below.mono (by have := h1.size; omega))
theorem bel_mono {B : Nat} {w w1 w2 : World} (h1 : Below B w w1) (h : Below w1.heap.size w1 w2) (hB : B ≤ w1.heap.size) : Below B w w2 := h1.trans (h.mono hB)

set_option maxHeartbeats 2000000 in
theorem c9 (v : Value) (ns : List Nd) (w : World) (h : NodesAt w v ns) (hl : ns.length ≤ 4398046511104) :
    Calls Try.prog 9 #[.agg #[v]] w (ReadEnd w ns) := by
  obtain ⟨a, cap, rfl, hcap, _, h3⟩ := id h
  have H := Lib.hid h
  have H3 := Lib.hid h3
  clear h h3
  generalize hB : w.heap.size = B at *
  by_cases h0 : ns.length = 0
  · have hq0 : ((ns.length : Int) == 0) = true := by rw [beq_iff_eq]; omega
    have hm : Hid (readM ns = some .nil) := by show _ = _; unfold readM; rw [if_pos h0]
    clear h0
    go_enter Try.func9, Try.ntmps9
    go_wp2_with fail
    go_ret2
    refine ⟨hB ▸ Below.of_alloc _ _, ?_⟩
    rw [hm.out]
    exact ⟨none, rfl, rfl⟩
  have hq0 : ((ns.length : Int) == 0) = false := by rw [beq_eq_false_iff_ne]; omega
  by_cases h5 : 500 < ns.length
  · have hq1 : decide ((ns.length : Int) > 500) = true := decide_eq_true (by omega)
    have hm : Hid (readM ns = none) := by show _ = _; unfold readM; rw [if_neg h0, if_pos h5]
    clear h0
    go_enter Try.func9, Try.ntmps9
    go_wp2_with fail
    go_ret2
    exact read_bad hm.out (by decide) (Below.of_alloc _ _)
  have hq1 : decide ((ns.length : Int) > 500) = false := decide_eq_false (by omega)
  have hgrow : ∀ wx : World, Below w.heap.size w wx → wx.heap[B + 1]? = some (.cells #[.int .i64 0] 3 (0, 0)) →
      Calls Try.prog 15 #[.slice a ns.length cap, .pointer (some ⟨B + 1, 0, none⟩), .int .i64 0] wx (GrowEnd wx (B + 1) (growM ns 32 0)) := fun wx hx1 hx2 =>
    c15 ns _ w H.out (by omega) 32 0 (by omega) 0 (B + 1) wx (by omega) hx1 (by omega) hx2
  have Hgrow := Lib.hid hgrow
  clear hgrow
  have hx1 : Below w.heap.size w ((w.alloc (.cells #[.slice a ns.length cap] 24)).alloc (.cells #[.int .i64 0] 3)) := (Below.of_alloc w _).alloc (by simp) _
  have hx2 : ((w.alloc (.cells #[.slice a ns.length cap] 24)).alloc (.cells #[.int .i64 0] 3)).heap[B + 1]? = some (.cells #[.int .i64 0] 3 (0, 0)) := by
    have := heap_alloc_new (w.alloc (.cells #[.slice a ns.length cap] 24)) (.cells #[.int .i64 0] 3)
    simpa [hB] using this
  have hx3 : ((w.alloc (.cells #[.slice a ns.length cap] 24)).alloc (.cells #[.int .i64 0] 3)).heap[B]? = some (.cells #[.slice a ns.length cap] 24 (0, 0)) := by
    rw [Below.heap_alloc _ _ _ (by simp; omega), ← hB]; exact heap_alloc_new w _
  have hx4 : ((w.alloc (.cells #[.slice a ns.length cap] 24)).alloc (.cells #[.int .i64 0] 3)).heap.size = B + 2 := by simp [hB]
  have Hx1 := Lib.hid hx1
  have Hx2 := Lib.hid hx2
  have Hx3 := Lib.hid hx3
  have Hx4 := Lib.hid hx4
  clear hx1 hx2 hx3 hx4
  cases hg : growM ns 32 0 with
  | none =>
    have hm : Hid (readM ns = none) := by show _ = _; unfold readM; rw [if_neg h0, if_neg h5, hg]
    rw [hg] at Hgrow
    clear hg
    go_enter Try.func9, Try.ntmps9
    go_wp2_with (go_at_call 15; go_loud (refine (Hgrow.out _ Hx1.out Hx2.out).mono ?_; rintro e w2 hend; obtain ⟨p, j2, rfl, h1, h2, h3⟩ := hend; (obtain rfl : p = none := h3); have H2 := Lib.hid h2; have hc := cell_of_blk (o := 0) (h2.block B (by rw [Hx4.out]; omega) (by omega) |>.trans Hx3.out); clear h1 h2))
    go_ret2
    exact read_bad hm.out (by decide) (H2.out.mono' Hx1.out)
  | some tk =>
    obtain ⟨t, k⟩ := tk
    obtain ⟨s, tv, l, r, rfl⟩ := growM_node hg
    obtain ⟨hk1, hk2, hk3⟩ := growM_le (by omega) hg
    rw [hg] at Hgrow
    have Hg := Lib.hid hg
    clear hg
    by_cases hk : k + 1 = ns.length
    · have hq2 : ((k : Int) == (ns.length : Int) - 1) = true := by rw [beq_iff_eq]; omega
      cases hbare : bareT (.node s tv l r) with
      | true =>
        have hm : Hid (readM ns = none) := by show _ = _; unfold readM; rw [if_neg h0, if_neg h5, Hg.out]; simp only; rw [if_neg (fun h => by rw [hbare] at h; exact absurd h.2.1 (by decide))]
        have Hbare := Lib.hid hbare
        clear hbare
        go_enter Try.func9, Try.ntmps9
        go_wp2_with (first
          | (go_at_call 15; go_loud (refine (Hgrow.out _ Hx1.out Hx2.out).mono ?_; rintro e w2 ⟨p, j2, rfl, h1, h2, h3⟩; obtain ⟨h3, h4, b, m, pl, pr, rfl, h6, h7, h8, h9, hl, hr⟩ := h3; subst h3; have H2 := Lib.hid h2; have hc := cell_of_blk (o := 0) (h2.block B (by rw [Hx4.out]; omega) (by omega) |>.trans Hx3.out); have hc2 := cell_of_blk (o := 0) h1; have hbt := (bareM_of (s := s) (v := tv) hl hr).trans Hbare.out; have H9 := Lib.hid h9; clear h1 h2 h4 h9 hl hr))
          | (go_at_call 16; go_loud (refine (c16 _ _ _ _ _ _ H9.out).mono ?_; rintro e w3 ⟨rfl, rfl⟩)))
        go_ret2
        exact read_bad hm.out (by decide) (H2.out.mono' Hx1.out)
      | false =>
        have Hbare := Lib.hid hbare
        clear hbare
        go_enter Try.func9, Try.ntmps9
        go_wp2_with (first
          | (go_at_call 15; go_loud (refine (Hgrow.out _ Hx1.out Hx2.out).mono ?_; rintro e w2 ⟨p, j2, rfl, h1, h2, h3⟩; have HT := Lib.hid h3.2.2; obtain ⟨h3, h4, b, m, pl, pr, rfl, h6, h7, h8, h9, hl, hr⟩ := h3; subst h3; have H2 := Lib.hid h2; have hc := cell_of_blk (o := 0) (h2.block B (by rw [Hx4.out]; omega) (by omega) |>.trans Hx3.out); have hc2 := cell_of_blk (o := 0) h1; have hbt := (bareM_of (s := s) (v := tv) hl hr).trans Hbare.out; have H9 := Lib.hid h9; clear h1 h2 h4 h9 hl hr))
          | (go_at_call 16; go_loud (refine (c16 _ _ _ _ _ _ H9.out).mono ?_; rintro e w3 ⟨rfl, rfl⟩)))
        generalize w3 = w2 at *
        generalize hC : w2.heap.size = C at *
        go_loopw [36] (fun kv wr => ∃ k : Nat, kv = .int .i64 k ∧ k ≤ ns.length ∧ Hid (∀ j, j < k → okNd (ns.getD j default) = true) ∧ Below C w2 wr) (fun kv _ => ns.length - (intOf kv).toNat)
        case atStart => exact ⟨0, rfl, Nat.zero_le _, fun j hj => by omega, Below.refl _ _⟩
        case round =>
          clear hc2 hc
          obtain ⟨q, rfl, hq, Hok, hbel⟩ := hrel
          have hsz := hbel.size
          by_cases hlt : q < ns.length
          · obtain ⟨gb, o, rfl, hcell⟩ := H3.out (by intro h0; subst h0; simp at hlt)
            obtain ⟨q0, q1, q2, q3⟩ := hcell q hlt
            clear hcell
            have hgb := World.block_lt_of_cell? _ _ q0
            simp only at hgb
            have hw2 := H2.out.mono' Hx1.out
            have hwC : B ≤ C := by have := hw2.size; omega
            have hall := hw2.trans (hbel.mono (by omega))
            rw [← hall.cell (by exact hgb)] at q0 q1 q2 q3
            have Hall := Lib.hid hall
            clear hw2 hall
            generalize hx : ns.getD q default = x at *
            have Hx := Lib.hid hx; clear hx
            obtain ⟨n0, n1, st, vl⟩ := x
            simp only at q0 q1 q2 q3
            have d1 : decide ((q : Int) < ns.length) = true := decide_eq_true (by omega)
            cases st with
            | true =>
              go_wp2_with fail
              go_roundw
              case rel => exact ⟨q + 1, by go_num, by omega, fun j hj => by
                by_cases e : j = q
                · rw [e, Hx.out]; rfl
                · exact Hok j (by omega), hbel.alloc (by omega) _⟩
              case measure => simp [intOf]; omega
            | false =>
              by_cases hv : vl = 0
              · have hv1 : (vl == 0) = true := by rw [beq_iff_eq]; exact hv
                cases hn : (n0 == 0 && n1 == 0) with
                | true =>
                  have heq : ∀ w, (Op.equalIn 10000 29 (.agg #[.int .i64 n0, .int .i64 n1]) (.agg #[.int .i64 0, .int .i64 0])).run Try.prog w = .ok true w := fun w => by rw [eq29, hn]
                  have Hn := Lib.hid hn
                  clear hn
                  have hm : Hid (readM ns = none) := by show _ = _; unfold readM; rw [if_neg h0, if_neg h5, Hg.out]; simp only; rw [if_neg (fun h => by have := h.2.2 q hlt; rw [Hx.out] at this; simp [okNd] at this; have hn := Hn.out; simp at hn; exact this.2.elim (fun h => h hn.1) (fun h => h hn.2))]
                  go_wp2_with fail
                  go_ret2
                  exact read_bad hm.out (by decide) (Hall.out.alloc (by omega) _)
                | false =>
                  have heq : ∀ w, (Op.equalIn 10000 29 (.agg #[.int .i64 n0, .int .i64 n1]) (.agg #[.int .i64 0, .int .i64 0])).run Try.prog w = .ok false w := fun w => by rw [eq29, hn]
                  have Hn := Lib.hid hn
                  clear hn
                  go_wp2_with fail
                  go_roundw
                  case rel => exact ⟨q + 1, by go_num, by omega, fun j hj => by
                    by_cases e : j = q
                    · rw [e, Hx.out]; show (false || (vl == 0 && !(n0 == 0 && n1 == 0))) = true; rw [Hn.out, hv]; rfl
                    · exact Hok j (by omega), hbel.alloc (by omega) _⟩
                  case measure => simp [intOf]; omega
              · have hv1 : (vl == 0) = false := by rw [beq_eq_false_iff_ne]; exact hv
                have Hv := Lib.hid hv
                have hm : Hid (readM ns = none) := by show _ = _; unfold readM; rw [if_neg h0, if_neg h5, Hg.out]; simp only; rw [if_neg (fun h => by have := h.2.2 q hlt; rw [Hx.out] at this; simp [okNd] at this; exact Hv.out this.1)]
                clear hv
                go_wp2_with fail
                go_ret2
                exact read_bad hm.out (by decide) (Hall.out.alloc (by omega) _)
          · obtain rfl : q = ns.length := by omega
            have d1 : decide ((ns.length : Int) < ns.length) = false := decide_eq_false (by omega)
            have hm : Hid (readM ns = some (.node s tv l r)) := by show _ = _; unfold readM; rw [if_neg h0, if_neg h5, Hg.out]; simp only; rw [if_pos ⟨hk, Hbare.out, Hok⟩]
            go_wp2_with fail
            go_ret2
            refine ⟨(H2.out.mono' Hx1.out).trans (hbel.mono (by have := (H2.out.mono' Hx1.out).size; omega)), ?_⟩
            rw [hm.out]
            exact ⟨_, rfl, (HT.out.of_same (fun x _ hx => hbel.block x (by omega))).mono (by rw [Hx4.out]; omega) (by omega)⟩
    · have hq2 : ((k : Int) == (ns.length : Int) - 1) = false := by rw [beq_eq_false_iff_ne]; omega
      have hm : Hid (readM ns = none) := by show _ = _; unfold readM; rw [if_neg h0, if_neg h5, Hg.out]; simp only; rw [if_neg (fun h => hk h.1)]
      go_enter Try.func9, Try.ntmps9
      go_wp2_with (go_at_call 15; go_loud (refine (Hgrow.out _ Hx1.out Hx2.out).mono ?_; rintro e w2 ⟨p, j2, rfl, h1, h2, h3⟩; obtain ⟨h3, h4, b, m, pl, pr, rfl, h6, h7, h8, h9, hl, hr⟩ := h3; subst h3; have H2 := Lib.hid h2; have hc := cell_of_blk (o := 0) (h2.block B (by rw [Hx4.out]; omega) (by omega) |>.trans Hx3.out); have hc2 := cell_of_blk (o := 0) h1; clear h1 h2 h4 h9 hl hr))
      go_ret2
      exact read_bad hm.out (by decide) (H2.out.mono' Hx1.out)
end Go.Proofs.Ytoladbjgfbnhoaa
