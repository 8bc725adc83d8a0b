/- lay: a tree as nodes. The walk. -/
import Derived.Test.YtoladbjgfbnhoaaP5
namespace Go.Proofs.Ytoladbjgfbnhoaa
open Go.RowKit

/-- the list that bl points at. -/
def AK (w : World) (B bl : Nat) (L : List Nd) (wx : World) : Prop :=
  ∃ sv, wx.heap[bl]? = some (.cells #[sv] 22 (0, 0)) ∧ OwnN wx B sv L ∧ Below B w wx

def LayEnd (w : World) (B bl : Nat) (ns : List Nd) (t : T) (e : Ending) (w' : World) : Prop :=
  e = .returned (.int .i64 ns.length) ∧ AK w B bl (ns ++ layM t ns.length) w'

theorem ndCells_get0 (a b : List Nd) (x : Nd) : (ndCells (a ++ x :: b))[a.length * 4]? = some (.int .i64 x.n0) := by
  rw [ndCells_append, List.getElem?_append_right (by rw [ndCells_length]; omega), ndCells_length, Nat.sub_self]; simp [ndCells]
theorem ndCells_get1 (a b : List Nd) (x : Nd) : (ndCells (a ++ x :: b))[a.length * 4 + 1]? = some (.int .i64 x.n1) := by
  rw [ndCells_append, List.getElem?_append_right (by rw [ndCells_length]; omega), ndCells_length, Nat.add_sub_cancel_left]; simp [ndCells]

theorem AK.trans {w w1 w2 : World} {B bl : Nat} {L : List Nd} (h : AK w1 B bl L w2) (hb : Below B w w1) : AK w B bl L w2 := by
  obtain ⟨sv, h1, h2, h3⟩ := h
  exact ⟨sv, h1, h2, hb.trans h3⟩

theorem OwnsT.shape {w : World} {base : Nat} {e : TypeId} {size : Nat} {T : Nat → Value → Prop} {v : Value} {n : Nat} {xs : List Value} (h : OwnsT w base e size T v n xs) : ∃ a cap, v = .slice a n cap := by
  obtain ⟨_, ⟨rfl, rfl⟩ | ⟨g, cap, cur, rfl, _⟩⟩ := h
  · exact ⟨none, 0, rfl⟩
  · exact ⟨_, _, rfl⟩

/-- opened for a store into the node behind ns. -/
theorem AK.node0 {w wx : World} {B bl : Nat} {ns b : List Nd} {x : Nd} (h : AK w B bl (ns ++ x :: b) wx) : ∃ g cap, wx.cell? ⟨bl, 0, none⟩ = some (.slice (some ⟨g, 0, none⟩) (ns.length + 1 + b.length) cap) ∧ wx.cell? ⟨g, ns.length * 4, none⟩ = some (.int .i64 x.n0) ∧ wx.frozen? ⟨g, ns.length * 4, none⟩ = false ∧
    ∀ n : Int, AK w B bl (ns ++ { x with n0 := n } :: b) (wx.setCell ⟨g, ns.length * 4, none⟩ (.int .i64 n)) := by
  obtain ⟨sv, h1, h2, h3⟩ := h
  have hlen : (ns ++ x :: b).length = ns.length + 1 + b.length := by simp; omega
  obtain ⟨g, cap, rfl, h4, h5, h6, h7⟩ := h2.pos (by omega)
  refine ⟨g, cap, by rw [cell_of_blk h1, ← hlen]; rfl, h7 _ _ (ndCells_get0 _ _ _), h6 _, fun n => ⟨.slice (some ⟨g, 0, none⟩) (ns ++ x :: b).length cap, ?_, ?_, h3.setCell (by exact h4) _⟩⟩
  · rw [Below.heap_setCell _ _ _ _ (fun e => h2.ne_cells h1 (by decide) (by rw [e]; rfl))]; exact h1
  · have := OwnsT.set (j := ns.length * 4) h2 (u := .int .i64 n) (by unfold NdT; rw [if_neg (by omega)]; exact ⟨n, rfl⟩)
    rw [ndCells_set0] at this
    simpa [OwnN] using this
theorem AK.node1 {w wx : World} {B bl : Nat} {ns b : List Nd} {x : Nd} (h : AK w B bl (ns ++ x :: b) wx) : ∃ g cap, wx.cell? ⟨bl, 0, none⟩ = some (.slice (some ⟨g, 0, none⟩) (ns.length + 1 + b.length) cap) ∧ wx.cell? ⟨g, ns.length * 4 + 1, none⟩ = some (.int .i64 x.n1) ∧ wx.frozen? ⟨g, ns.length * 4 + 1, none⟩ = false ∧
    ∀ n : Int, AK w B bl (ns ++ { x with n1 := n } :: b) (wx.setCell ⟨g, ns.length * 4 + 1, none⟩ (.int .i64 n)) := by
  obtain ⟨sv, h1, h2, h3⟩ := h
  have hlen : (ns ++ x :: b).length = ns.length + 1 + b.length := by simp; omega
  obtain ⟨g, cap, rfl, h4, h5, h6, h7⟩ := h2.pos (by omega)
  refine ⟨g, cap, by rw [cell_of_blk h1, ← hlen]; rfl, h7 _ _ (ndCells_get1 _ _ _), h6 _, fun n => ⟨.slice (some ⟨g, 0, none⟩) (ns ++ x :: b).length cap, ?_, ?_, h3.setCell (by exact h4) _⟩⟩
  · rw [Below.heap_setCell _ _ _ _ (fun e => h2.ne_cells h1 (by decide) (by rw [e]; rfl))]; exact h1
  · have := OwnsT.set (j := ns.length * 4 + 1) h2 (u := .int .i64 n) (by unfold NdT; rw [if_neg (by omega)]; exact ⟨n, rfl⟩)
    rw [ndCells_set1] at this
    simpa [OwnN] using this

theorem layK_one_nil (s : Bool) (v : Int) (r : T) (n : Nat) : layK s v .nil r n 1 = layK s v .nil r n 0 := rfl
theorem layK_two_nil (s : Bool) (v : Int) (l : T) (n : Nat) : layK s v l .nil n 2 = layK s v l .nil n 1 := by simp [layK, layM]

set_option maxHeartbeats 2000000 in
theorem c17 (B bl : Nat) : ∀ (t : T) (p : Option Addr) (sv : Value) (ns : List Nd) (w : World), TreeAt w (fun b => b < B) p t → t ≠ .nil → w.heap[bl]? = some (.cells #[sv] 22 (0, 0)) → OwnN w B sv ns → B ≤ bl → ns.length + t.size ≤ 1000 →
    Calls Try.prog 17 #[.pointer p, .pointer (some ⟨bl, 0, none⟩)] w (LayEnd w B bl ns t) := by
  intro t
  induction t with
  | nil => intro _ _ _ _ _ h; exact absurd rfl h
  | node s v l r ihl ihr =>
    intro p sv ns w hT _ hbl hown hB hsz
    obtain ⟨tb, pl, pr, rfl, htb, hcs, hl, hr⟩ := hT
    have hlt := lt_of_block hbl
    obtain ⟨sa, sc, rfl⟩ := hown.shape
    have d0 : w.cell? ⟨tb, 0, none⟩ = some (.pointer pl) := by rw [cell_of_blk hcs]; rfl
    have d1 : w.cell? ⟨tb, 1, none⟩ = some (.pointer pr) := by rw [cell_of_blk hcs]; rfl
    have d2 : w.cell? ⟨tb, 2, none⟩ = some (.bool s) := by rw [cell_of_blk hcs]; rfl
    have d3 : w.cell? ⟨tb, 3, none⟩ = some (.int .i64 v) := by rw [cell_of_blk hcs]; rfl
    have d4 : w.cell? ⟨bl, 0, none⟩ = some (.slice sa ns.length sc) := by rw [cell_of_blk hbl]; rfl
    simp only [T.size] at hsz
    have Hcs := Lib.hid hcs
    have Hbl := Lib.hid hbl
    have Hl := Lib.hid hl
    have Hr := Lib.hid hr
    have Ihl := Lib.hid ihl
    have Ihr := Lib.hid ihr
    clear hcs hbl hl hr ihl ihr
    have Hgo : Hid (∀ v6 w6, ((w.alloc (.cells #[.int .i64 0, .int .i64 0, .bool s, .int .i64 v] 31)).drew).grownBy w6 (Value.slice sa ns.length sc).ownBlock → OwnsT w6 B 31 4 NdT v6 (ns.length + 1) (ndCells ns ++ [.int .i64 0, .int .i64 0, .bool s, .int .i64 v]) →
        w6.frozen? ⟨bl, 0, none⟩ = false ∧ w6.cell? ⟨bl, 0, none⟩ = some (.slice sa ns.length sc) ∧ AK w B bl (ns ++ layK s v l r ns.length 0) (w6.setCell ⟨bl, 0, none⟩ v6)) := by
      intro v6 w6 hg ho
      have h1 : w6.heap[bl]? = some (.cells #[.slice sa ns.length sc] 22 (0, 0)) := by
        rw [hg.block bl (by simp; omega) (fun e => hown.ne_cells Hbl.out (by decide) e.symm)]
        exact (Below.heap_alloc w _ bl hlt).trans Hbl.out
      refine ⟨free_of_blk h1, by rw [cell_of_blk h1]; rfl, v6, by simpa using heap_setCell_cells (o := 0) v6 h1, ?_, ?_⟩
      · have e : ndCells (ns ++ layK s v l r ns.length 0) = ndCells ns ++ [.int .i64 0, .int .i64 0, .bool s, .int .i64 v] := by rw [ndCells_append]; rfl
        unfold OwnN
        rw [e, show (ns ++ layK s v l r ns.length 0).length = ns.length + 1 from by simp [layK]]
        exact ho.setCell_other (fun e => ho.ne_cells h1 (by decide) e) _
      · exact (((Below.refl B w).alloc (by omega) _).drew.grown hg (by simp; omega) (fun k hk => (hown.lt k hk).1)).setCell (by exact hB) _
    have Hown := Lib.hid hown
    go_enter Try.func17, Try.ntmps17
    go_upto_block 1 with fail
    go_cut [] (fun wx => AK w B bl (ns ++ layK s v l r ns.length 0) wx)
    case first =>
      go_wp2_with fail
      go_region_law (refine step_append_ownT _ rfl _ _ 22 rfl B 31 (.agg #[.int .i64 0, .int .i64 0, .bool false, .int .i64 0]) 4 32 NdT Try.underlying22 info31 rfl (by decide) NdT_zero (.slice sa ns.length sc) ns.length (ndCells ns) (by simp [Act.eval]) (by exact (hown.alloc _).drew) (some ⟨w.heap.size, 0, none⟩) 1 1 [.int .i64 0, .int .i64 0, .bool s, .int .i64 v] (by simp [Act.eval]) rfl (by intro h; cases h) (by exact src_new w [_, _, _, _] 31 _ rfl) (by intro u hu; simp at hu; rcases hu with rfl | rfl | rfl | rfl <;> rfl) (NdT_nd ⟨0, 0, s, v⟩) (by unfold maxLen; omega) (by omega) (by simp; omega) ?_; intro v6 w6 hown6 hgrow6 _ hv6; obtain ⟨hf6, hc6, hx6⟩ := Hgo.out v6 w6 hgrow6 hown6; obtain ⟨av6, cv6, rfl⟩ := hown6.shape; have Hx6 := Lib.hid hx6; clear hgrow6 hown6 hv6 hx6)
      all_goals
        go_wp2_with fail
        go_meet
        case rel => exact Hx6.out
    case rest =>
      have Hcut := Lib.hid hcut
      have hbc : Below B w wc := by obtain ⟨_, _, _, h⟩ := hcut; exact h
      have hbsz := hbc.size
      rw [← hbc.cell (by exact htb)] at d0 d1 d2 d3
      clear hcut d4 hbc
      have i0 := index55_0 pl pr
      have i1 := index55_1 pl pr
      have hcall0 : ∀ (P : pl ≠ none) (wx : World), AK w B bl (ns ++ layK s v l r ns.length 0) wx → Calls Try.prog 17 #[.pointer pl, .pointer (some ⟨bl, 0, none⟩)] wx (fun e w' => e = .returned (.int .i64 ((ns.length : Int) + 1)) ∧ AK w B bl (ns ++ ⟨0, 0, s, v⟩ :: layM l (ns.length + 1)) w') := by
        intro hp wx ⟨sv, h1, h2, h3⟩
        have hlen : (ns ++ layK s v l r ns.length 0).length = ns.length + 1 := by simp [layK]
        refine (Ihl.out pl sv _ wx (Hl.out.of_same (fun x hx _ => h3.block x hx)) (by rintro rfl; exact hp Hl.out) h1 h2 hB (by rw [hlen]; omega)).mono ?_
        rintro e w' ⟨rfl, h4⟩
        rw [hlen] at h4
        refine ⟨by rw [hlen]; rfl, ?_⟩
        have := h4.trans h3
        simpa [layK] using this
      have hcall1 : ∀ (P : pr ≠ none) (wx : World), AK w B bl (ns ++ layK s v l r ns.length 1) wx → Calls Try.prog 17 #[.pointer pr, .pointer (some ⟨bl, 0, none⟩)] wx (fun e w' => e = .returned (.int .i64 ((ns.length : Int) + 1 + ((layM l (ns.length + 1)).length : Int))) ∧ AK w B bl (ns ++ ⟨if l = .nil then 0 else (ns.length : Int) + 1, 0, s, v⟩ :: (layM l (ns.length + 1) ++ layM r (ns.length + 1 + (layM l (ns.length + 1)).length))) w') := by
        intro hp wx ⟨sv, h1, h2, h3⟩
        have hlen : (ns ++ layK s v l r ns.length 1).length = ns.length + 1 + (layM l (ns.length + 1)).length := by simp [layK]; omega
        have hlen2 := layM_length l (ns.length + 1)
        refine (Ihr.out pr sv _ wx (Hr.out.of_same (fun x hx _ => h3.block x hx)) (by rintro rfl; exact hp Hr.out) h1 h2 hB (by rw [hlen]; omega)).mono ?_
        rintro e w' ⟨rfl, h4⟩
        rw [hlen] at h4
        refine ⟨by rw [hlen]; simp, ?_⟩
        have := h4.trans h3
        simpa [layK] using this
      have Hcall0 := Lib.hid hcall0
      have Hcall1 := Lib.hid hcall1
      clear hcall0 hcall1
      have hll := Nat.le_of_eq (layM_length l (ns.length + 1))
      go_wp2_with fail
      go_loopw [33] (fun kv wr => ∃ k : Nat, kv = .int .i64 k ∧ k ≤ 2 ∧ AK w B bl (ns ++ layK s v l r ns.length k) wr) (fun kv _ => 2 - (intOf kv).toNat)
      case atStart => exact ⟨0, rfl, by omega, Hcut.out⟩
      case round =>
        clear d0 d1 d2 d3
        obtain ⟨k, rfl, hk, hst⟩ := hrel
        have Hst := Lib.hid hst
        clear hst
        obtain rfl | rfl | rfl : k = 0 ∨ k = 1 ∨ k = 2 := by omega
        · by_cases hn : l = .nil
          · have HN := Lib.hid hn
            have hp : pl = none := by have := Hl.out; rw [hn] at this; exact this
            subst hp
            have hnext : Hid (AK w B bl (ns ++ layK s v l r ns.length 1) wr) := by have hst := Hst.out; show AK w B bl (ns ++ layK s v l r ns.length 1) wr; rw [HN.out] at hst ⊢; exact hst
            clear hn
            go_wp2_with fail
            go_roundw
            case rel => exact ⟨1, by go_num, by omega, hnext.out⟩
            case measure => simp [intOf]
          · have HN := Lib.hid hn
            have hp : pl ≠ none := by
              have ht := Hl.out
              rcases l with _ | ⟨a1, a2, a3, a4⟩
              · exact absurd rfl hn
              · obtain ⟨_, _, _, h, _⟩ := ht
                rw [h]; simp
            obtain ⟨q, hq⟩ : ∃ q, pl = some q := by cases pl with | none => exact absurd rfl hp | some q => exact ⟨q, rfl⟩
            have hcall := Hcall0.out hp wr Hst.out
            subst hq
            have Hcall := Lib.hid hcall
            clear hcall hn hp
            go_wp2_with (go_at_call 17; go_loud (refine Hcall.out.mono ?_; rintro e w2 ⟨rfl, hak⟩; obtain ⟨g, cap, k1, k2, k3, k4⟩ := hak.node0; have AA := Lib.hid k4; clear hak k4; try simp only [List.length_append] at k1))
            go_roundw
            case rel => exact ⟨1, by go_num, by omega, by have := AA.out ((ns.length : Int) + 1); simpa [layK, HN.out] using this⟩
            case measure => simp [intOf]
        · by_cases hn : r = .nil
          · have HN := Lib.hid hn
            have hp : pr = none := by have := Hr.out; rw [hn] at this; exact this
            subst hp
            have hnext : Hid (AK w B bl (ns ++ layK s v l r ns.length 2) wr) := by have hst := Hst.out; show AK w B bl (ns ++ layK s v l r ns.length 2) wr; rw [HN.out] at hst ⊢; rw [layK_two_nil]; exact hst
            clear hn
            go_wp2_with fail
            go_roundw
            case rel => exact ⟨2, by go_num, by omega, hnext.out⟩
            case measure => simp [intOf]
          · have HN := Lib.hid hn
            have hp : pr ≠ none := by
              have ht := Hr.out
              rcases r with _ | ⟨a1, a2, a3, a4⟩
              · exact absurd rfl hn
              · obtain ⟨_, _, _, h, _⟩ := ht
                rw [h]; simp
            obtain ⟨q, hq⟩ : ∃ q, pr = some q := by cases pr with | none => exact absurd rfl hp | some q => exact ⟨q, rfl⟩
            have hcall := Hcall1.out hp wr Hst.out
            subst hq
            have Hcall := Lib.hid hcall
            clear hcall hn hp
            go_wp2_with (go_at_call 17; go_loud (refine Hcall.out.mono ?_; rintro e w2 ⟨rfl, hak⟩; obtain ⟨g, cap, k1, k2, k3, k4⟩ := hak.node1; have AA := Lib.hid k4; clear hak k4; try simp only [List.length_append] at k1))
            go_roundw
            case rel => exact ⟨2, by go_num, by omega, by have := AA.out ((ns.length : Int) + 1 + ((layM l (ns.length + 1)).length : Int)); simpa [layK, layM, HN.out] using this⟩
            case measure => simp [intOf]
        · go_wp2_with fail
          go_ret
          exact ⟨rfl, Hst.out⟩
end Go.Proofs.Ytoladbjgfbnhoaa
