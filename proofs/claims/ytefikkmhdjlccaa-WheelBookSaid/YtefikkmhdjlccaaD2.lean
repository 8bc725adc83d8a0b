/- slices.Delete of one thing. -/
import Derived.Test.YtefikkmhdjlccaaD1
namespace Go.Proofs.Ytefikkmhdjlccaa
open Go.RowKit

theorem duCells_take (l : List Du) (k : Nat) : duCells (l.take k) = (duCells l).take (k * 2) := by
  induction l generalizing k with
  | nil => simp [duCells]
  | cons d l ih =>
    cases k with
    | zero => simp [duCells]
    | succ k =>
      have := ih k
      rw [List.take_succ_cons, show (k + 1) * 2 = k * 2 + 1 + 1 from by omega]
      simp only [duCells, List.flatMap_cons, List.cons_append, List.nil_append, List.take_succ_cons] at this ⊢
      rw [this]
theorem duCells_drop (l : List Du) (k : Nat) : duCells (l.drop k) = (duCells l).drop (k * 2) := by
  induction l generalizing k with
  | nil => simp [duCells]
  | cons d l ih =>
    cases k with
    | zero => simp [duCells]
    | succ k =>
      have := ih k
      rw [List.drop_succ_cons, show (k + 1) * 2 = k * 2 + 1 + 1 from by omega]
      simp only [duCells, List.flatMap_cons, List.cons_append, List.nil_append, List.drop_succ_cons] at this ⊢
      rw [this]
theorem eraseIdx_cells (l : List Du) (k : Nat) : duCells (l.eraseIdx k) = (duCells l).take (k * 2) ++ (duCells l).drop ((k + 1) * 2) := by
  rw [List.eraseIdx_eq_take_drop_succ, duCells_append, duCells_take, duCells_drop]

/-- what append within the block, and clear, leave of the block. -/
theorem del_own {g B cap r : Nat} {cur : Array Value} {l : List Du} {k : Nat} (hB : B ≤ g) (hs : cur.size = cap * 2) (hn : l.length ≤ cap) (hm : cap ≤ maxLen) (hx : cur.toList.take (l.length * 2) = duCells l) (hT : ∀ j u, cur[j]? = some u → DuT (j % 2) u) (hk : k < l.length) (hr : r + 1 = l.length)
    (news : List Value) (hnews : news = (duCells l).drop ((k + 1) * 2)) (zs : List Value) (hz : ∀ u ∈ zs, u = .int .i64 0) (hzl : zs.length = 2) (w' : World)
    (hg' : w'.heap[g]? = some (.cells ((cur.toList.take (k * 2) ++ news ++ cur.toList.drop (k * 2 + news.length)).take (r * 2) ++ zs ++ (cur.toList.take (k * 2) ++ news ++ cur.toList.drop (k * 2 + news.length)).drop (r * 2 + 2)).toArray 33 (0, 0))) :
    OwnD w' B (.slice (some ⟨g, 0, none⟩) r cap) (l.eraseIdx k) := by
  have hlen : (l.eraseIdx k).length = r := by rw [List.length_eraseIdx]; simp [hk]; omega
  have hcl := duCells_length l
  have hnl : news.length = (r - k) * 2 := by rw [hnews, List.length_drop, hcl]; omega
  have htk : (cur.toList.take (k * 2)) = (duCells l).take (k * 2) := by rw [← hx, List.take_take]; congr 1; omega
  have htl : (cur.toList.take (k * 2)).length = k * 2 := by rw [List.length_take, Array.length_toList, hs]; omega
  have hpre : (cur.toList.take (k * 2) ++ news ++ cur.toList.drop (k * 2 + news.length)).take (r * 2) = duCells (l.eraseIdx k) := by
    rw [eraseIdx_cells, ← hnews, htk]
    have : ((duCells l).take (k * 2) ++ news).length = r * 2 := by rw [List.length_append, ← htk, htl, hnl]; omega
    rw [← this]
    exact List.take_left
  unfold OwnD
  rw [hlen]
  refine ⟨by rw [duCells_length, hlen], .inr ⟨g, cap, _, rfl, hB, hg', by omega, hm, ?_, ?_, ?_⟩⟩
  · simp only [List.size_toArray, List.length_append, List.length_take, List.length_drop, Array.length_toList, hnl, hzl, hs]
    omega
  · simp only [List.append_assoc] at hpre ⊢
    rw [hpre]
    have : (duCells (l.eraseIdx k)).length = r * 2 := by rw [duCells_length, hlen]
    rw [← this]
    exact List.take_left
  · intro j u hu
    have hmem := List.mem_of_getElem? (l := _) (by simpa using hu)
    have hcur : ∀ u ∈ cur.toList, DuT (j % 2) u := fun u hu => by
      obtain ⟨i, hi⟩ := List.mem_iff_getElem?.1 hu
      have := hT i u (by simpa using hi)
      exact this
    have hnw : ∀ u ∈ news, DuT (j % 2) u := fun u hu => by
      rw [hnews] at hu
      have := List.mem_of_mem_drop hu
      rw [← hx] at this
      exact hcur u (List.mem_of_mem_take this)
    simp only [List.mem_append] at hmem
    have key : ∀ u, u ∈ (cur.toList.take (k * 2) ++ news ++ cur.toList.drop (k * 2 + news.length)) → DuT (j % 2) u := fun u hu => by
      simp only [List.mem_append] at hu
      rcases hu with (hu | hu) | hu
      · exact hcur u (List.mem_of_mem_take hu)
      · exact hnw u hu
      · exact hcur u (List.mem_of_mem_drop hu)
    rcases hmem with h | h | h
    · exact key u (by simpa using List.mem_of_mem_take h)
    · exact ⟨0, hz u h⟩
    · exact key u (by simpa using List.mem_of_mem_drop h)

set_option maxHeartbeats 1000000 in
theorem c19 (v : Value) (l : List Du) (k : Nat) (w : World) (B : Nat) (h : OwnD w B v l) (hl : l.length ≤ 8796093022208) (hk : k < l.length) :
    Calls Try.prog 19 #[v, .int .i64 k, .int .i64 ((k : Int) + 1)] w fun e w' => ∃ v', e = .returned v' ∧ OwnD w' B v' (l.eraseIdx k) ∧ v'.ownBlock = v.ownBlock ∧ w.grownBy w' v.ownBlock := by
  obtain ⟨h1, ⟨rfl, h0⟩ | ⟨g, cap, cur, rfl, a1, a2, a3, a4, a5, a6, a7⟩⟩ := h
  · omega
  have f0 : (k : Int) ≤ (k : Int) + 1 := by omega
  have f1 : (k : Int) + 1 ≤ l.length := by omega
  have f2 : (k : Int) < l.length := by omega
  have f3 : (l.length : Int) ≤ cap := by omega
  have f4 : ((k : Int) == (k : Int) + 1) = false := by rw [beq_eq_false_iff_ne]; omega
  unfold maxLen at a4
  have n0 : (0 : Int) ≤ (k : Int) + 1 := by omega
  have n1 : k ≤ cap := by omega
  have n2 : k + 1 ≤ cap := by omega
  have n3 : k + 1 ≤ l.length := by omega
  have n4 : k ≤ k + 1 := by omega
  have n5 : k ≤ l.length := by omega
  have hcl := duCells_length l
  obtain ⟨r, hr⟩ : ∃ r, r + 1 = l.length := ⟨l.length - 1, by omega⟩
  have hgw : ∀ c, (w.drew.setRow g c).heap[g]? = some (.cells c 33 (0, 0)) := fun c => setRow_heap w.drew g cur c 33 (0, 0) a2
  -- what is left, wherever the rest began
  have hsub : ∀ (ad : Addr) (c : Nat), (∀ (j : Nat) (u : Value), ((duCells l).drop ((k + 1) * 2))[j]? = some u → w.drew.cell? (ad.add j) = some u) → True := fun _ _ _ => trivial
  have hcells : ∀ (j : Nat) (u : Value), (duCells l)[j]? = some u → w.drew.cell? ⟨g, j, none⟩ = some u := fun j u hu => by
    have hb : w.drew.heap[g]? = some (.cells cur 33 (0, 0)) := a2
    rw [cell_of_blk hb]
    rw [← a6, List.getElem?_take] at hu
    split at hu
    · simpa using hu
    · cases hu
  have z33 : ∀ w, (zeroValue 33).run Try.prog w = .ok (.agg #[.int .i64 0, .int .i64 0]) w := fun w => by kernel_rfl
  have hone : ∀ u ∈ (duCells l).drop ((k + 1) * 2), u.oneCell' = true := fun u hu => one_cells l u (List.mem_of_mem_drop hu)
  have hnl : ((duCells l).drop ((k + 1) * 2)).length = (l.length - (k + 1)) * 2 := by rw [List.length_drop, hcl]; omega
  have A2 := Lib.hid a2
  have A5 := Lib.hid a5
  have A6 := Lib.hid a6
  have A7 := Lib.hid a7
  have Hgw := Lib.hid hgw
  have Hcells := Lib.hid hcells
  have Hone := Lib.hid hone
  have Hnl := Lib.hid hnl
  have Hr := Lib.hid hr
  have Hcl := Lib.hid hcl
  have Z33 := Lib.hid z33
  have H1 := Lib.hid h1
  have hrk : k ≤ r := by omega
  clear a2 a5 a6 a7 hgw hcells hone hnl hcl z33 hsub h1
  by_cases hcap : cap = k + 1
  · subst hcap
    have hl1 : l.length = k + 1 := by omega
    have hnil : [] = (duCells l).drop ((k + 1) * 2) := (List.drop_eq_nil_of_le (by rw [Hcl.out]; omega)).symm
    have Hnil := Lib.hid hnil
    have Hl1 := Lib.hid hl1
    have hgd : w.drew.heap[g]? = some (.cells cur 33 (0, 0)) := A2.out
    have Hgd := Lib.hid hgd
    obtain rfl : r = k := by omega
    clear hl1 hnil hgd
    go_enter Try.func19, Try.ntmps19
    go_wp2_with fail
    go_region_law (fail)
    all_goals
      have hrl5 : 0 < l.length - r := by have := Hr.out; omega
      go_wp2_with (refine wpList_clear_at rfl (.tmp 31) 22 rfl 33 (.agg #[.int .i64 0, .int .i64 0]) Try.underlying22 Z33.out g (r * 2) (l.length - r) (l.length - r) hrl5 rfl _ Hgd.out ?c1 ?c2 ?_)
      case c1 =>
        have h1 := A5.out
        have h3 := Hr.out
        simp only [h1, Value.cells]
        simp
        omega
      case c2 => intro u hu; simp [Value.cells] at hu; rcases hu with rfl | rfl <;> rfl
      go_wp2_with fail
      go_ret
      have hr1 : l.length - r = 1 := by have := Hr.out; omega
      rw [hr1]
      refine ⟨.slice (some ⟨g, 0, none⟩) r l.length, rfl, ?_, rfl, ⟨rfl, rfl, rfl, by simp, fun x hx hne => ?_⟩⟩
      · refine del_own a1 (A5.out.trans (by rw [Hr.out])) (Nat.le_refl _) (by unfold maxLen; have := Hr.out; omega) A6.out A7.out hk Hr.out [] Hnil.out (Builtin.zeroCells #[.int .i64 0, .int .i64 0] 1).toList (fun u hu => ?_) (by rw [zeroCells_len]; rfl) _ ((setRow_heap _ _ _ _ _ _ Hgd.out).trans ?_)
        · obtain ⟨j, hj, rfl⟩ := List.mem_iff_getElem.1 hu
          have := zeroCells_get #[.int .i64 0, .int .i64 0] 1 j _ (by rw [← Array.getElem?_toList]; exact List.getElem?_eq_getElem hj)
          have := Array.mem_of_getElem? this
          simpa using this
        · simp only [List.append_nil, List.length_nil, Nat.add_zero, List.take_append_drop, List.append_assoc]
      · have hxg : x ≠ g := fun e => hne (by rw [e]; rfl)
        rw [setRow_other _ _ _ _ hxg]
        rfl
  · have hcb : (cap == k + 1) = false := by rw [beq_eq_false_iff_ne]; exact hcap
    go_enter Try.func19, Try.ntmps19
    go_wp2_with fail
    go_region_law (refine step_append_head rfl (.tmp 22) (.tmp 25) 22 rfl 33 (.agg #[.int .i64 0, .int .i64 0]) 2 16 Try.underlying22 info33 g k cap cur rfl (by exact A2.out) ⟨g, (k + 1) * 2, none⟩ (l.length - (k + 1)) (cap - (k + 1)) ((duCells l).drop ((k + 1) * 2)) rfl Hnl.out (fun j u hu => by rw [Addr.add_mid]; rw [List.getElem?_drop] at hu; exact Hcells.out _ u hu) Hone.out (by omega) (by rw [Hnl.out, A5.out]; omega) ?_)
    all_goals
      rw [show k + (l.length - (k + 1)) = r from by have := Hr.out; omega]
      have hr' : r + 1 = l.length := Hr.out
      have hrl : (r : Int) ≤ l.length := by omega
      have hrl2 : (l.length : Int) ≤ cap := by omega
      have hrl3 : r ≤ l.length := by omega
      have hrl4 : (0 : Int) ≤ r := by omega
      clear hr'
      have hrl5 : 0 < l.length - r := by have := Hr.out; omega
      go_wp2_with (refine wpList_clear_at rfl (.tmp 31) 22 rfl 33 (.agg #[.int .i64 0, .int .i64 0]) Try.underlying22 Z33.out g (r * 2) (l.length - r) (cap - r) hrl5 rfl _ (Hgw.out _) ?c1 ?c2 ?_)
      case c1 =>
        have h1 := A5.out
        have h2 := Hnl.out
        have h3 := Hr.out
        rw [List.length_drop] at h2
        simp only [List.size_toArray, List.length_append, List.length_take, List.length_drop, Array.length_toList, h1, Value.cells]
        simp
        omega
      case c2 => intro u hu; simp [Value.cells] at hu; rcases hu with rfl | rfl <;> rfl
      go_wp2_with fail
      go_ret
      have hr1 : l.length - r = 1 := by have := Hr.out; omega
      rw [hr1]
      refine ⟨.slice (some ⟨g, 0, none⟩) r cap, rfl, ?_, rfl, ⟨rfl, rfl, rfl, by simp, fun x hx hne => ?_⟩⟩
      · refine del_own a1 A5.out a3 (by unfold maxLen; exact a4) A6.out A7.out hk Hr.out _ rfl (Builtin.zeroCells #[.int .i64 0, .int .i64 0] 1).toList (fun u hu => ?_) (by rw [zeroCells_len]; rfl) _ ((setRow_heap _ _ _ _ _ _ (Hgw.out _)).trans ?_)
        · obtain ⟨j, hj, rfl⟩ := List.mem_iff_getElem.1 hu
          have := zeroCells_get #[.int .i64 0, .int .i64 0] 1 j _ (by rw [← Array.getElem?_toList]; exact List.getElem?_eq_getElem hj)
          have := Array.mem_of_getElem? this
          simpa using this
        · simp only [List.append_assoc, List.length_drop]
      · have hxg : x ≠ g := fun e => hne (by rw [e]; rfl)
        rw [setRow_other _ _ _ _ hxg, setRow_other _ _ _ _ hxg]
        rfl
end Go.Proofs.Ytefikkmhdjlccaa
