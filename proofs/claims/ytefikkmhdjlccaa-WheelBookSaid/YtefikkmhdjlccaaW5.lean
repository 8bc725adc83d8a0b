/- put. -/
import Derived.Test.YtefikkmhdjlccaaW4
import Derived.Deep.RegionLaw
import Derived.Deep.CutBlock
namespace Go.Proofs.Ytefikkmhdjlccaa
open Go.RowKit

theorem src_new (w : World) (cs : List Value) (t : TypeId) (n : Nat) (hn : n = w.heap.size) : ∀ a : Addr, some (⟨n, 0, none⟩ : Addr) = some a → ∀ (j : Nat) (u : Value), cs[j]? = some u → (w.alloc (.cells cs.toArray t)).cell? (a.add j) = some u := by
  intro a ha j u hu
  obtain rfl := Option.some.inj ha
  subst hn
  rw [Addr.add_mid, Nat.zero_add, World.cell?_alloc_new]
  simpa using hu

theorem OwnsT.shape {w : World} {base : Nat} {e : TypeId} {size : Nat} {T : Nat → Value → Prop} {v : Value} {n : Nat} {xs : List Value} (h : OwnsT w base e size T v n xs) : ∃ a cap, v = .slice a n cap := by
  obtain ⟨_, ⟨rfl, rfl⟩ | ⟨g, cap, cur, rfl, _⟩⟩ := h
  · exact ⟨none, 0, rfl⟩
  · exact ⟨_, cap, rfl⟩

/-- what put leaves: list i has one thing more. -/
def PutEnd (w : World) (B g : Nat) (now : Int) (V : Nat → Value) (i : Nat) (l : List Du) (w' : World) : Prop :=
  ∃ v', Blk w' g now (upd V i v') ∧ OwnD w' B v' l ∧ Fr (fun x => x = g ∨ (V i).ownBlock = some x) w w' ∧ (v'.ownBlock = none ∨ v'.ownBlock = (V i).ownBlock ∨ ∃ x, v'.ownBlock = some x ∧ w.heap.size ≤ x)

set_option maxHeartbeats 1000000 in
theorem c26 (g B : Nat) (now tm : Nat) (id : Int) (V : Nat → Value) (l : List Du) (w : World) (hb : Blk w g now V) (ho : OwnD w B (V (listN now tm)) l) (hB : B ≤ w.heap.size) (hn : now < 16777216) (ht : tm < 16777216) (hne : now ≠ tm) (hl : l.length ≤ 1000000) :
    Calls Try.prog 26 #[.pointer (some ⟨g, 0, none⟩), .agg #[.int .i64 id, .int .i64 tm]] w fun e w' => e = .returned (.tuple #[]) ∧ PutEnd w B g now V (listN now tm) (l ++ [⟨id, tm⟩]) w' := by
  have hgl := hb.lt
  have hi := listN_lt now tm
  have hc31 := fun wx => c31 now tm wx hn ht hne
  generalize hI : listN now tm = i at *
  obtain ⟨a, c, hv⟩ := ho.shape
  have k0 : w.cell? ⟨g, 0, none⟩ = some (.int .i64 now) := by rw [cell_of_blk hb, Cw_now]
  have k1 : w.cell? ⟨g, 1 + i, none⟩ = some (.slice a l.length c) := by rw [Nat.add_comm, cell_of_blk hb, Cw_get _ _ i hi, hv]
  have k2 : w.frozen? ⟨g, 1 + i, none⟩ = false := free_of_blk hb
  have hg0 : (i : Int) < 96 := by omega
  have Hb := Lib.hid hb
  have Ho := Lib.hid ho
  have Hv := Lib.hid hv
  have Hc := Lib.hid hc31
  have HI := Lib.hid hI
  have Hne := Lib.hid hne
  clear hb ho hv hc31 hI hne
  go_enter Try.func26, Try.ntmps26
  go_wp2_with fail
  go_quiet ((go_at_call 31; exact Calls.quiet_of_same ((Hc.out _).mono fun _ _ ⟨a, b⟩ => ⟨a, b.symm⟩)))
  go_wp2_with fail
  obtain ⟨w1, hW⟩ : ∃ w1, (w.alloc (.cells #[.int .i64 id, .int .i64 (tm : Int)] 33)).drewN nq = w1 := ⟨_, rfl⟩
  have hb1 : Blk w1 g now V := by rw [← hW]; exact (Below.heap_alloc w _ g hgl).trans Hb.out
  have ho1 : OwnD w1 B (V i) l := by
    rw [← hW]; exact Ho.out.of_same (fun k hk => Below.heap_alloc w _ k (Ho.out.lt k hk).2)
  have hd1 : w1.heap[w.heap.size]? = some (.cells #[.int .i64 id, .int .i64 (tm : Int)] 33 (0, 0)) := by rw [← hW]; exact heap_alloc_new w _
  have hf1 : Fr (fun x => x = g ∨ (V i).ownBlock = some x) w w1 := by rw [← hW]; exact ((Fr.refl _ w).alloc _).drewN nq
  have hs1 : w.heap.size + 1 ≤ w1.heap.size := by rw [← hW]; simp
  have hgl1 : g < w1.heap.size := by omega
  have hdl1 : w.heap.size < w1.heap.size := by omega
  have HW := Lib.hid hW
  rw [HW.out]
  clear k0 k1 k2 hW
  have k1 : w1.cell? ⟨g, 1 + i, none⟩ = some (.slice a l.length c) := by rw [Nat.add_comm, cell_of_blk hb1, Cw_get _ _ i hi, Hv.out]
  have k2 : w1.frozen? ⟨g, 1 + i, none⟩ = false := free_of_blk hb1
  have d0 : w1.cell? ⟨w.heap.size, 0, none⟩ = some (.int .i64 id) := by rw [cell_of_blk hd1]; rfl
  have d1 : w1.cell? ⟨w.heap.size, 1, none⟩ = some (.int .i64 (tm : Int)) := by rw [cell_of_blk hd1]; rfl
  have hgo : ∀ v6 w6, ((w1.alloc (.cells #[.int .i64 id, .int .i64 (tm : Int)] 33)).drew).grownBy w6 (Value.slice a l.length c).ownBlock → OwnsT w6 B 33 2 DuT v6 (l.length + 1) (duCells l ++ [.int .i64 id, .int .i64 (tm : Int)]) →
      (v6.ownBlock = (Value.slice a l.length c).ownBlock ∨ v6.ownBlock = some ((w1.alloc (.cells #[.int .i64 id, .int .i64 (tm : Int)] 33)).drew).heap.size) →
      w6.frozen? ⟨g, 1 + i, none⟩ = false ∧ w6.cell? ⟨g, 1 + i, none⟩ = some (.slice a l.length c) ∧ PutEnd w B g now V i (l ++ [⟨id, tm⟩]) (w6.setCell ⟨g, 1 + i, none⟩ v6) := by
    intro v6 w6 hg6 ho6 hv6
    rw [← Hv.out] at hg6 hv6
    have hb6 : Blk w6 g now V := by
      refine hb1.keep ((hg6.block g (by simp; omega) (fun e => ho1.ne hb1 (by decide) e.symm)).trans ?_)
      exact Below.heap_alloc w1 _ g hb1.lt
    have ho6' : OwnD w6 B v6 (l ++ [⟨id, tm⟩]) := by
      unfold OwnD
      rw [duCells_append, List.length_append]
      exact ho6
    refine ⟨free_of_blk hb6, by rw [Nat.add_comm, cell_of_blk hb6, Cw_get _ _ i hi, Hv.out], v6, ?_, ?_, ?_, ?_⟩
    · rw [Nat.add_comm]; exact hb6.set hi v6
    · exact ho6'.of_same (fun k hk => Below.heap_setCell _ _ _ _ (fun e => ho6'.ne hb6 (by decide) (by rw [hk, e])))
    · exact ((hf1.alloc _).drew.grown hg6 (fun k hk => .inl (.inr hk))).setCell (.inl (.inl rfl)) _
    · rcases hv6 with h | h
      · exact .inr (.inl h)
      · exact .inr (.inr ⟨_, h, by simp; omega⟩)
  have Hgo := Lib.hid hgo
  have ho1 := Hv.out ▸ ho1
  have Ho1 := Lib.hid ho1
  clear hgo ho1 hb1 hf1 hd1
  go_region_law (refine step_append_ownT _ rfl _ _ 22 rfl B 33 (.agg #[.int .i64 0, .int .i64 0]) 2 16 DuT Try.underlying22 info33 rfl (by decide) DuT_zero (.slice a l.length c) l.length (duCells l) (by simp [Act.eval]) (by exact (Ho1.out.alloc _).drew) (some ⟨w1.heap.size, 0, none⟩) 1 1 [.int .i64 id, .int .i64 (tm : Int)] (by simp [Act.eval]) rfl (by intro h; cases h) (by exact src_new w1 [_, _] 33 _ rfl) (one_cells [⟨id, tm⟩]) (DuT_cells [⟨id, tm⟩] _) (by unfold maxLen; omega) (by omega) (by simp; omega) ?_; intro v6 w6 hown6 hgrow6 _ hv6; obtain ⟨hf6, hc6, hx6⟩ := Hgo.out v6 w6 hgrow6 hown6 hv6; obtain ⟨av6, cv6, rfl⟩ := hown6.shape; have Hx6 := Lib.hid hx6; clear hgrow6 hown6 hv6 hx6)
  all_goals
    go_end0
    exact ⟨rfl, Hx6.out⟩
end Go.Proofs.Ytefikkmhdjlccaa
