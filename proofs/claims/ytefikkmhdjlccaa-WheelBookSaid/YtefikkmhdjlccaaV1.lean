/- The answer's small functions: Between, ListOf, ContainsFunc. -/
import Derived.Test.YtefikkmhdjlccaaR3
import Derived.Test.YtefikkmhdjlccaaW12
namespace Go.Proofs.Ytefikkmhdjlccaa
open Go.RowKit

set_option maxHeartbeats 400000 in
theorem c27 (x a b : Int) (w : World) (h0 : a ≤ x) (h1 : x ≤ b) :
    Calls Try.prog 27 #[.int .i64 x, .int .i64 a, .int .i64 b] w fun e w' => e = .returned (.bool true) ∧ w' = w := by
  go_enter Try.func27, Try.ntmps27
  go_wp2
  go_ret
  exact ⟨rfl, rfl⟩

/-- the digits' places. -/
def places (k P : Int) : Prop := (k = 5 ∧ P = 1048576) ∨ (k = 4 ∧ P = 65536) ∨ (k = 3 ∧ P = 4096) ∨ (k = 2 ∧ P = 256) ∨ (k = 1 ∧ P = 16) ∨ (k = 0 ∧ P = 1) ∨ (k = -1 ∧ P = 0)
theorem listN_place {N t : Nat} {k P : Int} (hkP : places k P) (hk : 0 ≤ k) (hup : (N : Int) / (16 * P) = (t : Int) / (16 * P)) (hd : (N : Int) / P % 16 ≠ (t : Int) / P % 16) : 16 * k + (t : Int) / P % 16 = (listN N t : Nat) := by
  obtain ⟨p0, p1, p2, p3, p4, p5, p6⟩ := pow16
  unfold listN
  rcases hkP with ⟨rfl, rfl⟩ | ⟨rfl, rfl⟩ | ⟨rfl, rfl⟩ | ⟨rfl, rfl⟩ | ⟨rfl, rfl⟩ | ⟨rfl, rfl⟩ | ⟨rfl, rfl⟩ <;>
  rcases topD_cases N t with ⟨e, a⟩ | ⟨e, a, a'⟩ | ⟨e, a, a'⟩ | ⟨e, a, a'⟩ | ⟨e, a, a'⟩ | ⟨e, a⟩ <;> rw [e] <;>
  simp only [p0, p1, p2, p3, p4, p5] <;> omega

set_option maxHeartbeats 2000000 in
theorem c33 (N t : Nat) (w : World) (hN : N < 16777216) (ht : t < 16777216) (hne : N ≠ t) :
    Calls Try.prog 33 #[.int .i64 N, .int .i64 t] w fun e w' => e = .returned (.int .i64 (listN N t)) ∧ ∃ n, w' = w.drewN n := by
  go_enter Try.func33, Try.ntmps33
  go_wp2_with fail
  go_loopw [5, 6] (fun p i wr => ∃ k P : Int, p = .int .i64 P ∧ i = .int .i64 k ∧ places k P ∧ (k < 0 → N = t) ∧ (N : Int) / (16 * P) = (t : Int) / (16 * P) ∧ ∃ n, wr = w.drewN n) (fun _ i _ => (intOf i + 1).toNat)
  case atStart => exact ⟨5, 1048576, rfl, rfl, .inl ⟨rfl, rfl⟩, by omega, by omega, 0, rfl⟩
  case round =>
    obtain ⟨k, P, rfl, rfl, hkP, hend, hup, n, rfl⟩ := hrel
    by_cases hk : 0 ≤ k
    · have hplace := listN_place hkP hk hup
      have hlt := listN_lt N t
      have hP : 1 ≤ P ∧ P ≤ 1048576 ∧ k ≤ 5 := by rcases hkP with h | h | h | h | h | h | h <;> omega
      obtain ⟨hP1, hP2, hk5⟩ := hP
      have hn1 := Int.ediv_nonneg (show (0 : Int) ≤ N by omega) (show (0 : Int) ≤ P by omega)
      have hn2 := Int.ediv_nonneg (show (0 : Int) ≤ t by omega) (show (0 : Int) ≤ P by omega)
      have hn3 := Int.ediv_le_self P (show (0 : Int) ≤ N by omega)
      have hn4 := Int.ediv_le_self P (show (0 : Int) ≤ t by omega)
      by_cases hd : (N : Int) / P % 16 = (t : Int) / P % 16
      · have Hpl := Lib.hid hplace
        have HkP := Lib.hid hkP
        have Hup := Lib.hid hup
        have Hend := Lib.hid hend
        have hd' : ((N : Int) / P % 16 != (t : Int) / P % 16) = false := by simpa using hd
        clear hplace hkP hup hend
        go_wp2_with fail
        go_quiet (fail)
        go_wp2_with fail
        go_roundw
        case rel =>
          have hk1 := HkP.out
          have hu := Hup.out
          refine ⟨k - 1, P / 16, rfl, rfl, ?_, ?_, ?_, _, rfl⟩
          · unfold places at hk1 ⊢; omega
          · rcases hk1 with ⟨rfl, rfl⟩ | ⟨rfl, rfl⟩ | ⟨rfl, rfl⟩ | ⟨rfl, rfl⟩ | ⟨rfl, rfl⟩ | ⟨rfl, rfl⟩ | ⟨rfl, rfl⟩ <;> omega
          · rcases hk1 with ⟨rfl, rfl⟩ | ⟨rfl, rfl⟩ | ⟨rfl, rfl⟩ | ⟨rfl, rfl⟩ | ⟨rfl, rfl⟩ | ⟨rfl, rfl⟩ | ⟨rfl, rfl⟩ <;> omega
        case measure => simp [intOf]; omega
      · have Hpl := Lib.hid (hplace hd)
        have hd' : ((N : Int) / P % 16 != (t : Int) / P % 16) = true := by simpa using hd
        clear hplace hkP hup hend
        go_wp2_with fail
        go_quiet (fail)
        go_wp2_with fail
        go_ret
        exact ⟨congrArg (fun z => Ending.returned (.int .i64 z)) Hpl.out, _, rfl⟩
    · exact absurd (hend (by omega)) hne

/-- no thing of the list is asked for. -/
theorem idxF_no {p : Du → Bool} {l : List Du} (h : ∀ d ∈ l, p d = false) : idxF p l = -1 := idxF_none fun _ hj => h _ (getD_mem hj)

set_option maxHeartbeats 400000 in
theorem c28 (v : Value) (l : List Du) (K : FuncId) (gc : Nat) (p : Du → Bool) (w : World) (h : DuesAt w v l) (hl : l.length ≤ 8796093022208) (hgc : gc < w.heap.size) (hK : Asks K gc w p) (hent : ∀ args wx, (callFunc K args).run Try.prog wx = .ok (.enter K args) wx) (hno : ∀ d ∈ l, p d = false) :
    Calls Try.prog 28 #[v, .func (.func K) #[] #[.pointer (some ⟨gc, 0, none⟩)]] w fun e w' => e = .returned (.bool false) ∧ Below w.heap.size w w' := by
  have hc := c17 v l K gc p w h hl hgc hK hent
  rw [idxF_no hno] at hc
  have Hc := Lib.hid hc
  clear hc h hK hent hno
  go_enter Try.func28, Try.ntmps28
  go_wp2_with fail
  refine Hc.out.mono ?_
  rintro e w2 ⟨rfl, hb2⟩
  go_wp2_with fail
  go_ret
  exact ⟨rfl, hb2⟩

theorem ent29 : ∀ args wx, (callFunc 29 args).run Try.prog wx = .ok (.enter 29 args) wx := fun args wx => by
  simp [callFunc, Try.func29, Try.f29, mark]
set_option maxHeartbeats 400000 in
theorem asks29 (gc : Nat) (id tm : Int) (w : World) (hg : w.heap[gc]? = some (.cells #[.int .i64 id, .int .i64 tm] 33 (0, 0))) : Asks 29 gc w (fun d => d.id == id) := by
  intro wx d hwx
  have hlt : gc < wx.heap.size := (Array.getElem?_eq_some_iff.1 (hwx.trans hg)).1
  have k0 := cell_of_blk (o := 0) (hwx.trans hg)
  clear hg hwx
  go_enter Try.func29, Try.ntmps29
  go_wp2
  go_ret
  exact ⟨rfl, (Below.refl _ _).alloc (Nat.le_refl _) _⟩

set_option maxHeartbeats 1000000 in
theorem c15 (now : Int) (V : Nat → Value) (f : Ls) (w : World) (h : WheelAt w V f) (hl : (allM f).length ≤ 500) :
    Calls Try.prog 15 #[.agg (Cw now V)] w fun e w' => ∃ v, e = .returned v ∧ OwnD w' w.heap.size v (allM f) ∧ Below w.heap.size w w' := by
  generalize hB : w.heap.size = B at *
  have hr : Hid ((w.alloc (.cells (Cw now V) 25)).rangeAt B 1 (Lw V)) := by rw [← hB]; exact (Blk.new w now V).range
  have hb1 : Below B w (w.alloc (.cells (Cw now V) 25)) := (Below.refl B w).alloc (by omega) _
  have Hb1 := Lib.hid hb1
  have H0 := Lib.hid h
  have Hl := Lib.hid hl
  clear h hb1
  go_enter Try.func15, Try.ntmps15
  go_wp2_with (refine wpList_load_mid rfl 23 (.tmp 6) rfl B 1 rfl (Lw V) _ hr.out Try.underlying23 rfl (by rw [Lw_length]; exact info23) ?_)
  clear hr
  go_loopw [3, 8] (fun x i wr => ∃ k : Nat, k ≤ 96 ∧ i = .int .i64 k ∧ OwnD wr B x (allTo f k) ∧ Below B w wr) (fun _ i _ => 96 - (intOf i).toNat)
  case atStart => exact ⟨0, by omega, rfl, OwnD.nil _ _, Hb1.out⟩
  case round =>
    obtain ⟨k, hk, rfl, ho, hbel⟩ := hrel
    have hsz := hbel.size
    by_cases hlt : k < 96
    · have hD := (H0.out k hlt).below hB.symm hbel
      obtain ⟨a, c, hv, hac, hnil, _⟩ := id hD
      have hidx := index23 V k hlt a _ c hv
      rw [hv] at hD
      have hsrc := Lib.hid hD.src
      have hn : Hid (a = none → (f k).length = 0 ∧ c = 0) := fun e => by have := hnil e; omega
      have b1 := allTo_mono f (show k + 1 ≤ 96 by omega)
      have b2 := Hl.out
      rw [allTo_succ, List.length_append] at b1
      have hlen : (allTo f k).length + (f k).length ≤ 500 := by unfold allM at b2; omega
      have hg0 : (k : Int) < 96 := by omega
      obtain ⟨ax, cx, rfl⟩ := ho.shape
      have Ho := Lib.hid ho
      have Hbel := Lib.hid hbel
      clear hD hv hac hnil b1 b2 ho hbel
      go_wp2_with (at_builtin; refine wpList_append_ownT _ rfl _ _ 22 rfl B 33 (.agg #[.int .i64 0, .int .i64 0]) 2 16 DuT Try.underlying22 info33 rfl (by decide) DuT_zero (.slice ax (allTo f k).length cx) (allTo f k).length (duCells (allTo f k)) rfl Ho.out a (f k).length c (duCells (f k)) rfl (duCells_length _) hn.out hsrc.out (one_cells _) (DuT_cells _ _) ?c1 ?c2 ?c3 ?_)
      case c1 => unfold maxLen; omega
      case c2 => omega
      case c3 => omega
      intro v8 w8 hown8 hgrow8 _ _
      have ho8 : OwnD w8 B v8 (allTo f (k + 1)) := by
        unfold OwnD
        rw [allTo_succ, duCells_append, List.length_append]
        exact hown8
      have Hb8 := Lib.hid (Hbel.out.grown hgrow8 (by omega) (fun k hk => by have := (Ho.out.lt k hk).1; omega))
      have O8 := Lib.hid ho8
      obtain ⟨a8, z8, rfl⟩ := ho8.shape
      clear ho8 hgrow8 hown8
      go_wp2_with fail
      go_roundw
      case rel => exact ⟨k + 1, by omega, by go_num, O8.out, Hb8.out⟩
      case measure => simp [intOf]; omega
    · obtain rfl : k = 96 := by omega
      obtain ⟨ax, cx, rfl⟩ := ho.shape
      have Ho := Lib.hid ho
      clear ho
      go_wp2_with fail
      go_ret
      exact ⟨_, rfl, Ho.out, hbel⟩
end Go.Proofs.Ytefikkmhdjlccaa
