/- IndexFunc with a closure; find. -/
import Derived.Test.YtefikkmhdjlccaaW11
namespace Go.Proofs.Ytefikkmhdjlccaa
open Go.RowKit

/-- the first place whose thing meets p, or -1. -/
def idxF (p : Du → Bool) (l : List Du) : Int := match l.findIdx? p with | some i => (i : Int) | none => -1
theorem idxF_at {p : Du → Bool} {l : List Du} {k : Nat} (hk : k < l.length) (hp : p (l.getD k default) = true) (hn : ∀ j, j < k → p (l.getD j default) = false) : idxF p l = k := by
  have : l.findIdx? p = some k := by
    rw [List.findIdx?_eq_some_iff_getElem]
    refine ⟨hk, by simpa [List.getD, hk] using hp, fun j hj => ?_⟩
    have := hn j hj
    simp [List.getD, show j < l.length by omega] at this
    simp [this]
  unfold idxF; rw [this]
theorem idxF_none {p : Du → Bool} {l : List Du} (hn : ∀ j, j < l.length → p (l.getD j default) = false) : idxF p l = -1 := by
  have : l.findIdx? p = none := by
    rw [List.findIdx?_eq_none_iff]
    intro x hx
    obtain ⟨j, hj, rfl⟩ := List.mem_iff_getElem.1 hx
    have := hn j hj
    simpa [List.getD, hj] using this
  unfold idxF; rw [this]

/-- what a closure over one variable answers. -/
def Asks (K : FuncId) (gc : Nat) (w : World) (p : Du → Bool) : Prop :=
  ∀ (wx : World) (d : Du), wx.heap[gc]? = w.heap[gc]? → Calls Try.prog K #[.agg #[.int .i64 d.id, .int .i64 d.tm], .pointer (some ⟨gc, 0, none⟩)] wx fun e w' => e = .returned (.bool (p d)) ∧ Below wx.heap.size wx w'

set_option maxHeartbeats 1000000 in
theorem c17 (v : Value) (l : List Du) (K : FuncId) (gc : Nat) (p : Du → Bool) (w : World) (h : DuesAt w v l) (hl : l.length ≤ 8796093022208) (hgc : gc < w.heap.size) (hK : Asks K gc w p) (hent : ∀ args wx, (callFunc K args).run Try.prog wx = .ok (.enter K args) wx) :
    Calls Try.prog 17 #[v, .func (.func K) #[] #[.pointer (some ⟨gc, 0, none⟩)]] w fun e w' => e = .returned (.int .i64 (idxF p l)) ∧ Below w.heap.size w w' := by
  obtain ⟨a, cap, rfl, hc, _, h3⟩ := id h
  generalize hB : w.heap.size = B at *
  have H := Lib.hid h
  have HK := Lib.hid hK
  clear h h3 hK
  go_enter Try.func17, Try.ntmps17
  go_wp2_with fail
  go_loopw [8] (fun i wr => ∃ k : Nat, k ≤ l.length ∧ i = .int .i64 k ∧ Hid (∀ j, j < k → p (l.getD j default) = false) ∧ Below B w wr) (fun i _ => l.length - (intOf i).toNat)
  case atStart => exact ⟨0, by omega, rfl, fun j hj => by omega, Below.refl _ _⟩
  case round =>
    obtain ⟨k, hk, rfl, hn, hbel⟩ := hrel
    have hsz := hbel.size
    by_cases hlt : k < l.length
    · have hd := H.out.below hB.symm hbel
      obtain ⟨a', c', e0, hcap, _, hd⟩ := hd
      simp only [Value.slice.injEq, true_and] at e0
      obtain ⟨rfl, rfl⟩ := e0
      obtain ⟨b, o, rfl, hd2⟩ := hd (by intro e; rw [e] at hlt; simp at hlt)
      obtain ⟨q1, q2⟩ := hd2 k hlt
      clear hd hd2
      have hkl : (k : Int) < l.length := by omega
      have hat := idxF_at (p := p) hlt
      generalize hdd : l.getD k default = d at *
      have hcall := HK.out wr d (hbel.block gc hgc)
      have Hcall := Lib.hid hcall
      have Hat := Lib.hid hat
      have Hdd := Lib.hid hdd
      clear hcall hat hdd
      go_wp2_with fail
      refine Hcall.out.mono ?_
      rintro e w2 ⟨rfl, hb2⟩
      have Hb2 := Lib.hid (hbel.trans (hb2.mono (by omega)))
      clear hb2
      cases hp : p d with
      | true =>
        have Hp := Lib.hid hp
        clear hp
        go_wp2_with fail
        go_ret
        exact ⟨congrArg (fun z => Ending.returned (.int .i64 z)) (Hat.out Hp.out hn.out).symm, Hb2.out⟩
      | false =>
        have Hp := Lib.hid hp
        clear hp
        go_wp2_with fail
        go_roundw
        case rel => exact ⟨k + 1, by omega, by go_num, fun j hj => by
          by_cases e : j = k
          · subst e; rw [Hdd.out]; exact Hp.out
          · exact hn.out j (by omega), Hb2.out⟩
        case measure => simp [intOf]; omega
    · obtain rfl : k = l.length := by omega
      go_wp2_with fail
      go_ret
      exact ⟨congrArg (fun z => Ending.returned (.int .i64 z)) (idxF_none hn.out).symm, hbel⟩

theorem ent32 : ∀ args wx, (callFunc 32 args).run Try.prog wx = .ok (.enter 32 args) wx := fun args wx => by
  simp [callFunc, Try.func32, Try.f32, mark]
set_option maxHeartbeats 400000 in
theorem asks32 (gc : Nat) (id : Int) (w : World) (hg : w.heap[gc]? = some (.cells #[.int .i64 id] 3 (0, 0))) : Asks 32 gc w (fun d => d.id == id) := by
  intro wx d hwx
  have hlt : gc < wx.heap.size := (Array.getElem?_eq_some_iff.1 (hwx.trans hg)).1
  have k0 := cell_of_blk (o := 0) (hwx.trans hg)
  clear hg hwx
  go_enter Try.func32, Try.ntmps32
  go_wp2
  go_ret
  exact ⟨rfl, (Below.refl _ _).alloc (Nat.le_refl _) _⟩
end Go.Proofs.Ytefikkmhdjlccaa
