/- slices.DeleteFunc of a slice that the call owns. -/
import Derived.Test.YtefikkmhdjlccaaE1
namespace Go.Proofs.Ytefikkmhdjlccaa
open Go.RowKit

theorem idxF_some {p : Du → Bool} {l : List Du} {k : Nat} (hk : k < l.length) (hp : p (l.getD k default) = true) (h : idxF p l = k) : ∀ d ∈ l.take k, p d = false := by
  unfold idxF at h
  split at h
  · rename_i i hi
    obtain rfl : i = k := by omega
    intro d hd
    obtain ⟨j, hj, rfl⟩ := List.mem_iff_getElem.1 hd
    rw [List.length_take] at hj
    rw [List.getElem_take]
    have := (List.findIdx?_eq_some_iff_getElem.1 hi).2.2 j (by omega)
    simpa using this
  · omega

/-- what DeleteFunc's loop carries along. -/
structure DelSt (w1 : World) (B g cap : Nat) (l : List Du) (q : Du → Bool) (i j : Nat) (L : List Du) (wr : World) : Prop where
  len : L.length = l.length
  front : L.take i = (l.take j).filter q
  back : ∀ m, j ≤ m → m < l.length → L.getD m default = l.getD m default
  own : OwnD wr B (.slice (some ⟨g, 0, none⟩) l.length cap) L
  fr : Fr (fun x => some g = some x) w1 wr
theorem filter_take_succ {l : List Du} {q : Du → Bool} {j : Nat} (hj : j < l.length) : (l.take (j + 1)).filter q = (l.take j).filter q ++ if q (l.getD j default) then [l.getD j default] else [] := by
  rw [List.take_add_one, List.filter_append]
  congr 1
  simp only [List.getD, hj, List.getElem?_eq_getElem, Option.toList_some, Option.getD_some]
  by_cases h : q l[j] = true <;> simp [h]
theorem DelSt.skip {w1 wr : World} {B g cap : Nat} {l L : List Du} {q : Du → Bool} {i j : Nat} (h : DelSt w1 B g cap l q i j L wr) (hj : j < l.length) (hq : q (l.getD j default) = false) {w' : World} (hb : Below wr.heap.size wr w') : DelSt w1 B g cap l q i (j + 1) L w' :=
  ⟨h.len, by rw [h.front, filter_take_succ hj, hq]; simp, fun m hm => h.back m (by omega), OwnsT.below h.own hb (Nat.le_refl _), h.fr.trans (Fr.of_below hb fun x h1 h2 => absurd h2 (by omega)) (fun x hx => .inl hx)⟩
theorem DelSt.keep {w1 wr : World} {B g cap : Nat} {l L : List Du} {q : Du → Bool} {i j : Nat} (h : DelSt w1 B g cap l q i j L wr) (hij : i < j) (hj : j < l.length) (hq : q (l.getD j default) = true) {w' : World} (hb : Below wr.heap.size wr w') :
    DelSt w1 B g cap l q (i + 1) (j + 1) (L.set i (l.getD j default)) ((w'.setCell ⟨g, i * 2, none⟩ (.int .i64 (l.getD j default).id)).setCell ⟨g, i * 2 + 1, none⟩ (.int .i64 (l.getD j default).tm)) := by
  have hlen := h.len
  refine ⟨by rw [List.length_set]; exact h.len, ?_, fun m hm hml => ?_, ?_, ?_⟩
  · rw [filter_take_succ hj, hq, ← h.front, List.take_add_one]
    simp only [List.take_set, show i < L.length by omega, List.getElem?_set_self, Option.toList_some, if_true]
    rw [List.set_eq_of_length_le (by rw [List.length_take]; omega)]
  · have := h.back m (by omega) hml
    simp only [List.getD] at this ⊢
    rw [List.getElem?_set_ne (by omega)]
    exact this
  · exact OwnD.set (n := l.length) (OwnsT.below h.own hb (Nat.le_refl _) : OwnD w' B _ L) i _
  · exact (((h.fr.trans (Fr.of_below hb fun x h1 h2 => absurd h2 (by omega)) (fun x hx => .inl hx))).setCell (.inl rfl) _).setCell (.inl rfl) _

set_option maxHeartbeats 2000000 in
theorem c20 (v : Value) (l : List Du) (K : FuncId) (gc : Nat) (p : Du → Bool) (w : World) (B : Nat) (h : OwnD w B v l) (hl : l.length ≤ 8796093022208) (hgc : gc < w.heap.size) (hne : v.ownBlock ≠ some gc) (hK : Asks K gc w p) (hent : ∀ args wx, (callFunc K args).run Try.prog wx = .ok (.enter K args) wx) :
    Calls Try.prog 20 #[v, .func (.func K) #[] #[.pointer (some ⟨gc, 0, none⟩)]] w fun e w' => ∃ v', e = .returned v' ∧ OwnD w' B v' (l.filter (fun d => !(p d))) ∧ v'.ownBlock = v.ownBlock ∧ Fr (fun x => v.ownBlock = some x) w w' := by
  obtain ⟨a, cap, rfl⟩ := h.shape
  have hc17 := c17 (.slice a l.length cap) l K gc p w h.at hl hgc hK hent
  have Hc17 := Lib.hid hc17
  have H := Lib.hid h
  have HK := Lib.hid hK
  have Hne := Lib.hid hne
  clear hc17 h hK hne
  go_enter Try.func20, Try.ntmps20
  go_wp2_with fail
  refine Hc17.out.mono ?_
  rintro e w1 ⟨rfl, hb1⟩
  have hs1 := hb1.size
  rcases idxF_cases p l with ⟨k, hk, hp, hidx⟩ | ⟨hno, hidx⟩
  · rw [hidx]
    have hpre := idxF_some hk hp hidx
    have H1 := Lib.hid (H.out.below hb1 (Nat.le_refl _))
    have H1 : Hid (OwnD w1 B (.slice a l.length cap) l) := H1
    have Hb1 := Lib.hid hb1
    have hk0 : ((k : Int) == -1) = false := by rw [beq_eq_false_iff_ne]; omega
    obtain ⟨g, rfl⟩ : ∃ g, a = some ⟨g, 0, none⟩ := by
      obtain ⟨_, ⟨e, h0⟩ | ⟨g, c, cur, e, _⟩⟩ := H.out
      · omega
      · simp only [Value.slice.injEq] at e
        exact ⟨g, e.1⟩
    have hfilt : (l.take (k + 1)).filter (fun d => !(p d)) = l.take k := by
      rw [List.take_add_one, List.filter_append]
      have e1 : (l.take k).filter (fun d => !(p d)) = l.take k := List.filter_eq_self.2 fun d hd => by simp [hpre d hd]
      have e2 : p l[k] = true := by simpa [List.getD, hk] using hp
      simp [e1, hk, e2]
    have Hfilt := Lib.hid hfilt
    have hcap : l.length ≤ cap := by
      obtain ⟨_, ⟨e, _⟩ | ⟨g', cap', cur, e, _, _, a3, _⟩⟩ := H.out
      · cases e
      · simp only [Value.slice.injEq, true_and] at e
        rw [e.2]; exact a3
    clear hb1 hpre hfilt hidx hp Hc17
    go_wp2_with fail
    go_loopw [5, 6] (fun x y wr => ∃ i j : Nat, x = .int .i64 i ∧ y = .int .i64 j ∧ i < j ∧ j ≤ l.length ∧ ∃ L, DelSt w1 B g cap l (fun d => !(p d)) i j L wr) (fun _ y _ => l.length - (intOf y).toNat)
    case atStart => exact ⟨k, k + 1, rfl, rfl, by omega, by omega, l, rfl, Hfilt.out.symm, fun _ _ _ => rfl, H1.out, Fr.refl _ _⟩
    case round =>
      obtain ⟨i, j, rfl, rfl, hij, hj, L, hst⟩ := hrel
      have hsz := hst.fr.size
      by_cases hlt : j < l.length
      · have hLj : j < L.length := by rw [hst.len]; exact hlt
        have hLi : i < L.length := by rw [hst.len]; omega
        obtain ⟨q1, q2, _, _⟩ := hst.own.cells2 hLj
        rw [hst.back j (Nat.le_refl _) hlt] at q1 q2
        obtain ⟨r1, r2, r3, r4⟩ := hst.own.cells2 hLi
        have hglt : g < wr.heap.size := World.block_lt_of_cell? wr _ q1
        generalize hdd : l.getD j default = d at *
        have hkd := fun hq w' hb => hst.keep hij hlt (w' := w') hq hb
        have hsd := fun hq w' hb => hst.skip hlt (w' := w') hq hb
        rw [hdd] at hkd hsd
        have hgck : wr.heap[gc]? = w1.heap[gc]? := hst.fr.block gc (by omega) (fun e => Hne.out (by rw [show (Value.slice (some (⟨g, 0, none⟩ : Addr)) l.length cap).ownBlock = some g from rfl, e]))
        have hcall := HK.out (wr.alloc (.cells #[.int .i64 d.id, .int .i64 d.tm] 33)) d ((Below.heap_alloc wr _ gc (by omega)).trans (hgck.trans (Hb1.out.block gc hgc)))
        have hg0 : (j : Int) < l.length := by omega
        have hi0 : (i : Int) < l.length := by omega
        have Hcall := Lib.hid hcall
        have Hkd := Lib.hid hkd
        have Hsd := Lib.hid hsd
        have Ri := Lib.hid (And.intro r1 (And.intro r2 (And.intro r3 r4)))
        clear hst hcall hkd hsd hdd r1 r2 r3 r4 hgck
        go_wp2_with fail
        refine Hcall.out.mono ?_
        rintro e w2 ⟨rfl, hb2⟩
        have hb2' : Below wr.heap.size wr w2 := (Below.of_alloc wr _).trans (hb2.mono (by simp))
        have hd2 : w2.heap[wr.heap.size]? = some (.cells #[.int .i64 d.id, .int .i64 d.tm] 33 (0, 0)) := (hb2.block _ (by simp)).trans (heap_alloc_new wr _)
        have Hb2 := Lib.hid hb2'
        have hs2 := hb2'.size
        clear hb2
        cases hp : p d with
        | true =>
          have hq : (fun d => !(p d)) d = false := by simp [hp]
          have Hq := Lib.hid hq
          clear hp hq hd2 hb2'
          go_wp2_with fail
          go_roundw
          case rel => exact ⟨i, j + 1, rfl, by go_num, by omega, by omega, L, Hsd.out Hq.out _ Hb2.out⟩
          case measure => simp [intOf]; omega
        | false =>
          have hq : (fun d => !(p d)) d = true := by simp [hp]
          have Hq := Lib.hid hq
          have d0 := cell_of_blk (o := 0) hd2
          have d1 := cell_of_blk (o := 1) hd2
          obtain ⟨r1, r2, r3, r4⟩ := Ri.out
          have s1 : w2.cell? ⟨g, i * 2, none⟩ = some (.int .i64 (L.getD i default).id) := by rw [hb2'.cell (by exact hglt)]; exact r1
          have s2 : w2.cell? ⟨g, i * 2 + 1, none⟩ = some (.int .i64 (L.getD i default).tm) := by rw [hb2'.cell (by exact hglt)]; exact r2
          have s3 : w2.frozen? ⟨g, i * 2, none⟩ = false := by rw [hb2'.frozen (by exact hglt)]; exact r3
          have s4 : w2.frozen? ⟨g, i * 2 + 1, none⟩ = false := by rw [hb2'.frozen (by exact hglt)]; exact r4
          clear hp hq hd2 hb2' r1 r2 r3 r4 q1 q2
          go_wp2_with fail
          go_roundw
          case rel => exact ⟨i + 1, j + 1, by go_num, by go_num, by omega, by omega, _, Hkd.out Hq.out _ Hb2.out⟩
          case measure => simp [intOf]; omega
      · obtain rfl : j = l.length := by omega
        have hown := hst.own
        have hL := hst.front
        rw [List.take_length] at hL
        have hfr := hst.fr
        have hlen := hst.len
        obtain ⟨_, ⟨e, _⟩ | ⟨g', cap', cur, e, _, hcur, _, _, hcs, _, _⟩⟩ := id hst.own
        · cases e
        simp only [Value.slice.injEq, Option.some.injEq, Addr.mk.injEq, and_true] at e
        obtain ⟨rfl, hll, rfl⟩ := e
        clear hll
        have z33 : ∀ w, (zeroValue 33).run Try.prog w = .ok (.agg #[.int .i64 0, .int .i64 0]) w := fun w => by kernel_rfl
        have Z33 := Lib.hid z33
        have Hcur := Lib.hid hcur
        have Hown := Lib.hid hown
        have HL := Lib.hid hL
        have Hfr := Lib.hid hfr
        have Hcs := Lib.hid hcs
        have Hlen := Lib.hid hlen
        have hpos : 0 < l.length - i := by omega
        have i1 : (i : Int) ≤ l.length := by omega
        have i2 : (l.length : Int) ≤ cap := by omega
        have i3 : i ≤ l.length := by omega
        have i4 : (0 : Int) ≤ i := by omega
        clear z33 hcur hown hL hfr hcs hst hlen
        go_wp2_with (refine wpList_clear_at rfl (.tmp 38) 22 rfl 33 (.agg #[.int .i64 0, .int .i64 0]) Try.underlying22 Z33.out g (i * 2) (l.length - i) (cap - i) hpos rfl _ Hcur.out ?c1 ?c2 ?_)
        case c1 =>
          have := Hcs.out
          simp [Value.cells]
          omega
        case c2 => intro u hu; simp [Value.cells] at hu; rcases hu with rfl | rfl <;> rfl
        go_wp2_with fail
        go_ret
        refine ⟨.slice (some ⟨g, 0, none⟩) i cap, rfl, ?_, rfl, ?_⟩
        · rw [← HL.out]
          refine OwnD.cut (w := wr) (l := L) (n := l.length) Hown.out (by rw [Hlen.out]; exact i3) cur Hcur.out (Builtin.zeroCells #[.int .i64 0, .int .i64 0] (l.length - i)).toList (fun u hu => ?_) (by rw [zeroCells_len, Hlen.out]; rfl) ((setRow_heap _ _ _ _ _ _ Hcur.out).trans ?_)
          · obtain ⟨j, hj, rfl⟩ := List.mem_iff_getElem.1 hu
            have := zeroCells_get #[.int .i64 0, .int .i64 0] (l.length - i) j _ (by rw [← Array.getElem?_toList]; exact List.getElem?_eq_getElem hj)
            have := Array.mem_of_getElem? this
            simpa using this
          · rw [zeroCells_len, List.append_assoc]
            rfl
        · refine (Fr.of_below (S := fun x => (Value.slice (some (⟨g, 0, none⟩ : Addr)) l.length cap).ownBlock = some x) Hb1.out (fun x h1 h2 => absurd h2 (by omega))).trans (T := fun x => some g = some x) (c := wr.setRow g _) ?_ (fun x hx => .inl hx)
          have h2 := Hfr.out
          exact ⟨h2.os, h2.tape, h2.output, by simpa using h2.size, fun x hx hn => (setRow_other _ _ _ _ (fun e => hn (by rw [e]))).trans (h2.block x hx hn)⟩
  · rw [hidx]
    have hf : l.filter (fun d => !(p d)) = l := List.filter_eq_self.2 fun d hd => by simp [hno d hd]
    have Hf := Lib.hid hf
    have Hb1 := Lib.hid hb1
    have H1 := Lib.hid (H.out.below hb1 (Nat.le_refl _))
    clear hno hidx hf hb1 Hc17
    go_wp2_with fail
    go_ret
    exact ⟨_, rfl, by rw [Hf.out]; exact H1.out, rfl, Fr.of_below Hb1.out (fun x h1 h2 => absurd h2 (by omega))⟩
end Go.Proofs.Ytefikkmhdjlccaa
