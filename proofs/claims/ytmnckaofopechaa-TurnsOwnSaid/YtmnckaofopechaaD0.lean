/- SameTurns of queues that read the same answers true; Put hands back queues of the call's own, whatever is put. -/
import Derived.Test.YtmnckaofopechaaC0
namespace Go.Proofs.Ytmnckaofopechaa
open Go.RowKit

set_option maxRecDepth 100000 in
set_option maxHeartbeats 1000000 in
theorem c22 (sh sv : Int) (u u2 : Value) (sz : List Int) (w : World) (h : IntsAt w u sz) (h2 : IntsAt w u2 sz) (hl : sz.length ≤ 17592186043904) :
    Calls Try.prog 22 #[.agg #[.int .i64 sh, .int .i64 sv, u], .agg #[.int .i64 sh, .int .i64 sv, u2]] w fun e w' => e = .returned (.bool true) ∧ Below w.heap.size w w' := by
  have H1 := Lib.hid ((h.alloc (.cells #[.int .i64 sh, .int .i64 sv, u] 35)).alloc (.cells #[.int .i64 sh, .int .i64 sv, u2] 35))
  have H2 := Lib.hid ((h2.alloc (.cells #[.int .i64 sh, .int .i64 sv, u] 35)).alloc (.cells #[.int .i64 sh, .int .i64 sv, u2] 35))
  obtain ⟨a, c, rfl⟩ : ∃ a c, u = .slice a sz.length c := by obtain ⟨a, cap, rfl, _⟩ := h; exact ⟨_, _, rfl⟩
  obtain ⟨a2, c2, rfl⟩ : ∃ a c, u2 = .slice a sz.length c := by obtain ⟨a, cap, rfl, _⟩ := h2; exact ⟨_, _, rfl⟩
  clear h h2
  have e1 : (sh == sh) = true := by simp
  have e2 : (sv == sv) = true := by simp
  go_enter Try.func22, Try.ntmps22
  go_wp2_with (go_at_call 9; refine (c9 _ _ sz _ H1.out H2.out hl).mono ?_; rintro e w2 ⟨rfl, hb⟩)
  go_ret
  refine ⟨rfl, ?_⟩
  have := hb.size
  simp only [World.size_alloc] at hb
  exact (((Below.refl w.heap.size w).alloc (Nat.le_refl _) _).alloc (by simp) _).trans (hb.mono (by omega))

set_option maxRecDepth 100000 in
set_option maxHeartbeats 1000000 in
theorem c21 (v v2 : Value) (qs : List Qu) (w : World) (h : TurnsAt w v qs) (h2 : TurnsAt w v2 qs) (hl : qs.length ≤ 3518437208781) (hl2 : ∀ i, i < qs.length → (qs.getD i default).sizes.length ≤ 17592186043904) :
    Calls Try.prog 21 #[v, v2, .func (.func 22) #[] #[]] w fun e w' => e = .returned (.bool true) ∧ Below w.heap.size w w' := by
  generalize hB : w.heap.size = B at *
  obtain ⟨a, cap, rfl, hc, _, h⟩ := h
  obtain ⟨a2, cap2, rfl, hc2, _, h2⟩ := h2
  go_enter Try.func21, Try.ntmps21
  go_wp2_with fail
  go_loopw [17] (fun i wr => ∃ k : Nat, k ≤ qs.length ∧ i = .int .i64 k ∧ Below B w wr) (fun i _ => qs.length - (intOf i).toNat)
  case atStart => exact ⟨0, Nat.zero_le _, rfl, Below.refl _ _⟩
  case round =>
    obtain ⟨k, hk, rfl, hbel⟩ := hrel
    by_cases hlt : k < qs.length
    · have hne : qs ≠ [] := by intro e; subst e; simp at hlt
      obtain ⟨b, o, rfl, hA⟩ := h hne
      obtain ⟨b2, o2, rfl, hA2⟩ := h2 hne
      obtain ⟨p1, p2, u, p3, hI⟩ := hA k hlt
      obtain ⟨r1, r2, u2, r3, hI2⟩ := hA2 k hlt
      have hsl := hl2 k hlt
      clear hA hA2 h h2 hne hl2
      have hbb : b < B := by rw [← hB]; exact World.block_lt_of_cell? w _ p1
      have hbb2 : b2 < B := by rw [← hB]; exact World.block_lt_of_cell? w _ r1
      rw [← hbel.cell (by exact hbb)] at p1 p2 p3
      rw [← hbel.cell (by exact hbb2)] at r1 r2 r3
      have hI := hI.below hB.symm hbel
      have hI2 := hI2.below hB.symm hbel
      generalize qs.getD k default = q at *
      obtain ⟨sh, sv, sz⟩ := q
      simp only at p1 p2 r1 r2 hI hI2 hsl
      have hsz := hbel.size
      obtain ⟨a, c, rfl⟩ : ∃ a c, u = .slice a sz.length c := by obtain ⟨a, cap, rfl, _⟩ := hI; exact ⟨_, _, rfl⟩
      obtain ⟨a2, c2, rfl⟩ : ∃ a c, u2 = .slice a sz.length c := by obtain ⟨a, cap, rfl, _⟩ := hI2; exact ⟨_, _, rfl⟩
      have H1 := Lib.hid ((hI.alloc (.cells #[.int .i64 sh, .int .i64 sv, .slice a sz.length c] 35)).alloc (.cells #[.int .i64 sh, .int .i64 sv, .slice a2 sz.length c2] 35))
      have H2 := Lib.hid ((hI2.alloc (.cells #[.int .i64 sh, .int .i64 sv, .slice a sz.length c] 35)).alloc (.cells #[.int .i64 sh, .int .i64 sv, .slice a2 sz.length c2] 35))
      clear hI hI2
      have hlb := World.block_lt_of_cell? _ _ p1
      have hlb2 := World.block_lt_of_cell? _ _ r1
      simp only at hlb hlb2
      go_wp2_with (go_at_call 22; refine (c22 _ _ _ _ sz _ H1.out H2.out hsl).mono ?_; rintro e w2 ⟨rfl, hb⟩)
      simp only [World.size_alloc] at hb
      have hb3 : Below B w w2 := ((hbel.alloc (by omega) _).alloc (by simp; omega) _).trans (hb.mono (by omega))
      go_roundw
      case rel => exact ⟨k + 1, by omega, by go_num, hb3⟩
      case measure => simp [intOf]; omega
    · go_wp2_with fail
      go_ret
      exact ⟨rfl, hbel⟩

set_option maxHeartbeats 1000000 in
theorem c12 (v v2 : Value) (qs : List Qu) (w : World) (h : TurnsAt w v qs) (h2 : TurnsAt w v2 qs) (hl : qs.length ≤ 3518437208781) (hl2 : ∀ i, i < qs.length → (qs.getD i default).sizes.length ≤ 17592186043904) :
    Calls Try.prog 12 #[v, v2] w fun e w' => e = .returned (.bool true) ∧ Below w.heap.size w w' := by
  have H := Lib.hid (c21 v v2 qs w h h2 hl hl2)
  obtain ⟨a, cap, rfl, _⟩ := h
  obtain ⟨a2, cap2, rfl, _⟩ := h2
  clear hl hl2
  go_enter Try.func12, Try.ntmps12
  go_wp2_with (go_at_call 21; refine H.out.mono ?_; rintro e w2 ⟨rfl, hb⟩)
  go_ret
  exact ⟨rfl, hb⟩

theorem TF.nil (w : World) (B : Nat) : TF w B (.slice none 0 0) [] := ⟨none, 0, rfl, Nat.le_refl _, fun _ => rfl, fun h => by simp at h⟩

/-- what Put holds behind own: the row, and the sizes of the queue that is written. -/
structure PutSt (w2 : World) (B g n cap qi : Nat) (ps : List (Qu × Value)) (sh sv : Int) (sz : List Int) (a4 : Option Addr) (c4 : Nat) : Prop where
  lt : g < w2.heap.size
  row : QRow w2 B g n cap (fun i => ps.getD i default)
  len : ps.length = n
  pq : ps.getD qi default = (⟨sh, sv, sz⟩, .slice a4 sz.length c4)
  own : OwnsI w2 B (.slice a4 sz.length c4) sz
  qs : OwnQs w2 B ps
  ne : (Value.slice a4 sz.length c4).ownBlock ≠ some g

theorem put_open {w2 : World} {B qi sl : Nat} {v2 : Value} {ps : List (Qu × Value)} {qs : List Qu} (hps : ps.map Prod.fst = qs) (hown : OwnsT w2 B 35 3 AnyV v2 qs.length (qcells ps)) (hqs : OwnQs w2 B ps) (hqn : qi < qs.length) (hsl : (qs.getD qi default).sizes.length = sl) :
    ∃ g cap sh sv sz a4 c4, v2 = .slice (some ⟨g, 0, none⟩) qs.length cap ∧ w2.cell? ⟨g, qi * 3 + 2, none⟩ = some (.slice a4 sz.length c4) ∧ w2.frozen? ⟨g, qi * 3 + 2, none⟩ = false ∧ sl = sz.length ∧ PutSt w2 B g qs.length cap qi ps sh sv sz a4 c4 := by
  have hlen : ps.length = qs.length := by rw [← hps]; simp
  obtain ⟨g, cap, rfl, hrow⟩ := QRow.of_own (by rw [hlen]; exact hown) (by omega)
  rw [hlen] at hrow ⊢
  obtain ⟨_, _, t3, tf⟩ := hrow.cells hqn
  have hO := hqs.each qi (by omega)
  have e : (ps.getD qi default).1 = qs.getD qi default := by
    rw [← hps]; simp [List.getD, show qi < ps.length by omega]
  rw [← e] at hsl
  obtain ⟨pq, hpq⟩ : ∃ pq, ps.getD qi default = pq := ⟨_, rfl⟩
  rw [hpq] at t3 hO hsl
  obtain ⟨⟨sh, sv, sz⟩, u⟩ := pq
  simp only at t3 hO hsl
  obtain ⟨a4, c4, rfl⟩ := hO.shape
  have hb : ∃ cur, w2.heap[g]? = some (.cells cur 35 (0, 0)) := by obtain ⟨_, _, cur, hb, _⟩ := hrow; exact ⟨cur, hb⟩
  obtain ⟨cur, hb⟩ := hb
  exact ⟨g, cap, sh, sv, sz, a4, c4, rfl, t3, tf _, hsl.symm, lt_of_block hb, hrow, hlen, hpq, hO, hqs, hO.ne_cur hb (by decide)⟩

theorem free_of {w2 w5 : World} {B g n cap qi : Nat} {f : Nat → Qu × Value} (h : QRow w2 B g n cap f) (hk : w5.heap[g]? = w2.heap[g]?) (hqn : qi < n) : w5.frozen? ⟨g, qi * 3 + 2, none⟩ = false ∧ w5.cell? ⟨g, qi * 3 + 2, none⟩ = some (f qi).2 :=
  ⟨((h.of_same hk).cells hqn).2.2.2 _, ((h.of_same hk).cells hqn).2.2.1⟩

theorem OwnsT.shape {w : World} {base : Nat} {e : TypeId} {size : Nat} {T : Nat → Value → Prop} {v : Value} {n : Nat} {xs : List Value} (h : OwnsT w base e size T v n xs) : ∃ a cap, v = .slice a n cap := by
  obtain ⟨_, ⟨rfl, h0⟩ | ⟨g, cap, cur, rfl, _⟩⟩ := h
  · exact ⟨none, 0, by rw [h0]⟩
  · exact ⟨_, _, rfl⟩

theorem put_close {w2 w5 : World} {B g n cap qi : Nat} {ps : List (Qu × Value)} {sh sv : Int} {sz : List Int} {a4 : Option Addr} {c4 : Nat} {a5 : Option Addr} {c5 : Nat} {x : Int} (h : PutSt w2 B g n cap qi ps sh sv sz a4 c4) (hqn : qi < n)
    (hkeep : ∀ k, k < w2.heap.size → some k ≠ (Value.slice a4 sz.length c4).ownBlock → w5.heap[k]? = w2.heap[k]?) (hO5 : OwnsI w5 B (.slice a5 (sz.length + 1) c5) (sz ++ [x])) :
    ∃ qs', TF (w5.setCell ⟨g, qi * 3 + 2, none⟩ (.slice a5 (sz.length + 1) c5)) B (.slice (some ⟨g, 0, none⟩) n cap) qs' ∧ qs'.length = n := by
  have hrow5 := h.row.of_same (hkeep g h.lt (fun e => h.ne e.symm))
  have hrow6 := hrow5.set_sizes qi ⟨sh, sv, sz ++ [x]⟩ (.slice a5 (sz.length + 1) c5) (by rw [h.pq]; simp)
  have hblk5 : ∃ cur, w5.heap[g]? = some (.cells cur 35 (0, 0)) := by obtain ⟨_, _, cur, hb, _⟩ := hrow5; exact ⟨cur, hb⟩
  obtain ⟨cur5, hblk5⟩ := hblk5
  have eg : ∀ i, i < n → ((List.range n).map fun i => if i = qi then (⟨sh, sv, sz ++ [x]⟩ : Qu) else (ps.getD i default).1).getD i default = if i = qi then (⟨sh, sv, sz ++ [x]⟩ : Qu) else (ps.getD i default).1 := fun i hi => by simp [List.getD, hi]
  obtain ⟨qs', hq', hlen⟩ : ∃ qs', qs' = ((List.range n).map fun i => if i = qi then (⟨sh, sv, sz ++ [x]⟩ : Qu) else (ps.getD i default).1) ∧ qs'.length = n := ⟨_, rfl, by simp⟩
  rw [← hq'] at eg
  clear hq'
  refine ⟨qs', ⟨some ⟨g, 0, none⟩, cap, by rw [hlen], by rw [hlen]; exact h.row.2.1, (fun h => by cases h), fun _ => ⟨g, fun j => if j = qi then (⟨sh, sv, sz ++ [x]⟩, .slice a5 (sz.length + 1) c5) else ps.getD j default, rfl, by rw [hlen]; exact hrow6, fun i hi => ?_⟩⟩, hlen⟩
  rw [hlen] at hi
  rw [eg i hi]
  by_cases e : i = qi
  · subst e
    simp only [if_true]
    exact ⟨trivial, (hO5.fresh).setCell hblk5 (by decide) _⟩
  · simp only [if_neg e]
    refine ⟨trivial, ?_⟩
    have hi2 : i < ps.length := by rw [h.len]; exact hi
    have hOi := h.qs.each i hi2
    refine FreshI.setCell (OwnsI.fresh (OwnsT.of_same hOi fun k hk => hkeep k (hOi.lt k hk).2 fun e' => ?_)) hblk5 (by decide) _
    have hq2 : qi < ps.length := by rw [h.len]; exact hqn
    have hqk : (ps.getD qi default).2.ownBlock = some k := by rw [h.pq]; exact e'.symm
    rcases Nat.lt_or_gt_of_ne e with hl | hl
    · exact h.qs.apart i qi k hl hq2 hk hqk
    · exact h.qs.apart qi i k hl hi2 hqk hk

/-- what Put hands back. -/
def PutDone (w w' : World) (B : Nat) (e : Ending) : Prop := Below B w w' ∧ ∃ v r qs', e = .returned (.tuple #[v, .int .i64 r]) ∧ TF w' B v qs' ∧ qs'.length ≤ 16

set_option maxRecDepth 100000 in
set_option maxHeartbeats 1000000 in
theorem c11 (v : Value) (qs : List Qu) (queue n : Int) (w : World) (h : TurnsAt w v qs) (hl : qs.length ≤ 3518437208781) (hl2 : ∀ i, i < qs.length → (qs.getD i default).sizes.length ≤ 17592186043904) :
    Calls Try.prog 11 #[v, .int .i64 queue, .int .i64 n] w fun e w' => PutDone w w' w.heap.size e := by
  generalize hB : w.heap.size = B at *
  obtain ⟨a0, c0, rfl⟩ : ∃ a c, v = .slice a qs.length c := by obtain ⟨a, cap, rfl, _⟩ := h; exact ⟨_, _, rfl⟩
  have hno : ∀ (r : Int) (w' : World), Below B w w' → PutDone w w' B (.returned (.tuple #[.slice none 0 0, .int .i64 r])) := fun r w' hb => ⟨hb, _, _, _, rfl, TF.nil _ _, by simp⟩
  have Hno := Lib.hid hno; clear hno
  go_enter Try.func11, Try.ntmps11
  go_wp2_with fail
  refine (c6 _ qs _ h hl hl2).mono ?_
  rintro e w1 ⟨⟨r, rfl, hr⟩, hb1⟩
  rw [hB] at hb1
  have Hr := Lib.hid hr; clear hr
  by_cases hr0 : r = 0
  · subst hr0
    have hR : Hid (RightT qs) := Hr.out.1 rfl
    clear Hr
    by_cases hq : queue < 0
    · go_wp2_with fail
      go_ret2
      exact Hno.out _ _ hb1
    by_cases hq2 : (qs.length : Int) ≤ queue
    · go_wp2_with fail
      go_ret2
      exact Hno.out _ _ hb1
    obtain ⟨qi, rfl⟩ := Int.eq_ofNat_of_zero_le (show 0 ≤ queue by omega)
    have hqn : qi < qs.length := by omega
    cases hs : sizeB n
    · go_wp2_with (go_at_call 16; refine (size_any _ _).mono ?_; rintro e w2 ⟨rfl, rfl⟩)
      go_ret2
      exact Hno.out _ _ hb1
    have hA := h.below hB.symm hb1
    have hT1 := Lib.hid hA
    obtain ⟨a, cap, e, _, _, hA⟩ := hA
    simp only [Value.slice.injEq, true_and] at e
    obtain ⟨rfl, rfl⟩ := e
    obtain ⟨b, o, rfl, hA2⟩ := hA (by intro e; subst e; simp at hqn)
    obtain ⟨_, _, u, p3, hI⟩ := hA2 qi hqn
    clear hA hA2
    have h16 := hR.out.1
    have h200 := (hR.out.2 qi hqn).1
    obtain ⟨a3, c3, rfl⟩ : ∃ a c, u = .slice a (qs.getD qi default).sizes.length c := by obtain ⟨a, cap, rfl, _⟩ := hI; exact ⟨_, _, rfl⟩
    clear hI
    have hsz1 := hb1.size
    by_cases hfull : (qs.getD qi default).sizes.length = 200
    · rw [hfull] at p3
      clear hfull h200
      go_wp2_with (go_at_call 16; refine (size_any _ _).mono ?_; rintro e w2 ⟨rfl, rfl⟩)
      go_ret2
      exact Hno.out _ _ hb1
    · generalize hsl : (qs.getD qi default).sizes.length = sl at *
      have Hsl := Lib.hid hsl; clear hsl
      have hne : ((sl : Int) == 200) = false := by rw [beq_eq_false_iff_ne]; omega
      have hsz1' := hsz1
      go_wp2_with (first
        | (go_at_call 16; refine (size_any _ _).mono ?_; rintro e w2 ⟨rfl, rfl⟩)
        | (go_at_call 19; refine (c19 _ qs _ hT1.out (by omega) (fun i hi => by have := (hR.out.2 i hi).1; omega)).mono ?_; rintro e w2 ⟨v2, ps, rfl, hps, hown, hqs, hb2⟩; obtain ⟨g, cap, sh, sv, sz, a4, c4, rfl, t3, hf2, hsl, hst⟩ := put_open hps (hown.base_le (show B ≤ w1.heap.size by omega)) ⟨fun i hi => (hqs.each i hi).base_le (by omega), hqs.apart⟩ hqn Hsl.out; clear hps hown hqs; subst hsl; have hb3 : Below B w w2 := hb1.trans (hb2.mono (by omega)); have hsz2 := hb3.size; have hgl := hst.lt; clear hb2)
        | (at_builtin; refine wpList_append_ownT _ rfl _ _ 33 rfl B 3 (.int .i64 0) 1 8 IsI64 Try.underlying33 info3 rfl (by decide) IsI64_zero _ sz.length (sz.map (.int .i64)) rfl (hst.own.alloc _) (some ⟨w2.heap.size, 0, none⟩) 1 1 [.int .i64 n] rfl rfl (by intro h; cases h) (src_new w2 [_] 3 _ rfl) (ints_oneCell _ [n]) (IsI64_ints [n] (fun j => j % 1)) (by unfold maxLen; omega) (by omega) (by simp; omega) ?_; intro v5 w5 hO5 hg5 _ _; obtain ⟨a5, c5, rfl⟩ := OwnsT.shape hO5; have hkeep : ∀ k, k < w2.heap.size → some k ≠ (Value.slice a4 sz.length c4).ownBlock → w5.heap[k]? = w2.heap[k]? := (fun k hk hne => by rw [hg5.block k (by simp; omega) hne, Below.heap_alloc _ _ _ hk]); have Hkeep := Lib.hid hkeep; obtain ⟨hfx, hcx⟩ := (free_of hst.row (hkeep g hst.lt (fun e => hst.ne e.symm)) hqn); rw [hst.pq] at hcx; simp only at hcx; clear hkeep))
      obtain ⟨qs', hTF, hql⟩ := put_close (x := n) hst hqn Hkeep.out (by simpa [OwnsI] using hO5)
      have hb5 : Below B w w5 := (hb3.alloc (by omega) _).grown hg5 (by simp; omega) (fun k hk => (hst.own.lt k hk).1)
      go_ret2
      exact ⟨hb5.setCell (by exact hst.row.1) _, _, _, _, rfl, hTF, by omega⟩
  · have hr1 : (r != 0) = true := by simpa using hr0
    go_wp2_with fail
    go_ret2
    exact Hno.out _ _ hb1
end Go.Proofs.Ytmnckaofopechaa
