/- The lists behind TurnsOrder; the table of what was sent, in memory. -/
import Derived.Test.YtmnckaofopechaaB8
import Derived.Deep.OwnRows
namespace Go.Proofs.Ytmnckaofopechaa
open Go.RowKit

theorem right_step {q q' : Qu} {m : Nat} (h : RightQ q) (hs : QStep q q' m) : RightQ q' := by
  obtain ⟨h1, h2, h3, h4, h5, h6⟩ := h
  have e := hs.sizes
  have hle := hs.le
  have hlen : q'.sizes.length = q.sizes.length - m := by rw [e, List.length_drop]
  have hget : ∀ i, q'.sizes.getD i 0 = q.sizes.getD (m + i) 0 := fun i => by rw [e]; simp [List.getD]
  refine ⟨by omega, by rw [hs.share]; exact h2, fun i hi => by rw [hget]; exact h3 _ (by omega), ?_, fun h0 => ?_, fun hp => ?_⟩
  · rcases Nat.eq_zero_or_pos q.sizes.length with h0 | hp
    · rw [hs.empty h0]; exact h4
    · obtain ⟨a, b, c⟩ := hs.some hp
      rw [c]; split
      · omega
      · exact a
  · rcases Nat.eq_zero_or_pos q.sizes.length with h0' | hp
    · rw [hs.empty h0']; exact h5 h0'
    · obtain ⟨a, b, c⟩ := hs.some hp
      rw [c, if_pos (by omega)]
  · obtain ⟨a, b, c⟩ := hs.some (by omega)
    rw [c, if_neg (by omega), hget]
    exact b (by omega)

/-- what one queue sent. -/
def proj (i : Nat) (l : List (Nat × Int)) : List Int := (l.filter fun p => p.1 == i).map (·.2)
theorem proj_append (i : Nat) (a b : List (Nat × Int)) : proj i (a ++ b) = proj i a ++ proj i b := by simp [proj]
theorem proj_same (i : Nat) (l : List Int) : proj i (l.map fun x => (i, x)) = l := by
  induction l with
  | nil => rfl
  | cons x l ih => simp [proj] at ih ⊢; exact ih
theorem proj_other (i j : Nat) (h : j ≠ i) (l : List Int) : proj i (l.map fun x => (j, x)) = [] := by
  simp [proj, h]
theorem proj_sents (qs : List Qu) (M : Nat → Nat) (k i : Nat) : proj i (sentsTo qs M k) = if i < k then (qs.getD i default).sizes.take (M i) else [] := by
  induction k with
  | zero => simp [sentsTo, proj]
  | succ k ih =>
    rw [sentsTo_succ, proj_append, ih]
    by_cases e : i = k
    · subst e
      rw [proj_same]; simp
    · rw [proj_other i k (fun h => e h.symm), List.append_nil]
      by_cases h : i < k
      · rw [if_pos h, if_pos (by omega)]
      · rw [if_neg h, if_neg (by omega)]
theorem proj_take_le (i : Nat) (l : List (Nat × Int)) (m : Nat) : (proj i (l.take m)).length ≤ (proj i l).length := by
  have : l = l.take m ++ l.drop m := by simp
  conv => rhs; rw [this]
  rw [proj_append, List.length_append]; omega
theorem proj_take_succ (i : Nat) (l : List (Nat × Int)) (m : Nat) (h : m < l.length) : proj i (l.take (m + 1)) = proj i (l.take m) ++ if (l.getD m default).1 = i then [(l.getD m default).2] else [] := by
  rw [List.take_succ_eq_append_getElem h, proj_append]
  congr 1
  have e : l.getD m default = l[m] := by simp [List.getD, h]
  rw [e]
  by_cases c : l[m].1 = i <;> simp [proj, c]
theorem sents_fst (qs : List Qu) (M : Nat → Nat) (k i : Nat) (h : i < (sentsTo qs M k).length) : ((sentsTo qs M k).getD i default).1 < k := by
  induction k with
  | zero => simp [sentsTo] at h
  | succ k ih =>
    rw [sentsTo_succ] at h ⊢
    by_cases hl : i < (sentsTo qs M k).length
    · have := ih hl
      simp only [List.getD, List.getElem?_append, hl, if_true] at this ⊢
      omega
    · simp only [List.length_append, List.length_map] at h
      simp only [List.getD, List.getElem?_append, hl, if_false]
      rw [List.getElem?_eq_getElem (by simp at h ⊢; omega)]
      simp

/-- the table of what was sent. -/
structure SentSt (w : World) (B g n : Nat) (val : Nat → Value) (L : Nat → List Int) : Prop where
  base : B ≤ g
  row : w.rowIs g 33 n val
  each : ∀ i, i < n → OwnsI w B (val i) (L i)
  apart : ∀ i j k, i < n → j < n → i ≠ j → (val i).ownBlock = some k → (val j).ownBlock ≠ some k

theorem SentSt.of_same {w w' : World} {B g n : Nat} {val : Nat → Value} {L : Nat → List Int} (h : SentSt w B g n val L) (hk : ∀ k, k < w.heap.size → w'.heap[k]? = w.heap[k]?) : SentSt w' B g n val L :=
  ⟨h.base, h.row.of_block (hk _ h.row.lt), fun i hi => (h.each i hi).of_same fun k hb => hk k ((h.each i hi).lt k hb).2, h.apart⟩

theorem SentSt.ne {w : World} {B g n : Nat} {val : Nat → Value} {L : Nat → List Int} (h : SentSt w B g n val L) {i : Nat} (hi : i < n) : (val i).ownBlock ≠ some g := by
  obtain ⟨c, hb, _⟩ := h.row
  exact (h.each i hi).ne_cur hb (by decide)

theorem SentSt.step {w w' : World} {B g n q : Nat} {val : Nat → Value} {L : Nat → List Int} {v' : Value} {x : Int} (h : SentSt w B g n val L) (hq : q < n)
    (hkeep : ∀ k, k < w.heap.size → some k ≠ (val q).ownBlock → k ≠ g → w'.heap[k]? = w.heap[k]?) (hrow : w'.rowIs g 33 n (fun j => if j = q then v' else val j)) (hown : OwnsI w' B v' (L q ++ [x]))
    (hv : v'.ownBlock = (val q).ownBlock ∨ ∃ k, v'.ownBlock = some k ∧ w.heap.size ≤ k) :
    SentSt w' B g n (fun j => if j = q then v' else val j) (fun j => if j = q then L q ++ [x] else L j) := by
  refine ⟨h.base, hrow, fun i hi => ?_, fun i j k hi hj hij hik => ?_⟩
  · by_cases e : i = q
    · subst e; simpa using hown
    · simp only [if_neg e]
      exact (h.each i hi).of_same fun k hb => hkeep k ((h.each i hi).lt k hb).2 (fun e' => h.apart i q k hi hq e hb e'.symm) (fun e' => h.ne hi (by rw [hb, e']))
  · by_cases e : i = q
    · subst e
      have e2 : j ≠ i := fun h => hij h.symm
      simp only [if_true] at hik
      simp only [if_neg e2]
      rcases hv with hv | ⟨k', hv, hk'⟩
      · rw [hv] at hik
        exact h.apart i j k hi hj hij hik
      · rw [hv] at hik
        obtain rfl := Option.some.inj hik
        intro hb
        have := ((h.each j hj).lt _ hb).2
        omega
    · simp only [if_neg e] at hik
      by_cases e2 : j = q
      · subst e2
        simp only [if_true]
        rcases hv with hv | ⟨k', hv, hk'⟩
        · rw [hv]; exact h.apart i j k hi hj hij hik
        · rw [hv]
          intro hb
          obtain rfl := Option.some.inj hb
          have := ((h.each i hi).lt _ hik).2
          omega
      · simp only [if_neg e2]
        exact h.apart i j k hi hj hij hik

/-- the state behind one append to the table. -/
def AfterIn (w w4 : World) (B Br E g n : Nat) (L : Nat → List Int) (wx : World) : Prop :=
  ∃ val : Nat → Value, SentSt wx B g n val L ∧ (∀ i k, i < n → (val i).ownBlock = some k → k < Br ∨ E ≤ k) ∧ (∀ k, Br ≤ k → k < E → wx.heap[k]? = w4.heap[k]?) ∧ E ≤ wx.heap.size ∧ Below B w wx

theorem after_in {w w4 wr w6 : World} {B Br E g n qi : Nat} {val : Nat → Value} {L : Nat → List Int} {x : Int} {v6 : Value} {o1 o2 : Obj} (hsent : SentSt wr B g n val L) (hq : qi < n) (hgl : g < Br)
    (hout : ∀ i k, i < n → (val i).ownBlock = some k → k < Br ∨ E ≤ k) (hmid : ∀ k, Br ≤ k → k < E → wr.heap[k]? = w4.heap[k]?) (hsz : E ≤ wr.heap.size) (hbel : Below B w wr)
    (hgrow : ((wr.alloc o1).alloc o2).drew.grownBy w6 (val qi).ownBlock) (hown : OwnsI w6 B v6 (L qi ++ [x])) (hv : v6.ownBlock = (val qi).ownBlock ∨ v6.ownBlock = some (((wr.alloc o1).alloc o2).drew).heap.size) :
    AfterIn w w4 B Br E g n (fun j => if j = qi then L qi ++ [x] else L j) (w6.setCell ⟨g, qi, none⟩ v6) := by
  have hsz2 : ((wr.alloc o1).alloc o2).drew.heap.size = wr.heap.size + 2 := by show ((wr.alloc o1).alloc o2).heap.size = _; simp
  rw [hsz2] at hv
  have hb6 : ∀ k, k < wr.heap.size → some k ≠ (val qi).ownBlock → w6.heap[k]? = wr.heap[k]? := fun k hk hne => by
    rw [hgrow.block k (by omega) hne]
    show ((wr.alloc o1).alloc o2).heap[k]? = _
    rw [Below.heap_alloc _ _ _ (by simp; omega), Below.heap_alloc _ _ _ hk]
  have hb7 : ∀ k, k < wr.heap.size → some k ≠ (val qi).ownBlock → k ≠ g → (w6.setCell ⟨g, qi, none⟩ v6).heap[k]? = wr.heap[k]? := fun k hk hne hg => by
    rw [Below.heap_setCell _ _ _ _ hg]; exact hb6 k hk hne
  have hg6 : w6.heap[g]? = wr.heap[g]? := hb6 g hsent.row.lt (fun e => hsent.ne hq e.symm)
  have hs6 := hgrow.size
  rw [hsz2] at hs6
  have hne6 : v6.ownBlock ≠ some g := by
    have hrow := hsent.row.of_block hg6
    obtain ⟨c, hb, _⟩ := hrow
    exact hown.ne_cur hb (by decide)
  have hst := hsent.step (w' := w6.setCell ⟨g, qi, none⟩ v6) (v' := v6) (x := x) hq hb7 ((hsent.row.of_block hg6).set qi v6) (hown.setCell_other (by exact hne6) _)
    (hv.imp id fun e => ⟨_, e, by omega⟩)
  refine ⟨_, hst, fun i k hi hk => ?_, fun k h1 h2 => ?_, ?_, ?_⟩
  · by_cases e : i = qi
    · subst e
      simp only [if_true] at hk
      rcases hv with hv | hv
      · rw [hv] at hk; exact hout i k hi hk
      · rw [hv] at hk; obtain rfl := Option.some.inj hk; right; omega
    · simp only [if_neg e] at hk
      exact hout i k hi hk
  · rw [hb7 k (by omega) (fun e => by have := hout qi k hq e.symm; omega) (by omega)]
    exact hmid k h1 h2
  · show E ≤ (w6.setCell ⟨g, qi, none⟩ v6).heap.size
    rw [show (w6.setCell ⟨g, qi, none⟩ v6).heap.size = w6.heap.size from by simp [World.setCell]]
    omega
  · refine Below.setCell ?_ (by exact hsent.base) _
    refine Below.grown (w := ((wr.alloc o1).alloc o2).drew) ?_ hgrow (by have := hbel.size; have := hsent.base; have := hsent.row.lt; omega) (fun k hk => ((hsent.each qi hq).lt k hk).1)
    have := hsent.base
    have := hsent.row.lt
    exact ((hbel.alloc (by omega) _).alloc (by simp; omega) _).drew

/-- what Round handed back stays while its own blocks stay. -/
theorem TF.of_range {w w' : World} {B : Nat} {v : Value} {qs : List Qu} (h : TF w B v qs) (hk : ∀ k, B ≤ k → k < w.heap.size → w'.heap[k]? = w.heap[k]?) : TF w' B v qs := by
  obtain ⟨a, cap, rfl, h1, h2, h3⟩ := h
  refine ⟨a, cap, rfl, h1, h2, fun hp => ?_⟩
  obtain ⟨g, f, rfl, hr, hf⟩ := h3 hp
  have hg : g < w.heap.size := by obtain ⟨_, _, cur, hb, _⟩ := hr; exact lt_of_block hb
  exact ⟨g, f, rfl, hr.of_same (hk g hr.1 hg), fun i hi => ⟨(hf i hi).1, (hf i hi).2.of_same fun k cur hB hb => hk k hB (lt_of_block hb)⟩⟩

end Go.Proofs.Ytmnckaofopechaa
