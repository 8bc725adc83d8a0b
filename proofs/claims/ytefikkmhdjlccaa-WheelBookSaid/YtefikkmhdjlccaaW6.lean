/- A turn: what its walk carries along. No walk. -/
import Derived.Test.YtefikkmhdjlccaaW5
namespace Go.Proofs.Ytefikkmhdjlccaa
open Go.RowKit

/-! plain -/
def cntM (s : Ls × List Du) : Nat := (allM s.1).length + s.2.length
def okT (f : Ls) : Prop := ∀ i, i < 96 → ∀ d ∈ f i, 0 ≤ d.tm ∧ d.tm < 16777216

theorem allTo_upd_ge (f : Ls) (i : Nat) (l : List Du) : ∀ n, n ≤ i → allTo (upd f i l) n = allTo f n
  | 0, _ => rfl
  | n + 1, h => by rw [allTo_succ, allTo_succ, allTo_upd_ge f i l n (by omega), upd_other _ _ _ (by omega)]
theorem allTo_upd_len (f : Ls) (i : Nat) (l : List Du) : ∀ n, i < n → (allTo (upd f i l) n).length + (f i).length = (allTo f n).length + l.length
  | 0, h => by omega
  | n + 1, h => by
    rw [allTo_succ, allTo_succ, List.length_append, List.length_append]
    by_cases e : i = n
    · subst e; rw [allTo_upd_ge f i l i (Nat.le_refl _), upd_same]; omega
    · have := allTo_upd_len f i l n (by omega)
      rw [upd_other _ _ _ (fun e2 => e e2.symm)]; omega
theorem allM_upd_len (f : Ls) (i : Nat) (l : List Du) (hi : i < 96) : (allM (upd f i l)).length + (f i).length = (allM f).length + l.length := allTo_upd_len f i l 96 hi
theorem allTo_len_le (f : Ls) (i : Nat) : ∀ n, i < n → (f i).length ≤ (allTo f n).length
  | 0, h => by omega
  | n + 1, h => by
    rw [allTo_succ, List.length_append]
    by_cases e : i = n
    · subst e; omega
    · have := allTo_len_le f i n (by omega); omega
theorem len_le_cnt (s : Ls × List Du) {i : Nat} (hi : i < 96) : (s.1 i).length ≤ cntM s := by
  have := allTo_len_le s.1 i 96 hi
  unfold cntM allM
  omega

theorem put1_cnt (now : Int) (s : Ls × List Du) (d : Du) : cntM (put1 now s d) = cntM s + 1 := by
  unfold put1 cntM
  split
  · simp; omega
  · have := allM_upd_len s.1 (listM now d.tm) (s.1 (listM now d.tm) ++ [d]) (listM_lt _ _)
    rw [List.length_append] at this
    simp at this ⊢
    omega
theorem fold_cnt (now : Int) : ∀ (l : List Du) (s : Ls × List Du), cntM (l.foldl (put1 now) s) = cntM s + l.length
  | [], _ => rfl
  | d :: l, s => by rw [List.foldl_cons, fold_cnt now l, put1_cnt, List.length_cons]; omega
theorem round_cnt (now : Int) (k : Nat) (hk : k ≤ 5) (s : Ls × List Du) : cntM (roundM now k s) = cntM s := by
  unfold roundM
  split
  · rw [fold_cnt]
    have := allM_upd_len s.1 (idxM now k) [] (idxM_lt now k hk)
    unfold cntM
    simp at this ⊢
    omega
  · rfl
theorem rounds_cnt (now : Int) : ∀ (k : Nat) (s : Ls × List Du), k ≤ 6 → cntM (roundsM now k s) = cntM s
  | 0, _, _ => rfl
  | k + 1, s, hk => by rw [roundsM, rounds_cnt now k _ (by omega), round_cnt now k (by omega)]

theorem put1_ok {now : Int} {s : Ls × List Du} {d : Du} (h : okT s.1) (hd : 0 ≤ d.tm ∧ d.tm < 16777216) : okT (put1 now s d).1 := by
  unfold put1
  split
  · exact h
  · intro i hi x hx
    by_cases e : i = listM now d.tm
    · subst e
      simp only [upd_same, List.mem_append, List.mem_singleton] at hx
      rcases hx with hx | rfl
      · exact h _ hi x hx
      · exact hd
    · simp only [upd_other _ _ _ e] at hx
      exact h i hi x hx
theorem fold_ok {now : Int} : ∀ (l : List Du) (s : Ls × List Du), okT s.1 → (∀ d ∈ l, 0 ≤ d.tm ∧ d.tm < 16777216) → okT (l.foldl (put1 now) s).1
  | [], _, h, _ => h
  | d :: l, s, h, hl => fold_ok l (put1 now s d) (put1_ok h (hl d (by simp))) (fun x hx => hl x (by simp [hx]))
theorem okT.drop {f : Ls} (h : okT f) (i : Nat) : okT (upd f i []) := by
  intro j hj x hx
  by_cases e : j = i
  · subst e; rw [upd_same] at hx; cases hx
  · rw [upd_other _ _ _ e] at hx; exact h j hj x hx
theorem round_ok {now : Int} {k : Nat} {s : Ls × List Du} (hk : k ≤ 5) (h : okT s.1) : okT (roundM now k s).1 := by
  unfold roundM
  split
  · exact fold_ok _ _ (h.drop _) (h _ (idxM_lt now k hk))
  · exact h
theorem rounds_ok {now : Int} : ∀ (k : Nat) (s : Ls × List Du), k ≤ 6 → okT s.1 → okT (roundsM now k s).1
  | 0, _, _, h => h
  | k + 1, s, hk, h => rounds_ok k _ (by omega) (round_ok (by omega) h)
theorem turn_cnt (now : Int) (f : Ls) : cntM (turnM now f) = (allM f).length := by
  unfold turnM; rw [rounds_cnt now 6 _ (Nat.le_refl _)]; simp [cntM]
theorem turn_ok {now : Int} {f : Ls} (h : okT f) : okT (turnM now f).1 := rounds_ok 6 _ (Nat.le_refl _) h
theorem tick_cnt (now : Int) (f : Ls) : ∀ n, cntM (tickM now f n) = (allM f).length
  | 0 => by simp [tickM, cntM]
  | n + 1 => by
    have h1 := tick_cnt now f n
    have h2 := turn_cnt (now + n + 1) (tickM now f n).1
    unfold cntM at h1 h2 ⊢
    rw [tickM]
    simp only [List.length_append]
    omega
theorem tick_ok {now : Int} {f : Ls} (h : okT f) : ∀ n, okT (tickM now f n).1
  | 0 => h
  | n + 1 => by rw [tickM]; exact turn_ok (tick_ok h n)

/-- the lists, what has left, and the list that is being told. -/
def slots (s : Ls × List Du) (l : List Du) : Ls := fun j => if j < 96 then s.1 j else if j = 96 then s.2 else l
theorem slots_lt (s : Ls × List Du) (l : List Du) {j : Nat} (h : j < 96) : slots s l j = s.1 j := by simp [slots, h]
theorem slots_96 (s : Ls × List Du) (l : List Du) : slots s l 96 = s.2 := by simp [slots]
theorem slots_97 (s : Ls × List Du) (l : List Du) : slots s l 97 = l := by simp [slots]

theorem getD_mem {l : List Du} {m : Nat} (h : m < l.length) : l.getD m default ∈ l := by
  simp [List.getD, h]
theorem fold_take_succ {σ : Type} (f : σ → Du → σ) (s : σ) (l : List Du) (m : Nat) (h : m < l.length) : (l.take (m + 1)).foldl f s = f ((l.take m).foldl f s) (l.getD m default) := by
  rw [List.take_succ_eq_append_getElem h, List.foldl_append]
  simp [List.getD, h]

theorem slots_put {s : Ls × List Du} {l : List Du} {nw t : Nat} {id : Int} (h : t ≠ nw) (x : Nat) : slots (put1 (nw : Int) s ⟨id, t⟩) l x = upd (slots s l) (listN nw t) (s.1 (listN nw t) ++ [⟨id, t⟩]) x := by
  have hl := listN_lt nw t
  have e0 : put1 (nw : Int) s ⟨id, t⟩ = (upd s.1 (listN nw t) (s.1 (listN nw t) ++ [⟨id, t⟩]), s.2) := by
    unfold put1
    rw [if_neg (by simp only; omega)]
    rfl
  rw [e0]
  by_cases e : x = listN nw t
  · subst e; rw [slots_lt _ _ hl, upd_same]; exact upd_same _ _ _
  · rw [upd_other _ _ _ e]
    unfold slots
    simp only [upd_other _ _ _ e]
theorem slots_out {s : Ls × List Du} {l : List Du} {nw t : Nat} {id : Int} (h : t = nw) (x : Nat) : slots (put1 (nw : Int) s ⟨id, t⟩) l x = upd (slots s l) 96 (s.2 ++ [⟨id, t⟩]) x := by
  have e0 : put1 (nw : Int) s ⟨id, t⟩ = (s.1, s.2 ++ [⟨id, t⟩]) := by
    unfold put1
    rw [if_pos (by simp only; omega)]
  rw [e0]
  by_cases e : x = 96
  · subst e; rw [upd_same, slots_96]
  · rw [upd_other _ _ _ e]
    unfold slots
    simp only [e, if_false]

/-! what the walk carries -/
structure TurnSt (w0 : World) (B g : Nat) (now : Int) (V0 : Nat → Value) (wr : World) (N : Nat) (V : Nat → Value) (F : Ls) : Prop where
  blk : Blk wr g now V
  own : Own wr B N V F
  fr : Fr (fun x => x = g ∨ ∃ j, j < 96 ∧ (V0 j).ownBlock = some x) w0 wr
  prov : ∀ i, i < N → ∀ x, (V i).ownBlock = some x → (∃ j, j < 96 ∧ (V0 j).ownBlock = some x) ∨ w0.heap.size ≤ x
  base : B ≤ w0.heap.size
  head : 96 ≤ N

section
variable {w0 wr w' : World} {B g N : Nat} {now : Int} {V0 V : Nat → Value} {F : Ls}
theorem TurnSt.gl (h : TurnSt w0 B g now V0 wr N V F) : g < wr.heap.size := h.blk.lt
theorem TurnSt.size (h : TurnSt w0 B g now V0 wr N V F) : w0.heap.size ≤ wr.heap.size := h.fr.size
theorem TurnSt.alloc (h : TurnSt w0 B g now V0 wr N V F) (o : Obj) : TurnSt w0 B g now V0 (wr.alloc o) N V F :=
  ⟨h.blk.keep (Below.heap_alloc _ _ _ h.gl), h.own.alloc o, h.fr.alloc o, h.prov, h.base, h.head⟩
theorem TurnSt.drewN (h : TurnSt w0 B g now V0 wr N V F) (n : Nat) : TurnSt w0 B g now V0 (wr.drewN n) N V F :=
  ⟨h.blk, h.own.drewN n, h.fr.drewN n, h.prov, h.base, h.head⟩
theorem TurnSt.ext (h : TurnSt w0 B g now V0 wr N V F) {F' : Ls} (hF : ∀ i, i < N → F' i = F i) : TurnSt w0 B g now V0 wr N V F' :=
  ⟨h.blk, h.own.ext (fun _ _ => rfl) hF, h.fr, h.prov, h.base, h.head⟩
theorem TurnSt.less (h : TurnSt w0 B g now V0 wr N V F) {M : Nat} (hM : M ≤ N) (h96 : 96 ≤ M) : TurnSt w0 B g now V0 wr M V F :=
  ⟨h.blk, h.own.less hM, h.fr, fun i hi => h.prov i (by omega), h.base, h96⟩

/-- one thing more in list i. -/
theorem TurnSt.put (h : TurnSt w0 B g now V0 wr N V F) {i : Nat} (hi : i < 96) {l : List Du} (hp : PutEnd wr B g now V i l w') : ∃ V', TurnSt w0 B g now V0 w' N V' (upd F i l) ∧ ∀ j, 96 ≤ j → V' j = V j := by
  obtain ⟨v', h1, h2, h3, h4⟩ := hp
  have hsize := h.size
  have hh := h.head
  refine ⟨upd V i v', ⟨h1, h.own.turn (by omega) h2 (fun j hj hne k hk => ?_) h4, h.fr.trans h3 (fun x hx => ?_), fun j hj x hx => ?_, h.base, hh⟩, fun j hj => upd_other _ _ _ (by omega)⟩
  · refine h3.block k ((h.own.each j hj).lt k hk).2 (fun hx => ?_)
    rcases hx with rfl | hx
    · exact h.own.ne_blk h.blk j hj hk
    · exact h.own.apart j i hj (by omega) hne k hk hx
  · rcases hx with rfl | hx
    · exact .inl (.inl rfl)
    · rcases h.prov i (by omega) x hx with h5 | h5
      · exact .inl (.inr h5)
      · exact .inr h5
  · by_cases e : j = i
    · subst e
      rw [upd_same] at hx
      rcases h4 with h4 | h4 | ⟨y, h4, h5⟩
      · rw [h4] at hx; cases hx
      · rw [h4] at hx; exact h.prov j hj x hx
      · rw [h4] at hx
        obtain rfl : y = x := by simpa using hx
        exact .inr (by omega)
    · rw [upd_other _ _ _ e] at hx
      exact h.prov j hj x hx

/-- what is appended to a slot that is no list of the wheel. -/
theorem TurnSt.app (h : TurnSt w0 B g now V0 wr N V F) {i : Nat} (hi : 96 ≤ i) (hiN : i < N) {v' : Value} {l : List Du} (hv : OwnD w' B v' l) (hg : wr.grownBy w' (V i).ownBlock) (hat : v'.ownBlock = (V i).ownBlock ∨ v'.ownBlock = some wr.heap.size) : TurnSt w0 B g now V0 w' N (upd V i v') (upd F i l) := by
  have hsize := h.size
  refine ⟨Blk.ext (h.blk.keep (hg.block g h.gl (fun e => h.own.ne_blk h.blk i hiN e.symm))) (fun j hj => upd_other _ _ _ (by omega)), h.own.turn hiN hv (fun j hj hne k hk => ?_) ?_, h.fr.grown hg (fun k hk => ?_), fun j hj x hx => ?_, h.base, h.head⟩
  · exact hg.block k ((h.own.each j hj).lt k hk).2 (fun e => h.own.apart j i hj hiN hne k hk e.symm)
  · rcases hat with e | e
    · exact .inr (.inl e)
    · exact .inr (.inr ⟨_, e, Nat.le_refl _⟩)
  · rcases h.prov i hiN k hk with h5 | h5
    · exact .inl (.inr h5)
    · exact .inr h5
  · by_cases e : j = i
    · subst e
      rw [upd_same] at hx
      rcases hat with h4 | h4
      · rw [h4] at hx; exact h.prov j hj x hx
      · rw [h4] at hx
        obtain rfl : wr.heap.size = x := by simpa using hx
        exact .inr hsize
    · rw [upd_other _ _ _ e] at hx
      exact h.prov j hj x hx

/-- list i is taken out: it goes to a slot of its own. -/
theorem TurnSt.take (h : TurnSt w0 B g now V0 wr N V F) {i : Nat} (hi : i < 96) : TurnSt w0 B g now V0 (wr.setCell ⟨g, i + 1, none⟩ (.slice none 0 0)) (N + 1) (upd (upd V i (.slice none 0 0)) N (V i)) (upd (upd F i []) N (F i)) := by
  have hh := h.head
  refine ⟨Blk.ext (h.blk.set hi _) (fun j hj => upd_other _ _ _ (by omega)), ?_, h.fr.setCell (.inl (.inl rfl)) _, fun j hj x hx => ?_, h.base, by omega⟩
  · have O := (h.own.drop i).push (h.own.each i (by omega)) (fun j hj k hk => ?_)
    · refine O.setCell (fun j hj => ?_) _
      by_cases e : j = N
      · subst e; rw [upd_same]; exact h.own.ne_blk h.blk i (by omega)
      · rw [upd_other _ _ _ e]
        by_cases e2 : j = i
        · subst e2; rw [upd_same]; simp [Value.ownBlock]
        · rw [upd_other _ _ _ e2]; exact h.own.ne_blk h.blk j (by omega)
    · by_cases e2 : j = i
      · subst e2; rw [upd_same] at hk; simp [Value.ownBlock] at hk
      · rw [upd_other _ _ _ e2] at hk
        exact h.own.apart j i hj (by omega) e2 k hk
  · by_cases e : j = N
    · subst e; rw [upd_same] at hx; exact h.prov i (by omega) x hx
    · rw [upd_other _ _ _ e] at hx
      by_cases e2 : j = i
      · subst e2; rw [upd_same] at hx; simp [Value.ownBlock] at hx
      · rw [upd_other _ _ _ e2] at hx; exact h.prov j (by omega) x hx
end
end Go.Proofs.Ytefikkmhdjlccaa
