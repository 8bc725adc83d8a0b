/- Plain: a right wheel that ticks stays right; what leaves it; what stays in it. -/
import Derived.Test.YtefikkmhdjlccaaR2
import Derived.Test.YtefikkmhdjlccaaW16
namespace Go.Proofs.Ytefikkmhdjlccaa

/-- what a whole list makes of the lists. -/
theorem fold_put (now : Int) : ∀ (l : List Du) (s : Ls × List Du), l.foldl (put1 now) s = (fun j => s.1 j ++ l.filter (fun d => !(d.tm == now) && (listM now d.tm == j)), s.2 ++ l.filter (fun d => d.tm == now))
  | [], s => by simp
  | d :: l, s => by
    rw [List.foldl_cons, fold_put now l]
    unfold put1
    by_cases e : d.tm = now
    · rw [if_pos e]
      have e1 : (d.tm == now) = true := by simpa using e
      refine Prod.ext (funext fun j => ?_) ?_
      · simp [e1]
      · simp [e1]
    · rw [if_neg e]
      have e1 : (d.tm == now) = false := by simpa using e
      refine Prod.ext (funext fun j => ?_) ?_
      · by_cases ej : j = listM now d.tm
        · subst ej
          simp [e1, upd_same]
        · have e2 : (listM now d.tm == j) = false := by simpa using fun h : listM now d.tm = j => ej h.symm
          simp only [upd_other _ _ _ ej, List.filter_cons, e1, e2]
          simp
      · simp [e1]

theorem upd_self {α : Type} (f : Nat → α) (i : Nat) : upd f i (f i) = f := by
  funext j
  by_cases e : j = i
  · subst e; rw [upd_same]
  · rw [upd_other _ _ _ e]
theorem round_empty {now : Int} {k : Nat} {s : Ls × List Du} (h : s.1 (idxM now k) = []) : roundM now k s = s := by
  unfold roundM
  split
  · rw [h, List.foldl_nil, ← h, upd_self]
  · rfl
theorem rounds_empty {now : Int} {s : Ls × List Du} : ∀ k, (∀ j, j < k → s.1 (idxM now j) = []) → roundsM now k s = s
  | 0, _ => rfl
  | k + 1, h => by rw [roundsM, round_empty (h k (by omega)), rounds_empty k (fun j hj => h j (by omega))]
theorem rounds_skip {now : Int} {s : Ls × List Du} {z : Nat} (hz : now.toNat % 16 ^ (z + 1) ≠ 0) : ∀ k, roundsM now (z + 1 + k) s = roundsM now (z + 1) s
  | 0 => rfl
  | k + 1 => by
    rw [show z + 1 + (k + 1) = z + 1 + k + 1 from rfl, roundsM]
    have : roundM now (z + 1 + k) s = s := by
      unfold roundM
      rw [if_neg]
      intro h
      refine hz ?_
      rw [Nat.pow_add] at h
      exact Nat.mod_eq_zero_of_dvd (Nat.dvd_trans (Nat.dvd_mul_right _ _) (Nat.dvd_of_mod_eq_zero h))
    rw [this, rounds_skip hz k]

/-- the things of one time, list by list. -/
def timeL (f : Ls) (t : Int) : List Du := (allM f).filter (fun d => d.tm == t)
theorem filter_allTo (f : Ls) (p : Du → Bool) (i : Nat) : ∀ n, (∀ j, j < n → j ≠ i → (f j).filter p = []) → (allTo f n).filter p = if i < n then (f i).filter p else []
  | 0, _ => by simp [allTo]
  | n + 1, h => by
    rw [allTo_succ, List.filter_append, filter_allTo f p i n (fun j hj => h j (by omega))]
    by_cases e : n = i
    · subst e; simp
    · rw [h n (by omega) e, List.append_nil]
      by_cases hi : i < n
      · rw [if_pos hi, if_pos (by omega)]
      · rw [if_neg hi, if_neg (by omega)]
theorem filter_tm_nil {l : List Du} {t : Int} (h : ∀ d ∈ l, d.tm ≠ t) : l.filter (fun d => d.tm == t) = [] := by
  rw [List.filter_eq_nil_iff]
  intro d hd
  simpa using h d hd
theorem timeL_at {f : Ls} {t : Int} {i : Nat} (hi : i < 96) (h : ∀ j, j < 96 → ∀ d ∈ f j, d.tm = t → j = i) : timeL f t = (f i).filter (fun d => d.tm == t) := by
  unfold timeL allM
  rw [filter_allTo f _ i 96 (fun j hj hne => filter_tm_nil (fun d hd e => hne (h j hj d hd e))), if_pos hi]

theorem drop_perm (f : Ls) (i : Nat) : ∀ n, i < n → (f i ++ allTo (upd f i []) n).Perm (allTo f n)
  | 0, h => by omega
  | n + 1, h => by
    rw [allTo_succ, allTo_succ]
    by_cases e : i = n
    · subst e
      rw [allTo_upd_ge f i _ i (Nat.le_refl _), upd_same, List.append_nil]
      exact List.perm_append_comm
    · rw [upd_other _ _ _ (fun e2 => e e2.symm), ← List.append_assoc]
      exact (drop_perm f i n (by omega)).append_right _
theorem put1_perm (now : Int) (s : Ls × List Du) (d : Du) : (allM (put1 now s d).1 ++ (put1 now s d).2).Perm (d :: (allM s.1 ++ s.2)) := by
  unfold put1
  split
  · rw [← List.append_assoc]
    exact List.perm_append_singleton d _
  · exact (allTo_upd_perm s.1 (listM now d.tm) d 96 (listM_lt _ _)).append_right s.2
theorem fold_perm (now : Int) : ∀ (l : List Du) (s : Ls × List Du), (allM (l.foldl (put1 now) s).1 ++ (l.foldl (put1 now) s).2).Perm (l ++ (allM s.1 ++ s.2))
  | [], s => by simp
  | d :: l, s => by
    rw [List.foldl_cons]
    refine (fold_perm now l _).trans ?_
    refine ((put1_perm now s d).append_left l).trans ?_
    rw [List.cons_append]
    exact List.perm_middle

/-- a turn of a right wheel. -/
structure Turned (now : Int) (f : Ls) (F : Ls) (o : List Du) : Prop where
  right : Right now F
  out : o = timeL f now
  keep : ∀ t, t ≠ now → timeL F t = timeL f t

theorem turn_right {N : Nat} {f : Ls} (h : Right (N : Int) f) (hN : N + 1 < 16777216) : Turned ((N + 1 : Nat) : Int) f (turnM ((N + 1 : Nat) : Int) f).1 (turnM ((N + 1 : Nat) : Int) f).2 := by
  obtain ⟨z, hz, h1, h2⟩ := exists_z (N + 1) (by omega) hN
  have htn : ((N + 1 : Nat) : Int).toNat = N + 1 := by omega
  have hfact : ∀ i, i < 96 → ∀ d ∈ f i, ∃ t : Nat, d.tm = t ∧ N + 1 ≤ t ∧ t < 16777216 ∧ listN N t = i := fun i hi d hd => by
    obtain ⟨a, b, c⟩ := h.each i hi d hd
    refine ⟨d.tm.toNat, by omega, by omega, by omega, ?_⟩
    rw [← c, listM, show ((N : Int)).toNat = N by omega]
  have hi0 : idxM ((N + 1 : Nat) : Int) z < 96 := idxM_lt _ z hz
  have hidx : idxM ((N + 1 : Nat) : Int) z = 16 * z + (N + 1) / 16 ^ z % 16 := by rw [idxM, htn]
  generalize hi : idxM ((N + 1 : Nat) : Int) z = i0 at *
  -- the lower lists are empty
  have hlow : ∀ i, i < 16 * z → f i = [] := fun i hi => by
    cases hf : f i with
    | nil => rfl
    | cons d l =>
      exfalso
      obtain ⟨t, _, t1, t2, t3⟩ := hfact i (by omega) d (by rw [hf]; exact List.mem_cons_self)
      have := (turn_facts N t z hz h1 h2 hN t1 t2).1
      unfold listN at t3
      omega
  have hform : turnM ((N + 1 : Nat) : Int) f = (f i0).foldl (put1 ((N + 1 : Nat) : Int)) (upd f i0 [], []) := by
    unfold turnM
    rw [show (6 : Nat) = z + 1 + (5 - z) by omega, rounds_skip (by rw [htn]; exact h2), roundsM]
    have hr : roundM ((N + 1 : Nat) : Int) z (f, []) = (f i0).foldl (put1 ((N + 1 : Nat) : Int)) (upd f i0 [], []) := by
      unfold roundM
      rw [htn, if_pos h1, hi]
    rw [hr, rounds_empty z]
    intro j hj
    rw [fold_put]
    have hdig : (N + 1) / 16 ^ j % 16 = 0 := by
      obtain ⟨c, hc⟩ := Nat.dvd_of_mod_eq_zero h1
      have : 16 ^ z = 16 ^ j * (16 * 16 ^ (z - j - 1)) := by
        rw [← Nat.mul_assoc, ← Nat.pow_succ, ← Nat.pow_add]
        congr 1
        omega
      rw [hc, this, Nat.mul_assoc, Nat.mul_div_cancel_left _ (Nat.pow_pos (by decide)), Nat.mul_assoc, Nat.mul_mod_right]
    have hj2 : idxM ((N + 1 : Nat) : Int) j = 16 * j := by rw [idxM, htn, hdig]; rfl
    rw [hj2]
    refine List.append_eq_nil_iff.2 ⟨?_, ?_⟩
    · show upd f i0 [] (16 * j) = []
      by_cases e : 16 * j = i0
      · rw [e, upd_same]
      · rw [upd_other _ _ _ e]; exact hlow _ (by omega)
    · rw [List.filter_eq_nil_iff]
      intro d hd hp
      simp only [Bool.and_eq_true, Bool.not_eq_true', beq_eq_false_iff_ne, ne_eq, beq_iff_eq] at hp
      obtain ⟨t, et, t1, t2, t3⟩ := hfact i0 hi0 d hd
      obtain ⟨_, g1, g2⟩ := turn_facts N t z hz h1 h2 hN t1 t2
      have hne : t ≠ N + 1 := fun e => hp.1 (by rw [et, e])
      by_cases hq : t / 16 ^ z = (N + 1) / 16 ^ z
      · obtain ⟨g3, g4⟩ := (g1 hq).2 hne
        have h5 := hp.2
        rw [listM, htn, et, show ((t : Nat) : Int).toNat = t by omega, listN] at h5
        omega
      · exact (g2 hq).1 (t3.trans hidx)
  have hnew := fold_put ((N + 1 : Nat) : Int) (f i0) (upd f i0 [], [])
  have hperm : (allM ((f i0).foldl (put1 ((N + 1 : Nat) : Int)) (upd f i0 [], [])).1 ++ ((f i0).foldl (put1 ((N + 1 : Nat) : Int)) (upd f i0 [], [])).2).Perm (allM f) := (fold_perm ((N + 1 : Nat) : Int) (f i0) (upd f i0 [], [])).trans (by rw [List.append_nil]; exact drop_perm f i0 96 hi0)
  rw [← hform] at hnew hperm
  rw [hnew] at hperm ⊢
  simp only [List.nil_append] at hperm ⊢
  generalize hF : (fun j => upd f i0 [] j ++ (f i0).filter (fun d => !(d.tm == ((N + 1 : Nat) : Int)) && (listM ((N + 1 : Nat) : Int) d.tm == j))) = F at *
  have hmem : ∀ j, j < 96 → ∀ d ∈ F j, (N + 1 : Int) < d.tm ∧ d.tm < 16777216 ∧ listM ((N + 1 : Nat) : Int) d.tm = j := fun j hj d hd => by
    rw [← hF] at hd
    simp only [List.mem_append, List.mem_filter, Bool.and_eq_true, Bool.not_eq_true', beq_eq_false_iff_ne, ne_eq, beq_iff_eq] at hd
    rcases hd with hd | ⟨hd, hne, hl⟩
    · by_cases e : j = i0
      · subst e; rw [upd_same] at hd; cases hd
      · rw [upd_other _ _ _ e] at hd
        obtain ⟨t, et, t1, t2, t3⟩ := hfact j hj d hd
        obtain ⟨_, g1, g2⟩ := turn_facts N t z hz h1 h2 hN t1 t2
        by_cases hq : t / 16 ^ z = (N + 1) / 16 ^ z
        · exact absurd (g1 hq).1 (by omega)
        · have g3 := (g2 hq).2
          have hne : t ≠ N + 1 := fun e => hq (by rw [e])
          refine ⟨by omega, by omega, ?_⟩
          rw [listM, htn, et, show ((t : Nat) : Int).toNat = t by omega, g3, t3]
    · obtain ⟨t, et, t1, t2, t3⟩ := hfact i0 hi0 d hd
      refine ⟨?_, by omega, hl⟩
      rw [et] at hne ⊢
      omega
  refine ⟨⟨?_, by omega, by omega, fun j hj d hd => ?_, ?_⟩, ?_, fun t ht => ?_⟩
  · have := hperm.length_eq
    rw [List.length_append] at this
    have := h.few
    unfold allM at *
    omega
  · have := hmem j hj d hd
    exact ⟨by omega, this.2⟩
  · have hn : ((allM f).map Du.id).Nodup := h.ids
    rw [← (hperm.map Du.id).nodup_iff, List.map_append] at hn
    exact (List.nodup_append.1 hn).1
  · refine (timeL_at hi0 fun j hj d hd e => ?_).symm
    obtain ⟨t, et, t1, t2, t3⟩ := hfact j hj d hd
    obtain ⟨_, g1, g2⟩ := turn_facts N t z hz h1 h2 hN t1 t2
    have : t = N + 1 := by omega
    rw [← t3, (g1 (by rw [this])).1, hidx]
  · -- the others stay, in order
    have hJ := listM_lt ((N + 1 : Nat) : Int) t
    rw [timeL_at hJ (fun j hj d hd e => by rw [← e, (hmem j hj d hd).2.2])]
    generalize hJe : listM ((N + 1 : Nat) : Int) t = J at *
    rw [← hF]
    rw [List.filter_append, List.filter_filter]
    by_cases hex : ∃ d ∈ f i0, d.tm = t
    · obtain ⟨d0, hd0, e0⟩ := hex
      obtain ⟨t0, et0, _, _, t3⟩ := hfact i0 hi0 d0 hd0
      rw [timeL_at (f := f) hi0 (fun j hj d hd e => by
        obtain ⟨t', et', _, _, t3'⟩ := hfact j hj d hd
        have : t' = t0 := by omega
        rw [← t3', this, t3])]
      have hl : (upd f i0 [] J).filter (fun d => d.tm == t) = [] := filter_tm_nil fun d hd e => by
        by_cases e1 : J = i0
        · rw [e1, upd_same] at hd; cases hd
        · rw [upd_other _ _ _ e1] at hd
          obtain ⟨t', et', _, _, t3'⟩ := hfact J hJ d hd
          have : t' = t0 := by omega
          exact e1 (by rw [← t3', this, t3])
      rw [hl, List.nil_append]
      refine List.filter_congr fun d _ => ?_
      by_cases e : d.tm = t
      · have e1 : (d.tm == ((N + 1 : Nat) : Int)) = false := by simp; omega
        have e2 : (listM ((N + 1 : Nat) : Int) d.tm == J) = true := by rw [e, hJe]; simp
        rw [e1, e2]; simp
      · simp [e]
    · have hno : ∀ d ∈ f i0, d.tm ≠ t := fun d hd e => hex ⟨d, hd, e⟩
      have hr : (f i0).filter (fun d => (d.tm == t) && (!(d.tm == ((N + 1 : Nat) : Int)) && (listM ((N + 1 : Nat) : Int) d.tm == J))) = [] := by
        rw [List.filter_eq_nil_iff]
        intro d hd hp
        simp only [Bool.and_eq_true, beq_iff_eq] at hp
        exact hno d hd hp.1
      rw [hr, List.append_nil]
      rw [timeL_at (f := f) hJ (fun j hj d hd e => by
        by_cases e1 : j = i0
        · subst e1; exact absurd e (hno d hd)
        · have hd' : d ∈ F j := by
            rw [← hF]
            simp only [List.mem_append]
            left
            rw [upd_other _ _ _ e1]
            exact hd
          rw [← hJe, ← e, (hmem j hj d hd').2.2])]
      by_cases e1 : J = i0
      · rw [e1, upd_same, filter_tm_nil hno, List.filter_nil]
      · rw [upd_other _ _ _ e1]

/-- what is due within n ticks, in order. -/
def dueM (f : Ls) (now : Int) (n : Nat) : List Du := (List.range n).flatMap fun k : Nat => timeL f (now + k + 1)
theorem dueM_succ (f : Ls) (now : Int) (n : Nat) : dueM f now (n + 1) = dueM f now n ++ timeL f (now + n + 1) := by simp [dueM, List.range_succ, List.flatMap_append]

structure TickedR (now : Int) (f : Ls) (n : Nat) (F : Ls) (o : List Du) : Prop where
  right : Right (now + n) F
  out : o = dueM f now n
  keep : ∀ t, now + n < t → timeL F t = timeL f t

theorem tick_right {now : Int} {f : Ls} (h : Right now f) : ∀ n : Nat, now + n < 16777216 → TickedR now f n (tickM now f n).1 (tickM now f n).2
  | 0, _ => ⟨by simpa [tickM] using h, rfl, fun _ _ => rfl⟩
  | n + 1, hn => by
    have ih := tick_right h n (by omega)
    obtain ⟨N, hN⟩ : ∃ N : Nat, now + n = N := ⟨(now + n).toNat, by have := h.now0; omega⟩
    have hr := ih.right
    rw [hN] at hr
    have ht := turn_right hr (by omega)
    have e : now + n + 1 = ((N + 1 : Nat) : Int) := by omega
    rw [tickM, e]
    refine ⟨?_, ?_, fun t ht' => ?_⟩
    · rw [show now + ((n + 1 : Nat) : Int) = ((N + 1 : Nat) : Int) by omega]
      exact ht.right
    · rw [dueM_succ, ← ih.out, ht.out, e, ih.keep _ (by omega)]
    · rw [ht.keep t (by omega), ih.keep t (by omega)]
end Go.Proofs.Ytefikkmhdjlccaa
