/- Plain: the wheel's book: what is set, in the order in which it was set, time by time. -/
import Derived.Test.YtefikkmhdjlccaaV4
namespace Go.Proofs.Ytefikkmhdjlccaa

def Rep (f : Ls) (book : List Du) : Prop := ∀ t, timeL f t = book.filter (fun d => d.tm == t)

theorem Rep.perm {f : Ls} {book : List Du} (h : Rep f book) : (allM f).Perm book := by
  rw [List.perm_iff_count]
  intro d
  have h1 := h d.tm
  unfold timeL at h1
  have a : List.count d ((allM f).filter fun x => x.tm == d.tm) = List.count d (allM f) := List.count_filter (by simp)
  have b : List.count d (book.filter fun x => x.tm == d.tm) = List.count d book := List.count_filter (by simp)
  rw [← a, ← b, h1]

theorem timeL_right {now : Int} {f : Ls} (h : Right now f) (t : Int) : timeL f t = (f (listM now t)).filter (fun d => d.tm == t) :=
  timeL_at (listM_lt _ _) fun j hj d hd e => by rw [← e, (h.each j hj d hd).2.2]

theorem Rep.set {now : Int} {f : Ls} {id tm : Int} {book : List Du} (h : Rep f book) (hok : SetOk now f id tm) : Rep (setM now f id tm) (book ++ [⟨id, tm⟩]) := by
  intro t
  rw [List.filter_append, ← h t, timeL_right hok.set, timeL_right hok.right]
  unfold setM
  by_cases e : listM now t = listM now tm
  · rw [e, upd_same, List.filter_append]
  · rw [upd_other _ _ _ e]
    have : (tm == t) = false := by
      rw [beq_eq_false_iff_ne]
      rintro rfl
      exact e rfl
    simp [this]

theorem erase_filter : ∀ {l : List Du} {k : Nat}, (l.map Du.id).Nodup → k < l.length → l.eraseIdx k = l.filter (fun d => !(d.id == (l.getD k default).id))
  | [], _, _, h => by simp at h
  | x :: l, 0, hn, _ => by
    simp only [List.map_cons, List.nodup_cons] at hn
    have : l.filter (fun d => !(d.id == x.id)) = l := List.filter_eq_self.2 fun d hd => by
      simp only [Bool.not_eq_true', beq_eq_false_iff_ne, ne_eq]
      exact fun e => hn.1 (e ▸ List.mem_map_of_mem hd)
    simp [this]
  | x :: l, k + 1, hn, h => by
    have hk : k < l.length := by simpa using h
    simp only [List.map_cons, List.nodup_cons] at hn
    have ih := erase_filter hn.2 hk
    have hm : l.getD k default ∈ l := getD_mem hk
    have e1 : (x :: l).getD (k + 1) default = l.getD k default := by simp [List.getD]
    have e2 : (x.id == (l.getD k default).id) = false := by
      rw [beq_eq_false_iff_ne]
      exact fun e => hn.1 (e ▸ List.mem_map_of_mem hm)
    rw [List.eraseIdx_cons_succ, e1, List.filter_cons, e2, ih]
    simp

theorem ids_apart (f : Ls) : ∀ n, ((allTo f n).map Du.id).Nodup → ∀ i j, i < n → j < n → i ≠ j → ∀ d ∈ f i, ∀ e ∈ f j, d.id ≠ e.id
  | 0, _, i, j, hi, _, _, _, _, _, _ => by omega
  | n + 1, h, i, j, hi, hj, hne, d, hd, e, he => by
    rw [allTo_succ, List.map_append, List.nodup_append] at h
    obtain ⟨h1, _, h3⟩ := h
    by_cases ei : i = n
    · have : j < n := by omega
      subst ei
      exact fun x => h3 e.id (List.mem_map_of_mem ((allTo_mem f e _).2 ⟨j, this, he⟩)) d.id (List.mem_map_of_mem hd) x.symm
    · by_cases ej : j = n
      · have : i < n := by omega
        subst ej
        exact h3 d.id (List.mem_map_of_mem ((allTo_mem f d _).2 ⟨i, this, hd⟩)) e.id (List.mem_map_of_mem he)
      · exact ids_apart f n h1 i j (by omega) (by omega) hne d hd e he

theorem allTo_filter (f : Ls) (q : Du → Bool) (i : Nat) : ∀ n, i < n → (∀ j, j < n → j ≠ i → (f j).filter q = f j) → allTo (upd f i ((f i).filter q)) n = (allTo f n).filter q
  | 0, h, _ => by omega
  | n + 1, h, hq => by
    rw [allTo_succ, allTo_succ, List.filter_append]
    by_cases e : i = n
    · subst e
      rw [allTo_upd_ge f i _ i (Nat.le_refl _), upd_same]
      have : ∀ m, m ≤ i → (allTo f m).filter q = allTo f m := fun m => by
        induction m with
        | zero => intro _; rfl
        | succ m ih => intro hm; rw [allTo_succ, List.filter_append, ih (by omega), hq m (by omega) (by omega)]
      rw [this i (Nat.le_refl _)]
    · rw [allTo_filter f q i n (by omega) (fun j hj => hq j (by omega)), upd_other _ _ _ (fun e2 => e e2.symm), hq n (by omega) (fun e2 => e e2.symm)]

theorem Rep.stop {now : Int} {f : Ls} {book : List Du} (h : Rep f book) (hR : Right now f) {id : Int} {i k k' : Nat} (hi : i < 96) (hk : k < (f i).length) (he : ((f i).getD k default).id = id) (hk' : k' < book.length) (he' : (book.getD k' default).id = id) :
    Rep (upd f i ((f i).eraseIdx k)) (book.eraseIdx k') := by
  have hids := hR.ids
  have hb : (book.map Du.id).Nodup := (h.perm.map Du.id).nodup_iff.1 hids
  have hfi : ((f i).map Du.id).Nodup := List.Nodup.sublist (List.Sublist.map _ (by
    have : ∀ n, i < n → (f i).Sublist (allTo f n) := fun n => by
      induction n with
      | zero => intro h; omega
      | succ n ih =>
        intro hn
        rw [allTo_succ]
        by_cases e : i = n
        · subst e; exact List.sublist_append_right _ _
        · exact (ih (by omega)).trans (List.sublist_append_left _ _)
    exact this 96 hi)) hids
  rw [erase_filter hb hk', erase_filter hfi hk, he, he']
  intro t
  unfold timeL allM
  rw [allTo_filter f _ i 96 hi (fun j hj hne => List.filter_eq_self.2 fun d hd => by
    have := ids_apart f 96 hids j i hj hi hne d hd _ (getD_mem hk)
    rw [he] at this
    simpa using this)]
  have h1 := h t
  unfold timeL allM at h1
  rw [List.filter_filter, List.filter_filter]
  have e : ∀ l : List Du, l.filter (fun a => (a.tm == t) && !(a.id == id)) = (l.filter (fun a => a.tm == t)).filter (fun a => !(a.id == id)) := fun l => by
    rw [List.filter_filter]
    exact List.filter_congr fun d _ => Bool.and_comm _ _
  rw [e, e, h1]

theorem Rep.has {f : Ls} {book : List Du} (h : Rep f book) {d : Du} (hd : d ∈ book) : hasId f d.id := by
  have := h.perm.symm.subset hd
  obtain ⟨i, hi, hd⟩ := (allTo_mem f d 96).1 this
  exact ⟨i, hi, d, hd, rfl⟩
theorem Rep.hasnt {f : Ls} {book : List Du} (h : Rep f book) {id : Int} (hd : ∀ d ∈ book, d.id ≠ id) : ∀ i, i < 96 → ∀ d ∈ f i, d.id ≠ id := fun i hi d hm =>
  hd d (h.perm.subset ((allTo_mem f d 96).2 ⟨i, hi, hm⟩))

theorem Rep.tick {now : Int} {f F : Ls} {n : Nat} {o book : List Du} (h : Rep f book) (hT : TickedR now f n F o) : Rep F (book.filter (fun d => !decide (d.tm ≤ now + n))) := by
  intro t
  rw [List.filter_filter]
  by_cases ht : t ≤ now + n
  · have h1 : timeL F t = [] := by
      rw [timeL_right hT.right]
      refine filter_tm_nil fun d hd e => ?_
      have := (hT.right.each _ (listM_lt _ _) d hd).1
      omega
    rw [h1]
    symm
    rw [List.filter_eq_nil_iff]
    intro d _ hp
    simp at hp
    omega
  · rw [hT.keep t (by omega), h t]
    refine List.filter_congr fun d _ => ?_
    by_cases e : d.tm = t
    · have : decide (d.tm ≤ now + n) = false := decide_eq_false (by omega)
      rw [this]; simp
    · have : (d.tm == t) = false := by simpa using e
      simp [this]

/-- what is due, from the book. -/
theorem dueM_prefix {f : Ls} {now : Int} (m : Nat) : ∀ r, ∃ rest, dueM f now (m + r) = dueM f now m ++ rest
  | 0 => ⟨[], by simp⟩
  | r + 1 => by
    obtain ⟨rest, h⟩ := dueM_prefix m r
    exact ⟨rest ++ timeL f (now + ((m + r : Nat) : Int) + 1), by rw [← Nat.add_assoc, dueM_succ, h, List.append_assoc]⟩
theorem dueM_all {now : Int} {f F : Ls} {n m : Nat} {o : List Du} (hT : TickedR now f n F o) (ho : o = (tickM now f n).2) (hm : m ≤ n) (hl : (allM f).length ≤ (dueM f now m).length) : o = dueM f now m := by
  obtain ⟨r, rfl⟩ := Nat.exists_eq_add_of_le hm
  obtain ⟨rest, h⟩ := dueM_prefix (f := f) (now := now) m r
  have hc := tick_cnt now f (m + r)
  unfold cntM at hc
  rw [← ho] at hc
  rw [hT.out, h] at hc ⊢
  rw [List.length_append] at hc
  have : rest = [] := List.eq_nil_of_length_eq_zero (by omega)
  rw [this, List.append_nil]
theorem dueM_len {f : Ls} {now : Int} (h : Right now f) (n : Nat) (hn : now + n < 16777216) : (dueM f now n).length ≤ 500 := by
  have hT := tick_right h n hn
  have hc := tick_cnt now f n
  unfold cntM at hc
  rw [hT.out] at hc
  have := h.few
  omega
end Go.Proofs.Ytefikkmhdjlccaa
