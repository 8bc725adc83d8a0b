/- Check: what its walk carries along. No walk. -/
import Derived.Test.YtefikkmhdjlccaaW7
import Derived.Maps.OwnOps
import Derived.Maps.Views
namespace Go.Proofs.Ytefikkmhdjlccaa
open Go.RowKit Go.Maps

theorem law3 : Keyed Try.prog 3 := int_keyed Try.underlying3
theorem zero3 (w : World) : (zeroValue 3).run Try.prog w = .ok (.int .i64 0) w := by kernel_rfl

def idL (d : Du) : Lit := .int .i64 d.id
/-- the map of Ids that have been seen, each once. -/
def seenM (l : List Du) : DataW Unit := setOf (.lit (.int .i64 1)) (l.map idL)
theorem seenM_snoc (l : List Du) (d : Du) : seenM (l ++ [d]) = (seenM l).put (idL d) (.lit (.int .i64 1)) := by
  unfold seenM; rw [List.map_append]; exact setOf_snoc _ _ _

theorem isKey (d : Du) : WideAt.IsKeyLit (idL d) := by unfold idL; trivial
theorem idL_keys (l : List Du) : ∀ x ∈ l.map idL, WideAt.IsKeyLit x := by
  intro x hx
  obtain ⟨d, _, rfl⟩ := List.mem_map.1 hx
  exact isKey d
theorem seenM_isMap (l : List Du) : IsMap (seenM l) := (tidy_setOf _ _ (idL_keys l)).isMap

theorem seen_new (l : List Du) (d : Du) (h : d.id ∉ l.map Du.id) (z : DataW Unit) : (seenM l).atKey (idL d) z = z := by
  apply atKey_of_not_has
  unfold seenM
  rw [has_setOf _ _ _ (idL_keys l)]
  rw [List.any_eq_false]
  intro x hx
  obtain ⟨y, hy, rfl⟩ := List.mem_map.1 hx
  rw [sameKey_ne]
  · simp
  · intro e
    apply h
    have : y.id = d.id := by simpa [idL] using e
    exact List.mem_map.2 ⟨y, hy, this⟩
theorem seen_fold (d : Du) (z : DataW Unit) : ∀ (l : List Du) (m : DataW Unit), IsMap m → (d.id ∈ l.map Du.id ∨ m.atKey (idL d) z = .lit (.int .i64 1)) → ((l.map idL).foldl (fun m x => m.put x (.lit (.int .i64 1))) m).atKey (idL d) z = .lit (.int .i64 1)
  | [], _, _, h => by rcases h with h | h
                      · simp at h
                      · exact h
  | x :: l, m, hm, h => by
    rw [List.map_cons, List.foldl_cons]
    refine seen_fold d z l _ (hm.put _ _) ?_
    by_cases e : x.id = d.id
    · right
      have : idL x = idL d := by unfold idL; rw [e]
      rw [this]
      exact atKey_put_same hm (isKey d) _ _
    · have hne : idL d ≠ idL x := by unfold idL; intro h2; simp at h2; exact e h2.symm
      rcases h with h | h
      · rw [List.map_cons, List.mem_cons] at h
        rcases h with h | h
        · exact absurd h.symm e
        · exact .inl h
      · right
        rw [atKey_put_other hne]; exact h
theorem seen_old (d : Du) (z : DataW Unit) (l : List Du) (h : d.id ∈ l.map Du.id) : (seenM l).atKey (idL d) z = .lit (.int .i64 1) := seen_fold d z l _ isMap_empty (.inl h)

theorem c31' (now tm : Int) (w : World) (h0 : 0 ≤ now) (h1 : now < tm) (h2 : tm < 16777216) : Calls Try.prog 31 #[.int .i64 now, .int .i64 tm] w fun e w' => e = .returned (.int .i64 ((listM now tm : Nat) : Int)) ∧ w = w' := by
  obtain ⟨a, rfl⟩ := Int.eq_ofNat_of_zero_le h0
  obtain ⟨b, rfl⟩ := Int.eq_ofNat_of_zero_le (show 0 ≤ tm by omega)
  exact c31 a b w (by omega) (by omega) (by omega)

def goodD (now : Int) (i : Nat) (d : Du) : Prop := now < d.tm ∧ d.tm < 16777216 ∧ listM now d.tm = i
structure GoodTo (now : Int) (f : Ls) (k j : Nat) : Prop where
  old : ∀ i, i < k → ∀ d ∈ f i, goodD now i d
  cur : ∀ d ∈ (f k).take j, goodD now k d
  ids : ((allTo f k ++ (f k).take j).map Du.id).Nodup

theorem GoodTo.zero (now : Int) (f : Ls) : GoodTo now f 0 0 := ⟨fun i h => by omega, fun d h => by simp at h, by simp [allTo]⟩
theorem take_snoc {l : List Du} {j : Nat} (hj : j < l.length) : l.take (j + 1) = l.take j ++ [l.getD j default] := by
  rw [List.take_succ_eq_append_getElem hj]; simp [List.getD, hj]
theorem GoodTo.step {now : Int} {f : Ls} {k j : Nat} (h : GoodTo now f k j) (hj : j < (f k).length) (hg : goodD now k ((f k).getD j default)) (hn : ((f k).getD j default).id ∉ (allTo f k ++ (f k).take j).map Du.id) : GoodTo now f k (j + 1) := by
  refine ⟨h.old, fun d hd => ?_, ?_⟩
  · rw [take_snoc hj, List.mem_append, List.mem_singleton] at hd
    rcases hd with hd | rfl
    · exact h.cur d hd
    · exact hg
  · rw [take_snoc hj, ← List.append_assoc, List.map_append, List.nodup_append]
    refine ⟨h.ids, by simp, fun a ha b hb => ?_⟩
    simp at hb
    rintro rfl
    rw [hb] at ha
    exact hn ha
theorem GoodTo.next {now : Int} {f : Ls} {k : Nat} (h : GoodTo now f k (f k).length) : GoodTo now f (k + 1) 0 := by
  refine ⟨fun i hi d hd => ?_, fun d hd => by simp at hd, ?_⟩
  · by_cases e : i = k
    · subst e; exact h.cur d (by rw [List.take_of_length_le (Nat.le_refl _)]; exact hd)
    · exact h.old i (by omega) d hd
  · have := h.ids
    rw [List.take_of_length_le (Nat.le_refl _)] at this
    rw [allTo_succ]
    simpa using this
theorem GoodTo.right {now : Int} {f : Ls} (h : GoodTo now f 96 0) (hf : (allM f).length ≤ 500) (h0 : 0 ≤ now) (h1 : now < 16777216) : Right now f :=
  ⟨hf, h0, h1, h.old, by have := h.ids; simpa [allM] using this⟩
theorem right_not {now : Int} {f : Ls} {k j : Nat} (hk : k < 96) (hj : j < (f k).length) (h : ¬ goodD now k ((f k).getD j default)) : ¬ Right now f :=
  fun R => h (R.each k hk _ (getD_mem hj))
theorem right_twice {now : Int} {f : Ls} {k j : Nat} (hk : k < 96) (hj : j < (f k).length) (h : ((f k).getD j default).id ∈ (allTo f k ++ (f k).take j).map Du.id) : ¬ Right now f := by
  intro R
  have key : ∀ n, k < n → n ≤ 96 → ∃ r, allTo f n = allTo f k ++ (f k).take j ++ [(f k).getD j default] ++ r := by
    intro n hn
    induction n with
    | zero => omega
    | succ n ih =>
      intro h96
      by_cases e : k = n
      · subst e
        refine ⟨(f k).drop (j + 1), ?_⟩
        rw [allTo_succ, List.append_assoc, List.append_assoc, ← List.append_assoc ((f k).take j), ← take_snoc hj, List.take_append_drop]
      · obtain ⟨r, hr⟩ := ih (by omega) (by omega)
        exact ⟨r ++ f n, by rw [allTo_succ, hr, List.append_assoc]⟩
  obtain ⟨r, hr⟩ := key 96 hk (Nat.le_refl _)
  have := R.ids
  unfold allM at this
  rw [hr, List.map_append, List.nodup_append] at this
  have := this.1
  rw [List.map_append, List.nodup_append] at this
  exact this.2.2 _ h _ (by simp) rfl

def CheckEnd (now : Int) (f : Ls) (w : World) (e : Ending) (w' : World) : Prop := (∃ r : Int, e = .returned (.int .i64 r) ∧ (r = 0 ↔ Right now f)) ∧ Below w.heap.size w w'
theorem check_bad {now : Int} {f : Ls} {w w' : World} {r : Int} (hr : r ≠ 0) (h : ¬ Right now f) (hb : Below w.heap.size w w') : CheckEnd now f w (.returned (.int .i64 r)) w' :=
  ⟨⟨r, rfl, fun e => absurd e hr, fun R => absurd R h⟩, hb⟩
theorem allTo_mono (f : Ls) {k n : Nat} (h : k ≤ n) : (allTo f k).length ≤ (allTo f n).length := by
  induction n with
  | zero => obtain rfl : k = 0 := by omega
            exact Nat.le_refl _
  | succ n ih =>
    by_cases e : k = n + 1
    · rw [e]; exact Nat.le_refl _
    · have := ih (by omega)
      rw [allTo_succ, List.length_append]; omega
end Go.Proofs.Ytefikkmhdjlccaa
