/- The laws at an operation that has a guard; what Tick leaves, in one form. -/
import Derived.Test.YtefikkmhdjlccaaW15
namespace Go.Proofs.Ytefikkmhdjlccaa
open Go.RowKit

theorem wpList_load_roww {P : Program} {ops : Array Oper} {rest : List Oper} {o : Oper} {a : Act} {w : World} {Q : Exit → Act → World → Prop} (hw : Region.wanted o (yielded ops a.tmps) = true) (ty : TypeId) (x : Operand) (ho : o.op = .load ty x)
    (g : Nat) (hx : a.eval x = .pointer (some ⟨g, 0, none⟩)) (t : TypeId) (cs : Array Value) (fr : Nat × Nat) (d : TypeDesc) (hg : w.heap[g]? = some (.cells cs t fr))
    (hu : P.underlying ty = some d) (hd : (match d with | .struct _ | .array _ _ => true | _ => false) = true) (hi : (P.info? ty).map (·.size) = some cs.size)
    (h : wpList P ops Q rest (a.put o.dst (.agg cs)) w) : wpList P ops Q (o :: rest) a w :=
  BigFrame.wpList_want hw fun _ hK => wp_load_row ty x ho g hx t cs fr d hg hu hd hi (hK _ _ h)

theorem wpList_append_ownTw {P : Program} (w : World) {ops : Array Oper} {rest : List Oper} {o : Oper} {a : Act} {Q : Exit → Act → World → Prop} (hw : Region.wanted o (yielded ops a.tmps) = true) (s x : Operand) (t : TypeId)
    (ho : o.op = .call { callee := .builtin .append, args := #[s, x], argTypes := #[t, t] })
    (base : Nat) (e : TypeId) (z : Value) (size bytes : Nat) (T : Nat → Value → Prop) (ht : P.underlying t = some (.slice e)) (hinfo : (P.info? e).map (fun i => (i.zero, i.size, i.bytes)) = some (some z, size, bytes)) (hzs : z.cells.size = size) (hsz : 0 < size) (hzT : ∀ j u, z.cells[j]? = some u → T j u)
    (v : Value) (n : Nat) (xs : List Value) (hs : a.eval s = v) (hown : OwnsT w base e size T v n xs)
    (ao : Option Addr) (m c : Nat) (news : List Value) (hx : a.eval x = .slice ao m c) (hl : news.length = m * size) (hao : ao = none → m = 0 ∧ c = 0) (hnews : ∀ a, ao = some a → ∀ j u, news[j]? = some u → w.cell? (a.add j) = some u) (h1 : ∀ u ∈ news, u.oneCell' = true) (hnT : ∀ j u, news[j]? = some u → T (j % size) u)
    (h63 : n + m ≤ maxLen) (hbytes : (n + m) * bytes ≤ 140737488355328) (hbase : base ≤ w.heap.size)
    (h : ∀ v' w', OwnsT w' base e size T v' (n + m) (xs ++ news) → w.grownBy w' v.ownBlock → (v' = .slice none 0 0 ↔ v = .slice none 0 0 ∧ m = 0) → (v'.ownBlock = v.ownBlock ∨ v'.ownBlock = some w.heap.size) → wpList P ops Q rest (a.put o.dst v') w') : wpList P ops Q (o :: rest) a w := by
  obtain ⟨i, hi, hz, hs1, hs2⟩ := info_parts hinfo
  obtain ⟨v', w', hr, h2, h3, h4, h5⟩ := run_append_ownT (P := P) w base t o.type e i z size bytes T ht hi hz hs1 hs2 hzs hsz hzT v n xs hown ao m c news hl hao hnews h1 hnT h63 hbytes hbase
  refine BigFrame.wpList_want hw fun K hK' => ?_
  unfold Oper.wp execOp
  simp only [ho, resolve, invoke, builtin, Sem.run_bind, Sem.run_pure, Result.andThen_ok, List.map_toArray, List.map_cons, List.map_nil, hs, hx, hr]
  exact hK' _ _ (h v' w' h2 h3 h4 h5)

/-! what holds of all things stays so -/
def allP (P : Du → Prop) (f : Ls) : Prop := ∀ i, i < 96 → ∀ d ∈ f i, P d
theorem put1_all {P : Du → Prop} {now : Int} {s : Ls × List Du} {d : Du} (h : allP P s.1 ∧ ∀ x ∈ s.2, P x) (hd : P d) : allP P (put1 now s d).1 ∧ ∀ x ∈ (put1 now s d).2, P x := by
  unfold put1
  split
  · refine ⟨h.1, fun x hx => ?_⟩
    simp only [List.mem_append, List.mem_singleton] at hx
    rcases hx with hx | rfl
    · exact h.2 x hx
    · exact hd
  · exact ⟨fun i hi x hx => ok_of_mem (P := P) h.1 hd i hi x hx, h.2⟩
theorem fold_all {P : Du → Prop} {now : Int} : ∀ (l : List Du) (s : Ls × List Du), (allP P s.1 ∧ ∀ x ∈ s.2, P x) → (∀ d ∈ l, P d) → allP P (l.foldl (put1 now) s).1 ∧ ∀ x ∈ (l.foldl (put1 now) s).2, P x
  | [], _, h, _ => h
  | d :: l, s, h, hl => fold_all l (put1 now s d) (put1_all h (hl d (by simp))) (fun x hx => hl x (by simp [hx]))
theorem round_all {P : Du → Prop} {now : Int} {k : Nat} {s : Ls × List Du} (hk : k ≤ 5) (h : allP P s.1 ∧ ∀ x ∈ s.2, P x) : allP P (roundM now k s).1 ∧ ∀ x ∈ (roundM now k s).2, P x := by
  unfold roundM
  split
  · refine fold_all _ _ ⟨fun j hj x hx => ?_, h.2⟩ (h.1 _ (idxM_lt now k hk))
    by_cases e : j = idxM now k
    · subst e; simp only [upd_same] at hx; cases hx
    · simp only [upd_other _ _ _ e] at hx; exact h.1 j hj x hx
  · exact h
theorem rounds_all {P : Du → Prop} {now : Int} : ∀ (k : Nat) (s : Ls × List Du), k ≤ 6 → (allP P s.1 ∧ ∀ x ∈ s.2, P x) → allP P (roundsM now k s).1 ∧ ∀ x ∈ (roundsM now k s).2, P x
  | 0, _, _, h => h
  | k + 1, s, hk, h => rounds_all k _ (by omega) (round_all (by omega) h)
theorem turn_all {P : Du → Prop} {now : Int} {f : Ls} (h : allP P f) : allP P (turnM now f).1 ∧ ∀ x ∈ (turnM now f).2, P x := rounds_all 6 _ (Nat.le_refl _) ⟨h, fun x hx => by cases hx⟩
theorem tick_all {P : Du → Prop} {now : Int} {f : Ls} (h : allP P f) : ∀ n, allP P (tickM now f n).1 ∧ ∀ x ∈ (tickM now f n).2, P x
  | 0 => ⟨h, fun x hx => by cases hx⟩
  | n + 1 => by
    have h1 := tick_all h n (now := now)
    have h2 := turn_all (now := now + n + 1) h1.1
    rw [tickM]
    refine ⟨h2.1, fun x hx => ?_⟩
    rw [List.mem_append] at hx
    rcases hx with hx | hx
    · exact h1.2 x hx
    · exact h2.2 x hx

def wfD (d : Du) : Prop := (Lit.int .i64 d.id).wf = true

/-- what Tick leaves, in one form. -/
structure Ticked (now : Int) (f : Ls) (n : Int) (w : World) (e : Ending) (w' : World) (now' : Int) (V' : Nat → Value) (f' : Ls) (a : Option Addr) (c : Nat) (o : List Du) (r : Int) : Prop where
  below : Below w.heap.size w w'
  res : e = .returned (.tuple #[.agg (Cw now' V'), .slice a o.length c, .int .i64 r])
  own : Own w' w.heap.size 97 (upd V' 96 (.slice a o.length c)) (slots (f', o) [])
  len : ∀ i, i < 96 → (f' i).length ≤ 8796093022208
  wf : allP wfD f'
  few : o.length ≤ 500
  ok : r = 0 → tickOk now f n ∧ now' = now + n ∧ f' = (tickM now f n.toNat).1 ∧ o = (tickM now f n.toNat).2
  no : r ≠ 0 → ¬ tickOk now f n

theorem TickEnd.form {now n : Int} {f : Ls} {w w' : World} {e : Ending} (h : TickEnd now f n w e w') (hwf : allP wfD f) : ∃ now' V' f' a c o r, Ticked now f n w e w' now' V' f' a c o r := by
  obtain ⟨hb, ⟨hno, r, hr, rfl⟩ | ⟨hok, V, rfl, ho⟩⟩ := h
  · refine ⟨0, nilV, fun _ => [], none, 0, [], r, hb, rfl, ?_, fun _ _ => by simp, fun _ _ d hd => by simp at hd, by simp, fun h => absurd h hr, fun _ => hno⟩
    refine (Own.zero w' w.heap.size 97).ext (fun i hi => ?_) (fun i hi => ?_)
    · by_cases e : i = 96
      · subst e; rw [upd_same]; rfl
      · rw [upd_other _ _ _ e]
    · unfold slots; split
      · rfl
      · split <;> rfl
  · have hc := tick_cnt now f n.toNat
    have hfew := hok.1.few
    have hall := tick_all hwf n.toNat (now := now)
    have h96 := ho.each 96 (by omega)
    rw [slots_96] at h96
    obtain ⟨a, c, hv⟩ := h96.shape
    unfold cntM at hc
    refine ⟨now + n, V, (tickM now f n.toNat).1, a, c, (tickM now f n.toNat).2, 0, hb, by rw [hv], ?_, set_len (by omega), hall.1, by omega, fun _ => ⟨hok, rfl, rfl, rfl⟩, fun h => absurd rfl h⟩
    refine ho.ext (fun i hi => ?_) (fun i hi => rfl)
    by_cases e : i = 96
    · subst e; rw [upd_same, hv]
    · rw [upd_other _ _ _ e]

section
variable {now n : Int} {f : Ls} {w w' : World} {e : Ending} {now' : Int} {V' : Nat → Value} {f' : Ls} {a : Option Addr} {c : Nat} {o : List Du} {r : Int}
theorem Ticked.lists (h : Ticked now f n w e w' now' V' f' a c o r) : Own w' w.heap.size 96 V' f' :=
  (h.own.less (M := 96) (by omega)).ext (fun i hi => (upd_other _ _ _ (by omega)).symm) (fun i hi => (slots_lt (f', o) [] hi).symm)
theorem Ticked.out (h : Ticked now f n w e w' now' V' f' a c o r) : OwnD w' w.heap.size (.slice a o.length c) o := by
  have := h.own.each 96 (by omega)
  rwa [upd_same, slots_96] at this
end
end Go.Proofs.Ytefikkmhdjlccaa
