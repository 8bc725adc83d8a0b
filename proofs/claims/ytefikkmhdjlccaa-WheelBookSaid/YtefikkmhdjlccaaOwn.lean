/-
  A slice that the call itself made, all of whose cells (spare ones too) are of a known kind: what append and a store do to it. No program in sight.
-/
import Derived.WalkKit
import Derived.Lib.Hide
namespace Go.Proofs.Ytefikkmhdjlccaa
open Go.RowKit

/-- the slice v of n elements owns a row of block number at least base, its first cells are xs, and each cell, the spare ones too, meets T at its place in its element. -/
def OwnsT (w : World) (base : Nat) (e : TypeId) (size : Nat) (T : Nat → Value → Prop) (v : Value) (n : Nat) (xs : List Value) : Prop :=
  xs.length = n * size ∧
  ((v = .slice none 0 0 ∧ n = 0) ∨
   ∃ g cap cur, v = .slice (some ⟨g, 0, none⟩) n cap ∧ base ≤ g ∧ w.heap[g]? = some (.cells cur e (0, 0)) ∧ n ≤ cap ∧ cap ≤ maxLen ∧ cur.size = cap * size ∧ cur.toList.take (n * size) = xs ∧ ∀ j u, cur[j]? = some u → T (j % size) u)

section
variable {w : World} {base : Nat} {e : TypeId} {size : Nat} {T : Nat → Value → Prop} {v : Value} {n : Nat} {xs : List Value}

theorem OwnsT.row (h : OwnsT w base e size T v n xs) : w.ownsRow base e size v n xs := by
  obtain ⟨h1, h2 | ⟨g, cap, cur, a1, a2, a3, a4, a5, a6, a7, a8⟩⟩ := h
  · exact ⟨h1, .inl h2⟩
  · exact ⟨h1, .inr ⟨g, cap, cur, a1, a2, a3, a4, a5, a6, a7⟩⟩

theorem OwnsT.nil (w : World) (base : Nat) (e : TypeId) (size : Nat) (T : Nat → Value → Prop) : OwnsT w base e size T (.slice none 0 0) 0 [] := ⟨by simp, .inl ⟨rfl, rfl⟩⟩

theorem OwnsT.base_le (h : OwnsT w base e size T v n xs) {base' : Nat} (hb : base' ≤ base) : OwnsT w base' e size T v n xs := by
  obtain ⟨h1, h2 | ⟨g, cap, cur, a1, a2, a3⟩⟩ := h
  · exact ⟨h1, .inl h2⟩
  · exact ⟨h1, .inr ⟨g, cap, cur, a1, by omega, a3⟩⟩

/-- a block that is known whole. -/
theorem OwnsT.of_block {g cap : Nat} {cur : Array Value} (hb : base ≤ g) (hg : w.heap[g]? = some (.cells cur e (0, 0))) (hn : n ≤ cap) (hm : cap ≤ maxLen) (hs : cur.size = cap * size) (hT : ∀ j u, cur[j]? = some u → T (j % size) u) :
    OwnsT w base e size T (.slice (some ⟨g, 0, none⟩) n cap) n (cur.toList.take (n * size)) := by
  refine ⟨?_, .inr ⟨g, cap, cur, rfl, hb, hg, hn, hm, hs, rfl, hT⟩⟩
  rw [List.length_take, Array.length_toList, hs]
  exact Nat.min_eq_left (Nat.mul_le_mul_right _ hn)

theorem OwnsT.lt (h : OwnsT w base e size T v n xs) : ∀ k, v.ownBlock = some k → base ≤ k ∧ k < w.heap.size := h.row.lt

/-- it stays so where its block is as it was. -/
theorem OwnsT.of_same {w' : World} (h : OwnsT w base e size T v n xs) (hk : ∀ k, v.ownBlock = some k → w'.heap[k]? = w.heap[k]?) : OwnsT w' base e size T v n xs := by
  obtain ⟨h1, h2 | ⟨g, cap, cur, rfl, a2, a3, r⟩⟩ := h
  · exact ⟨h1, .inl h2⟩
  · exact ⟨h1, .inr ⟨g, cap, cur, rfl, a2, by rw [hk g rfl]; exact a3, r⟩⟩

theorem OwnsT.below {w' : World} (h : OwnsT w base e size T v n xs) {B : Nat} (hb : Below B w w') (hB : w.heap.size ≤ B) : OwnsT w' base e size T v n xs :=
  h.of_same fun k hk => hb.block k (by have := (h.lt k hk).2; omega)

theorem OwnsT.grown {w' : World} {row : Option Nat} (h : OwnsT w base e size T v n xs) (hg : w.grownBy w' row) (hne : ∀ k, v.ownBlock = some k → some k ≠ row) : OwnsT w' base e size T v n xs :=
  h.of_same fun k hk => hg.block k (h.lt k hk).2 (hne k hk)

theorem OwnsT.alloc (h : OwnsT w base e size T v n xs) (o : Obj) : OwnsT (w.alloc o) base e size T v n xs :=
  h.of_same fun k hk => Below.heap_alloc _ _ _ (h.lt k hk).2

theorem OwnsT.setCell_other (h : OwnsT w base e size T v n xs) {a : Addr} (ha : v.ownBlock ≠ some a.block) (u : Value) : OwnsT (w.setCell a u) base e size T v n xs :=
  h.of_same fun k hk => Below.heap_setCell _ _ _ _ (fun e => ha (by rw [hk, e]))

theorem OwnsT.drew (h : OwnsT w base e size T v n xs) : OwnsT w.drew base e size T v n xs := h
end

theorem zeroCells_get (z : Array Value) (m j : Nat) (u : Value) (h : (Builtin.zeroCells z m)[j]? = some u) : z[j % z.size]? = some u := by
  simp only [Builtin.zeroCells, Array.getElem?_map, Array.getElem?_range] at h
  split at h
  · rename_i hj
    have hz : 0 < z.size := by
      rcases Nat.eq_zero_or_pos z.size with h0 | h0
      · rw [h0] at hj; simp at hj
      · exact h0
    have hlt : j % z.size < z.size := Nat.mod_lt _ hz
    simp at h
    rw [← h]
    simp [hlt]
  · simp at h

section
variable {P : Program} (w : World)

/-- append of m elements whose cells are news onto an owned slice. What is appended may be nil where m is 0. -/
theorem run_append_ownT (base : Nat) (t ty e : TypeId) (i : TypeInfo) (z : Value) (size bytes : Nat) (T : Nat → Value → Prop) (ht : P.underlying t = some (.slice e)) (hi : P.info? e = some i) (hz : i.zero = some z)
    (hsize : i.size = size) (hby : i.bytes = bytes) (hzs : z.cells.size = size) (hsz : 0 < size) (hzT : ∀ j u, z.cells[j]? = some u → T j u)
    (v : Value) (n : Nat) (xs : List Value) (hown : OwnsT w base e size T v n xs)
    (ao : Option Addr) (m c : Nat) (news : List Value) (hl : news.length = m * size) (hao : ao = none → m = 0 ∧ c = 0) (hnews : ∀ a, ao = some a → ∀ j u, news[j]? = some u → w.cell? (a.add j) = some u) (h1 : ∀ u ∈ news, u.oneCell' = true) (hnT : ∀ j u, news[j]? = some u → T (j % size) u)
    (h63 : n + m ≤ maxLen) (hbytes : (n + m) * bytes ≤ 140737488355328) (hbase : base ≤ w.heap.size) :
    ∃ v' w', (Builtin.append_ #[t, t] ty #[v, .slice ao m c]).run P w = .ok v' w' ∧ OwnsT w' base e size T v' (n + m) (xs ++ news) ∧ w.grownBy w' v.ownBlock ∧
      (v' = .slice none 0 0 ↔ v = .slice none 0 0 ∧ m = 0) ∧ (v'.ownBlock = v.ownBlock ∨ v'.ownBlock = some w.heap.size) := by
  cases ao with
  | none =>
    obtain ⟨rfl, rfl⟩ := hao rfl
    obtain rfl : news = [] := List.eq_nil_of_length_eq_zero (by simpa using hl)
    refine ⟨v, w, run_append_owned_none w base t ty e i size ht hi v n xs hown.row, by simpa using hown, ⟨rfl, rfl, rfl, Nat.le_refl _, fun _ _ _ => rfl⟩, by simp, .inl rfl⟩
  | some a =>
  have hnews := hnews a rfl
  clear hao
  subst hsize
  subst hby
  have hsmall : n + m ≤ 9223372036854775807 := by simp only [maxLen] at h63; omega
  have hlen : (xs ++ news).length = (n + m) * i.size := by rw [List.length_append, hown.1, hl, Nat.add_mul]
  have hxT : ∀ j u, xs[j]? = some u → T (j % i.size) u := by
    intro j u hu
    rcases hown.2 with ⟨_, rfl⟩ | ⟨g, cap, cur, _, _, _, _, _, _, htake, hT⟩
    · have : xs = [] := List.eq_nil_of_length_eq_zero (by simpa using hown.1)
      subst this; simp at hu
    · rw [← htake, List.getElem?_take] at hu
      split at hu
      · exact hT j u (by simpa using hu)
      · cases hu
  have hnT2 : ∀ j u, (xs ++ news)[j]? = some u → T (j % i.size) u := by
    intro j u hu
    rw [List.getElem?_append] at hu
    split at hu
    · exact hxT j u hu
    · rename_i hge
      have := hnT (j - xs.length) u hu
      rw [hown.1] at this hge
      rwa [show (j - n * i.size) % i.size = j % i.size from by
        have e : j = (j - n * i.size) + n * i.size := by omega
        conv => rhs; rw [e]
        rw [Nat.add_mul_mod_self_right]] at this
  have grown : ∀ (old : Nat), old < n + m → ∀ (row : Option Nat),
      OwnsT (w.drew.alloc (.cells (xs.toArray ++ news.toArray ++ Builtin.zeroCells z.cells (grownCap w (n + m) old e - (n + m))) e)) base e i.size T
        (.slice (some ⟨w.heap.size, 0, none⟩) (n + m) (grownCap w (n + m) old e)) (n + m) (xs ++ news) ∧
      w.grownBy (w.drew.alloc (.cells (xs.toArray ++ news.toArray ++ Builtin.zeroCells z.cells (grownCap w (n + m) old e - (n + m))) e)) row := by
    intro old ho row
    have hge := grownCap_ge w (n + m) old e
    have hcm : grownCap w (n + m) old e ≤ maxLen := grownCap_le_maxLen w (n + m) old e h63
    refine ⟨⟨hlen, .inr ⟨w.heap.size, _, _, rfl, hbase, heap_alloc_new w.drew _, hge, hcm, ?_, ?_, ?_⟩⟩, ⟨rfl, rfl, rfl, by simp, fun k hk _ => Below.heap_alloc w.drew _ k hk⟩⟩
    · simp only [Array.size_append, List.size_toArray, size_zeroCells, hzs, hown.1, hl, ← Nat.add_mul]
      congr 1
      omega
    · simp only [Array.toList_append, List.append_assoc]
      rw [← List.append_assoc, ← hlen]
      exact List.take_left
    · intro j u hu
      rw [Array.getElem?_append] at hu
      split at hu
      · exact hnT2 j u (by simpa using hu)
      · have hz' := zeroCells_get _ _ _ _ hu
        rw [hzs] at hz'
        have := hzT _ _ hz'
        have hsz2 : (xs.toArray ++ news.toArray).size = (n + m) * i.size := by simpa using hlen
        rw [hsz2] at this
        rename_i hge
        rw [hsz2] at hge
        rwa [show (j - (n + m) * i.size) % i.size = j % i.size from by
          have e : j = (j - (n + m) * i.size) + (n + m) * i.size := by omega
          conv => rhs; rw [e]
          rw [Nat.add_mul_mod_self_right]] at this
  have hown2 := hown.2
  rcases hown2 with ⟨rfl, rfl⟩ | ⟨g, cap, cur, rfl, hbg, hg, hnc, hcm, hcs, htake, hT⟩
  · have hx : xs = [] := List.eq_nil_of_length_eq_zero (by simpa using hown.1)
    subst hx
    by_cases hm : m = 0
    · subst hm
      have hn : news = [] := List.eq_nil_of_length_eq_zero (by simpa using hl)
      subst hn
      refine ⟨.slice none 0 0, w, ?_, OwnsT.nil w base e i.size T, ⟨rfl, rfl, rfl, Nat.le_refl _, fun _ _ _ => rfl⟩, by simp, .inl rfl⟩
      simp [Builtin.append_, run_underlying ht, sizeOf, typeInfo, hi, Builtin.lenOf, Builtin.firstCells, loadCells, loadCellsFrom]
    · have hr := run_append_nil (P := P) w t ty e i z ht hi hz a m c news hl hnews (by omega) (by omega) (by have hb := hbytes; simp only [Nat.zero_add] at hb; omega)
      have hgr := grown 0 (by omega) (Value.ownBlock (.slice none 0 0))
      simp only [Nat.zero_add, List.nil_append, Array.empty_append] at hgr ⊢
      exact ⟨_, _, hr, hgr.1, hgr.2, by simp [hm], .inr rfl⟩
  · by_cases hroom : n + m ≤ cap
    · have hfit : n * i.size + news.length ≤ cur.size := by rw [hl, hcs, ← Nat.add_mul]; exact Nat.mul_le_mul_right _ hroom
      have hr := run_append_room (P := P) w t ty e i ht hi g n cap cur hg a m c news hl hnews h1 hroom hfit
      refine ⟨_, _, hr, ⟨hlen, .inr ⟨g, cap, _, rfl, hbg, setRow_heap w g cur _ e _ hg, hroom, hcm, ?_, ?_, ?_⟩⟩, ⟨rfl, rfl, rfl, by simp, fun k _ hk => setRow_other w g k _ (fun e => hk (by simp [Value.ownBlock, e]))⟩, by simp, .inl rfl⟩
      · simp only [List.size_toArray, List.length_append, List.length_take, List.length_drop, Array.length_toList]
        omega
      · rw [htake, ← hlen]
        exact List.take_left
      · intro j u hu
        simp only [htake] at hu
        rw [List.getElem?_toArray, List.getElem?_append] at hu
        split at hu
        · exact hnT2 j u hu
        · rename_i hge
          have hl2 : (xs ++ news).length = n * i.size + news.length := by rw [List.length_append, hown.1]
          rw [List.getElem?_drop, hl2] at hu
          rw [hl2] at hge
          rw [show n * i.size + news.length + (j - (n * i.size + news.length)) = j from by omega] at hu
          exact hT j u (by simpa using hu)
    · have holds : ∀ j u, xs[j]? = some u → w.cell? ((⟨g, 0, none⟩ : Addr).add j) = some u := hown.row.cells (g := g) rfl
      have hr := run_append_grow (P := P) w t ty e i z ht hi hz ⟨g, 0, none⟩ n cap xs hown.1 holds a m c news hl hnews (by omega) (by omega) (growslice_fits (by omega) hbytes)
      have hgr := grown cap (by omega) (Value.ownBlock (.slice (some ⟨g, 0, none⟩) n cap))
      exact ⟨_, _, hr, hgr.1, hgr.2, by simp, .inr rfl⟩

end

/-- the same as a step of the walk. -/
theorem wpList_append_ownT {P : Program} (w : World) {ops : Array Oper} {rest : List Oper} {o : Oper} {a : Act} {Q : Exit → Act → World → Prop} (hgd : o.guard = none) (s x : Operand) (t : TypeId)
    (ho : o.op = .call { callee := .builtin .append, args := #[s, x], argTypes := #[t, t] })
    (base : Nat) (e : TypeId) (z : Value) (size bytes : Nat) (T : Nat → Value → Prop) (ht : P.underlying t = some (.slice e)) (hinfo : (P.info? e).map (fun i => (i.zero, i.size, i.bytes)) = some (some z, size, bytes)) (hzs : z.cells.size = size) (hsz : 0 < size) (hzT : ∀ j u, z.cells[j]? = some u → T j u)
    (v : Value) (n : Nat) (xs : List Value) (hs : a.eval s = v) (hown : OwnsT w base e size T v n xs)
    (ao : Option Addr) (m c : Nat) (news : List Value) (hx : a.eval x = .slice ao m c) (hl : news.length = m * size) (hao : ao = none → m = 0 ∧ c = 0) (hnews : ∀ a, ao = some a → ∀ j u, news[j]? = some u → w.cell? (a.add j) = some u) (h1 : ∀ u ∈ news, u.oneCell' = true) (hnT : ∀ j u, news[j]? = some u → T (j % size) u)
    (h63 : n + m ≤ maxLen) (hbytes : (n + m) * bytes ≤ 140737488355328) (hbase : base ≤ w.heap.size)
    (h : ∀ v' w', OwnsT w' base e size T v' (n + m) (xs ++ news) → w.grownBy w' v.ownBlock → (v' = .slice none 0 0 ↔ v = .slice none 0 0 ∧ m = 0) → (v'.ownBlock = v.ownBlock ∨ v'.ownBlock = some w.heap.size) → wpList P ops Q rest (a.put o.dst v') w') : wpList P ops Q (o :: rest) a w := by
  obtain ⟨i, hi, hz, hs1, hs2⟩ := info_parts hinfo
  obtain ⟨v', w', hr, h2, h3, h4, h5⟩ := run_append_ownT (P := P) w base t o.type e i z size bytes T ht hi hz hs1 hs2 hzs hsz hzT v n xs hown ao m c news hl hao hnews h1 hnT h63 hbytes hbase
  refine wpList_plain hgd fun K hK' => ?_
  unfold Oper.wp execOp
  simp only [ho, resolve, invoke, builtin, Sem.run_bind, Sem.run_pure, Result.andThen_ok, List.map_toArray, List.map_cons, List.map_nil, hs, hx, hr]
  exact hK' _ _ (h v' w' h2 h3 h4 h5)

/-- the same as a step of a region that draws its order: the new block's number is a letter H. -/
theorem step_append_ownT {P : Program} (w : World) {ops : Array Oper} {o : Oper} {a : Act} {K : Act → World → Prop} {Q : Exit → Act → World → Prop} {E : Prop} (hgd : o.guard = none) (s x : Operand) (t : TypeId)
    (ho : o.op = .call { callee := .builtin .append, args := #[s, x], argTypes := #[t, t] })
    (base : Nat) (e : TypeId) (z : Value) (size bytes : Nat) (T : Nat → Value → Prop) (ht : P.underlying t = some (.slice e)) (hinfo : (P.info? e).map (fun i => (i.zero, i.size, i.bytes)) = some (some z, size, bytes)) (hzs : z.cells.size = size) (hsz : 0 < size) (hzT : ∀ j u, z.cells[j]? = some u → T j u)
    (v : Value) (n : Nat) (xs : List Value) (hs : a.eval s = v) (hown : OwnsT w base e size T v n xs)
    (ao : Option Addr) (m c : Nat) (news : List Value) (hx : a.eval x = .slice ao m c) (hl : news.length = m * size) (hao : ao = none → m = 0 ∧ c = 0) (hnews : ∀ a, ao = some a → ∀ j u, news[j]? = some u → w.cell? (a.add j) = some u) (h1 : ∀ u ∈ news, u.oneCell' = true) (hnT : ∀ j u, news[j]? = some u → T (j % size) u)
    (h63 : n + m ≤ maxLen) (hbytes : (n + m) * bytes ≤ 140737488355328) (hbase : base ≤ w.heap.size)
    (h : ∀ v' w', OwnsT w' base e size T v' (n + m) (xs ++ news) → w.grownBy w' v.ownBlock → (v' = .slice none 0 0 ↔ v = .slice none 0 0 ∧ m = 0) → (v'.ownBlock = v.ownBlock ∨ v'.ownBlock = some w.heap.size) → K (a.put o.dst v') w') :
    if Region.wanted o (yielded ops a.tmps) = true then Oper.wp P o a w K Q else E := by
  have hw : Region.wanted o (yielded ops a.tmps) = true := by simp [Region.wanted, hgd]
  rw [if_pos hw]
  obtain ⟨i, hi, hz, hs1, hs2⟩ := info_parts hinfo
  obtain ⟨v', w', hr, h2, h3, h4, h5⟩ := run_append_ownT (P := P) w base t o.type e i z size bytes T ht hi hz hs1 hs2 hzs hsz hzT v n xs hown ao m c news hl hao hnews h1 hnT h63 hbytes hbase
  unfold Oper.wp execOp
  simp only [ho, resolve, invoke, builtin, Sem.run_bind, Sem.run_pure, Result.andThen_ok, List.map_toArray, List.map_cons, List.map_nil, hs, hx, hr]
  exact h v' w' h2 h3 h4 h5

/-- a cell is an int -/
def IsI64 (_ : Nat) (u : Value) : Prop := ∃ n : Int, u = .int .i64 n
theorem IsI64_ints (xs : List Int) (k : Nat → Nat) : ∀ (j : Nat) (u : Value), (xs.map (Value.int .i64))[j]? = some u → IsI64 (k j) u := by
  intro j u h
  simp only [List.getElem?_map, Option.map_eq_some_iff] at h
  obtain ⟨n, _, rfl⟩ := h
  exact ⟨n, rfl⟩

end Go.Proofs.Ytefikkmhdjlccaa
