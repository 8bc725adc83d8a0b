/- turnsLives. -/
import Derived.Test.YtmnckaofopechaaB7
namespace Go.Proofs.Ytmnckaofopechaa
open Go.RowKit

def qs0 : List Qu := [⟨5, 0, [3, 3]⟩, ⟨2, 0, [2]⟩]
theorem qs0_right : RightT qs0 := by
  refine ⟨by decide, fun i hi => ?_⟩
  match i, hi with
  | 0, _ => exact ⟨by decide, by decide, by decide, by decide, by decide, by decide⟩
  | 1, _ => exact ⟨by decide, by decide, by decide, by decide, by decide, by decide⟩
  | i + 2, hi => simp [qs0] at hi; omega

/-- the one way in which a round can go. -/
theorem qs0_round (qs' : List Qu) (M : Nat → Nat) (hl : qs'.length = qs0.length) (h : ∀ i, i < qs0.length → QStep (qs0.getD i default) (qs'.getD i default) (M i)) :
    sentsTo qs0 M qs0.length = [(0, 3), (1, 2)] ∧ (qs'.getD 0 default).saved = 2 ∧ (qs'.getD 1 default).saved = 0 ∧ qs'.length = 2 := by
  have h0 := h 0 (by decide)
  have h1 := h 1 (by decide)
  have e0 : M 0 = 1 := by
    obtain ⟨a, b, _⟩ := h0.some (by decide)
    have := h0.le
    simp [qs0] at this
    rcases Nat.lt_or_ge (M 0) 1 with h | h
    · obtain h : M 0 = 0 := by omega
      have := b (by rw [h]; decide)
      rw [h] at this; simp [served, qs0] at this
    · rcases Nat.lt_or_ge (M 0) 2 with h' | h'
      · omega
      · obtain h : M 0 = 2 := by omega
        rw [h] at a; simp [served, qs0] at a
  have e1 : M 1 = 1 := by
    obtain ⟨a, b, _⟩ := h1.some (by decide)
    have := h1.le
    simp [qs0] at this
    rcases Nat.lt_or_ge (M 1) 1 with h | h
    · obtain h : M 1 = 0 := by omega
      have := b (by rw [h]; decide)
      rw [h] at this; simp [served, qs0] at this
    · omega
  refine ⟨by simp [sentsTo, qs0, List.range_succ, e0, e1], ?_, ?_, hl⟩
  · rw [(h0.some (by decide)).2.2, e0]; decide
  · rw [(h1.some (by decide)).2.2, e1]; decide

theorem IntsAt.lit {w : World} {b n : Nat} (xs : List Int) (hn : n = xs.length) (h : ∀ i, i < xs.length → w.cell? ⟨b, i, none⟩ = some (.int .i64 (xs.getD i 0))) : IntsAt w (.slice (some ⟨b, 0, none⟩) n n) xs := by
  subst hn
  exact ⟨_, _, rfl, Nat.le_refl _, (fun h => by cases h), fun _ => ⟨b, 0, rfl, fun i hi => by rw [Nat.zero_add]; exact h i hi⟩⟩

theorem qs0_at (w : World) : TurnsAt (((w.alloc (.cells #[.int .i64 3, .int .i64 3] 3)).alloc (.cells #[.int .i64 2] 3)).alloc
    (.cells #[.int .i64 5, .int .i64 0, .slice (some ⟨w.heap.size, 0, none⟩) 2 2, .int .i64 2, .int .i64 0, .slice (some ⟨w.heap.size + 1, 0, none⟩) 1 1] 35)) (.slice (some ⟨w.heap.size + 1 + 1, 0, none⟩) 2 2) qs0 := by
  refine ⟨_, _, rfl, Nat.le_refl _, (fun h => by cases h), fun _ => ⟨_, 0, rfl, fun i hi => ?_⟩⟩
  have c1 : ∀ (i : Nat), (((w.alloc (.cells #[.int .i64 3, .int .i64 3] 3)).alloc (.cells #[.int .i64 2] 3)).alloc
    (.cells #[.int .i64 5, .int .i64 0, .slice (some ⟨w.heap.size, 0, none⟩) 2 2, .int .i64 2, .int .i64 0, .slice (some ⟨w.heap.size + 1, 0, none⟩) 1 1] 35)).cell? ⟨w.heap.size + 1 + 1, i, none⟩ = (#[Value.int .i64 5, .int .i64 0, .slice (some ⟨w.heap.size, 0, none⟩) 2 2, .int .i64 2, .int .i64 0, .slice (some ⟨w.heap.size + 1, 0, none⟩) 1 1])[i]? := fun i => World.cell?_alloc_at _ _ _ _ (by simp)
  match i, hi with
  | 0, _ =>
    refine ⟨by rw [c1]; rfl, by rw [c1]; rfl, _, by rw [c1]; rfl, IntsAt.lit [3, 3] rfl fun j hj => ?_⟩
    rw [World.cell?_alloc_past _ _ _ (by simp; omega), World.cell?_alloc_past _ _ _ (by simp), World.cell?_alloc_at _ _ _ _ rfl]
    match j, hj with
    | 0, _ => rfl
    | 1, _ => rfl
    | j + 2, hj => simp at hj; omega
  | 1, _ =>
    refine ⟨by rw [c1]; rfl, by rw [c1]; rfl, _, by rw [c1]; rfl, IntsAt.lit [2] rfl fun j hj => ?_⟩
    rw [World.cell?_alloc_past _ _ _ (by simp), World.cell?_alloc_at _ _ _ _ (by simp)]
    match j, hj with
    | 0, _ => rfl
    | j + 1, hj => simp at hj
  | i + 2, hi => simp [qs0] at hi; omega

set_option maxRecDepth 100000 in
set_option maxHeartbeats 1000000 in
theorem c5 (w : World) :
    Calls Try.prog 5 #[] w fun e w' => e = .returned (.bool true) ∧ Below w.heap.size w w' := by
  have hat := qs0_at w
  generalize hB : w.heap.size = B at *
  have Hat := Lib.hid hat; clear hat
  go_enter Try.func5, Try.ntmps5
  go_wp2_with fail
  refine (c7 _ qs0 _ Hat.out (by decide) (by intro i hi; match i, hi with | 0, _ => decide | 1, _ => decide | i + 2, hi => simp [qs0] at hi; omega)).mono ?_
  rintro e w1 ⟨hb, ⟨hn, _⟩ | ⟨_, v, l, qs', M, rfl, e1, e2, hTF, hl⟩⟩
  · exact absurd qs0_right hn
  obtain ⟨s1, s2, s3, s4⟩ := qs0_round qs' M e1 e2
  rw [s1] at hl
  have hsents := SentsAt.of_own (l := [(0, 3), (1, 2)]) hl
  have hTA := hTF.at
  obtain ⟨a, cap, rfl, h1, h2, h3⟩ := hTA
  obtain ⟨b, o, rfl, hc⟩ := h3 (by intro h; rw [h] at s4; simp at s4)
  obtain ⟨_, q1, _⟩ := hc 0 (by omega)
  obtain ⟨_, q2, _⟩ := hc 1 (by omega)
  rw [s2] at q1
  rw [s3] at q2
  rw [s4]
  simp only [World.size_alloc, hB] at hb
  have hb1 : Below B w w1 := by
    refine Below.trans ?_ (hb.mono (by omega))
    exact (((Below.refl B w).alloc (by omega) _).alloc (by simp; omega) _).alloc (by simp; omega) _
  have hsz := hb1.size
  have hlb := World.block_lt_of_cell? _ _ q1
  simp only at hlb
  simp only [Nat.zero_mul, Nat.one_mul, Nat.add_zero] at q1 q2
  clear Hat hb h1 h2 h3 hc hTF hl s1 s2 s3 s4 e1 e2
  have Hs := Lib.hid hsents; clear hsents
  have hlit : ∀ (w1 : World), SentsAt (w1.alloc (.cells #[.int .i64 0, .int .i64 3, .int .i64 1, .int .i64 2] 32)) (.slice (some ⟨w1.heap.size, 0, none⟩) 2 2) [(0, 3), (1, 2)] := fun w1 => by
    refine ⟨_, _, rfl, Nat.le_refl _, (fun h => by cases h), fun _ => ⟨_, 0, rfl, fun i hi => ?_⟩⟩
    rw [World.cell?_alloc_at _ _ _ _ rfl, World.cell?_alloc_at _ _ _ _ rfl]
    match i, hi with
    | 0, _ => exact ⟨rfl, rfl⟩
    | 1, _ => exact ⟨rfl, rfl⟩
    | i + 2, hi => simp at hi; omega
  have Hlit := Lib.hid hlit; clear hlit
  go_wp2_with fail
  refine (c13 _ _ _ _ (Hs.out.below rfl (Below.of_alloc _ _)) (Hlit.out w1) (by decide)).mono ?_
  rintro e w2 ⟨rfl, hb2⟩
  simp only [World.size_alloc] at hb2
  have p1 : w2.cell? ⟨b, o + 1, none⟩ = some (.int .i64 2) := by rw [hb2.cell (by simp; omega), World.cell?_alloc_past _ _ _ hlb]; exact q1
  have p2 : w2.cell? ⟨b, o + 3 + 1, none⟩ = some (.int .i64 0) := by rw [hb2.cell (by simp; omega), World.cell?_alloc_past _ _ _ hlb]; exact q2
  have hb3 : Below B w w2 := (hb1.alloc (by omega) _).trans (hb2.mono (by omega))
  clear q1 q2 hb2 Hlit Hs
  go_wp2_with fail
  go_ret
  exact ⟨rfl, hb3⟩
end Go.Proofs.Ytmnckaofopechaa
