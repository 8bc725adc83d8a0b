/- Plain model of tries and trees, and what it means that memory reads as one. -/
import Derived.Test.YtoladbjgfbnhoaaProg
import Derived.Test.YtoladbjgfbnhoaaOwn
import Derived.WalkKit
import Derived.Lib.Hide
namespace Go.Proofs.Ytoladbjgfbnhoaa
open Go.RowKit

structure Nd where
  n0 : Int
  n1 : Int
  set : Bool
  val : Int
  deriving Inhabited, DecidableEq

/-- a slice of nodes, read. -/
def NodesAt (w : World) (v : Value) (xs : List Nd) : Prop :=
  ∃ a cap, v = .slice a xs.length cap ∧ xs.length ≤ cap ∧ (a = none → cap = 0) ∧ (xs ≠ [] → ∃ b o, a = some ⟨b, o, none⟩ ∧ ∀ i, i < xs.length →
    w.cell? ⟨b, o + i * 4, none⟩ = some (.int .i64 (xs.getD i default).n0) ∧ w.cell? ⟨b, o + i * 4 + 1, none⟩ = some (.int .i64 (xs.getD i default).n1) ∧
    w.cell? ⟨b, o + i * 4 + 2, none⟩ = some (.bool (xs.getD i default).set) ∧ w.cell? ⟨b, o + i * 4 + 3, none⟩ = some (.int .i64 (xs.getD i default).val))

theorem NodesAt.below {B : Nat} {w w' : World} {v : Value} {xs : List Nd} (h : NodesAt w v xs) (hB : B = w.heap.size) (hb : Below B w w') : NodesAt w' v xs := by
  subst hB
  obtain ⟨a, cap, rfl, h1, h2, h3⟩ := h
  refine ⟨a, cap, rfl, h1, h2, fun hne => ?_⟩
  obtain ⟨b, o, rfl, hc⟩ := h3 hne
  refine ⟨b, o, rfl, fun i hi => ?_⟩
  obtain ⟨c1, c2, c3, c4⟩ := hc i hi
  have hlt := World.block_lt_of_cell? w _ c1
  exact ⟨by rw [hb.cell (by exact hlt)]; exact c1, by rw [hb.cell (by exact hlt)]; exact c2, by rw [hb.cell (by exact hlt)]; exact c3, by rw [hb.cell (by exact hlt)]; exact c4⟩

inductive T where
  | nil
  | node (s : Bool) (v : Int) (l r : T)
  deriving DecidableEq, Inhabited

def T.size : T → Nat
  | .nil => 0
  | .node _ _ l r => l.size + r.size + 1

/-- memory reads as a tree; each of its blocks meets P. -/
def TreeAt (w : World) : (P : Nat → Prop) → Option Addr → T → Prop
  | _, p, .nil => p = none
  | P, p, .node s v l r => ∃ b pl pr, p = some ⟨b, 0, none⟩ ∧ P b ∧ w.heap[b]? = some (.cells #[.pointer pl, .pointer pr, .bool s, .int .i64 v] 57 (0, 0)) ∧ TreeAt w P pl l ∧ TreeAt w P pr r

/-- the same, where the blocks of the two arms lie apart: a tree's blocks lie in lo .. hi. -/
def TreeIv (w : World) : (lo hi : Nat) → Option Addr → T → Prop
  | _, _, p, .nil => p = none
  | lo, hi, p, .node s v l r => ∃ b m pl pr, p = some ⟨b, 0, none⟩ ∧ lo ≤ b ∧ b < m ∧ m ≤ hi ∧ w.heap[b]? = some (.cells #[.pointer pl, .pointer pr, .bool s, .int .i64 v] 57 (0, 0)) ∧ TreeIv w (b + 1) m pl l ∧ TreeIv w m hi pr r

theorem TreeAt.of_same {w w' : World} : ∀ {t : T} {P : Nat → Prop} {p : Option Addr}, TreeAt w P p t → (∀ b, P b → b < w.heap.size → w'.heap[b]? = w.heap[b]?) → TreeAt w' P p t
  | .nil, _, _, h, _ => h
  | .node _ _ _ _, _, _, ⟨b, pl, pr, e, hP, hc, hl, hr⟩, hk => ⟨b, pl, pr, e, hP, by rw [hk b hP (by exact (Array.getElem?_eq_some_iff.1 hc).1)]; exact hc, hl.of_same hk, hr.of_same hk⟩

theorem TreeAt.mono {w : World} : ∀ {t : T} {P Q : Nat → Prop} {p : Option Addr}, TreeAt w P p t → (∀ b, P b → Q b) → TreeAt w Q p t
  | .nil, _, _, _, h, _ => h
  | .node _ _ _ _, _, _, _, ⟨b, pl, pr, e, hP, hc, hl, hr⟩, hk => ⟨b, pl, pr, e, hk b hP, hc, hl.mono hk, hr.mono hk⟩

theorem TreeIv.of_same {w w' : World} : ∀ {t : T} {lo hi : Nat} {p : Option Addr}, TreeIv w lo hi p t → (∀ b, lo ≤ b → b < hi → w'.heap[b]? = w.heap[b]?) → TreeIv w' lo hi p t
  | .nil, _, _, _, h, _ => h
  | .node _ _ _ _, _, _, _, ⟨b, m, pl, pr, e, h1, h2, h3, hc, hl, hr⟩, hk => ⟨b, m, pl, pr, e, h1, h2, h3, by rw [hk b h1 (by omega)]; exact hc, hl.of_same (fun x _ _ => hk x (by omega) (by omega)), hr.of_same (fun x _ _ => hk x (by omega) (by omega))⟩

theorem TreeIv.mono {w : World} : ∀ {t : T} {lo hi lo' hi' : Nat} {p : Option Addr}, TreeIv w lo hi p t → lo' ≤ lo → hi ≤ hi' → TreeIv w lo' hi' p t
  | .nil, _, _, _, _, _, h, _, _ => h
  | .node _ _ _ _, _, _, _, _, _, ⟨b, m, pl, pr, e, h1, h2, h3, hc, hl, hr⟩, k1, k2 => ⟨b, m, pl, pr, e, by omega, h2, by omega, hc, hl, hr.mono (Nat.le_refl _) k2⟩

theorem TreeIv.at {w : World} : ∀ {t : T} {lo hi : Nat} {p : Option Addr}, TreeIv w lo hi p t → TreeAt w (fun b => lo ≤ b ∧ b < hi) p t
  | .nil, _, _, _, h => h
  | .node _ _ _ _, _, _, _, ⟨b, m, pl, pr, e, h1, h2, h3, hc, hl, hr⟩ => ⟨b, pl, pr, e, ⟨h1, by omega⟩, hc, hl.at.mono (fun x hx => ⟨by omega, by omega⟩), hr.at.mono (fun x hx => ⟨by omega, by omega⟩)⟩

/-- grow, in plain words: the tree from a node on, and the number of its last node. -/
def kidM (g : Nat → Option (T × Nat)) (len : Nat) (n : Int) (i : Nat) : Option (T × Nat) :=
  if n = 0 then some (.nil, i) else if n = (i : Int) + 1 ∧ i + 1 < len then g (i + 1) else none
def nodeM (g : Nat → Option (T × Nat)) (ns : List Nd) (i : Nat) : Option (T × Nat) :=
  match kidM g ns.length (ns.getD i default).n0 i with
  | none => none
  | some (l, j) => match kidM g ns.length (ns.getD i default).n1 j with
    | none => none
    | some (r, k) => some (.node (ns.getD i default).set (ns.getD i default).val l r, k)
def growM (ns : List Nd) : Nat → Nat → Option (T × Nat)
  | 0, i => nodeM (fun _ => none) ns i
  | d + 1, i => nodeM (growM ns d) ns i

theorem kidM_le {g : Nat → Option (T × Nat)} {len : Nat} {n : Int} {i : Nat} {x : T} {j : Nat} (hg : ∀ i x j, i < len → g i = some (x, j) → i ≤ j ∧ j < len ∧ x.size + i = j + 1) (h : kidM g len n i = some (x, j)) (hi : i < len) : i ≤ j ∧ j < len ∧ x.size + i = j := by
  unfold kidM at h
  split at h
  · obtain ⟨rfl, rfl⟩ : T.nil = x ∧ i = j := by simpa using h
    exact ⟨Nat.le_refl _, hi, by simp [T.size]⟩
  · split at h
    · rename_i h2
      have := hg _ _ _ h2.2 h
      omega
    · cases h

theorem nodeM_le {g : Nat → Option (T × Nat)} {ns : List Nd} {i : Nat} {x : T} {j : Nat} (hg : ∀ i x j, i < ns.length → g i = some (x, j) → i ≤ j ∧ j < ns.length ∧ x.size + i = j + 1) (h : nodeM g ns i = some (x, j)) (hi : i < ns.length) : i ≤ j ∧ j < ns.length ∧ x.size + i = j + 1 := by
  unfold nodeM at h
  split at h
  · cases h
  · rename_i l j1 h1
    obtain ⟨a1, a2, a3⟩ := kidM_le hg h1 hi
    split at h
    · cases h
    · rename_i r k h2
      obtain ⟨b1, b2, b3⟩ := kidM_le hg h2 a2
      simp only [Option.some.injEq, Prod.mk.injEq] at h
      obtain ⟨rfl, rfl⟩ := h
      simp only [T.size]
      omega

theorem growM_le {ns : List Nd} : ∀ {d i : Nat} {x : T} {j : Nat}, i < ns.length → growM ns d i = some (x, j) → i ≤ j ∧ j < ns.length ∧ x.size + i = j + 1
  | 0, _, _, _, hi, h => nodeM_le (fun _ _ _ _ h => by cases h) h hi
  | _ + 1, _, _, _, hi, h => nodeM_le (fun _ _ _ hi h => growM_le hi h) h hi

end Go.Proofs.Ytoladbjgfbnhoaa
