/- What Set, Stop and Tick leave, in one form each: what they tell of is right. -/
import Derived.Test.YtefikkmhdjlccaaV3
namespace Go.Proofs.Ytefikkmhdjlccaa
open Go.RowKit

theorem dueM_span {f : Ls} {now : Int} : ∀ (n : Nat), ∀ d ∈ dueM f now n, now < d.tm ∧ d.tm ≤ now + n := by
  intro n d hd
  simp only [dueM, List.mem_flatMap, List.mem_range, timeL, List.mem_filter, beq_iff_eq] at hd
  obtain ⟨k, hk, _, e⟩ := hd
  omega
theorem dueM_sorted {f : Ls} {now : Int} : ∀ n : Nat, (dueM f now n).Pairwise (fun x y => x.tm ≤ y.tm)
  | 0 => by simp [dueM]
  | n + 1 => by
    rw [dueM_succ]
    refine List.pairwise_append.2 ⟨dueM_sorted n, ?_, fun x hx y hy => ?_⟩
    · refine List.Pairwise.imp_of_mem (R := fun _ _ => True) (fun {x y} hx hy _ => ?_) (List.pairwise_of_forall fun _ _ => trivial)
      simp only [timeL, List.mem_filter, beq_iff_eq] at hx hy
      omega
    · have := (dueM_span n x hx).2
      simp only [timeL, List.mem_filter, beq_iff_eq] at hy
      omega

/-- what Set and Stop leave. -/
structure Told (w : World) (e : Ending) (w' : World) (now' : Int) (V' : Nat → Value) (f' : Ls) (r : Int) : Prop where
  below : Below w.heap.size w w'
  res : e = .returned (.tuple #[.agg (Cw now' V'), .int .i64 r])
  own : Own w' w.heap.size 96 V' f'
  ok : r = 0 → Right now' f'
theorem SetEnd.told {now id tm : Int} {f : Ls} {w w' : World} {e : Ending} (h : SetEnd now f id tm w e w') : ∃ now' V' f' r, Told w e w' now' V' f' r := by
  obtain ⟨hb, ⟨_, r, hr, rfl⟩ | ⟨hok, V', rfl, ho⟩⟩ := h
  · exact ⟨0, nilV, fun _ => [], r, hb, rfl, Own.zero _ _ _, fun h => absurd h hr⟩
  · exact ⟨now, V', _, 0, hb, rfl, ho, fun _ => hok.set⟩
theorem StopEnd.told {now id : Int} {f : Ls} {w w' : World} {e : Ending} (h : StopEnd now f id w e w') : ∃ now' V' f' r, Told w e w' now' V' f' r := by
  obtain ⟨hb, ⟨_, r, hr, rfl⟩ | ⟨hR, i, k, V', _, _, _, rfl, ho⟩⟩ := h
  · exact ⟨0, nilV, fun _ => [], r, hb, rfl, Own.zero _ _ _, fun h => absurd h hr⟩
  · exact ⟨now, V', _, 0, hb, rfl, ho, fun _ => hR.drop (List.eraseIdx_sublist _ _)⟩

structure ToldT (now : Int) (f : Ls) (w : World) (e : Ending) (w' : World) (now' : Int) (V' : Nat → Value) (f' : Ls) (a : Option Addr) (c : Nat) (o : List Du) (r : Int) : Prop where
  below : Below w.heap.size w w'
  res : e = .returned (.tuple #[.agg (Cw now' V'), .slice a o.length c, .int .i64 r])
  own : Own w' w.heap.size 96 V' f'
  out : OwnD w' w.heap.size (.slice a o.length c) o
  few : o.length ≤ 500
  span : ∀ d ∈ o, now < d.tm ∧ d.tm ≤ now'
  sorted : o.Pairwise (fun x y => x.tm ≤ y.tm)
  ok : r = 0 → Right now f ∧ Right now' f' ∧ o.length + (allM f').length = (allM f).length
theorem TickEnd.told {now n : Int} {f : Ls} {w w' : World} {e : Ending} (h : TickEnd now f n w e w') : ∃ now' V' f' a c o r, ToldT now f w e w' now' V' f' a c o r := by
  obtain ⟨hb, ⟨_, r, hr, rfl⟩ | ⟨hok, V, rfl, ho⟩⟩ := h
  · exact ⟨0, nilV, fun _ => [], none, 0, [], r, hb, rfl, Own.zero _ _ _, OwnD.nil _ _, by simp, fun d hd => by simp at hd, List.Pairwise.nil, fun h => absurd h hr⟩
  · obtain ⟨hR, h0, h1, h2⟩ := hok
    obtain ⟨m, rfl⟩ := Int.eq_ofNat_of_zero_le h0
    have ht := tick_right hR m h2
    have hcnt := tick_cnt now f m
    have h96 := ho.each 96 (by omega)
    rw [slots_96] at h96
    have e1 : ((m : Int)).toNat = m := by omega
    rw [e1] at ho h96
    obtain ⟨a, c, hv⟩ := h96.shape
    unfold cntM at hcnt
    have := hR.few
    refine ⟨now + m, V, (tickM now f m).1, a, c, (tickM now f m).2, 0, hb, by rw [← hv], (ho.less (M := 96) (by omega)).ext (fun _ _ => rfl) (fun i hi => (slots_lt _ _ hi).symm), hv ▸ h96, by omega, ?_, ?_, fun _ => ⟨hR, ht.right, by omega⟩⟩
    · rw [ht.out]; exact dueM_span m
    · rw [ht.out]; exact dueM_sorted m
end Go.Proofs.Ytefikkmhdjlccaa
