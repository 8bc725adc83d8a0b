/-
  No cell of these rows narrows 'for every input' (looked for: loops, veiled, ifaces, maps, wideKeys, modest, calm, conditions, laid).
  DERIVED. THE GIVEN ROWS OF THIS SEAT. 4 by the template 'for every input the law returns true; each argument reads behind the call as it read before'; 0 by the template 'total and deterministic' (their statements: YtefikkmhdjlccaaTotals.lean).
  GIVEN WITH THE SEED: the statements are not yours to turn. If you find one false, say at which input.
  Laid BY PROGRAM, IN A SANDBOX (cutbox-rows.mjs): the forced cells as the released guide's own fill.sh prints them over the translation 20770b3341ae893a… (all of the seat's roots in one cut). By AI agents, Wed Nov 11 2026. No macro, syntax, notation, axiom, sorry.
-/
import Derived.Test.YtefikkmhdjlccaaChecked
import GoSem.Claim
import GoSem.ClaimJoined
import GoSem.ClaimMapViews
import Derived.JoinedTies
import Derived.KernelRfl
namespace Go.Proofs.Ytefikkmhdjlccaa
/- THE CELL 'sum', in the pinned program and in every row, IS THE sha256 OF THE DUMP (.gsa) THAT YtefikkmhdjlccaaProg.lean LOADS. Nothing in Lean hashes anything: it is a label: what it is worth is what the hold of that sum in a sandbox is worth. -/
noncomputable def Try.pinned : Pinned := { name := "ytefikkmhdjlccaa", sum := "20770b3341ae893a92dac1b60885fbc4c63351bf764a601f21b072c3e743d7d3", checked := Try.checked }
namespace Rows
def none {H : Type} : Left H := { results := [], args := [] }

/-- 'custkeep.WheelCuts': WHATEVER THE INPUT: true; the input reads as it did. -/
def wheelCutsSpec : ChangeSpec := { name := "wheelCuts", fn := fun _ => fun
  | [d1, d2, d3] => { results := [.lit (.bool true)], args := [d1, d2, d3] }
  | _ => none }
def wheelCutsRow : OpenClaim := { program := "ytefikkmhdjlccaa", sum := "20770b3341ae893a92dac1b60885fbc4c63351bf764a601f21b072c3e743d7d3", func := "customshouse/custkeep.WheelCuts", spec := "wheelCuts", unfollowed := true, recurses := true, apart := false }
def WheelCutsSaid : Prop := wheelCutsRow.holds Try.pinned (OpenSpec.ofChange wheelCutsSpec)

/-- ITS FALSE NEIGHBOUR: 'it returns false'. Refute it at one input. -/
def wheelCutsWrong : ChangeSpec := { name := "wheelCuts", fn := fun _ => fun
  | [d1, d2, d3] => { results := [.lit (.bool false)], args := [d1, d2, d3] }
  | _ => none }
def WheelCutsWrongFalsely : Prop := wheelCutsRow.holds Try.pinned (OpenSpec.ofChange wheelCutsWrong)

/-- 'custkeep.WheelOwn': WHATEVER THE INPUT: true; the input reads as it did. -/
def wheelOwnSpec : ChangeSpec := { name := "wheelOwn", fn := fun _ => fun
  | [d1, d2, d3, d4] => { results := [.lit (.bool true)], args := [d1, d2, d3, d4] }
  | _ => none }
def wheelOwnRow : OpenClaim := { program := "ytefikkmhdjlccaa", sum := "20770b3341ae893a92dac1b60885fbc4c63351bf764a601f21b072c3e743d7d3", func := "customshouse/custkeep.WheelOwn", spec := "wheelOwn", unfollowed := true, recurses := true, apart := false }
def WheelOwnSaid : Prop := wheelOwnRow.holds Try.pinned (OpenSpec.ofChange wheelOwnSpec)

/-- ITS FALSE NEIGHBOUR: 'it returns false'. Refute it at one input. -/
def wheelOwnWrong : ChangeSpec := { name := "wheelOwn", fn := fun _ => fun
  | [d1, d2, d3, d4] => { results := [.lit (.bool false)], args := [d1, d2, d3, d4] }
  | _ => none }
def WheelOwnWrongFalsely : Prop := wheelOwnRow.holds Try.pinned (OpenSpec.ofChange wheelOwnWrong)

/-- 'custkeep.WheelRight': WHATEVER THE INPUT: true; the input reads as it did. -/
def wheelRightSpec : ChangeSpec := { name := "wheelRight", fn := fun _ => fun
  | [d1, d2, d3, d4] => { results := [.lit (.bool true)], args := [d1, d2, d3, d4] }
  | _ => none }
def wheelRightRow : OpenClaim := { program := "ytefikkmhdjlccaa", sum := "20770b3341ae893a92dac1b60885fbc4c63351bf764a601f21b072c3e743d7d3", func := "customshouse/custkeep.WheelRight", spec := "wheelRight", unfollowed := true, recurses := true, apart := false }
def WheelRightSaid : Prop := wheelRightRow.holds Try.pinned (OpenSpec.ofChange wheelRightSpec)

/-- ITS FALSE NEIGHBOUR: 'it returns false'. Refute it at one input. -/
def wheelRightWrong : ChangeSpec := { name := "wheelRight", fn := fun _ => fun
  | [d1, d2, d3, d4] => { results := [.lit (.bool false)], args := [d1, d2, d3, d4] }
  | _ => none }
def WheelRightWrongFalsely : Prop := wheelRightRow.holds Try.pinned (OpenSpec.ofChange wheelRightWrong)

/-- 'custkeep.WheelBook': WHATEVER THE INPUT: true; the input reads as it did. -/
def wheelBookSpec : ChangeSpec := { name := "wheelBook", fn := fun _ => fun
  | [d1, d2, d3, d4] => { results := [.lit (.bool true)], args := [d1, d2, d3, d4] }
  | _ => none }
def wheelBookRow : OpenClaim := { program := "ytefikkmhdjlccaa", sum := "20770b3341ae893a92dac1b60885fbc4c63351bf764a601f21b072c3e743d7d3", func := "customshouse/custkeep.WheelBook", spec := "wheelBook", unfollowed := true, recurses := true, apart := false }
def WheelBookSaid : Prop := wheelBookRow.holds Try.pinned (OpenSpec.ofChange wheelBookSpec)

/-- ITS FALSE NEIGHBOUR: 'it returns false'. Refute it at one input. -/
def wheelBookWrong : ChangeSpec := { name := "wheelBook", fn := fun _ => fun
  | [d1, d2, d3, d4] => { results := [.lit (.bool false)], args := [d1, d2, d3, d4] }
  | _ => none }
def WheelBookWrongFalsely : Prop := wheelBookRow.holds Try.pinned (OpenSpec.ofChange wheelBookWrong)

/- THE SECOND FORM. 'bulk': how many values and letters a reading holds, each counted each time it is reached (what is shared counts as often as it is met; a slice's spare places count too). A statement '..UptoSaid' is the law's where the arguments, and the package variables that the reading takes, are together of bulk at most 1048576: NARROWER than '..Said'. Prove '..Said' where nothing that the law and all that it calls make is longer than what came in: it says more and counts as full. Else prove '..UptoSaid'. A law counts once. -/
mutual
def uptoBulk {H : Type} : DataW H → Nat
  | .lit (.string bytes) => bytes.length + 1
  | .lit _ => 1
  | .nil => 1
  | .ptr d => uptoBulk d + 1
  | .slice elems spare => uptoBulkAll elems + uptoBulkAll spare + 1
  | .agg parts => uptoBulkAll parts + 1
  | .iface _ d => uptoBulk d + 1
  | .map entries => uptoBulkEntries entries + 1
  | .held _ => 1
def uptoBulkAll {H : Type} : List (DataW H) → Nat
  | [] => 0
  | d :: r => uptoBulk d + uptoBulkAll r
def uptoBulkEntries {H : Type} : List (Lit × DataW H) → Nat
  | [] => 0
  | x :: r => uptoBulkEntry x + uptoBulkEntries r
def uptoBulkEntry {H : Type} : Lit × DataW H → Nat
  | (.string bytes, d) => bytes.length + uptoBulk d + 1
  | (_, d) => uptoBulk d + 1
 end
def uptoSmall : (H : Type) → List (DataW H) → Bool := fun _ ds => decide (uptoBulkAll ds ≤ 1048576)
def OpenSpec.upto (s : _root_.Go.ChangeSpec) : _root_.Go.OpenSpec := { _root_.Go.OpenSpec.ofChange s with cond := some uptoSmall }

/-- 'custkeep.WheelCuts', WHERE WHAT IT READS IS OF BULK AT MOST 1048576: true; the input reads as it did. -/
def wheelCutsUptoRow : OpenClaim := { program := "ytefikkmhdjlccaa", sum := "20770b3341ae893a92dac1b60885fbc4c63351bf764a601f21b072c3e743d7d3", func := "customshouse/custkeep.WheelCuts", spec := "wheelCuts", unfollowed := true, recurses := true, apart := false, narrowed := true }
def WheelCutsUptoSaid : Prop := wheelCutsUptoRow.holds Try.pinned (OpenSpec.upto wheelCutsSpec)

/-- 'custkeep.WheelOwn', WHERE WHAT IT READS IS OF BULK AT MOST 1048576: true; the input reads as it did. -/
def wheelOwnUptoRow : OpenClaim := { program := "ytefikkmhdjlccaa", sum := "20770b3341ae893a92dac1b60885fbc4c63351bf764a601f21b072c3e743d7d3", func := "customshouse/custkeep.WheelOwn", spec := "wheelOwn", unfollowed := true, recurses := true, apart := false, narrowed := true }
def WheelOwnUptoSaid : Prop := wheelOwnUptoRow.holds Try.pinned (OpenSpec.upto wheelOwnSpec)

/-- 'custkeep.WheelRight', WHERE WHAT IT READS IS OF BULK AT MOST 1048576: true; the input reads as it did. -/
def wheelRightUptoRow : OpenClaim := { program := "ytefikkmhdjlccaa", sum := "20770b3341ae893a92dac1b60885fbc4c63351bf764a601f21b072c3e743d7d3", func := "customshouse/custkeep.WheelRight", spec := "wheelRight", unfollowed := true, recurses := true, apart := false, narrowed := true }
def WheelRightUptoSaid : Prop := wheelRightUptoRow.holds Try.pinned (OpenSpec.upto wheelRightSpec)

/-- 'custkeep.WheelBook', WHERE WHAT IT READS IS OF BULK AT MOST 1048576: true; the input reads as it did. -/
def wheelBookUptoRow : OpenClaim := { program := "ytefikkmhdjlccaa", sum := "20770b3341ae893a92dac1b60885fbc4c63351bf764a601f21b072c3e743d7d3", func := "customshouse/custkeep.WheelBook", spec := "wheelBook", unfollowed := true, recurses := true, apart := false, narrowed := true }
def WheelBookUptoSaid : Prop := wheelBookUptoRow.holds Try.pinned (OpenSpec.upto wheelBookSpec)

end Rows
end Go.Proofs.Ytefikkmhdjlccaa
