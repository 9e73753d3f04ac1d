/-
  No cell of these rows narrows 'for every input' (looked for: loops, veiled, ifaces, maps, wideKeys, modest, calm, conditions, laid).
  DERIVED. THE GIVEN ROWS OF THIS SEAT. 6 by the template 'for every input the law returns true; each argument reads behind the call as it read before'; 0 by the template 'total and deterministic' (their statements: YtghhjkblhchhmaaTotals.lean).
  GIVEN WITH THE SEED: the statements are not yours to turn. If you find one false, say at which input.
  Laid BY PROGRAM, IN A SANDBOX (cutbox-rows.mjs): the forced cells as the released guide's own fill.sh prints them over the translation e17031da46c9f92d… (all of the seat's roots in one cut). By AI agents, Wed Nov 11 2026. No macro, syntax, notation, axiom, sorry.
-/
import Derived.Test.YtghhjkblhchhmaaChecked
import GoSem.Claim
import GoSem.ClaimJoined
import GoSem.ClaimMapViews
import Derived.JoinedTies
import Derived.KernelRfl
namespace Go.Proofs.Ytghhjkblhchhmaa
/- THE CELL 'sum', in the pinned program and in every row, IS THE sha256 OF THE DUMP (.gsa) THAT YtghhjkblhchhmaaProg.lean LOADS. Nothing in Lean hashes anything: it is a label: what it is worth is what the hold of that sum in a sandbox is worth. -/
noncomputable def Try.pinned : Pinned := { name := "ytghhjkblhchhmaa", sum := "e17031da46c9f92d489cee5b514d2d6c2a67bf95713f7f133a0ad6a2f4f5f7ff", checked := Try.checked }
namespace Rows
def none {H : Type} : Left H := { results := [], args := [] }

/-- 'cyanotypelaw10.HuffCodes': WHATEVER THE INPUT: true; the input reads as it did. -/
def huffCodesSpec : ChangeSpec := { name := "huffCodes", fn := fun _ => fun
  | [d1, d2, d3, d4, d5] => { results := [.lit (.bool true)], args := [d1, d2, d3, d4, d5] }
  | _ => none }
def huffCodesRow : OpenClaim := { program := "ytghhjkblhchhmaa", sum := "e17031da46c9f92d489cee5b514d2d6c2a67bf95713f7f133a0ad6a2f4f5f7ff", func := "cyanotype/cyanotypelaw10.HuffCodes", spec := "huffCodes", unfollowed := true, recurses := true, apart := false }
def HuffCodesSaid : Prop := huffCodesRow.holds Try.pinned (OpenSpec.ofChange huffCodesSpec)

/-- ITS FALSE NEIGHBOUR: 'it returns false'. Refute it at one input. -/
def huffCodesWrong : ChangeSpec := { name := "huffCodes", fn := fun _ => fun
  | [d1, d2, d3, d4, d5] => { results := [.lit (.bool false)], args := [d1, d2, d3, d4, d5] }
  | _ => none }
def HuffCodesWrongFalsely : Prop := huffCodesRow.holds Try.pinned (OpenSpec.ofChange huffCodesWrong)

/-- 'cyanotypelaw10.HuffRow': WHATEVER THE INPUT: true; the input reads as it did. -/
def huffRowSpec : ChangeSpec := { name := "huffRow", fn := fun _ => fun
  | [d] => { results := [.lit (.bool true)], args := [d] }
  | _ => none }
def huffRowRow : OpenClaim := { program := "ytghhjkblhchhmaa", sum := "e17031da46c9f92d489cee5b514d2d6c2a67bf95713f7f133a0ad6a2f4f5f7ff", func := "cyanotype/cyanotypelaw10.HuffRow", spec := "huffRow", unfollowed := true, recurses := true, apart := false }
def HuffRowSaid : Prop := huffRowRow.holds Try.pinned (OpenSpec.ofChange huffRowSpec)

/-- ITS FALSE NEIGHBOUR: 'it returns false'. Refute it at one input. -/
def huffRowWrong : ChangeSpec := { name := "huffRow", fn := fun _ => fun
  | [d] => { results := [.lit (.bool false)], args := [d] }
  | _ => none }
def HuffRowWrongFalsely : Prop := huffRowRow.holds Try.pinned (OpenSpec.ofChange huffRowWrong)

/-- 'cyanotypelaw10.HuffStandard': WHATEVER THE INPUT: true; the input reads as it did. -/
def huffStandardSpec : ChangeSpec := { name := "huffStandard", fn := fun _ => fun
  | [d1, d2] => { results := [.lit (.bool true)], args := [d1, d2] }
  | _ => none }
def huffStandardRow : OpenClaim := { program := "ytghhjkblhchhmaa", sum := "e17031da46c9f92d489cee5b514d2d6c2a67bf95713f7f133a0ad6a2f4f5f7ff", func := "cyanotype/cyanotypelaw10.HuffStandard", spec := "huffStandard", unfollowed := true, recurses := true, apart := false }
def HuffStandardSaid : Prop := huffStandardRow.holds Try.pinned (OpenSpec.ofChange huffStandardSpec)

/-- ITS FALSE NEIGHBOUR: 'it returns false'. Refute it at one input. -/
def huffStandardWrong : ChangeSpec := { name := "huffStandard", fn := fun _ => fun
  | [d1, d2] => { results := [.lit (.bool false)], args := [d1, d2] }
  | _ => none }
def HuffStandardWrongFalsely : Prop := huffStandardRow.holds Try.pinned (OpenSpec.ofChange huffStandardWrong)

/-- 'cyanotypelaw10.HuffRefuses': WHATEVER THE INPUT: true; the input reads as it did. -/
def huffRefusesSpec : ChangeSpec := { name := "huffRefuses", fn := fun _ => fun
  | [d1, d2, d3] => { results := [.lit (.bool true)], args := [d1, d2, d3] }
  | _ => none }
def huffRefusesRow : OpenClaim := { program := "ytghhjkblhchhmaa", sum := "e17031da46c9f92d489cee5b514d2d6c2a67bf95713f7f133a0ad6a2f4f5f7ff", func := "cyanotype/cyanotypelaw10.HuffRefuses", spec := "huffRefuses", unfollowed := true, recurses := true, apart := false }
def HuffRefusesSaid : Prop := huffRefusesRow.holds Try.pinned (OpenSpec.ofChange huffRefusesSpec)

/-- ITS FALSE NEIGHBOUR: 'it returns false'. Refute it at one input. -/
def huffRefusesWrong : ChangeSpec := { name := "huffRefuses", fn := fun _ => fun
  | [d1, d2, d3] => { results := [.lit (.bool false)], args := [d1, d2, d3] }
  | _ => none }
def HuffRefusesWrongFalsely : Prop := huffRefusesRow.holds Try.pinned (OpenSpec.ofChange huffRefusesWrong)

/-- 'cyanotypelaw10.HuffPrefix': WHATEVER THE INPUT: true; the input reads as it did. -/
def huffPrefixSpec : ChangeSpec := { name := "huffPrefix", fn := fun _ => fun
  | [d1, d2, d3] => { results := [.lit (.bool true)], args := [d1, d2, d3] }
  | _ => none }
def huffPrefixRow : OpenClaim := { program := "ytghhjkblhchhmaa", sum := "e17031da46c9f92d489cee5b514d2d6c2a67bf95713f7f133a0ad6a2f4f5f7ff", func := "cyanotype/cyanotypelaw10.HuffPrefix", spec := "huffPrefix", unfollowed := true, recurses := true, apart := false }
def HuffPrefixSaid : Prop := huffPrefixRow.holds Try.pinned (OpenSpec.ofChange huffPrefixSpec)

/-- ITS FALSE NEIGHBOUR: 'it returns false'. Refute it at one input. -/
def huffPrefixWrong : ChangeSpec := { name := "huffPrefix", fn := fun _ => fun
  | [d1, d2, d3] => { results := [.lit (.bool false)], args := [d1, d2, d3] }
  | _ => none }
def HuffPrefixWrongFalsely : Prop := huffPrefixRow.holds Try.pinned (OpenSpec.ofChange huffPrefixWrong)

/-- 'cyanotypelaw10.HuffFinds': WHATEVER THE INPUT: true; the input reads as it did. -/
def huffFindsSpec : ChangeSpec := { name := "huffFinds", fn := fun _ => fun
  | [d1, d2, d3, d4, d5, d6] => { results := [.lit (.bool true)], args := [d1, d2, d3, d4, d5, d6] }
  | _ => none }
def huffFindsRow : OpenClaim := { program := "ytghhjkblhchhmaa", sum := "e17031da46c9f92d489cee5b514d2d6c2a67bf95713f7f133a0ad6a2f4f5f7ff", func := "cyanotype/cyanotypelaw10.HuffFinds", spec := "huffFinds", unfollowed := true, recurses := true, apart := false }
def HuffFindsSaid : Prop := huffFindsRow.holds Try.pinned (OpenSpec.ofChange huffFindsSpec)

/-- ITS FALSE NEIGHBOUR: 'it returns false'. Refute it at one input. -/
def huffFindsWrong : ChangeSpec := { name := "huffFinds", fn := fun _ => fun
  | [d1, d2, d3, d4, d5, d6] => { results := [.lit (.bool false)], args := [d1, d2, d3, d4, d5, d6] }
  | _ => none }
def HuffFindsWrongFalsely : Prop := huffFindsRow.holds Try.pinned (OpenSpec.ofChange huffFindsWrong)

/- THE SECOND FORM. 'bulk': how many values and letters a reading holds, each counted each time it is reached (what is shared counts as often as it is met; a slice's spare places count too). A statement '..UptoSaid' is the law's where the arguments, and the package variables that the reading takes, are together of bulk at most 1048576: NARROWER than '..Said'. Prove '..Said' where nothing that the law and all that it calls make is longer than what came in: it says more and counts as full. Else prove '..UptoSaid'. A law counts once. -/
mutual
def uptoBulk {H : Type} : DataW H → Nat
  | .lit (.string bytes) => bytes.length + 1
  | .lit _ => 1
  | .nil => 1
  | .ptr d => uptoBulk d + 1
  | .slice elems spare => uptoBulkAll elems + uptoBulkAll spare + 1
  | .agg parts => uptoBulkAll parts + 1
  | .iface _ d => uptoBulk d + 1
  | .map entries => uptoBulkEntries entries + 1
  | .held _ => 1
def uptoBulkAll {H : Type} : List (DataW H) → Nat
  | [] => 0
  | d :: r => uptoBulk d + uptoBulkAll r
def uptoBulkEntries {H : Type} : List (Lit × DataW H) → Nat
  | [] => 0
  | x :: r => uptoBulkEntry x + uptoBulkEntries r
def uptoBulkEntry {H : Type} : Lit × DataW H → Nat
  | (.string bytes, d) => bytes.length + uptoBulk d + 1
  | (_, d) => uptoBulk d + 1
 end
def uptoSmall : (H : Type) → List (DataW H) → Bool := fun _ ds => decide (uptoBulkAll ds ≤ 1048576)
def OpenSpec.upto (s : _root_.Go.ChangeSpec) : _root_.Go.OpenSpec := { _root_.Go.OpenSpec.ofChange s with cond := some uptoSmall }

/-- 'cyanotypelaw10.HuffCodes', WHERE WHAT IT READS IS OF BULK AT MOST 1048576: true; the input reads as it did. -/
def huffCodesUptoRow : OpenClaim := { program := "ytghhjkblhchhmaa", sum := "e17031da46c9f92d489cee5b514d2d6c2a67bf95713f7f133a0ad6a2f4f5f7ff", func := "cyanotype/cyanotypelaw10.HuffCodes", spec := "huffCodes", unfollowed := true, recurses := true, apart := false, narrowed := true }
def HuffCodesUptoSaid : Prop := huffCodesUptoRow.holds Try.pinned (OpenSpec.upto huffCodesSpec)

/-- 'cyanotypelaw10.HuffRow', WHERE WHAT IT READS IS OF BULK AT MOST 1048576: true; the input reads as it did. -/
def huffRowUptoRow : OpenClaim := { program := "ytghhjkblhchhmaa", sum := "e17031da46c9f92d489cee5b514d2d6c2a67bf95713f7f133a0ad6a2f4f5f7ff", func := "cyanotype/cyanotypelaw10.HuffRow", spec := "huffRow", unfollowed := true, recurses := true, apart := false, narrowed := true }
def HuffRowUptoSaid : Prop := huffRowUptoRow.holds Try.pinned (OpenSpec.upto huffRowSpec)

/-- 'cyanotypelaw10.HuffStandard', WHERE WHAT IT READS IS OF BULK AT MOST 1048576: true; the input reads as it did. -/
def huffStandardUptoRow : OpenClaim := { program := "ytghhjkblhchhmaa", sum := "e17031da46c9f92d489cee5b514d2d6c2a67bf95713f7f133a0ad6a2f4f5f7ff", func := "cyanotype/cyanotypelaw10.HuffStandard", spec := "huffStandard", unfollowed := true, recurses := true, apart := false, narrowed := true }
def HuffStandardUptoSaid : Prop := huffStandardUptoRow.holds Try.pinned (OpenSpec.upto huffStandardSpec)

/-- 'cyanotypelaw10.HuffRefuses', WHERE WHAT IT READS IS OF BULK AT MOST 1048576: true; the input reads as it did. -/
def huffRefusesUptoRow : OpenClaim := { program := "ytghhjkblhchhmaa", sum := "e17031da46c9f92d489cee5b514d2d6c2a67bf95713f7f133a0ad6a2f4f5f7ff", func := "cyanotype/cyanotypelaw10.HuffRefuses", spec := "huffRefuses", unfollowed := true, recurses := true, apart := false, narrowed := true }
def HuffRefusesUptoSaid : Prop := huffRefusesUptoRow.holds Try.pinned (OpenSpec.upto huffRefusesSpec)

/-- 'cyanotypelaw10.HuffPrefix', WHERE WHAT IT READS IS OF BULK AT MOST 1048576: true; the input reads as it did. -/
def huffPrefixUptoRow : OpenClaim := { program := "ytghhjkblhchhmaa", sum := "e17031da46c9f92d489cee5b514d2d6c2a67bf95713f7f133a0ad6a2f4f5f7ff", func := "cyanotype/cyanotypelaw10.HuffPrefix", spec := "huffPrefix", unfollowed := true, recurses := true, apart := false, narrowed := true }
def HuffPrefixUptoSaid : Prop := huffPrefixUptoRow.holds Try.pinned (OpenSpec.upto huffPrefixSpec)

/-- 'cyanotypelaw10.HuffFinds', WHERE WHAT IT READS IS OF BULK AT MOST 1048576: true; the input reads as it did. -/
def huffFindsUptoRow : OpenClaim := { program := "ytghhjkblhchhmaa", sum := "e17031da46c9f92d489cee5b514d2d6c2a67bf95713f7f133a0ad6a2f4f5f7ff", func := "cyanotype/cyanotypelaw10.HuffFinds", spec := "huffFinds", unfollowed := true, recurses := true, apart := false, narrowed := true }
def HuffFindsUptoSaid : Prop := huffFindsUptoRow.holds Try.pinned (OpenSpec.upto huffFindsSpec)

end Rows
end Go.Proofs.Ytghhjkblhchhmaa
