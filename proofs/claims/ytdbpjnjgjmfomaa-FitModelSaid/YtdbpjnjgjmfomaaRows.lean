/-
  No cell of these rows narrows 'for every input' (looked for: loops, veiled, ifaces, maps, wideKeys, modest, calm, conditions, laid).
  DERIVED. THE GIVEN ROWS OF THIS SEAT. 9 by the template 'for every input the law returns true; each argument reads behind the call as it read before'; 0 by the template 'total and deterministic' (their statements: YtdbpjnjgjmfomaaTotals.lean).
  GIVEN WITH THE SEED: the statements are not yours to turn. If you find one false, say at which input.
  Laid BY PROGRAM, IN A SANDBOX (cutbox-rows.mjs): the forced cells as the released guide's own fill.sh prints them over the translation 560f0bfd1d0443ea… (all of the seat's roots in one cut). By AI agents, Wed Nov 11 2026. No macro, syntax, notation, axiom, sorry.
-/
import Derived.Test.YtdbpjnjgjmfomaaChecked
import GoSem.Claim
import GoSem.ClaimJoined
import GoSem.ClaimMapViews
import Derived.JoinedTies
import Derived.KernelRfl
namespace Go.Proofs.Ytdbpjnjgjmfomaa
/- THE CELL 'sum', in the pinned program and in every row, IS THE sha256 OF THE DUMP (.gsa) THAT YtdbpjnjgjmfomaaProg.lean LOADS. Nothing in Lean hashes anything: it is a label: what it is worth is what the hold of that sum in a sandbox is worth. -/
noncomputable def Try.pinned : Pinned := { name := "ytdbpjnjgjmfomaa", sum := "560f0bfd1d0443eae0fd029542a19de368dbb49257dff0333437cc38521ba879", checked := Try.checked }
namespace Rows
def none {H : Type} : Left H := { results := [], args := [] }

/-- 'examboardlaw31.FitCounts': WHATEVER THE INPUT: true; the input reads as it did. -/
def fitCountsSpec : ChangeSpec := { name := "fitCounts", fn := fun _ => fun
  | [d] => { results := [.lit (.bool true)], args := [d] }
  | _ => none }
def fitCountsRow : OpenClaim := { program := "ytdbpjnjgjmfomaa", sum := "560f0bfd1d0443eae0fd029542a19de368dbb49257dff0333437cc38521ba879", func := "examboard/examboardlaw31.FitCounts", spec := "fitCounts", apart := false }
def FitCountsSaid : Prop := fitCountsRow.holds Try.pinned (OpenSpec.ofChange fitCountsSpec)

/-- ITS FALSE NEIGHBOUR: 'it returns false'. Refute it at one input. -/
def fitCountsWrong : ChangeSpec := { name := "fitCounts", fn := fun _ => fun
  | [d] => { results := [.lit (.bool false)], args := [d] }
  | _ => none }
def FitCountsWrongFalsely : Prop := fitCountsRow.holds Try.pinned (OpenSpec.ofChange fitCountsWrong)

/-- 'examboardlaw31.FitBound': WHATEVER THE INPUT: true; the input reads as it did. -/
def fitBoundSpec : ChangeSpec := { name := "fitBound", fn := fun _ => fun
  | [d] => { results := [.lit (.bool true)], args := [d] }
  | _ => none }
def fitBoundRow : OpenClaim := { program := "ytdbpjnjgjmfomaa", sum := "560f0bfd1d0443eae0fd029542a19de368dbb49257dff0333437cc38521ba879", func := "examboard/examboardlaw31.FitBound", spec := "fitBound", apart := false }
def FitBoundSaid : Prop := fitBoundRow.holds Try.pinned (OpenSpec.ofChange fitBoundSpec)

/-- ITS FALSE NEIGHBOUR: 'it returns false'. Refute it at one input. -/
def fitBoundWrong : ChangeSpec := { name := "fitBound", fn := fun _ => fun
  | [d] => { results := [.lit (.bool false)], args := [d] }
  | _ => none }
def FitBoundWrongFalsely : Prop := fitBoundRow.holds Try.pinned (OpenSpec.ofChange fitBoundWrong)

/-- 'examboardlaw25.ClassicalGroups': WHATEVER THE INPUT: true; the input reads as it did. -/
def classicalGroupsSpec : ChangeSpec := { name := "classicalGroups", fn := fun _ => fun
  | [d1, d2, d3, d4] => { results := [.lit (.bool true)], args := [d1, d2, d3, d4] }
  | _ => none }
def classicalGroupsRow : OpenClaim := { program := "ytdbpjnjgjmfomaa", sum := "560f0bfd1d0443eae0fd029542a19de368dbb49257dff0333437cc38521ba879", func := "examboard/examboardlaw25.ClassicalGroups", spec := "classicalGroups", unfollowed := true, recurses := true, apart := false }
def ClassicalGroupsSaid : Prop := classicalGroupsRow.holds Try.pinned (OpenSpec.ofChange classicalGroupsSpec)

/-- ITS FALSE NEIGHBOUR: 'it returns false'. Refute it at one input. -/
def classicalGroupsWrong : ChangeSpec := { name := "classicalGroups", fn := fun _ => fun
  | [d1, d2, d3, d4] => { results := [.lit (.bool false)], args := [d1, d2, d3, d4] }
  | _ => none }
def ClassicalGroupsWrongFalsely : Prop := classicalGroupsRow.holds Try.pinned (OpenSpec.ofChange classicalGroupsWrong)

/-- 'examboardlaw25.ClassicalCounted': WHATEVER THE INPUT: true; the input reads as it did. -/
def classicalCountedSpec : ChangeSpec := { name := "classicalCounted", fn := fun _ => fun
  | [d1, d2, d3, d4] => { results := [.lit (.bool true)], args := [d1, d2, d3, d4] }
  | _ => none }
def classicalCountedRow : OpenClaim := { program := "ytdbpjnjgjmfomaa", sum := "560f0bfd1d0443eae0fd029542a19de368dbb49257dff0333437cc38521ba879", func := "examboard/examboardlaw25.ClassicalCounted", spec := "classicalCounted", unfollowed := true, recurses := true, apart := false }
def ClassicalCountedSaid : Prop := classicalCountedRow.holds Try.pinned (OpenSpec.ofChange classicalCountedSpec)

/-- ITS FALSE NEIGHBOUR: 'it returns false'. Refute it at one input. -/
def classicalCountedWrong : ChangeSpec := { name := "classicalCounted", fn := fun _ => fun
  | [d1, d2, d3, d4] => { results := [.lit (.bool false)], args := [d1, d2, d3, d4] }
  | _ => none }
def ClassicalCountedWrongFalsely : Prop := classicalCountedRow.holds Try.pinned (OpenSpec.ofChange classicalCountedWrong)

/-- 'examboardlaw25.ClassicalParts': WHATEVER THE INPUT: true; the input reads as it did. -/
def classicalPartsSpec : ChangeSpec := { name := "classicalParts", fn := fun _ => fun
  | [d] => { results := [.lit (.bool true)], args := [d] }
  | _ => none }
def classicalPartsRow : OpenClaim := { program := "ytdbpjnjgjmfomaa", sum := "560f0bfd1d0443eae0fd029542a19de368dbb49257dff0333437cc38521ba879", func := "examboard/examboardlaw25.ClassicalParts", spec := "classicalParts", apart := false }
def ClassicalPartsSaid : Prop := classicalPartsRow.holds Try.pinned (OpenSpec.ofChange classicalPartsSpec)

/-- ITS FALSE NEIGHBOUR: 'it returns false'. Refute it at one input. -/
def classicalPartsWrong : ChangeSpec := { name := "classicalParts", fn := fun _ => fun
  | [d] => { results := [.lit (.bool false)], args := [d] }
  | _ => none }
def ClassicalPartsWrongFalsely : Prop := classicalPartsRow.holds Try.pinned (OpenSpec.ofChange classicalPartsWrong)

/-- 'examboardlaw31.FitModel': WHATEVER THE INPUT: true; the input reads as it did. -/
def fitModelSpec : ChangeSpec := { name := "fitModel", fn := fun _ => fun
  | [d] => { results := [.lit (.bool true)], args := [d] }
  | _ => none }
def fitModelRow : OpenClaim := { program := "ytdbpjnjgjmfomaa", sum := "560f0bfd1d0443eae0fd029542a19de368dbb49257dff0333437cc38521ba879", func := "examboard/examboardlaw31.FitModel", spec := "fitModel", apart := false }
def FitModelSaid : Prop := fitModelRow.holds Try.pinned (OpenSpec.ofChange fitModelSpec)

/-- ITS FALSE NEIGHBOUR: 'it returns false'. Refute it at one input. -/
def fitModelWrong : ChangeSpec := { name := "fitModel", fn := fun _ => fun
  | [d] => { results := [.lit (.bool false)], args := [d] }
  | _ => none }
def FitModelWrongFalsely : Prop := fitModelRow.holds Try.pinned (OpenSpec.ofChange fitModelWrong)

/-- 'examboardlaw31.FitTests': WHATEVER THE INPUT: true; the input reads as it did. -/
def fitTestsSpec : ChangeSpec := { name := "fitTests", fn := fun _ => fun
  | [d1, d2] => { results := [.lit (.bool true)], args := [d1, d2] }
  | _ => none }
def fitTestsRow : OpenClaim := { program := "ytdbpjnjgjmfomaa", sum := "560f0bfd1d0443eae0fd029542a19de368dbb49257dff0333437cc38521ba879", func := "examboard/examboardlaw31.FitTests", spec := "fitTests", apart := false }
def FitTestsSaid : Prop := fitTestsRow.holds Try.pinned (OpenSpec.ofChange fitTestsSpec)

/-- ITS FALSE NEIGHBOUR: 'it returns false'. Refute it at one input. -/
def fitTestsWrong : ChangeSpec := { name := "fitTests", fn := fun _ => fun
  | [d1, d2] => { results := [.lit (.bool false)], args := [d1, d2] }
  | _ => none }
def FitTestsWrongFalsely : Prop := fitTestsRow.holds Try.pinned (OpenSpec.ofChange fitTestsWrong)

/-- 'examboardlaw31.FitNulls': WHATEVER THE INPUT: true; the input reads as it did. -/
def fitNullsSpec : ChangeSpec := { name := "fitNulls", fn := fun _ => fun
  | [d] => { results := [.lit (.bool true)], args := [d] }
  | _ => none }
def fitNullsRow : OpenClaim := { program := "ytdbpjnjgjmfomaa", sum := "560f0bfd1d0443eae0fd029542a19de368dbb49257dff0333437cc38521ba879", func := "examboard/examboardlaw31.FitNulls", spec := "fitNulls", unfollowed := true, recurses := true, apart := false }
def FitNullsSaid : Prop := fitNullsRow.holds Try.pinned (OpenSpec.ofChange fitNullsSpec)

/-- ITS FALSE NEIGHBOUR: 'it returns false'. Refute it at one input. -/
def fitNullsWrong : ChangeSpec := { name := "fitNulls", fn := fun _ => fun
  | [d] => { results := [.lit (.bool false)], args := [d] }
  | _ => none }
def FitNullsWrongFalsely : Prop := fitNullsRow.holds Try.pinned (OpenSpec.ofChange fitNullsWrong)

/-- 'examboardlaw31.FitOrder': WHATEVER THE INPUT: true; the input reads as it did. -/
def fitOrderSpec : ChangeSpec := { name := "fitOrder", fn := fun _ => fun
  | [d] => { results := [.lit (.bool true)], args := [d] }
  | _ => none }
def fitOrderRow : OpenClaim := { program := "ytdbpjnjgjmfomaa", sum := "560f0bfd1d0443eae0fd029542a19de368dbb49257dff0333437cc38521ba879", func := "examboard/examboardlaw31.FitOrder", spec := "fitOrder", unfollowed := true, recurses := true, apart := false }
def FitOrderSaid : Prop := fitOrderRow.holds Try.pinned (OpenSpec.ofChange fitOrderSpec)

/-- ITS FALSE NEIGHBOUR: 'it returns false'. Refute it at one input. -/
def fitOrderWrong : ChangeSpec := { name := "fitOrder", fn := fun _ => fun
  | [d] => { results := [.lit (.bool false)], args := [d] }
  | _ => none }
def FitOrderWrongFalsely : Prop := fitOrderRow.holds Try.pinned (OpenSpec.ofChange fitOrderWrong)

/- THE SECOND FORM. 'bulk': how many values and letters a reading holds, each counted each time it is reached (what is shared counts as often as it is met; a slice's spare places count too). A statement '..UptoSaid' is the law's where the arguments, and the package variables that the reading takes, are together of bulk at most 1048576: NARROWER than '..Said'. Prove '..Said' where nothing that the law and all that it calls make is longer than what came in: it says more and counts as full. Else prove '..UptoSaid'. A law counts once. -/
mutual
def uptoBulk {H : Type} : DataW H → Nat
  | .lit (.string bytes) => bytes.length + 1
  | .lit _ => 1
  | .nil => 1
  | .ptr d => uptoBulk d + 1
  | .slice elems spare => uptoBulkAll elems + uptoBulkAll spare + 1
  | .agg parts => uptoBulkAll parts + 1
  | .iface _ d => uptoBulk d + 1
  | .map entries => uptoBulkEntries entries + 1
  | .held _ => 1
def uptoBulkAll {H : Type} : List (DataW H) → Nat
  | [] => 0
  | d :: r => uptoBulk d + uptoBulkAll r
def uptoBulkEntries {H : Type} : List (Lit × DataW H) → Nat
  | [] => 0
  | x :: r => uptoBulkEntry x + uptoBulkEntries r
def uptoBulkEntry {H : Type} : Lit × DataW H → Nat
  | (.string bytes, d) => bytes.length + uptoBulk d + 1
  | (_, d) => uptoBulk d + 1
 end
def uptoSmall : (H : Type) → List (DataW H) → Bool := fun _ ds => decide (uptoBulkAll ds ≤ 1048576)
def OpenSpec.upto (s : _root_.Go.ChangeSpec) : _root_.Go.OpenSpec := { _root_.Go.OpenSpec.ofChange s with cond := some uptoSmall }

/-- 'examboardlaw31.FitCounts', WHERE WHAT IT READS IS OF BULK AT MOST 1048576: true; the input reads as it did. -/
def fitCountsUptoRow : OpenClaim := { program := "ytdbpjnjgjmfomaa", sum := "560f0bfd1d0443eae0fd029542a19de368dbb49257dff0333437cc38521ba879", func := "examboard/examboardlaw31.FitCounts", spec := "fitCounts", apart := false, narrowed := true }
def FitCountsUptoSaid : Prop := fitCountsUptoRow.holds Try.pinned (OpenSpec.upto fitCountsSpec)

/-- 'examboardlaw31.FitBound', WHERE WHAT IT READS IS OF BULK AT MOST 1048576: true; the input reads as it did. -/
def fitBoundUptoRow : OpenClaim := { program := "ytdbpjnjgjmfomaa", sum := "560f0bfd1d0443eae0fd029542a19de368dbb49257dff0333437cc38521ba879", func := "examboard/examboardlaw31.FitBound", spec := "fitBound", apart := false, narrowed := true }
def FitBoundUptoSaid : Prop := fitBoundUptoRow.holds Try.pinned (OpenSpec.upto fitBoundSpec)

/-- 'examboardlaw25.ClassicalGroups', WHERE WHAT IT READS IS OF BULK AT MOST 1048576: true; the input reads as it did. -/
def classicalGroupsUptoRow : OpenClaim := { program := "ytdbpjnjgjmfomaa", sum := "560f0bfd1d0443eae0fd029542a19de368dbb49257dff0333437cc38521ba879", func := "examboard/examboardlaw25.ClassicalGroups", spec := "classicalGroups", unfollowed := true, recurses := true, apart := false, narrowed := true }
def ClassicalGroupsUptoSaid : Prop := classicalGroupsUptoRow.holds Try.pinned (OpenSpec.upto classicalGroupsSpec)

/-- 'examboardlaw25.ClassicalCounted', WHERE WHAT IT READS IS OF BULK AT MOST 1048576: true; the input reads as it did. -/
def classicalCountedUptoRow : OpenClaim := { program := "ytdbpjnjgjmfomaa", sum := "560f0bfd1d0443eae0fd029542a19de368dbb49257dff0333437cc38521ba879", func := "examboard/examboardlaw25.ClassicalCounted", spec := "classicalCounted", unfollowed := true, recurses := true, apart := false, narrowed := true }
def ClassicalCountedUptoSaid : Prop := classicalCountedUptoRow.holds Try.pinned (OpenSpec.upto classicalCountedSpec)

/-- 'examboardlaw25.ClassicalParts', WHERE WHAT IT READS IS OF BULK AT MOST 1048576: true; the input reads as it did. -/
def classicalPartsUptoRow : OpenClaim := { program := "ytdbpjnjgjmfomaa", sum := "560f0bfd1d0443eae0fd029542a19de368dbb49257dff0333437cc38521ba879", func := "examboard/examboardlaw25.ClassicalParts", spec := "classicalParts", apart := false, narrowed := true }
def ClassicalPartsUptoSaid : Prop := classicalPartsUptoRow.holds Try.pinned (OpenSpec.upto classicalPartsSpec)

/-- 'examboardlaw31.FitModel', WHERE WHAT IT READS IS OF BULK AT MOST 1048576: true; the input reads as it did. -/
def fitModelUptoRow : OpenClaim := { program := "ytdbpjnjgjmfomaa", sum := "560f0bfd1d0443eae0fd029542a19de368dbb49257dff0333437cc38521ba879", func := "examboard/examboardlaw31.FitModel", spec := "fitModel", apart := false, narrowed := true }
def FitModelUptoSaid : Prop := fitModelUptoRow.holds Try.pinned (OpenSpec.upto fitModelSpec)

/-- 'examboardlaw31.FitTests', WHERE WHAT IT READS IS OF BULK AT MOST 1048576: true; the input reads as it did. -/
def fitTestsUptoRow : OpenClaim := { program := "ytdbpjnjgjmfomaa", sum := "560f0bfd1d0443eae0fd029542a19de368dbb49257dff0333437cc38521ba879", func := "examboard/examboardlaw31.FitTests", spec := "fitTests", apart := false, narrowed := true }
def FitTestsUptoSaid : Prop := fitTestsUptoRow.holds Try.pinned (OpenSpec.upto fitTestsSpec)

/-- 'examboardlaw31.FitNulls', WHERE WHAT IT READS IS OF BULK AT MOST 1048576: true; the input reads as it did. -/
def fitNullsUptoRow : OpenClaim := { program := "ytdbpjnjgjmfomaa", sum := "560f0bfd1d0443eae0fd029542a19de368dbb49257dff0333437cc38521ba879", func := "examboard/examboardlaw31.FitNulls", spec := "fitNulls", unfollowed := true, recurses := true, apart := false, narrowed := true }
def FitNullsUptoSaid : Prop := fitNullsUptoRow.holds Try.pinned (OpenSpec.upto fitNullsSpec)

/-- 'examboardlaw31.FitOrder', WHERE WHAT IT READS IS OF BULK AT MOST 1048576: true; the input reads as it did. -/
def fitOrderUptoRow : OpenClaim := { program := "ytdbpjnjgjmfomaa", sum := "560f0bfd1d0443eae0fd029542a19de368dbb49257dff0333437cc38521ba879", func := "examboard/examboardlaw31.FitOrder", spec := "fitOrder", unfollowed := true, recurses := true, apart := false, narrowed := true }
def FitOrderUptoSaid : Prop := fitOrderUptoRow.holds Try.pinned (OpenSpec.upto fitOrderSpec)

end Rows
end Go.Proofs.Ytdbpjnjgjmfomaa
