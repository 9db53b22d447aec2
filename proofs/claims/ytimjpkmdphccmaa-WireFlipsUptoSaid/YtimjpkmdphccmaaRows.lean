/-
  NARROWER THAN 'FOR EVERY INPUT', by the rows' own cells (each row's printed sentence says how): UndoRow: loops · WireRight: loops · WireSteps: loops · WireBack: loops · WireFlips: loops · JournalBack: loops · JournalRoom: loops · JournalCuts: loops.
  DERIVED. THE GIVEN ROWS OF THIS SEAT. 8 by the template 'for every input the law returns true; each argument reads behind the call as it read before'; 0 by the template 'total and deterministic' (their statements: YtimjpkmdphccmaaTotals.lean).
  GIVEN WITH THE SEED: the statements are not yours to turn. If you find one false, say at which input.
  Laid BY PROGRAM, IN A SANDBOX (cutbox-rows.mjs): the forced cells as the released guide's own fill.sh prints them over the translation 52c37111e0ae0a26… (all of the seat's roots in one cut). By AI agents, Wed Nov 11 2026. No macro, syntax, notation, axiom, sorry.
-/
import Derived.Test.YtimjpkmdphccmaaChecked
import GoSem.Claim
import GoSem.ClaimJoined
import GoSem.ClaimMapViews
import Derived.JoinedTies
import Derived.KernelRfl
namespace Go.Proofs.Ytimjpkmdphccmaa
/- THE CELL 'sum', in the pinned program and in every row, IS THE sha256 OF THE DUMP (.gsa) THAT YtimjpkmdphccmaaProg.lean LOADS. Nothing in Lean hashes anything: it is a label: what it is worth is what the hold of that sum in a sandbox is worth. -/
noncomputable def Try.pinned : Pinned := { name := "ytimjpkmdphccmaa", sum := "52c37111e0ae0a26c4af2f93dda7ee22b8b25687e18b9168259af3b5bfc238ec", checked := Try.checked }
namespace Rows
def none {H : Type} : Left H := { results := [], args := [] }

/-- 'allotmentlaw10.UndoRow': WHATEVER THE INPUT: true; the input reads as it did. -/
def undoRowSpec : ChangeSpec := { name := "undoRow", fn := fun _ => fun
  | [d1, d2] => { results := [.lit (.bool true)], args := [d1, d2] }
  | _ => none }
def undoRowRow : OpenClaim := { program := "ytimjpkmdphccmaa", sum := "52c37111e0ae0a26c4af2f93dda7ee22b8b25687e18b9168259af3b5bfc238ec", func := "allotment/allotmentlaw10.UndoRow", spec := "undoRow", unfollowed := true, recurses := true, loops := true, apart := false }
def UndoRowSaid : Prop := undoRowRow.holds Try.pinned (OpenSpec.ofChange undoRowSpec)

/-- ITS FALSE NEIGHBOUR: 'it returns false'. Refute it at one input. -/
def undoRowWrong : ChangeSpec := { name := "undoRow", fn := fun _ => fun
  | [d1, d2] => { results := [.lit (.bool false)], args := [d1, d2] }
  | _ => none }
def UndoRowWrongFalsely : Prop := undoRowRow.holds Try.pinned (OpenSpec.ofChange undoRowWrong)

/-- 'allotmentlaw14.WireRight': WHATEVER THE INPUT: true; the input reads as it did. -/
def wireRightSpec : ChangeSpec := { name := "wireRight", fn := fun _ => fun
  | [d1, d2] => { results := [.lit (.bool true)], args := [d1, d2] }
  | _ => none }
def wireRightRow : OpenClaim := { program := "ytimjpkmdphccmaa", sum := "52c37111e0ae0a26c4af2f93dda7ee22b8b25687e18b9168259af3b5bfc238ec", func := "allotment/allotmentlaw14.WireRight", spec := "wireRight", unfollowed := true, recurses := true, loops := true, apart := false }
def WireRightSaid : Prop := wireRightRow.holds Try.pinned (OpenSpec.ofChange wireRightSpec)

/-- ITS FALSE NEIGHBOUR: 'it returns false'. Refute it at one input. -/
def wireRightWrong : ChangeSpec := { name := "wireRight", fn := fun _ => fun
  | [d1, d2] => { results := [.lit (.bool false)], args := [d1, d2] }
  | _ => none }
def WireRightWrongFalsely : Prop := wireRightRow.holds Try.pinned (OpenSpec.ofChange wireRightWrong)

/-- 'allotmentlaw14.WireSteps': WHATEVER THE INPUT: true; the input reads as it did. -/
def wireStepsSpec : ChangeSpec := { name := "wireSteps", fn := fun _ => fun
  | [d1, d2] => { results := [.lit (.bool true)], args := [d1, d2] }
  | _ => none }
def wireStepsRow : OpenClaim := { program := "ytimjpkmdphccmaa", sum := "52c37111e0ae0a26c4af2f93dda7ee22b8b25687e18b9168259af3b5bfc238ec", func := "allotment/allotmentlaw14.WireSteps", spec := "wireSteps", unfollowed := true, recurses := true, loops := true, apart := false }
def WireStepsSaid : Prop := wireStepsRow.holds Try.pinned (OpenSpec.ofChange wireStepsSpec)

/-- ITS FALSE NEIGHBOUR: 'it returns false'. Refute it at one input. -/
def wireStepsWrong : ChangeSpec := { name := "wireSteps", fn := fun _ => fun
  | [d1, d2] => { results := [.lit (.bool false)], args := [d1, d2] }
  | _ => none }
def WireStepsWrongFalsely : Prop := wireStepsRow.holds Try.pinned (OpenSpec.ofChange wireStepsWrong)

/-- 'allotmentlaw14.WireBack': WHATEVER THE INPUT: true; the input reads as it did. -/
def wireBackSpec : ChangeSpec := { name := "wireBack", fn := fun _ => fun
  | [d1, d2] => { results := [.lit (.bool true)], args := [d1, d2] }
  | _ => none }
def wireBackRow : OpenClaim := { program := "ytimjpkmdphccmaa", sum := "52c37111e0ae0a26c4af2f93dda7ee22b8b25687e18b9168259af3b5bfc238ec", func := "allotment/allotmentlaw14.WireBack", spec := "wireBack", unfollowed := true, recurses := true, loops := true, apart := false }
def WireBackSaid : Prop := wireBackRow.holds Try.pinned (OpenSpec.ofChange wireBackSpec)

/-- ITS FALSE NEIGHBOUR: 'it returns false'. Refute it at one input. -/
def wireBackWrong : ChangeSpec := { name := "wireBack", fn := fun _ => fun
  | [d1, d2] => { results := [.lit (.bool false)], args := [d1, d2] }
  | _ => none }
def WireBackWrongFalsely : Prop := wireBackRow.holds Try.pinned (OpenSpec.ofChange wireBackWrong)

/-- 'allotmentlaw14.WireFlips': WHATEVER THE INPUT: true; the input reads as it did. -/
def wireFlipsSpec : ChangeSpec := { name := "wireFlips", fn := fun _ => fun
  | [d1, d2, d3, d4] => { results := [.lit (.bool true)], args := [d1, d2, d3, d4] }
  | _ => none }
def wireFlipsRow : OpenClaim := { program := "ytimjpkmdphccmaa", sum := "52c37111e0ae0a26c4af2f93dda7ee22b8b25687e18b9168259af3b5bfc238ec", func := "allotment/allotmentlaw14.WireFlips", spec := "wireFlips", unfollowed := true, recurses := true, loops := true, apart := false }
def WireFlipsSaid : Prop := wireFlipsRow.holds Try.pinned (OpenSpec.ofChange wireFlipsSpec)

/-- ITS FALSE NEIGHBOUR: 'it returns false'. Refute it at one input. -/
def wireFlipsWrong : ChangeSpec := { name := "wireFlips", fn := fun _ => fun
  | [d1, d2, d3, d4] => { results := [.lit (.bool false)], args := [d1, d2, d3, d4] }
  | _ => none }
def WireFlipsWrongFalsely : Prop := wireFlipsRow.holds Try.pinned (OpenSpec.ofChange wireFlipsWrong)

/-- 'allotmentlaw18.JournalBack': WHATEVER THE INPUT: true; the input reads as it did. -/
def journalBackSpec : ChangeSpec := { name := "journalBack", fn := fun _ => fun
  | [d1, d2] => { results := [.lit (.bool true)], args := [d1, d2] }
  | _ => none }
def journalBackRow : OpenClaim := { program := "ytimjpkmdphccmaa", sum := "52c37111e0ae0a26c4af2f93dda7ee22b8b25687e18b9168259af3b5bfc238ec", func := "allotment/allotmentlaw18.JournalBack", spec := "journalBack", unfollowed := true, recurses := true, loops := true, apart := false }
def JournalBackSaid : Prop := journalBackRow.holds Try.pinned (OpenSpec.ofChange journalBackSpec)

/-- ITS FALSE NEIGHBOUR: 'it returns false'. Refute it at one input. -/
def journalBackWrong : ChangeSpec := { name := "journalBack", fn := fun _ => fun
  | [d1, d2] => { results := [.lit (.bool false)], args := [d1, d2] }
  | _ => none }
def JournalBackWrongFalsely : Prop := journalBackRow.holds Try.pinned (OpenSpec.ofChange journalBackWrong)

/-- 'allotmentlaw18.JournalRoom': WHATEVER THE INPUT: true; the input reads as it did. -/
def journalRoomSpec : ChangeSpec := { name := "journalRoom", fn := fun _ => fun
  | [d1, d2] => { results := [.lit (.bool true)], args := [d1, d2] }
  | _ => none }
def journalRoomRow : OpenClaim := { program := "ytimjpkmdphccmaa", sum := "52c37111e0ae0a26c4af2f93dda7ee22b8b25687e18b9168259af3b5bfc238ec", func := "allotment/allotmentlaw18.JournalRoom", spec := "journalRoom", unfollowed := true, recurses := true, loops := true, apart := false }
def JournalRoomSaid : Prop := journalRoomRow.holds Try.pinned (OpenSpec.ofChange journalRoomSpec)

/-- ITS FALSE NEIGHBOUR: 'it returns false'. Refute it at one input. -/
def journalRoomWrong : ChangeSpec := { name := "journalRoom", fn := fun _ => fun
  | [d1, d2] => { results := [.lit (.bool false)], args := [d1, d2] }
  | _ => none }
def JournalRoomWrongFalsely : Prop := journalRoomRow.holds Try.pinned (OpenSpec.ofChange journalRoomWrong)

/-- 'allotmentlaw18.JournalCuts': WHATEVER THE INPUT: true; the input reads as it did. -/
def journalCutsSpec : ChangeSpec := { name := "journalCuts", fn := fun _ => fun
  | [d1, d2, d3] => { results := [.lit (.bool true)], args := [d1, d2, d3] }
  | _ => none }
def journalCutsRow : OpenClaim := { program := "ytimjpkmdphccmaa", sum := "52c37111e0ae0a26c4af2f93dda7ee22b8b25687e18b9168259af3b5bfc238ec", func := "allotment/allotmentlaw18.JournalCuts", spec := "journalCuts", unfollowed := true, recurses := true, loops := true, apart := false }
def JournalCutsSaid : Prop := journalCutsRow.holds Try.pinned (OpenSpec.ofChange journalCutsSpec)

/-- ITS FALSE NEIGHBOUR: 'it returns false'. Refute it at one input. -/
def journalCutsWrong : ChangeSpec := { name := "journalCuts", fn := fun _ => fun
  | [d1, d2, d3] => { results := [.lit (.bool false)], args := [d1, d2, d3] }
  | _ => none }
def JournalCutsWrongFalsely : Prop := journalCutsRow.holds Try.pinned (OpenSpec.ofChange journalCutsWrong)

/- THE SECOND FORM. 'bulk': how many values and letters a reading holds, each counted each time it is reached (what is shared counts as often as it is met; a slice's spare places count too). A statement '..UptoSaid' is the law's where the arguments, and the package variables that the reading takes, are together of bulk at most 1048576: NARROWER than '..Said'. Prove '..Said' where nothing that the law and all that it calls make is longer than what came in: it says more and counts as full. Else prove '..UptoSaid'. A law counts once. -/
mutual
def uptoBulk {H : Type} : DataW H → Nat
  | .lit (.string bytes) => bytes.length + 1
  | .lit _ => 1
  | .nil => 1
  | .ptr d => uptoBulk d + 1
  | .slice elems spare => uptoBulkAll elems + uptoBulkAll spare + 1
  | .agg parts => uptoBulkAll parts + 1
  | .iface _ d => uptoBulk d + 1
  | .map entries => uptoBulkEntries entries + 1
  | .held _ => 1
def uptoBulkAll {H : Type} : List (DataW H) → Nat
  | [] => 0
  | d :: r => uptoBulk d + uptoBulkAll r
def uptoBulkEntries {H : Type} : List (Lit × DataW H) → Nat
  | [] => 0
  | x :: r => uptoBulkEntry x + uptoBulkEntries r
def uptoBulkEntry {H : Type} : Lit × DataW H → Nat
  | (.string bytes, d) => bytes.length + uptoBulk d + 1
  | (_, d) => uptoBulk d + 1
 end
def uptoSmall : (H : Type) → List (DataW H) → Bool := fun _ ds => decide (uptoBulkAll ds ≤ 1048576)
def OpenSpec.upto (s : _root_.Go.ChangeSpec) : _root_.Go.OpenSpec := { _root_.Go.OpenSpec.ofChange s with cond := some uptoSmall }

/-- 'allotmentlaw10.UndoRow', WHERE WHAT IT READS IS OF BULK AT MOST 1048576: true; the input reads as it did. -/
def undoRowUptoRow : OpenClaim := { program := "ytimjpkmdphccmaa", sum := "52c37111e0ae0a26c4af2f93dda7ee22b8b25687e18b9168259af3b5bfc238ec", func := "allotment/allotmentlaw10.UndoRow", spec := "undoRow", unfollowed := true, recurses := true, loops := true, apart := false, narrowed := true }
def UndoRowUptoSaid : Prop := undoRowUptoRow.holds Try.pinned (OpenSpec.upto undoRowSpec)

/-- 'allotmentlaw14.WireRight', WHERE WHAT IT READS IS OF BULK AT MOST 1048576: true; the input reads as it did. -/
def wireRightUptoRow : OpenClaim := { program := "ytimjpkmdphccmaa", sum := "52c37111e0ae0a26c4af2f93dda7ee22b8b25687e18b9168259af3b5bfc238ec", func := "allotment/allotmentlaw14.WireRight", spec := "wireRight", unfollowed := true, recurses := true, loops := true, apart := false, narrowed := true }
def WireRightUptoSaid : Prop := wireRightUptoRow.holds Try.pinned (OpenSpec.upto wireRightSpec)

/-- 'allotmentlaw14.WireSteps', WHERE WHAT IT READS IS OF BULK AT MOST 1048576: true; the input reads as it did. -/
def wireStepsUptoRow : OpenClaim := { program := "ytimjpkmdphccmaa", sum := "52c37111e0ae0a26c4af2f93dda7ee22b8b25687e18b9168259af3b5bfc238ec", func := "allotment/allotmentlaw14.WireSteps", spec := "wireSteps", unfollowed := true, recurses := true, loops := true, apart := false, narrowed := true }
def WireStepsUptoSaid : Prop := wireStepsUptoRow.holds Try.pinned (OpenSpec.upto wireStepsSpec)

/-- 'allotmentlaw14.WireBack', WHERE WHAT IT READS IS OF BULK AT MOST 1048576: true; the input reads as it did. -/
def wireBackUptoRow : OpenClaim := { program := "ytimjpkmdphccmaa", sum := "52c37111e0ae0a26c4af2f93dda7ee22b8b25687e18b9168259af3b5bfc238ec", func := "allotment/allotmentlaw14.WireBack", spec := "wireBack", unfollowed := true, recurses := true, loops := true, apart := false, narrowed := true }
def WireBackUptoSaid : Prop := wireBackUptoRow.holds Try.pinned (OpenSpec.upto wireBackSpec)

/-- 'allotmentlaw14.WireFlips', WHERE WHAT IT READS IS OF BULK AT MOST 1048576: true; the input reads as it did. -/
def wireFlipsUptoRow : OpenClaim := { program := "ytimjpkmdphccmaa", sum := "52c37111e0ae0a26c4af2f93dda7ee22b8b25687e18b9168259af3b5bfc238ec", func := "allotment/allotmentlaw14.WireFlips", spec := "wireFlips", unfollowed := true, recurses := true, loops := true, apart := false, narrowed := true }
def WireFlipsUptoSaid : Prop := wireFlipsUptoRow.holds Try.pinned (OpenSpec.upto wireFlipsSpec)

/-- 'allotmentlaw18.JournalBack', WHERE WHAT IT READS IS OF BULK AT MOST 1048576: true; the input reads as it did. -/
def journalBackUptoRow : OpenClaim := { program := "ytimjpkmdphccmaa", sum := "52c37111e0ae0a26c4af2f93dda7ee22b8b25687e18b9168259af3b5bfc238ec", func := "allotment/allotmentlaw18.JournalBack", spec := "journalBack", unfollowed := true, recurses := true, loops := true, apart := false, narrowed := true }
def JournalBackUptoSaid : Prop := journalBackUptoRow.holds Try.pinned (OpenSpec.upto journalBackSpec)

/-- 'allotmentlaw18.JournalRoom', WHERE WHAT IT READS IS OF BULK AT MOST 1048576: true; the input reads as it did. -/
def journalRoomUptoRow : OpenClaim := { program := "ytimjpkmdphccmaa", sum := "52c37111e0ae0a26c4af2f93dda7ee22b8b25687e18b9168259af3b5bfc238ec", func := "allotment/allotmentlaw18.JournalRoom", spec := "journalRoom", unfollowed := true, recurses := true, loops := true, apart := false, narrowed := true }
def JournalRoomUptoSaid : Prop := journalRoomUptoRow.holds Try.pinned (OpenSpec.upto journalRoomSpec)

/-- 'allotmentlaw18.JournalCuts', WHERE WHAT IT READS IS OF BULK AT MOST 1048576: true; the input reads as it did. -/
def journalCutsUptoRow : OpenClaim := { program := "ytimjpkmdphccmaa", sum := "52c37111e0ae0a26c4af2f93dda7ee22b8b25687e18b9168259af3b5bfc238ec", func := "allotment/allotmentlaw18.JournalCuts", spec := "journalCuts", unfollowed := true, recurses := true, loops := true, apart := false, narrowed := true }
def JournalCutsUptoSaid : Prop := journalCutsUptoRow.holds Try.pinned (OpenSpec.upto journalCutsSpec)

end Rows
end Go.Proofs.Ytimjpkmdphccmaa
