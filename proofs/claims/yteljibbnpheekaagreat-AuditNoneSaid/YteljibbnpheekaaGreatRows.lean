/-
  No cell of these rows narrows 'for every input' (looked for: loops, veiled, ifaces, maps, wideKeys, modest, calm, conditions, laid).
  DERIVED. THE GIVEN ROWS OF THIS SEAT. 7 by the template 'for every input the law returns true; each argument reads behind the call as it read before'; 0 by the template 'total and deterministic' (their statements: YteljibbnpheekaaGreatTotals.lean).
  GIVEN WITH THE SEED: the statements are not yours to turn. If you find one false, say at which input.
  Laid BY PROGRAM, IN A SANDBOX (cutbox-rows.mjs): the forced cells as the released guide's own fill.sh prints them over the translation 9e7e02b44e9b2f8b… (all of the seat's roots in one cut). By AI agents, Wed Nov 11 2026. No macro, syntax, notation, axiom, sorry.
-/
import Derived.Test.YteljibbnpheekaaGreatChecked
import GoSem.Claim
import GoSem.ClaimJoined
import GoSem.ClaimMapViews
import Derived.JoinedTies
import Derived.KernelRfl
namespace Go.Proofs.YteljibbnpheekaaGreat
/- THE CELL 'sum', in the pinned program and in every row, IS THE sha256 OF THE DUMP (.gsa) THAT YteljibbnpheekaaGreatProg.lean LOADS. Nothing in Lean hashes anything: it is a label: what it is worth is what the hold of that sum in a sandbox is worth. -/
noncomputable def Tryz.pinned : Pinned := { name := "yteljibbnpheekaagreat", sum := "9e7e02b44e9b2f8b0baa4e35dbb4295b4f99b5764b1c64d651fc7848ab7a26bd", checked := Tryz.checked }
namespace Rows
def none {H : Type} : Left H := { results := [], args := [] }

/-- 'pantilelaw27.PolicyWaits': WHATEVER THE INPUT: true; the input reads as it did. -/
def policyWaitsSpec : ChangeSpec := { name := "policyWaits", fn := fun _ => fun
  | [d] => { results := [.lit (.bool true)], args := [d] }
  | _ => none }
def policyWaitsRow : OpenClaim := { program := "yteljibbnpheekaagreat", sum := "9e7e02b44e9b2f8b0baa4e35dbb4295b4f99b5764b1c64d651fc7848ab7a26bd", func := "pantile/pantilelaw27.PolicyWaits", spec := "policyWaits", inPlace := ["slices.overlaps[int]", "slices.overlaps[pantile/api.Spot]", "slices.overlaps[pantile/api.Compound]"], unfollowed := true, recurses := true, apart := false }
def PolicyWaitsSaid : Prop := policyWaitsRow.holds Tryz.pinned (OpenSpec.ofChange policyWaitsSpec)

/-- ITS FALSE NEIGHBOUR: 'it returns false'. Refute it at one input. -/
def policyWaitsWrong : ChangeSpec := { name := "policyWaits", fn := fun _ => fun
  | [d] => { results := [.lit (.bool false)], args := [d] }
  | _ => none }
def PolicyWaitsWrongFalsely : Prop := policyWaitsRow.holds Tryz.pinned (OpenSpec.ofChange policyWaitsWrong)

/-- 'pantilelaw26.MachineNone': WHATEVER THE INPUT: true; the input reads as it did. -/
def machineNoneSpec : ChangeSpec := { name := "machineNone", fn := fun _ => fun
  | [d1, d2, d3] => { results := [.lit (.bool true)], args := [d1, d2, d3] }
  | _ => none }
def machineNoneRow : OpenClaim := { program := "yteljibbnpheekaagreat", sum := "9e7e02b44e9b2f8b0baa4e35dbb4295b4f99b5764b1c64d651fc7848ab7a26bd", func := "pantile/pantilelaw26.MachineNone", spec := "machineNone", inPlace := ["slices.overlaps[int]", "slices.overlaps[pantile/api.Compound]", "slices.overlaps[pantile/api.Spot]"], unfollowed := true, recurses := true, apart := false }
def MachineNoneSaid : Prop := machineNoneRow.holds Tryz.pinned (OpenSpec.ofChange machineNoneSpec)

/-- ITS FALSE NEIGHBOUR: 'it returns false'. Refute it at one input. -/
def machineNoneWrong : ChangeSpec := { name := "machineNone", fn := fun _ => fun
  | [d1, d2, d3] => { results := [.lit (.bool false)], args := [d1, d2, d3] }
  | _ => none }
def MachineNoneWrongFalsely : Prop := machineNoneRow.holds Tryz.pinned (OpenSpec.ofChange machineNoneWrong)

/-- 'pantilelaw27.PolicyNone': WHATEVER THE INPUT: true; the input reads as it did. -/
def policyNoneSpec : ChangeSpec := { name := "policyNone", fn := fun _ => fun
  | [d] => { results := [.lit (.bool true)], args := [d] }
  | _ => none }
def policyNoneRow : OpenClaim := { program := "yteljibbnpheekaagreat", sum := "9e7e02b44e9b2f8b0baa4e35dbb4295b4f99b5764b1c64d651fc7848ab7a26bd", func := "pantile/pantilelaw27.PolicyNone", spec := "policyNone", inPlace := ["slices.overlaps[int]", "slices.overlaps[pantile/api.Spot]", "slices.overlaps[pantile/api.Compound]"], unfollowed := true, recurses := true, apart := false }
def PolicyNoneSaid : Prop := policyNoneRow.holds Tryz.pinned (OpenSpec.ofChange policyNoneSpec)

/-- ITS FALSE NEIGHBOUR: 'it returns false'. Refute it at one input. -/
def policyNoneWrong : ChangeSpec := { name := "policyNone", fn := fun _ => fun
  | [d] => { results := [.lit (.bool false)], args := [d] }
  | _ => none }
def PolicyNoneWrongFalsely : Prop := policyNoneRow.holds Tryz.pinned (OpenSpec.ofChange policyNoneWrong)

/-- 'pantilelaw29.EraseErases': WHATEVER THE INPUT: true; the input reads as it did. -/
def eraseErasesSpec : ChangeSpec := { name := "eraseErases", fn := fun _ => fun
  | [d] => { results := [.lit (.bool true)], args := [d] }
  | _ => none }
def eraseErasesRow : OpenClaim := { program := "yteljibbnpheekaagreat", sum := "9e7e02b44e9b2f8b0baa4e35dbb4295b4f99b5764b1c64d651fc7848ab7a26bd", func := "pantile/pantilelaw29.EraseErases", spec := "eraseErases", inPlace := ["slices.overlaps[int]", "slices.overlaps[pantile/api.Spot]", "slices.overlaps[pantile/api.Compound]"], unfollowed := true, recurses := true, apart := false }
def EraseErasesSaid : Prop := eraseErasesRow.holds Tryz.pinned (OpenSpec.ofChange eraseErasesSpec)

/-- ITS FALSE NEIGHBOUR: 'it returns false'. Refute it at one input. -/
def eraseErasesWrong : ChangeSpec := { name := "eraseErases", fn := fun _ => fun
  | [d] => { results := [.lit (.bool false)], args := [d] }
  | _ => none }
def EraseErasesWrongFalsely : Prop := eraseErasesRow.holds Tryz.pinned (OpenSpec.ofChange eraseErasesWrong)

/-- 'pantilelaw29.ErasePlain': WHATEVER THE INPUT: true; the input reads as it did. -/
def erasePlainSpec : ChangeSpec := { name := "erasePlain", fn := fun _ => fun
  | [d1, d2] => { results := [.lit (.bool true)], args := [d1, d2] }
  | _ => none }
def erasePlainRow : OpenClaim := { program := "yteljibbnpheekaagreat", sum := "9e7e02b44e9b2f8b0baa4e35dbb4295b4f99b5764b1c64d651fc7848ab7a26bd", func := "pantile/pantilelaw29.ErasePlain", spec := "erasePlain", inPlace := ["slices.overlaps[int]", "slices.overlaps[pantile/api.Spot]", "slices.overlaps[pantile/api.Compound]"], unfollowed := true, recurses := true, apart := false }
def ErasePlainSaid : Prop := erasePlainRow.holds Tryz.pinned (OpenSpec.ofChange erasePlainSpec)

/-- ITS FALSE NEIGHBOUR: 'it returns false'. Refute it at one input. -/
def erasePlainWrong : ChangeSpec := { name := "erasePlain", fn := fun _ => fun
  | [d1, d2] => { results := [.lit (.bool false)], args := [d1, d2] }
  | _ => none }
def ErasePlainWrongFalsely : Prop := erasePlainRow.holds Tryz.pinned (OpenSpec.ofChange erasePlainWrong)

/-- 'pantilelaw29.EraseJoins': WHATEVER THE INPUT: true; the input reads as it did. -/
def eraseJoinsSpec : ChangeSpec := { name := "eraseJoins", fn := fun _ => fun
  | [d1, d2] => { results := [.lit (.bool true)], args := [d1, d2] }
  | _ => none }
def eraseJoinsRow : OpenClaim := { program := "yteljibbnpheekaagreat", sum := "9e7e02b44e9b2f8b0baa4e35dbb4295b4f99b5764b1c64d651fc7848ab7a26bd", func := "pantile/pantilelaw29.EraseJoins", spec := "eraseJoins", inPlace := ["slices.overlaps[int]", "slices.overlaps[pantile/api.Spot]", "slices.overlaps[pantile/api.Compound]"], unfollowed := true, recurses := true, apart := false }
def EraseJoinsSaid : Prop := eraseJoinsRow.holds Tryz.pinned (OpenSpec.ofChange eraseJoinsSpec)

/-- ITS FALSE NEIGHBOUR: 'it returns false'. Refute it at one input. -/
def eraseJoinsWrong : ChangeSpec := { name := "eraseJoins", fn := fun _ => fun
  | [d1, d2] => { results := [.lit (.bool false)], args := [d1, d2] }
  | _ => none }
def EraseJoinsWrongFalsely : Prop := eraseJoinsRow.holds Tryz.pinned (OpenSpec.ofChange eraseJoinsWrong)

/-- 'pantilelaw28.AuditNone': WHATEVER THE INPUT: true; the input reads as it did. -/
def auditNoneSpec : ChangeSpec := { name := "auditNone", fn := fun _ => fun
  | [d] => { results := [.lit (.bool true)], args := [d] }
  | _ => none }
def auditNoneRow : OpenClaim := { program := "yteljibbnpheekaagreat", sum := "9e7e02b44e9b2f8b0baa4e35dbb4295b4f99b5764b1c64d651fc7848ab7a26bd", func := "pantile/pantilelaw28.AuditNone", spec := "auditNone", inPlace := ["slices.overlaps[int]", "slices.overlaps[pantile/api.Compound]", "slices.overlaps[pantile/api.Spot]"], unfollowed := true, recurses := true, apart := false }
def AuditNoneSaid : Prop := auditNoneRow.holds Tryz.pinned (OpenSpec.ofChange auditNoneSpec)

/-- ITS FALSE NEIGHBOUR: 'it returns false'. Refute it at one input. -/
def auditNoneWrong : ChangeSpec := { name := "auditNone", fn := fun _ => fun
  | [d] => { results := [.lit (.bool false)], args := [d] }
  | _ => none }
def AuditNoneWrongFalsely : Prop := auditNoneRow.holds Tryz.pinned (OpenSpec.ofChange auditNoneWrong)

/- THE SECOND FORM. 'bulk': how many values and letters a reading holds, each counted each time it is reached (what is shared counts as often as it is met; a slice's spare places count too). A statement '..UptoSaid' is the law's where the arguments, and the package variables that the reading takes, are together of bulk at most 1048576: NARROWER than '..Said'. Prove '..Said' where nothing that the law and all that it calls make is longer than what came in: it says more and counts as full. Else prove '..UptoSaid'. A law counts once. -/
mutual
def uptoBulk {H : Type} : DataW H → Nat
  | .lit (.string bytes) => bytes.length + 1
  | .lit _ => 1
  | .nil => 1
  | .ptr d => uptoBulk d + 1
  | .slice elems spare => uptoBulkAll elems + uptoBulkAll spare + 1
  | .agg parts => uptoBulkAll parts + 1
  | .iface _ d => uptoBulk d + 1
  | .map entries => uptoBulkEntries entries + 1
  | .held _ => 1
def uptoBulkAll {H : Type} : List (DataW H) → Nat
  | [] => 0
  | d :: r => uptoBulk d + uptoBulkAll r
def uptoBulkEntries {H : Type} : List (Lit × DataW H) → Nat
  | [] => 0
  | x :: r => uptoBulkEntry x + uptoBulkEntries r
def uptoBulkEntry {H : Type} : Lit × DataW H → Nat
  | (.string bytes, d) => bytes.length + uptoBulk d + 1
  | (_, d) => uptoBulk d + 1
 end
def uptoSmall : (H : Type) → List (DataW H) → Bool := fun _ ds => decide (uptoBulkAll ds ≤ 1048576)
def OpenSpec.upto (s : _root_.Go.ChangeSpec) : _root_.Go.OpenSpec := { _root_.Go.OpenSpec.ofChange s with cond := some uptoSmall }

/-- 'pantilelaw27.PolicyWaits', WHERE WHAT IT READS IS OF BULK AT MOST 1048576: true; the input reads as it did. -/
def policyWaitsUptoRow : OpenClaim := { program := "yteljibbnpheekaagreat", sum := "9e7e02b44e9b2f8b0baa4e35dbb4295b4f99b5764b1c64d651fc7848ab7a26bd", func := "pantile/pantilelaw27.PolicyWaits", spec := "policyWaits", inPlace := ["slices.overlaps[int]", "slices.overlaps[pantile/api.Spot]", "slices.overlaps[pantile/api.Compound]"], unfollowed := true, recurses := true, apart := false, narrowed := true }
def PolicyWaitsUptoSaid : Prop := policyWaitsUptoRow.holds Tryz.pinned (OpenSpec.upto policyWaitsSpec)

/-- 'pantilelaw26.MachineNone', WHERE WHAT IT READS IS OF BULK AT MOST 1048576: true; the input reads as it did. -/
def machineNoneUptoRow : OpenClaim := { program := "yteljibbnpheekaagreat", sum := "9e7e02b44e9b2f8b0baa4e35dbb4295b4f99b5764b1c64d651fc7848ab7a26bd", func := "pantile/pantilelaw26.MachineNone", spec := "machineNone", inPlace := ["slices.overlaps[int]", "slices.overlaps[pantile/api.Compound]", "slices.overlaps[pantile/api.Spot]"], unfollowed := true, recurses := true, apart := false, narrowed := true }
def MachineNoneUptoSaid : Prop := machineNoneUptoRow.holds Tryz.pinned (OpenSpec.upto machineNoneSpec)

/-- 'pantilelaw27.PolicyNone', WHERE WHAT IT READS IS OF BULK AT MOST 1048576: true; the input reads as it did. -/
def policyNoneUptoRow : OpenClaim := { program := "yteljibbnpheekaagreat", sum := "9e7e02b44e9b2f8b0baa4e35dbb4295b4f99b5764b1c64d651fc7848ab7a26bd", func := "pantile/pantilelaw27.PolicyNone", spec := "policyNone", inPlace := ["slices.overlaps[int]", "slices.overlaps[pantile/api.Spot]", "slices.overlaps[pantile/api.Compound]"], unfollowed := true, recurses := true, apart := false, narrowed := true }
def PolicyNoneUptoSaid : Prop := policyNoneUptoRow.holds Tryz.pinned (OpenSpec.upto policyNoneSpec)

/-- 'pantilelaw29.EraseErases', WHERE WHAT IT READS IS OF BULK AT MOST 1048576: true; the input reads as it did. -/
def eraseErasesUptoRow : OpenClaim := { program := "yteljibbnpheekaagreat", sum := "9e7e02b44e9b2f8b0baa4e35dbb4295b4f99b5764b1c64d651fc7848ab7a26bd", func := "pantile/pantilelaw29.EraseErases", spec := "eraseErases", inPlace := ["slices.overlaps[int]", "slices.overlaps[pantile/api.Spot]", "slices.overlaps[pantile/api.Compound]"], unfollowed := true, recurses := true, apart := false, narrowed := true }
def EraseErasesUptoSaid : Prop := eraseErasesUptoRow.holds Tryz.pinned (OpenSpec.upto eraseErasesSpec)

/-- 'pantilelaw29.ErasePlain', WHERE WHAT IT READS IS OF BULK AT MOST 1048576: true; the input reads as it did. -/
def erasePlainUptoRow : OpenClaim := { program := "yteljibbnpheekaagreat", sum := "9e7e02b44e9b2f8b0baa4e35dbb4295b4f99b5764b1c64d651fc7848ab7a26bd", func := "pantile/pantilelaw29.ErasePlain", spec := "erasePlain", inPlace := ["slices.overlaps[int]", "slices.overlaps[pantile/api.Spot]", "slices.overlaps[pantile/api.Compound]"], unfollowed := true, recurses := true, apart := false, narrowed := true }
def ErasePlainUptoSaid : Prop := erasePlainUptoRow.holds Tryz.pinned (OpenSpec.upto erasePlainSpec)

/-- 'pantilelaw29.EraseJoins', WHERE WHAT IT READS IS OF BULK AT MOST 1048576: true; the input reads as it did. -/
def eraseJoinsUptoRow : OpenClaim := { program := "yteljibbnpheekaagreat", sum := "9e7e02b44e9b2f8b0baa4e35dbb4295b4f99b5764b1c64d651fc7848ab7a26bd", func := "pantile/pantilelaw29.EraseJoins", spec := "eraseJoins", inPlace := ["slices.overlaps[int]", "slices.overlaps[pantile/api.Spot]", "slices.overlaps[pantile/api.Compound]"], unfollowed := true, recurses := true, apart := false, narrowed := true }
def EraseJoinsUptoSaid : Prop := eraseJoinsUptoRow.holds Tryz.pinned (OpenSpec.upto eraseJoinsSpec)

/-- 'pantilelaw28.AuditNone', WHERE WHAT IT READS IS OF BULK AT MOST 1048576: true; the input reads as it did. -/
def auditNoneUptoRow : OpenClaim := { program := "yteljibbnpheekaagreat", sum := "9e7e02b44e9b2f8b0baa4e35dbb4295b4f99b5764b1c64d651fc7848ab7a26bd", func := "pantile/pantilelaw28.AuditNone", spec := "auditNone", inPlace := ["slices.overlaps[int]", "slices.overlaps[pantile/api.Compound]", "slices.overlaps[pantile/api.Spot]"], unfollowed := true, recurses := true, apart := false, narrowed := true }
def AuditNoneUptoSaid : Prop := auditNoneUptoRow.holds Tryz.pinned (OpenSpec.upto auditNoneSpec)

end Rows
end Go.Proofs.YteljibbnpheekaaGreat
