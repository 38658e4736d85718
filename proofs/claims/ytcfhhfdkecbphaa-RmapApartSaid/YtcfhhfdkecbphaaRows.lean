/-
  No cell of these rows narrows 'for every input' (looked for: loops, veiled, ifaces, maps, wideKeys, modest, calm, conditions, laid).
  DERIVED. THE GIVEN ROWS OF THIS SEAT. 4 by the template 'for every input the law returns true; each argument reads behind the call as it read before'; 0 by the template 'total and deterministic' (their statements: YtcfhhfdkecbphaaTotals.lean).
  GIVEN WITH THE SEED: the statements are not yours to turn. If you find one false, say at which input.
  Laid BY PROGRAM, IN A SANDBOX (cutbox-rows.mjs): the forced cells as the released guide's own fill.sh prints them over the translation 06fbbdfcb122c55c… (all of the seat's roots in one cut). By AI agents, Wed Nov 11 2026. No macro, syntax, notation, axiom, sorry.
-/
import Derived.Test.YtcfhhfdkecbphaaChecked
import GoSem.Claim
import GoSem.ClaimJoined
import GoSem.ClaimMapViews
import Derived.JoinedTies
import Derived.KernelRfl
namespace Go.Proofs.Ytcfhhfdkecbphaa
/- THE CELL 'sum', in the pinned program and in every row, IS THE sha256 OF THE DUMP (.gsa) THAT YtcfhhfdkecbphaaProg.lean LOADS. Nothing in Lean hashes anything: it is a label: what it is worth is what the hold of that sum in a sandbox is worth. -/
noncomputable def Try.pinned : Pinned := { name := "ytcfhhfdkecbphaa", sum := "06fbbdfcb122c55c6a3a5e86b65df6781bbca64703dda869a8bcdf24d380b02b", checked := Try.checked }
namespace Rows
def none {H : Type} : Left H := { results := [], args := [] }

/-- 'pantilelaw10.RmapSums': WHATEVER THE INPUT: true; the input reads as it did. -/
def rmapSumsSpec : ChangeSpec := { name := "rmapSums", fn := fun _ => fun
  | [d] => { results := [.lit (.bool true)], args := [d] }
  | _ => none }
def rmapSumsRow : OpenClaim := { program := "ytcfhhfdkecbphaa", sum := "06fbbdfcb122c55c6a3a5e86b65df6781bbca64703dda869a8bcdf24d380b02b", func := "pantile/pantilelaw10.RmapSums", spec := "rmapSums", inPlace := ["slices.overlaps[pantile/api.Spot]"], unfollowed := true, recurses := true, apart := false }
def RmapSumsSaid : Prop := rmapSumsRow.holds Try.pinned (OpenSpec.ofChange rmapSumsSpec)

/-- ITS FALSE NEIGHBOUR: 'it returns false'. Refute it at one input. -/
def rmapSumsWrong : ChangeSpec := { name := "rmapSums", fn := fun _ => fun
  | [d] => { results := [.lit (.bool false)], args := [d] }
  | _ => none }
def RmapSumsWrongFalsely : Prop := rmapSumsRow.holds Try.pinned (OpenSpec.ofChange rmapSumsWrong)

/-- 'pantilelaw10.RmapMoves': WHATEVER THE INPUT: true; the input reads as it did. -/
def rmapMovesSpec : ChangeSpec := { name := "rmapMoves", fn := fun _ => fun
  | [d1, d2, d3] => { results := [.lit (.bool true)], args := [d1, d2, d3] }
  | _ => none }
def rmapMovesRow : OpenClaim := { program := "ytcfhhfdkecbphaa", sum := "06fbbdfcb122c55c6a3a5e86b65df6781bbca64703dda869a8bcdf24d380b02b", func := "pantile/pantilelaw10.RmapMoves", spec := "rmapMoves", inPlace := ["slices.overlaps[pantile/api.Spot]"], unfollowed := true, recurses := true, apart := false }
def RmapMovesSaid : Prop := rmapMovesRow.holds Try.pinned (OpenSpec.ofChange rmapMovesSpec)

/-- ITS FALSE NEIGHBOUR: 'it returns false'. Refute it at one input. -/
def rmapMovesWrong : ChangeSpec := { name := "rmapMoves", fn := fun _ => fun
  | [d1, d2, d3] => { results := [.lit (.bool false)], args := [d1, d2, d3] }
  | _ => none }
def RmapMovesWrongFalsely : Prop := rmapMovesRow.holds Try.pinned (OpenSpec.ofChange rmapMovesWrong)

/-- 'pantilelaw10.RmapApart': WHATEVER THE INPUT: true; the input reads as it did. -/
def rmapApartSpec : ChangeSpec := { name := "rmapApart", fn := fun _ => fun
  | [d1, d2, d3] => { results := [.lit (.bool true)], args := [d1, d2, d3] }
  | _ => none }
def rmapApartRow : OpenClaim := { program := "ytcfhhfdkecbphaa", sum := "06fbbdfcb122c55c6a3a5e86b65df6781bbca64703dda869a8bcdf24d380b02b", func := "pantile/pantilelaw10.RmapApart", spec := "rmapApart", inPlace := ["slices.overlaps[pantile/api.Spot]"], unfollowed := true, recurses := true, apart := false }
def RmapApartSaid : Prop := rmapApartRow.holds Try.pinned (OpenSpec.ofChange rmapApartSpec)

/-- ITS FALSE NEIGHBOUR: 'it returns false'. Refute it at one input. -/
def rmapApartWrong : ChangeSpec := { name := "rmapApart", fn := fun _ => fun
  | [d1, d2, d3] => { results := [.lit (.bool false)], args := [d1, d2, d3] }
  | _ => none }
def RmapApartWrongFalsely : Prop := rmapApartRow.holds Try.pinned (OpenSpec.ofChange rmapApartWrong)

/-- 'pantilelaw10.RmapNone': WHATEVER THE INPUT: true; the input reads as it did. -/
def rmapNoneSpec : ChangeSpec := { name := "rmapNone", fn := fun _ => fun
  | [d] => { results := [.lit (.bool true)], args := [d] }
  | _ => none }
def rmapNoneRow : OpenClaim := { program := "ytcfhhfdkecbphaa", sum := "06fbbdfcb122c55c6a3a5e86b65df6781bbca64703dda869a8bcdf24d380b02b", func := "pantile/pantilelaw10.RmapNone", spec := "rmapNone", inPlace := ["slices.overlaps[pantile/api.Spot]"], unfollowed := true, recurses := true, apart := false }
def RmapNoneSaid : Prop := rmapNoneRow.holds Try.pinned (OpenSpec.ofChange rmapNoneSpec)

/-- ITS FALSE NEIGHBOUR: 'it returns false'. Refute it at one input. -/
def rmapNoneWrong : ChangeSpec := { name := "rmapNone", fn := fun _ => fun
  | [d] => { results := [.lit (.bool false)], args := [d] }
  | _ => none }
def RmapNoneWrongFalsely : Prop := rmapNoneRow.holds Try.pinned (OpenSpec.ofChange rmapNoneWrong)

/- THE SECOND FORM. 'bulk': how many values and letters a reading holds, each counted each time it is reached (what is shared counts as often as it is met; a slice's spare places count too). A statement '..UptoSaid' is the law's where the arguments, and the package variables that the reading takes, are together of bulk at most 1048576: NARROWER than '..Said'. Prove '..Said' where nothing that the law and all that it calls make is longer than what came in: it says more and counts as full. Else prove '..UptoSaid'. A law counts once. -/
mutual
def uptoBulk {H : Type} : DataW H → Nat
  | .lit (.string bytes) => bytes.length + 1
  | .lit _ => 1
  | .nil => 1
  | .ptr d => uptoBulk d + 1
  | .slice elems spare => uptoBulkAll elems + uptoBulkAll spare + 1
  | .agg parts => uptoBulkAll parts + 1
  | .iface _ d => uptoBulk d + 1
  | .map entries => uptoBulkEntries entries + 1
  | .held _ => 1
def uptoBulkAll {H : Type} : List (DataW H) → Nat
  | [] => 0
  | d :: r => uptoBulk d + uptoBulkAll r
def uptoBulkEntries {H : Type} : List (Lit × DataW H) → Nat
  | [] => 0
  | x :: r => uptoBulkEntry x + uptoBulkEntries r
def uptoBulkEntry {H : Type} : Lit × DataW H → Nat
  | (.string bytes, d) => bytes.length + uptoBulk d + 1
  | (_, d) => uptoBulk d + 1
 end
def uptoSmall : (H : Type) → List (DataW H) → Bool := fun _ ds => decide (uptoBulkAll ds ≤ 1048576)
def OpenSpec.upto (s : _root_.Go.ChangeSpec) : _root_.Go.OpenSpec := { _root_.Go.OpenSpec.ofChange s with cond := some uptoSmall }

/-- 'pantilelaw10.RmapSums', WHERE WHAT IT READS IS OF BULK AT MOST 1048576: true; the input reads as it did. -/
def rmapSumsUptoRow : OpenClaim := { program := "ytcfhhfdkecbphaa", sum := "06fbbdfcb122c55c6a3a5e86b65df6781bbca64703dda869a8bcdf24d380b02b", func := "pantile/pantilelaw10.RmapSums", spec := "rmapSums", inPlace := ["slices.overlaps[pantile/api.Spot]"], unfollowed := true, recurses := true, apart := false, narrowed := true }
def RmapSumsUptoSaid : Prop := rmapSumsUptoRow.holds Try.pinned (OpenSpec.upto rmapSumsSpec)

/-- 'pantilelaw10.RmapMoves', WHERE WHAT IT READS IS OF BULK AT MOST 1048576: true; the input reads as it did. -/
def rmapMovesUptoRow : OpenClaim := { program := "ytcfhhfdkecbphaa", sum := "06fbbdfcb122c55c6a3a5e86b65df6781bbca64703dda869a8bcdf24d380b02b", func := "pantile/pantilelaw10.RmapMoves", spec := "rmapMoves", inPlace := ["slices.overlaps[pantile/api.Spot]"], unfollowed := true, recurses := true, apart := false, narrowed := true }
def RmapMovesUptoSaid : Prop := rmapMovesUptoRow.holds Try.pinned (OpenSpec.upto rmapMovesSpec)

/-- 'pantilelaw10.RmapApart', WHERE WHAT IT READS IS OF BULK AT MOST 1048576: true; the input reads as it did. -/
def rmapApartUptoRow : OpenClaim := { program := "ytcfhhfdkecbphaa", sum := "06fbbdfcb122c55c6a3a5e86b65df6781bbca64703dda869a8bcdf24d380b02b", func := "pantile/pantilelaw10.RmapApart", spec := "rmapApart", inPlace := ["slices.overlaps[pantile/api.Spot]"], unfollowed := true, recurses := true, apart := false, narrowed := true }
def RmapApartUptoSaid : Prop := rmapApartUptoRow.holds Try.pinned (OpenSpec.upto rmapApartSpec)

/-- 'pantilelaw10.RmapNone', WHERE WHAT IT READS IS OF BULK AT MOST 1048576: true; the input reads as it did. -/
def rmapNoneUptoRow : OpenClaim := { program := "ytcfhhfdkecbphaa", sum := "06fbbdfcb122c55c6a3a5e86b65df6781bbca64703dda869a8bcdf24d380b02b", func := "pantile/pantilelaw10.RmapNone", spec := "rmapNone", inPlace := ["slices.overlaps[pantile/api.Spot]"], unfollowed := true, recurses := true, apart := false, narrowed := true }
def RmapNoneUptoSaid : Prop := rmapNoneUptoRow.holds Try.pinned (OpenSpec.upto rmapNoneSpec)

end Rows
end Go.Proofs.Ytcfhhfdkecbphaa
