/-
  No cell of these rows narrows 'for every input' (looked for: loops, veiled, ifaces, maps, wideKeys, modest, calm, conditions, laid).
  DERIVED. THE GIVEN ROWS OF THIS SEAT. 11 by the template 'for every input the law returns true; each argument reads behind the call as it read before'; 0 by the template 'total and deterministic' (their statements: YtplcocifndpplaaTotals.lean).
  GIVEN WITH THE SEED: the statements are not yours to turn. If you find one false, say at which input.
  Laid BY PROGRAM, IN A SANDBOX (cutbox-rows.mjs): the forced cells as the released guide's own fill.sh prints them over the translation fc8d4ad94298d45c… (all of the seat's roots in one cut). By AI agents, Wed Nov 11 2026. No macro, syntax, notation, axiom, sorry.
-/
import Derived.Test.YtplcocifndpplaaChecked
import GoSem.Claim
import GoSem.ClaimJoined
import GoSem.ClaimMapViews
import Derived.JoinedTies
import Derived.KernelRfl
namespace Go.Proofs.Ytplcocifndpplaa
/- THE CELL 'sum', in the pinned program and in every row, IS THE sha256 OF THE DUMP (.gsa) THAT YtplcocifndpplaaProg.lean LOADS. Nothing in Lean hashes anything: it is a label: what it is worth is what the hold of that sum in a sandbox is worth. -/
noncomputable def Try.pinned : Pinned := { name := "ytplcocifndpplaa", sum := "fc8d4ad94298d45ca8c223b03872f2d3f16894fc6e82091860abf61aef9486f8", checked := Try.checked }
namespace Rows
def none {H : Type} : Left H := { results := [], args := [] }

/-- 'pantilelaw09.TLBDoes': WHATEVER THE INPUT: true; the input reads as it did. -/
def tLBDoesSpec : ChangeSpec := { name := "tLBDoes", fn := fun _ => fun
  | [d] => { results := [.lit (.bool true)], args := [d] }
  | _ => none }
def tLBDoesRow : OpenClaim := { program := "ytplcocifndpplaa", sum := "fc8d4ad94298d45ca8c223b03872f2d3f16894fc6e82091860abf61aef9486f8", func := "pantile/pantilelaw09.TLBDoes", spec := "tLBDoes", unfollowed := true, recurses := true, apart := false }
def TLBDoesSaid : Prop := tLBDoesRow.holds Try.pinned (OpenSpec.ofChange tLBDoesSpec)

/-- ITS FALSE NEIGHBOUR: 'it returns false'. Refute it at one input. -/
def tLBDoesWrong : ChangeSpec := { name := "tLBDoes", fn := fun _ => fun
  | [d] => { results := [.lit (.bool false)], args := [d] }
  | _ => none }
def TLBDoesWrongFalsely : Prop := tLBDoesRow.holds Try.pinned (OpenSpec.ofChange tLBDoesWrong)

/-- 'pantilelaw09.TLBOne': WHATEVER THE INPUT: true; the input reads as it did. -/
def tLBOneSpec : ChangeSpec := { name := "tLBOne", fn := fun _ => fun
  | [d1, d2] => { results := [.lit (.bool true)], args := [d1, d2] }
  | _ => none }
def tLBOneRow : OpenClaim := { program := "ytplcocifndpplaa", sum := "fc8d4ad94298d45ca8c223b03872f2d3f16894fc6e82091860abf61aef9486f8", func := "pantile/pantilelaw09.TLBOne", spec := "tLBOne", unfollowed := true, recurses := true, apart := false }
def TLBOneSaid : Prop := tLBOneRow.holds Try.pinned (OpenSpec.ofChange tLBOneSpec)

/-- ITS FALSE NEIGHBOUR: 'it returns false'. Refute it at one input. -/
def tLBOneWrong : ChangeSpec := { name := "tLBOne", fn := fun _ => fun
  | [d1, d2] => { results := [.lit (.bool false)], args := [d1, d2] }
  | _ => none }
def TLBOneWrongFalsely : Prop := tLBOneRow.holds Try.pinned (OpenSpec.ofChange tLBOneWrong)

/-- 'pantilelaw09.TLBFlushes': WHATEVER THE INPUT: true; the input reads as it did. -/
def tLBFlushesSpec : ChangeSpec := { name := "tLBFlushes", fn := fun _ => fun
  | [d1, d2, d3] => { results := [.lit (.bool true)], args := [d1, d2, d3] }
  | _ => none }
def tLBFlushesRow : OpenClaim := { program := "ytplcocifndpplaa", sum := "fc8d4ad94298d45ca8c223b03872f2d3f16894fc6e82091860abf61aef9486f8", func := "pantile/pantilelaw09.TLBFlushes", spec := "tLBFlushes", unfollowed := true, recurses := true, apart := false }
def TLBFlushesSaid : Prop := tLBFlushesRow.holds Try.pinned (OpenSpec.ofChange tLBFlushesSpec)

/-- ITS FALSE NEIGHBOUR: 'it returns false'. Refute it at one input. -/
def tLBFlushesWrong : ChangeSpec := { name := "tLBFlushes", fn := fun _ => fun
  | [d1, d2, d3] => { results := [.lit (.bool false)], args := [d1, d2, d3] }
  | _ => none }
def TLBFlushesWrongFalsely : Prop := tLBFlushesRow.holds Try.pinned (OpenSpec.ofChange tLBFlushesWrong)

/-- 'pantilelaw09.TLBLast': WHATEVER THE INPUT: true; the input reads as it did. -/
def tLBLastSpec : ChangeSpec := { name := "tLBLast", fn := fun _ => fun
  | [d1, d2, d3] => { results := [.lit (.bool true)], args := [d1, d2, d3] }
  | _ => none }
def tLBLastRow : OpenClaim := { program := "ytplcocifndpplaa", sum := "fc8d4ad94298d45ca8c223b03872f2d3f16894fc6e82091860abf61aef9486f8", func := "pantile/pantilelaw09.TLBLast", spec := "tLBLast", unfollowed := true, recurses := true, apart := false }
def TLBLastSaid : Prop := tLBLastRow.holds Try.pinned (OpenSpec.ofChange tLBLastSpec)

/-- ITS FALSE NEIGHBOUR: 'it returns false'. Refute it at one input. -/
def tLBLastWrong : ChangeSpec := { name := "tLBLast", fn := fun _ => fun
  | [d1, d2, d3] => { results := [.lit (.bool false)], args := [d1, d2, d3] }
  | _ => none }
def TLBLastWrongFalsely : Prop := tLBLastRow.holds Try.pinned (OpenSpec.ofChange tLBLastWrong)

/-- 'pantilelaw09.TLBNone': WHATEVER THE INPUT: true; the input reads as it did. -/
def tLBNoneSpec : ChangeSpec := { name := "tLBNone", fn := fun _ => fun
  | [d] => { results := [.lit (.bool true)], args := [d] }
  | _ => none }
def tLBNoneRow : OpenClaim := { program := "ytplcocifndpplaa", sum := "fc8d4ad94298d45ca8c223b03872f2d3f16894fc6e82091860abf61aef9486f8", func := "pantile/pantilelaw09.TLBNone", spec := "tLBNone", unfollowed := true, recurses := true, apart := false }
def TLBNoneSaid : Prop := tLBNoneRow.holds Try.pinned (OpenSpec.ofChange tLBNoneSpec)

/-- ITS FALSE NEIGHBOUR: 'it returns false'. Refute it at one input. -/
def tLBNoneWrong : ChangeSpec := { name := "tLBNone", fn := fun _ => fun
  | [d] => { results := [.lit (.bool false)], args := [d] }
  | _ => none }
def TLBNoneWrongFalsely : Prop := tLBNoneRow.holds Try.pinned (OpenSpec.ofChange tLBNoneWrong)

/-- 'pantilelaw09.TLBHolds': WHATEVER THE INPUT: true; the input reads as it did. -/
def tLBHoldsSpec : ChangeSpec := { name := "tLBHolds", fn := fun _ => fun
  | [d] => { results := [.lit (.bool true)], args := [d] }
  | _ => none }
def tLBHoldsRow : OpenClaim := { program := "ytplcocifndpplaa", sum := "fc8d4ad94298d45ca8c223b03872f2d3f16894fc6e82091860abf61aef9486f8", func := "pantile/pantilelaw09.TLBHolds", spec := "tLBHolds", unfollowed := true, recurses := true, apart := false }
def TLBHoldsSaid : Prop := tLBHoldsRow.holds Try.pinned (OpenSpec.ofChange tLBHoldsSpec)

/-- ITS FALSE NEIGHBOUR: 'it returns false'. Refute it at one input. -/
def tLBHoldsWrong : ChangeSpec := { name := "tLBHolds", fn := fun _ => fun
  | [d] => { results := [.lit (.bool false)], args := [d] }
  | _ => none }
def TLBHoldsWrongFalsely : Prop := tLBHoldsRow.holds Try.pinned (OpenSpec.ofChange tLBHoldsWrong)

/-- 'pantilelaw22.CpusFresh': WHATEVER THE INPUT: true; the input reads as it did. -/
def cpusFreshSpec : ChangeSpec := { name := "cpusFresh", fn := fun _ => fun
  | [d] => { results := [.lit (.bool true)], args := [d] }
  | _ => none }
def cpusFreshRow : OpenClaim := { program := "ytplcocifndpplaa", sum := "fc8d4ad94298d45ca8c223b03872f2d3f16894fc6e82091860abf61aef9486f8", func := "pantile/pantilelaw22.CpusFresh", spec := "cpusFresh", unfollowed := true, recurses := true, apart := false }
def CpusFreshSaid : Prop := cpusFreshRow.holds Try.pinned (OpenSpec.ofChange cpusFreshSpec)

/-- ITS FALSE NEIGHBOUR: 'it returns false'. Refute it at one input. -/
def cpusFreshWrong : ChangeSpec := { name := "cpusFresh", fn := fun _ => fun
  | [d] => { results := [.lit (.bool false)], args := [d] }
  | _ => none }
def CpusFreshWrongFalsely : Prop := cpusFreshRow.holds Try.pinned (OpenSpec.ofChange cpusFreshWrong)

/-- 'pantilelaw22.CpusQuiet': WHATEVER THE INPUT: true; the input reads as it did. -/
def cpusQuietSpec : ChangeSpec := { name := "cpusQuiet", fn := fun _ => fun
  | [d1, d2] => { results := [.lit (.bool true)], args := [d1, d2] }
  | _ => none }
def cpusQuietRow : OpenClaim := { program := "ytplcocifndpplaa", sum := "fc8d4ad94298d45ca8c223b03872f2d3f16894fc6e82091860abf61aef9486f8", func := "pantile/pantilelaw22.CpusQuiet", spec := "cpusQuiet", unfollowed := true, recurses := true, apart := false }
def CpusQuietSaid : Prop := cpusQuietRow.holds Try.pinned (OpenSpec.ofChange cpusQuietSpec)

/-- ITS FALSE NEIGHBOUR: 'it returns false'. Refute it at one input. -/
def cpusQuietWrong : ChangeSpec := { name := "cpusQuiet", fn := fun _ => fun
  | [d1, d2] => { results := [.lit (.bool false)], args := [d1, d2] }
  | _ => none }
def CpusQuietWrongFalsely : Prop := cpusQuietRow.holds Try.pinned (OpenSpec.ofChange cpusQuietWrong)

/-- 'pantilelaw22.CpusSync': WHATEVER THE INPUT: true; the input reads as it did. -/
def cpusSyncSpec : ChangeSpec := { name := "cpusSync", fn := fun _ => fun
  | [d1, d2, d3] => { results := [.lit (.bool true)], args := [d1, d2, d3] }
  | _ => none }
def cpusSyncRow : OpenClaim := { program := "ytplcocifndpplaa", sum := "fc8d4ad94298d45ca8c223b03872f2d3f16894fc6e82091860abf61aef9486f8", func := "pantile/pantilelaw22.CpusSync", spec := "cpusSync", unfollowed := true, recurses := true, apart := false }
def CpusSyncSaid : Prop := cpusSyncRow.holds Try.pinned (OpenSpec.ofChange cpusSyncSpec)

/-- ITS FALSE NEIGHBOUR: 'it returns false'. Refute it at one input. -/
def cpusSyncWrong : ChangeSpec := { name := "cpusSync", fn := fun _ => fun
  | [d1, d2, d3] => { results := [.lit (.bool false)], args := [d1, d2, d3] }
  | _ => none }
def CpusSyncWrongFalsely : Prop := cpusSyncRow.holds Try.pinned (OpenSpec.ofChange cpusSyncWrong)

/-- 'pantilelaw22.CpusApart': WHATEVER THE INPUT: true; the input reads as it did. -/
def cpusApartSpec : ChangeSpec := { name := "cpusApart", fn := fun _ => fun
  | [d1, d2, d3] => { results := [.lit (.bool true)], args := [d1, d2, d3] }
  | _ => none }
def cpusApartRow : OpenClaim := { program := "ytplcocifndpplaa", sum := "fc8d4ad94298d45ca8c223b03872f2d3f16894fc6e82091860abf61aef9486f8", func := "pantile/pantilelaw22.CpusApart", spec := "cpusApart", unfollowed := true, recurses := true, apart := false }
def CpusApartSaid : Prop := cpusApartRow.holds Try.pinned (OpenSpec.ofChange cpusApartSpec)

/-- ITS FALSE NEIGHBOUR: 'it returns false'. Refute it at one input. -/
def cpusApartWrong : ChangeSpec := { name := "cpusApart", fn := fun _ => fun
  | [d1, d2, d3] => { results := [.lit (.bool false)], args := [d1, d2, d3] }
  | _ => none }
def CpusApartWrongFalsely : Prop := cpusApartRow.holds Try.pinned (OpenSpec.ofChange cpusApartWrong)

/-- 'pantilelaw22.CpusNone': WHATEVER THE INPUT: true; the input reads as it did. -/
def cpusNoneSpec : ChangeSpec := { name := "cpusNone", fn := fun _ => fun
  | [d] => { results := [.lit (.bool true)], args := [d] }
  | _ => none }
def cpusNoneRow : OpenClaim := { program := "ytplcocifndpplaa", sum := "fc8d4ad94298d45ca8c223b03872f2d3f16894fc6e82091860abf61aef9486f8", func := "pantile/pantilelaw22.CpusNone", spec := "cpusNone", unfollowed := true, recurses := true, apart := false }
def CpusNoneSaid : Prop := cpusNoneRow.holds Try.pinned (OpenSpec.ofChange cpusNoneSpec)

/-- ITS FALSE NEIGHBOUR: 'it returns false'. Refute it at one input. -/
def cpusNoneWrong : ChangeSpec := { name := "cpusNone", fn := fun _ => fun
  | [d] => { results := [.lit (.bool false)], args := [d] }
  | _ => none }
def CpusNoneWrongFalsely : Prop := cpusNoneRow.holds Try.pinned (OpenSpec.ofChange cpusNoneWrong)

/- THE SECOND FORM. 'bulk': how many values and letters a reading holds, each counted each time it is reached (what is shared counts as often as it is met; a slice's spare places count too). A statement '..UptoSaid' is the law's where the arguments, and the package variables that the reading takes, are together of bulk at most 1048576: NARROWER than '..Said'. Prove '..Said' where nothing that the law and all that it calls make is longer than what came in: it says more and counts as full. Else prove '..UptoSaid'. A law counts once. -/
mutual
def uptoBulk {H : Type} : DataW H → Nat
  | .lit (.string bytes) => bytes.length + 1
  | .lit _ => 1
  | .nil => 1
  | .ptr d => uptoBulk d + 1
  | .slice elems spare => uptoBulkAll elems + uptoBulkAll spare + 1
  | .agg parts => uptoBulkAll parts + 1
  | .iface _ d => uptoBulk d + 1
  | .map entries => uptoBulkEntries entries + 1
  | .held _ => 1
def uptoBulkAll {H : Type} : List (DataW H) → Nat
  | [] => 0
  | d :: r => uptoBulk d + uptoBulkAll r
def uptoBulkEntries {H : Type} : List (Lit × DataW H) → Nat
  | [] => 0
  | x :: r => uptoBulkEntry x + uptoBulkEntries r
def uptoBulkEntry {H : Type} : Lit × DataW H → Nat
  | (.string bytes, d) => bytes.length + uptoBulk d + 1
  | (_, d) => uptoBulk d + 1
 end
def uptoSmall : (H : Type) → List (DataW H) → Bool := fun _ ds => decide (uptoBulkAll ds ≤ 1048576)
def OpenSpec.upto (s : _root_.Go.ChangeSpec) : _root_.Go.OpenSpec := { _root_.Go.OpenSpec.ofChange s with cond := some uptoSmall }

/-- 'pantilelaw09.TLBDoes', WHERE WHAT IT READS IS OF BULK AT MOST 1048576: true; the input reads as it did. -/
def tLBDoesUptoRow : OpenClaim := { program := "ytplcocifndpplaa", sum := "fc8d4ad94298d45ca8c223b03872f2d3f16894fc6e82091860abf61aef9486f8", func := "pantile/pantilelaw09.TLBDoes", spec := "tLBDoes", unfollowed := true, recurses := true, apart := false, narrowed := true }
def TLBDoesUptoSaid : Prop := tLBDoesUptoRow.holds Try.pinned (OpenSpec.upto tLBDoesSpec)

/-- 'pantilelaw09.TLBOne', WHERE WHAT IT READS IS OF BULK AT MOST 1048576: true; the input reads as it did. -/
def tLBOneUptoRow : OpenClaim := { program := "ytplcocifndpplaa", sum := "fc8d4ad94298d45ca8c223b03872f2d3f16894fc6e82091860abf61aef9486f8", func := "pantile/pantilelaw09.TLBOne", spec := "tLBOne", unfollowed := true, recurses := true, apart := false, narrowed := true }
def TLBOneUptoSaid : Prop := tLBOneUptoRow.holds Try.pinned (OpenSpec.upto tLBOneSpec)

/-- 'pantilelaw09.TLBFlushes', WHERE WHAT IT READS IS OF BULK AT MOST 1048576: true; the input reads as it did. -/
def tLBFlushesUptoRow : OpenClaim := { program := "ytplcocifndpplaa", sum := "fc8d4ad94298d45ca8c223b03872f2d3f16894fc6e82091860abf61aef9486f8", func := "pantile/pantilelaw09.TLBFlushes", spec := "tLBFlushes", unfollowed := true, recurses := true, apart := false, narrowed := true }
def TLBFlushesUptoSaid : Prop := tLBFlushesUptoRow.holds Try.pinned (OpenSpec.upto tLBFlushesSpec)

/-- 'pantilelaw09.TLBLast', WHERE WHAT IT READS IS OF BULK AT MOST 1048576: true; the input reads as it did. -/
def tLBLastUptoRow : OpenClaim := { program := "ytplcocifndpplaa", sum := "fc8d4ad94298d45ca8c223b03872f2d3f16894fc6e82091860abf61aef9486f8", func := "pantile/pantilelaw09.TLBLast", spec := "tLBLast", unfollowed := true, recurses := true, apart := false, narrowed := true }
def TLBLastUptoSaid : Prop := tLBLastUptoRow.holds Try.pinned (OpenSpec.upto tLBLastSpec)

/-- 'pantilelaw09.TLBNone', WHERE WHAT IT READS IS OF BULK AT MOST 1048576: true; the input reads as it did. -/
def tLBNoneUptoRow : OpenClaim := { program := "ytplcocifndpplaa", sum := "fc8d4ad94298d45ca8c223b03872f2d3f16894fc6e82091860abf61aef9486f8", func := "pantile/pantilelaw09.TLBNone", spec := "tLBNone", unfollowed := true, recurses := true, apart := false, narrowed := true }
def TLBNoneUptoSaid : Prop := tLBNoneUptoRow.holds Try.pinned (OpenSpec.upto tLBNoneSpec)

/-- 'pantilelaw09.TLBHolds', WHERE WHAT IT READS IS OF BULK AT MOST 1048576: true; the input reads as it did. -/
def tLBHoldsUptoRow : OpenClaim := { program := "ytplcocifndpplaa", sum := "fc8d4ad94298d45ca8c223b03872f2d3f16894fc6e82091860abf61aef9486f8", func := "pantile/pantilelaw09.TLBHolds", spec := "tLBHolds", unfollowed := true, recurses := true, apart := false, narrowed := true }
def TLBHoldsUptoSaid : Prop := tLBHoldsUptoRow.holds Try.pinned (OpenSpec.upto tLBHoldsSpec)

/-- 'pantilelaw22.CpusFresh', WHERE WHAT IT READS IS OF BULK AT MOST 1048576: true; the input reads as it did. -/
def cpusFreshUptoRow : OpenClaim := { program := "ytplcocifndpplaa", sum := "fc8d4ad94298d45ca8c223b03872f2d3f16894fc6e82091860abf61aef9486f8", func := "pantile/pantilelaw22.CpusFresh", spec := "cpusFresh", unfollowed := true, recurses := true, apart := false, narrowed := true }
def CpusFreshUptoSaid : Prop := cpusFreshUptoRow.holds Try.pinned (OpenSpec.upto cpusFreshSpec)

/-- 'pantilelaw22.CpusQuiet', WHERE WHAT IT READS IS OF BULK AT MOST 1048576: true; the input reads as it did. -/
def cpusQuietUptoRow : OpenClaim := { program := "ytplcocifndpplaa", sum := "fc8d4ad94298d45ca8c223b03872f2d3f16894fc6e82091860abf61aef9486f8", func := "pantile/pantilelaw22.CpusQuiet", spec := "cpusQuiet", unfollowed := true, recurses := true, apart := false, narrowed := true }
def CpusQuietUptoSaid : Prop := cpusQuietUptoRow.holds Try.pinned (OpenSpec.upto cpusQuietSpec)

/-- 'pantilelaw22.CpusSync', WHERE WHAT IT READS IS OF BULK AT MOST 1048576: true; the input reads as it did. -/
def cpusSyncUptoRow : OpenClaim := { program := "ytplcocifndpplaa", sum := "fc8d4ad94298d45ca8c223b03872f2d3f16894fc6e82091860abf61aef9486f8", func := "pantile/pantilelaw22.CpusSync", spec := "cpusSync", unfollowed := true, recurses := true, apart := false, narrowed := true }
def CpusSyncUptoSaid : Prop := cpusSyncUptoRow.holds Try.pinned (OpenSpec.upto cpusSyncSpec)

/-- 'pantilelaw22.CpusApart', WHERE WHAT IT READS IS OF BULK AT MOST 1048576: true; the input reads as it did. -/
def cpusApartUptoRow : OpenClaim := { program := "ytplcocifndpplaa", sum := "fc8d4ad94298d45ca8c223b03872f2d3f16894fc6e82091860abf61aef9486f8", func := "pantile/pantilelaw22.CpusApart", spec := "cpusApart", unfollowed := true, recurses := true, apart := false, narrowed := true }
def CpusApartUptoSaid : Prop := cpusApartUptoRow.holds Try.pinned (OpenSpec.upto cpusApartSpec)

/-- 'pantilelaw22.CpusNone', WHERE WHAT IT READS IS OF BULK AT MOST 1048576: true; the input reads as it did. -/
def cpusNoneUptoRow : OpenClaim := { program := "ytplcocifndpplaa", sum := "fc8d4ad94298d45ca8c223b03872f2d3f16894fc6e82091860abf61aef9486f8", func := "pantile/pantilelaw22.CpusNone", spec := "cpusNone", unfollowed := true, recurses := true, apart := false, narrowed := true }
def CpusNoneUptoSaid : Prop := cpusNoneUptoRow.holds Try.pinned (OpenSpec.upto cpusNoneSpec)

end Rows
end Go.Proofs.Ytplcocifndpplaa
