/-
  No cell of these rows narrows 'for every input' (looked for: loops, veiled, ifaces, maps, wideKeys, modest, calm, conditions, laid).
  DERIVED. THE GIVEN ROWS OF THIS SEAT. 11 by the template 'for every input the law returns true; each argument reads behind the call as it read before'; 0 by the template 'total and deterministic' (their statements: YtkplodhjceieeaaTotals.lean).
  GIVEN WITH THE SEED: the statements are not yours to turn. If you find one false, say at which input.
  Laid BY PROGRAM, IN A SANDBOX (cutbox-rows.mjs): the forced cells as the released guide's own fill.sh prints them over the translation 574d447363abbb98… (all of the seat's roots in one cut). By AI agents, Wed Nov 11 2026. No macro, syntax, notation, axiom, sorry.
-/
import Derived.Test.YtkplodhjceieeaaChecked
import GoSem.Claim
import GoSem.ClaimJoined
import GoSem.ClaimMapViews
import Derived.JoinedTies
import Derived.KernelRfl
namespace Go.Proofs.Ytkplodhjceieeaa
/- THE CELL 'sum', in the pinned program and in every row, IS THE sha256 OF THE DUMP (.gsa) THAT YtkplodhjceieeaaProg.lean LOADS. Nothing in Lean hashes anything: it is a label: what it is worth is what the hold of that sum in a sandbox is worth. -/
noncomputable def Try.pinned : Pinned := { name := "ytkplodhjceieeaa", sum := "574d447363abbb9883d29f07e8d4ebc7d31389789eeed399d79d353e7a57210e", checked := Try.checked }
namespace Rows
def none {H : Type} : Left H := { results := [], args := [] }

/-- 'pantilelaw12.ObjectKept': WHATEVER THE INPUT: true; the input reads as it did. -/
def objectKeptSpec : ChangeSpec := { name := "objectKept", fn := fun _ => fun
  | [d1, d2] => { results := [.lit (.bool true)], args := [d1, d2] }
  | _ => none }
def objectKeptRow : OpenClaim := { program := "ytkplodhjceieeaa", sum := "574d447363abbb9883d29f07e8d4ebc7d31389789eeed399d79d353e7a57210e", func := "pantile/pantilelaw12.ObjectKept", spec := "objectKept", recurses := true, apart := false }
def ObjectKeptSaid : Prop := objectKeptRow.holds Try.pinned (OpenSpec.ofChange objectKeptSpec)

/-- ITS FALSE NEIGHBOUR: 'it returns false'. Refute it at one input. -/
def objectKeptWrong : ChangeSpec := { name := "objectKept", fn := fun _ => fun
  | [d1, d2] => { results := [.lit (.bool false)], args := [d1, d2] }
  | _ => none }
def ObjectKeptWrongFalsely : Prop := objectKeptRow.holds Try.pinned (OpenSpec.ofChange objectKeptWrong)

/-- 'pantilelaw12.ObjectNumbers': WHATEVER THE INPUT: true; the input reads as it did. -/
def objectNumbersSpec : ChangeSpec := { name := "objectNumbers", fn := fun _ => fun
  | [d] => { results := [.lit (.bool true)], args := [d] }
  | _ => none }
def objectNumbersRow : OpenClaim := { program := "ytkplodhjceieeaa", sum := "574d447363abbb9883d29f07e8d4ebc7d31389789eeed399d79d353e7a57210e", func := "pantile/pantilelaw12.ObjectNumbers", spec := "objectNumbers", recurses := true, apart := false }
def ObjectNumbersSaid : Prop := objectNumbersRow.holds Try.pinned (OpenSpec.ofChange objectNumbersSpec)

/-- ITS FALSE NEIGHBOUR: 'it returns false'. Refute it at one input. -/
def objectNumbersWrong : ChangeSpec := { name := "objectNumbers", fn := fun _ => fun
  | [d] => { results := [.lit (.bool false)], args := [d] }
  | _ => none }
def ObjectNumbersWrongFalsely : Prop := objectNumbersRow.holds Try.pinned (OpenSpec.ofChange objectNumbersWrong)

/-- 'pantilelaw12.ObjectOne': WHATEVER THE INPUT: true; the input reads as it did. -/
def objectOneSpec : ChangeSpec := { name := "objectOne", fn := fun _ => fun
  | [d] => { results := [.lit (.bool true)], args := [d] }
  | _ => none }
def objectOneRow : OpenClaim := { program := "ytkplodhjceieeaa", sum := "574d447363abbb9883d29f07e8d4ebc7d31389789eeed399d79d353e7a57210e", func := "pantile/pantilelaw12.ObjectOne", spec := "objectOne", recurses := true, apart := false }
def ObjectOneSaid : Prop := objectOneRow.holds Try.pinned (OpenSpec.ofChange objectOneSpec)

/-- ITS FALSE NEIGHBOUR: 'it returns false'. Refute it at one input. -/
def objectOneWrong : ChangeSpec := { name := "objectOne", fn := fun _ => fun
  | [d] => { results := [.lit (.bool false)], args := [d] }
  | _ => none }
def ObjectOneWrongFalsely : Prop := objectOneRow.holds Try.pinned (OpenSpec.ofChange objectOneWrong)

/-- 'pantilelaw12.ObjectMoves': WHATEVER THE INPUT: true; the input reads as it did. -/
def objectMovesSpec : ChangeSpec := { name := "objectMoves", fn := fun _ => fun
  | [d1, d2, d3] => { results := [.lit (.bool true)], args := [d1, d2, d3] }
  | _ => none }
def objectMovesRow : OpenClaim := { program := "ytkplodhjceieeaa", sum := "574d447363abbb9883d29f07e8d4ebc7d31389789eeed399d79d353e7a57210e", func := "pantile/pantilelaw12.ObjectMoves", spec := "objectMoves", recurses := true, apart := false }
def ObjectMovesSaid : Prop := objectMovesRow.holds Try.pinned (OpenSpec.ofChange objectMovesSpec)

/-- ITS FALSE NEIGHBOUR: 'it returns false'. Refute it at one input. -/
def objectMovesWrong : ChangeSpec := { name := "objectMoves", fn := fun _ => fun
  | [d1, d2, d3] => { results := [.lit (.bool false)], args := [d1, d2, d3] }
  | _ => none }
def ObjectMovesWrongFalsely : Prop := objectMovesRow.holds Try.pinned (OpenSpec.ofChange objectMovesWrong)

/-- 'pantilelaw12.ObjectNone': WHATEVER THE INPUT: true; the input reads as it did. -/
def objectNoneSpec : ChangeSpec := { name := "objectNone", fn := fun _ => fun
  | [d] => { results := [.lit (.bool true)], args := [d] }
  | _ => none }
def objectNoneRow : OpenClaim := { program := "ytkplodhjceieeaa", sum := "574d447363abbb9883d29f07e8d4ebc7d31389789eeed399d79d353e7a57210e", func := "pantile/pantilelaw12.ObjectNone", spec := "objectNone", recurses := true, apart := false }
def ObjectNoneSaid : Prop := objectNoneRow.holds Try.pinned (OpenSpec.ofChange objectNoneSpec)

/-- ITS FALSE NEIGHBOUR: 'it returns false'. Refute it at one input. -/
def objectNoneWrong : ChangeSpec := { name := "objectNone", fn := fun _ => fun
  | [d] => { results := [.lit (.bool false)], args := [d] }
  | _ => none }
def ObjectNoneWrongFalsely : Prop := objectNoneRow.holds Try.pinned (OpenSpec.ofChange objectNoneWrong)

/-- 'pantilelaw15.PoolEnds': WHATEVER THE INPUT: true; the input reads as it did. -/
def poolEndsSpec : ChangeSpec := { name := "poolEnds", fn := fun _ => fun
  | [d1, d2] => { results := [.lit (.bool true)], args := [d1, d2] }
  | _ => none }
def poolEndsRow : OpenClaim := { program := "ytkplodhjceieeaa", sum := "574d447363abbb9883d29f07e8d4ebc7d31389789eeed399d79d353e7a57210e", func := "pantile/pantilelaw15.PoolEnds", spec := "poolEnds", unfollowed := true, recurses := true, apart := false }
def PoolEndsSaid : Prop := poolEndsRow.holds Try.pinned (OpenSpec.ofChange poolEndsSpec)

/-- ITS FALSE NEIGHBOUR: 'it returns false'. Refute it at one input. -/
def poolEndsWrong : ChangeSpec := { name := "poolEnds", fn := fun _ => fun
  | [d1, d2] => { results := [.lit (.bool false)], args := [d1, d2] }
  | _ => none }
def PoolEndsWrongFalsely : Prop := poolEndsRow.holds Try.pinned (OpenSpec.ofChange poolEndsWrong)

/-- 'pantilelaw15.PoolKept': WHATEVER THE INPUT: true; the input reads as it did. -/
def poolKeptSpec : ChangeSpec := { name := "poolKept", fn := fun _ => fun
  | [d1, d2] => { results := [.lit (.bool true)], args := [d1, d2] }
  | _ => none }
def poolKeptRow : OpenClaim := { program := "ytkplodhjceieeaa", sum := "574d447363abbb9883d29f07e8d4ebc7d31389789eeed399d79d353e7a57210e", func := "pantile/pantilelaw15.PoolKept", spec := "poolKept", unfollowed := true, recurses := true, apart := false }
def PoolKeptSaid : Prop := poolKeptRow.holds Try.pinned (OpenSpec.ofChange poolKeptSpec)

/-- ITS FALSE NEIGHBOUR: 'it returns false'. Refute it at one input. -/
def poolKeptWrong : ChangeSpec := { name := "poolKept", fn := fun _ => fun
  | [d1, d2] => { results := [.lit (.bool false)], args := [d1, d2] }
  | _ => none }
def PoolKeptWrongFalsely : Prop := poolKeptRow.holds Try.pinned (OpenSpec.ofChange poolKeptWrong)

/-- 'pantilelaw15.PoolSums': WHATEVER THE INPUT: true; the input reads as it did. -/
def poolSumsSpec : ChangeSpec := { name := "poolSums", fn := fun _ => fun
  | [d] => { results := [.lit (.bool true)], args := [d] }
  | _ => none }
def poolSumsRow : OpenClaim := { program := "ytkplodhjceieeaa", sum := "574d447363abbb9883d29f07e8d4ebc7d31389789eeed399d79d353e7a57210e", func := "pantile/pantilelaw15.PoolSums", spec := "poolSums", unfollowed := true, recurses := true, apart := false }
def PoolSumsSaid : Prop := poolSumsRow.holds Try.pinned (OpenSpec.ofChange poolSumsSpec)

/-- ITS FALSE NEIGHBOUR: 'it returns false'. Refute it at one input. -/
def poolSumsWrong : ChangeSpec := { name := "poolSums", fn := fun _ => fun
  | [d] => { results := [.lit (.bool false)], args := [d] }
  | _ => none }
def PoolSumsWrongFalsely : Prop := poolSumsRow.holds Try.pinned (OpenSpec.ofChange poolSumsWrong)

/-- 'pantilelaw15.PoolShrinks': WHATEVER THE INPUT: true; the input reads as it did. -/
def poolShrinksSpec : ChangeSpec := { name := "poolShrinks", fn := fun _ => fun
  | [d] => { results := [.lit (.bool true)], args := [d] }
  | _ => none }
def poolShrinksRow : OpenClaim := { program := "ytkplodhjceieeaa", sum := "574d447363abbb9883d29f07e8d4ebc7d31389789eeed399d79d353e7a57210e", func := "pantile/pantilelaw15.PoolShrinks", spec := "poolShrinks", unfollowed := true, recurses := true, apart := false }
def PoolShrinksSaid : Prop := poolShrinksRow.holds Try.pinned (OpenSpec.ofChange poolShrinksSpec)

/-- ITS FALSE NEIGHBOUR: 'it returns false'. Refute it at one input. -/
def poolShrinksWrong : ChangeSpec := { name := "poolShrinks", fn := fun _ => fun
  | [d] => { results := [.lit (.bool false)], args := [d] }
  | _ => none }
def PoolShrinksWrongFalsely : Prop := poolShrinksRow.holds Try.pinned (OpenSpec.ofChange poolShrinksWrong)

/-- 'pantilelaw15.PoolDoes': WHATEVER THE INPUT: true; the input reads as it did. -/
def poolDoesSpec : ChangeSpec := { name := "poolDoes", fn := fun _ => fun
  | [d1, d2, d3] => { results := [.lit (.bool true)], args := [d1, d2, d3] }
  | _ => none }
def poolDoesRow : OpenClaim := { program := "ytkplodhjceieeaa", sum := "574d447363abbb9883d29f07e8d4ebc7d31389789eeed399d79d353e7a57210e", func := "pantile/pantilelaw15.PoolDoes", spec := "poolDoes", unfollowed := true, recurses := true, apart := false }
def PoolDoesSaid : Prop := poolDoesRow.holds Try.pinned (OpenSpec.ofChange poolDoesSpec)

/-- ITS FALSE NEIGHBOUR: 'it returns false'. Refute it at one input. -/
def poolDoesWrong : ChangeSpec := { name := "poolDoes", fn := fun _ => fun
  | [d1, d2, d3] => { results := [.lit (.bool false)], args := [d1, d2, d3] }
  | _ => none }
def PoolDoesWrongFalsely : Prop := poolDoesRow.holds Try.pinned (OpenSpec.ofChange poolDoesWrong)

/-- 'pantilelaw15.PoolNone': WHATEVER THE INPUT: true; the input reads as it did. -/
def poolNoneSpec : ChangeSpec := { name := "poolNone", fn := fun _ => fun
  | [d] => { results := [.lit (.bool true)], args := [d] }
  | _ => none }
def poolNoneRow : OpenClaim := { program := "ytkplodhjceieeaa", sum := "574d447363abbb9883d29f07e8d4ebc7d31389789eeed399d79d353e7a57210e", func := "pantile/pantilelaw15.PoolNone", spec := "poolNone", unfollowed := true, recurses := true, apart := false }
def PoolNoneSaid : Prop := poolNoneRow.holds Try.pinned (OpenSpec.ofChange poolNoneSpec)

/-- ITS FALSE NEIGHBOUR: 'it returns false'. Refute it at one input. -/
def poolNoneWrong : ChangeSpec := { name := "poolNone", fn := fun _ => fun
  | [d] => { results := [.lit (.bool false)], args := [d] }
  | _ => none }
def PoolNoneWrongFalsely : Prop := poolNoneRow.holds Try.pinned (OpenSpec.ofChange poolNoneWrong)

/- THE SECOND FORM. 'bulk': how many values and letters a reading holds, each counted each time it is reached (what is shared counts as often as it is met; a slice's spare places count too). A statement '..UptoSaid' is the law's where the arguments, and the package variables that the reading takes, are together of bulk at most 1048576: NARROWER than '..Said'. Prove '..Said' where nothing that the law and all that it calls make is longer than what came in: it says more and counts as full. Else prove '..UptoSaid'. A law counts once. -/
mutual
def uptoBulk {H : Type} : DataW H → Nat
  | .lit (.string bytes) => bytes.length + 1
  | .lit _ => 1
  | .nil => 1
  | .ptr d => uptoBulk d + 1
  | .slice elems spare => uptoBulkAll elems + uptoBulkAll spare + 1
  | .agg parts => uptoBulkAll parts + 1
  | .iface _ d => uptoBulk d + 1
  | .map entries => uptoBulkEntries entries + 1
  | .held _ => 1
def uptoBulkAll {H : Type} : List (DataW H) → Nat
  | [] => 0
  | d :: r => uptoBulk d + uptoBulkAll r
def uptoBulkEntries {H : Type} : List (Lit × DataW H) → Nat
  | [] => 0
  | x :: r => uptoBulkEntry x + uptoBulkEntries r
def uptoBulkEntry {H : Type} : Lit × DataW H → Nat
  | (.string bytes, d) => bytes.length + uptoBulk d + 1
  | (_, d) => uptoBulk d + 1
 end
def uptoSmall : (H : Type) → List (DataW H) → Bool := fun _ ds => decide (uptoBulkAll ds ≤ 1048576)
def OpenSpec.upto (s : _root_.Go.ChangeSpec) : _root_.Go.OpenSpec := { _root_.Go.OpenSpec.ofChange s with cond := some uptoSmall }

/-- 'pantilelaw12.ObjectKept', WHERE WHAT IT READS IS OF BULK AT MOST 1048576: true; the input reads as it did. -/
def objectKeptUptoRow : OpenClaim := { program := "ytkplodhjceieeaa", sum := "574d447363abbb9883d29f07e8d4ebc7d31389789eeed399d79d353e7a57210e", func := "pantile/pantilelaw12.ObjectKept", spec := "objectKept", recurses := true, apart := false, narrowed := true }
def ObjectKeptUptoSaid : Prop := objectKeptUptoRow.holds Try.pinned (OpenSpec.upto objectKeptSpec)

/-- 'pantilelaw12.ObjectNumbers', WHERE WHAT IT READS IS OF BULK AT MOST 1048576: true; the input reads as it did. -/
def objectNumbersUptoRow : OpenClaim := { program := "ytkplodhjceieeaa", sum := "574d447363abbb9883d29f07e8d4ebc7d31389789eeed399d79d353e7a57210e", func := "pantile/pantilelaw12.ObjectNumbers", spec := "objectNumbers", recurses := true, apart := false, narrowed := true }
def ObjectNumbersUptoSaid : Prop := objectNumbersUptoRow.holds Try.pinned (OpenSpec.upto objectNumbersSpec)

/-- 'pantilelaw12.ObjectOne', WHERE WHAT IT READS IS OF BULK AT MOST 1048576: true; the input reads as it did. -/
def objectOneUptoRow : OpenClaim := { program := "ytkplodhjceieeaa", sum := "574d447363abbb9883d29f07e8d4ebc7d31389789eeed399d79d353e7a57210e", func := "pantile/pantilelaw12.ObjectOne", spec := "objectOne", recurses := true, apart := false, narrowed := true }
def ObjectOneUptoSaid : Prop := objectOneUptoRow.holds Try.pinned (OpenSpec.upto objectOneSpec)

/-- 'pantilelaw12.ObjectMoves', WHERE WHAT IT READS IS OF BULK AT MOST 1048576: true; the input reads as it did. -/
def objectMovesUptoRow : OpenClaim := { program := "ytkplodhjceieeaa", sum := "574d447363abbb9883d29f07e8d4ebc7d31389789eeed399d79d353e7a57210e", func := "pantile/pantilelaw12.ObjectMoves", spec := "objectMoves", recurses := true, apart := false, narrowed := true }
def ObjectMovesUptoSaid : Prop := objectMovesUptoRow.holds Try.pinned (OpenSpec.upto objectMovesSpec)

/-- 'pantilelaw12.ObjectNone', WHERE WHAT IT READS IS OF BULK AT MOST 1048576: true; the input reads as it did. -/
def objectNoneUptoRow : OpenClaim := { program := "ytkplodhjceieeaa", sum := "574d447363abbb9883d29f07e8d4ebc7d31389789eeed399d79d353e7a57210e", func := "pantile/pantilelaw12.ObjectNone", spec := "objectNone", recurses := true, apart := false, narrowed := true }
def ObjectNoneUptoSaid : Prop := objectNoneUptoRow.holds Try.pinned (OpenSpec.upto objectNoneSpec)

/-- 'pantilelaw15.PoolEnds', WHERE WHAT IT READS IS OF BULK AT MOST 1048576: true; the input reads as it did. -/
def poolEndsUptoRow : OpenClaim := { program := "ytkplodhjceieeaa", sum := "574d447363abbb9883d29f07e8d4ebc7d31389789eeed399d79d353e7a57210e", func := "pantile/pantilelaw15.PoolEnds", spec := "poolEnds", unfollowed := true, recurses := true, apart := false, narrowed := true }
def PoolEndsUptoSaid : Prop := poolEndsUptoRow.holds Try.pinned (OpenSpec.upto poolEndsSpec)

/-- 'pantilelaw15.PoolKept', WHERE WHAT IT READS IS OF BULK AT MOST 1048576: true; the input reads as it did. -/
def poolKeptUptoRow : OpenClaim := { program := "ytkplodhjceieeaa", sum := "574d447363abbb9883d29f07e8d4ebc7d31389789eeed399d79d353e7a57210e", func := "pantile/pantilelaw15.PoolKept", spec := "poolKept", unfollowed := true, recurses := true, apart := false, narrowed := true }
def PoolKeptUptoSaid : Prop := poolKeptUptoRow.holds Try.pinned (OpenSpec.upto poolKeptSpec)

/-- 'pantilelaw15.PoolSums', WHERE WHAT IT READS IS OF BULK AT MOST 1048576: true; the input reads as it did. -/
def poolSumsUptoRow : OpenClaim := { program := "ytkplodhjceieeaa", sum := "574d447363abbb9883d29f07e8d4ebc7d31389789eeed399d79d353e7a57210e", func := "pantile/pantilelaw15.PoolSums", spec := "poolSums", unfollowed := true, recurses := true, apart := false, narrowed := true }
def PoolSumsUptoSaid : Prop := poolSumsUptoRow.holds Try.pinned (OpenSpec.upto poolSumsSpec)

/-- 'pantilelaw15.PoolShrinks', WHERE WHAT IT READS IS OF BULK AT MOST 1048576: true; the input reads as it did. -/
def poolShrinksUptoRow : OpenClaim := { program := "ytkplodhjceieeaa", sum := "574d447363abbb9883d29f07e8d4ebc7d31389789eeed399d79d353e7a57210e", func := "pantile/pantilelaw15.PoolShrinks", spec := "poolShrinks", unfollowed := true, recurses := true, apart := false, narrowed := true }
def PoolShrinksUptoSaid : Prop := poolShrinksUptoRow.holds Try.pinned (OpenSpec.upto poolShrinksSpec)

/-- 'pantilelaw15.PoolDoes', WHERE WHAT IT READS IS OF BULK AT MOST 1048576: true; the input reads as it did. -/
def poolDoesUptoRow : OpenClaim := { program := "ytkplodhjceieeaa", sum := "574d447363abbb9883d29f07e8d4ebc7d31389789eeed399d79d353e7a57210e", func := "pantile/pantilelaw15.PoolDoes", spec := "poolDoes", unfollowed := true, recurses := true, apart := false, narrowed := true }
def PoolDoesUptoSaid : Prop := poolDoesUptoRow.holds Try.pinned (OpenSpec.upto poolDoesSpec)

/-- 'pantilelaw15.PoolNone', WHERE WHAT IT READS IS OF BULK AT MOST 1048576: true; the input reads as it did. -/
def poolNoneUptoRow : OpenClaim := { program := "ytkplodhjceieeaa", sum := "574d447363abbb9883d29f07e8d4ebc7d31389789eeed399d79d353e7a57210e", func := "pantile/pantilelaw15.PoolNone", spec := "poolNone", unfollowed := true, recurses := true, apart := false, narrowed := true }
def PoolNoneUptoSaid : Prop := poolNoneUptoRow.holds Try.pinned (OpenSpec.upto poolNoneSpec)

end Rows
end Go.Proofs.Ytkplodhjceieeaa
