/-
  No cell of these rows narrows 'for every input' (looked for: loops, veiled, ifaces, maps, wideKeys, modest, calm, conditions, laid).
  DERIVED. THE GIVEN ROWS OF THIS SEAT. 6 by the template 'for every input the law returns true; each argument reads behind the call as it read before'; 0 by the template 'total and deterministic' (their statements: YtgkkffhoflgpoaaTotals.lean).
  GIVEN WITH THE SEED: the statements are not yours to turn. If you find one false, say at which input.
  Laid BY PROGRAM, IN A SANDBOX (cutbox-rows.mjs): the forced cells as the released guide's own fill.sh prints them over the translation b386e91da667d8ec… (all of the seat's roots in one cut). By AI agents, Wed Nov 11 2026. No macro, syntax, notation, axiom, sorry.
-/
import Derived.Test.YtgkkffhoflgpoaaChecked
import GoSem.Claim
import GoSem.ClaimJoined
import GoSem.ClaimMapViews
import Derived.JoinedTies
import Derived.KernelRfl
namespace Go.Proofs.Ytgkkffhoflgpoaa
/- THE CELL 'sum', in the pinned program and in every row, IS THE sha256 OF THE DUMP (.gsa) THAT YtgkkffhoflgpoaaProg.lean LOADS. Nothing in Lean hashes anything: it is a label: what it is worth is what the hold of that sum in a sandbox is worth. -/
noncomputable def Try.pinned : Pinned := { name := "ytgkkffhoflgpoaa", sum := "b386e91da667d8ec7f999cd778efab05826146dd1189f1c79861c0b90e9fa012", checked := Try.checked }
namespace Rows
def none {H : Type} : Left H := { results := [], args := [] }

/-- 'regestalaw22.TxnFree': WHATEVER THE INPUT: true; the input reads as it did. -/
def txnFreeSpec : ChangeSpec := { name := "txnFree", fn := fun _ => fun
  | [d1, d2] => { results := [.lit (.bool true)], args := [d1, d2] }
  | _ => none }
def txnFreeRow : OpenClaim := { program := "ytgkkffhoflgpoaa", sum := "b386e91da667d8ec7f999cd778efab05826146dd1189f1c79861c0b90e9fa012", func := "regesta/regestalaw22.TxnFree", spec := "txnFree", apart := false }
def TxnFreeSaid : Prop := txnFreeRow.holds Try.pinned (OpenSpec.ofChange txnFreeSpec)

/-- ITS FALSE NEIGHBOUR: 'it returns false'. Refute it at one input. -/
def txnFreeWrong : ChangeSpec := { name := "txnFree", fn := fun _ => fun
  | [d1, d2] => { results := [.lit (.bool false)], args := [d1, d2] }
  | _ => none }
def TxnFreeWrongFalsely : Prop := txnFreeRow.holds Try.pinned (OpenSpec.ofChange txnFreeWrong)

/-- 'regestalaw22.TxnFirst': WHATEVER THE INPUT: true; the input reads as it did. -/
def txnFirstSpec : ChangeSpec := { name := "txnFirst", fn := fun _ => fun
  | [d1, d2, d3] => { results := [.lit (.bool true)], args := [d1, d2, d3] }
  | _ => none }
def txnFirstRow : OpenClaim := { program := "ytgkkffhoflgpoaa", sum := "b386e91da667d8ec7f999cd778efab05826146dd1189f1c79861c0b90e9fa012", func := "regesta/regestalaw22.TxnFirst", spec := "txnFirst", apart := false }
def TxnFirstSaid : Prop := txnFirstRow.holds Try.pinned (OpenSpec.ofChange txnFirstSpec)

/-- ITS FALSE NEIGHBOUR: 'it returns false'. Refute it at one input. -/
def txnFirstWrong : ChangeSpec := { name := "txnFirst", fn := fun _ => fun
  | [d1, d2, d3] => { results := [.lit (.bool false)], args := [d1, d2, d3] }
  | _ => none }
def TxnFirstWrongFalsely : Prop := txnFirstRow.holds Try.pinned (OpenSpec.ofChange txnFirstWrong)

/-- 'regestalaw22.TxnRises': WHATEVER THE INPUT: true; the input reads as it did. -/
def txnRisesSpec : ChangeSpec := { name := "txnRises", fn := fun _ => fun
  | [d] => { results := [.lit (.bool true)], args := [d] }
  | _ => none }
def txnRisesRow : OpenClaim := { program := "ytgkkffhoflgpoaa", sum := "b386e91da667d8ec7f999cd778efab05826146dd1189f1c79861c0b90e9fa012", func := "regesta/regestalaw22.TxnRises", spec := "txnRises", apart := false }
def TxnRisesSaid : Prop := txnRisesRow.holds Try.pinned (OpenSpec.ofChange txnRisesSpec)

/-- ITS FALSE NEIGHBOUR: 'it returns false'. Refute it at one input. -/
def txnRisesWrong : ChangeSpec := { name := "txnRises", fn := fun _ => fun
  | [d] => { results := [.lit (.bool false)], args := [d] }
  | _ => none }
def TxnRisesWrongFalsely : Prop := txnRisesRow.holds Try.pinned (OpenSpec.ofChange txnRisesWrong)

/-- 'regestalaw22.TxnPlays': WHATEVER THE INPUT: true; the input reads as it did. -/
def txnPlaysSpec : ChangeSpec := { name := "txnPlays", fn := fun _ => fun
  | [d1, d2] => { results := [.lit (.bool true)], args := [d1, d2] }
  | _ => none }
def txnPlaysRow : OpenClaim := { program := "ytgkkffhoflgpoaa", sum := "b386e91da667d8ec7f999cd778efab05826146dd1189f1c79861c0b90e9fa012", func := "regesta/regestalaw22.TxnPlays", spec := "txnPlays", unfollowed := true, recurses := true, apart := false }
def TxnPlaysSaid : Prop := txnPlaysRow.holds Try.pinned (OpenSpec.ofChange txnPlaysSpec)

/-- ITS FALSE NEIGHBOUR: 'it returns false'. Refute it at one input. -/
def txnPlaysWrong : ChangeSpec := { name := "txnPlays", fn := fun _ => fun
  | [d1, d2] => { results := [.lit (.bool false)], args := [d1, d2] }
  | _ => none }
def TxnPlaysWrongFalsely : Prop := txnPlaysRow.holds Try.pinned (OpenSpec.ofChange txnPlaysWrong)

/-- 'regestalaw22.TxnForks': WHATEVER THE INPUT: true; the input reads as it did. -/
def txnForksSpec : ChangeSpec := { name := "txnForks", fn := fun _ => fun
  | [d1, d2, d3] => { results := [.lit (.bool true)], args := [d1, d2, d3] }
  | _ => none }
def txnForksRow : OpenClaim := { program := "ytgkkffhoflgpoaa", sum := "b386e91da667d8ec7f999cd778efab05826146dd1189f1c79861c0b90e9fa012", func := "regesta/regestalaw22.TxnForks", spec := "txnForks", inPlace := ["maps.clone"], unfollowed := true, recurses := true, apart := false }
def TxnForksSaid : Prop := txnForksRow.holds Try.pinned (OpenSpec.ofChange txnForksSpec)

/-- ITS FALSE NEIGHBOUR: 'it returns false'. Refute it at one input. -/
def txnForksWrong : ChangeSpec := { name := "txnForks", fn := fun _ => fun
  | [d1, d2, d3] => { results := [.lit (.bool false)], args := [d1, d2, d3] }
  | _ => none }
def TxnForksWrongFalsely : Prop := txnForksRow.holds Try.pinned (OpenSpec.ofChange txnForksWrong)

/-- 'regestatop.TopWriters': WHATEVER THE INPUT: true; the input reads as it did. -/
def topWritersSpec : ChangeSpec := { name := "topWriters", fn := fun _ => fun
  | [d] => { results := [.lit (.bool true)], args := [d] }
  | _ => none }
def topWritersRow : OpenClaim := { program := "ytgkkffhoflgpoaa", sum := "b386e91da667d8ec7f999cd778efab05826146dd1189f1c79861c0b90e9fa012", func := "regesta/regestatop.TopWriters", spec := "topWriters", apart := false }
def TopWritersSaid : Prop := topWritersRow.holds Try.pinned (OpenSpec.ofChange topWritersSpec)

/-- ITS FALSE NEIGHBOUR: 'it returns false'. Refute it at one input. -/
def topWritersWrong : ChangeSpec := { name := "topWriters", fn := fun _ => fun
  | [d] => { results := [.lit (.bool false)], args := [d] }
  | _ => none }
def TopWritersWrongFalsely : Prop := topWritersRow.holds Try.pinned (OpenSpec.ofChange topWritersWrong)

/- THE SECOND FORM. 'bulk': how many values and letters a reading holds, each counted each time it is reached (what is shared counts as often as it is met; a slice's spare places count too). A statement '..UptoSaid' is the law's where the arguments, and the package variables that the reading takes, are together of bulk at most 1048576: NARROWER than '..Said'. Prove '..Said' where nothing that the law and all that it calls make is longer than what came in: it says more and counts as full. Else prove '..UptoSaid'. A law counts once. -/
mutual
def uptoBulk {H : Type} : DataW H → Nat
  | .lit (.string bytes) => bytes.length + 1
  | .lit _ => 1
  | .nil => 1
  | .ptr d => uptoBulk d + 1
  | .slice elems spare => uptoBulkAll elems + uptoBulkAll spare + 1
  | .agg parts => uptoBulkAll parts + 1
  | .iface _ d => uptoBulk d + 1
  | .map entries => uptoBulkEntries entries + 1
  | .held _ => 1
def uptoBulkAll {H : Type} : List (DataW H) → Nat
  | [] => 0
  | d :: r => uptoBulk d + uptoBulkAll r
def uptoBulkEntries {H : Type} : List (Lit × DataW H) → Nat
  | [] => 0
  | x :: r => uptoBulkEntry x + uptoBulkEntries r
def uptoBulkEntry {H : Type} : Lit × DataW H → Nat
  | (.string bytes, d) => bytes.length + uptoBulk d + 1
  | (_, d) => uptoBulk d + 1
 end
def uptoSmall : (H : Type) → List (DataW H) → Bool := fun _ ds => decide (uptoBulkAll ds ≤ 1048576)
def OpenSpec.upto (s : _root_.Go.ChangeSpec) : _root_.Go.OpenSpec := { _root_.Go.OpenSpec.ofChange s with cond := some uptoSmall }

/-- 'regestalaw22.TxnFree', WHERE WHAT IT READS IS OF BULK AT MOST 1048576: true; the input reads as it did. -/
def txnFreeUptoRow : OpenClaim := { program := "ytgkkffhoflgpoaa", sum := "b386e91da667d8ec7f999cd778efab05826146dd1189f1c79861c0b90e9fa012", func := "regesta/regestalaw22.TxnFree", spec := "txnFree", apart := false, narrowed := true }
def TxnFreeUptoSaid : Prop := txnFreeUptoRow.holds Try.pinned (OpenSpec.upto txnFreeSpec)

/-- 'regestalaw22.TxnFirst', WHERE WHAT IT READS IS OF BULK AT MOST 1048576: true; the input reads as it did. -/
def txnFirstUptoRow : OpenClaim := { program := "ytgkkffhoflgpoaa", sum := "b386e91da667d8ec7f999cd778efab05826146dd1189f1c79861c0b90e9fa012", func := "regesta/regestalaw22.TxnFirst", spec := "txnFirst", apart := false, narrowed := true }
def TxnFirstUptoSaid : Prop := txnFirstUptoRow.holds Try.pinned (OpenSpec.upto txnFirstSpec)

/-- 'regestalaw22.TxnRises', WHERE WHAT IT READS IS OF BULK AT MOST 1048576: true; the input reads as it did. -/
def txnRisesUptoRow : OpenClaim := { program := "ytgkkffhoflgpoaa", sum := "b386e91da667d8ec7f999cd778efab05826146dd1189f1c79861c0b90e9fa012", func := "regesta/regestalaw22.TxnRises", spec := "txnRises", apart := false, narrowed := true }
def TxnRisesUptoSaid : Prop := txnRisesUptoRow.holds Try.pinned (OpenSpec.upto txnRisesSpec)

/-- 'regestalaw22.TxnPlays', WHERE WHAT IT READS IS OF BULK AT MOST 1048576: true; the input reads as it did. -/
def txnPlaysUptoRow : OpenClaim := { program := "ytgkkffhoflgpoaa", sum := "b386e91da667d8ec7f999cd778efab05826146dd1189f1c79861c0b90e9fa012", func := "regesta/regestalaw22.TxnPlays", spec := "txnPlays", unfollowed := true, recurses := true, apart := false, narrowed := true }
def TxnPlaysUptoSaid : Prop := txnPlaysUptoRow.holds Try.pinned (OpenSpec.upto txnPlaysSpec)

/-- 'regestalaw22.TxnForks', WHERE WHAT IT READS IS OF BULK AT MOST 1048576: true; the input reads as it did. -/
def txnForksUptoRow : OpenClaim := { program := "ytgkkffhoflgpoaa", sum := "b386e91da667d8ec7f999cd778efab05826146dd1189f1c79861c0b90e9fa012", func := "regesta/regestalaw22.TxnForks", spec := "txnForks", inPlace := ["maps.clone"], unfollowed := true, recurses := true, apart := false, narrowed := true }
def TxnForksUptoSaid : Prop := txnForksUptoRow.holds Try.pinned (OpenSpec.upto txnForksSpec)

/-- 'regestatop.TopWriters', WHERE WHAT IT READS IS OF BULK AT MOST 1048576: true; the input reads as it did. -/
def topWritersUptoRow : OpenClaim := { program := "ytgkkffhoflgpoaa", sum := "b386e91da667d8ec7f999cd778efab05826146dd1189f1c79861c0b90e9fa012", func := "regesta/regestatop.TopWriters", spec := "topWriters", apart := false, narrowed := true }
def TopWritersUptoSaid : Prop := topWritersUptoRow.holds Try.pinned (OpenSpec.upto topWritersSpec)

end Rows
end Go.Proofs.Ytgkkffhoflgpoaa
