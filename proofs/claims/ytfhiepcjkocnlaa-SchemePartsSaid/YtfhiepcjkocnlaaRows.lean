/-
  No cell of these rows narrows 'for every input' (looked for: loops, veiled, ifaces, maps, wideKeys, modest, calm, conditions, laid).
  DERIVED. THE GIVEN ROWS OF THIS SEAT. 5 by the template 'for every input the law returns true; each argument reads behind the call as it read before'; 0 by the template 'total and deterministic' (their statements: YtfhiepcjkocnlaaTotals.lean).
  GIVEN WITH THE SEED: the statements are not yours to turn. If you find one false, say at which input.
  Laid BY PROGRAM, IN A SANDBOX (cutbox-rows.mjs): the forced cells as the released guide's own fill.sh prints them over the translation 7f008fa143fb5c8b… (all of the seat's roots in one cut). By AI agents, Wed Nov 11 2026. No macro, syntax, notation, axiom, sorry.
-/
import Derived.Test.YtfhiepcjkocnlaaChecked
import GoSem.Claim
import GoSem.ClaimJoined
import GoSem.ClaimMapViews
import Derived.JoinedTies
import Derived.KernelRfl
namespace Go.Proofs.Ytfhiepcjkocnlaa
/- THE CELL 'sum', in the pinned program and in every row, IS THE sha256 OF THE DUMP (.gsa) THAT YtfhiepcjkocnlaaProg.lean LOADS. Nothing in Lean hashes anything: it is a label: what it is worth is what the hold of that sum in a sandbox is worth. -/
noncomputable def Try.pinned : Pinned := { name := "ytfhiepcjkocnlaa", sum := "7f008fa143fb5c8bf77fcffa459deb8cc7f1cb05c590add7a6d5ba8d345a97b4", checked := Try.checked }
namespace Rows
def none {H : Type} : Left H := { results := [], args := [] }

/-- 'cardnetlaw39.SchemeShares': WHATEVER THE INPUT: true; the input reads as it did. -/
def schemeSharesSpec : ChangeSpec := { name := "schemeShares", fn := fun _ => fun
  | [d1, d2] => { results := [.lit (.bool true)], args := [d1, d2] }
  | _ => none }
def schemeSharesRow : OpenClaim := { program := "ytfhiepcjkocnlaa", sum := "7f008fa143fb5c8bf77fcffa459deb8cc7f1cb05c590add7a6d5ba8d345a97b4", func := "cardnet/cardnetlaw39.SchemeShares", spec := "schemeShares", unfollowed := true, recurses := true, named := ["math/bits.divideError", "math/bits.overflowError"], apart := false }
def SchemeSharesSaid : Prop := schemeSharesRow.holds Try.pinned (OpenSpec.ofChange schemeSharesSpec)

/-- ITS FALSE NEIGHBOUR: 'it returns false'. Refute it at one input. -/
def schemeSharesWrong : ChangeSpec := { name := "schemeShares", fn := fun _ => fun
  | [d1, d2] => { results := [.lit (.bool false)], args := [d1, d2] }
  | _ => none }
def SchemeSharesWrongFalsely : Prop := schemeSharesRow.holds Try.pinned (OpenSpec.ofChange schemeSharesWrong)

/-- 'cardnetlaw39.SchemeFees': WHATEVER THE INPUT: true; the input reads as it did. -/
def schemeFeesSpec : ChangeSpec := { name := "schemeFees", fn := fun _ => fun
  | [d1, d2] => { results := [.lit (.bool true)], args := [d1, d2] }
  | _ => none }
def schemeFeesRow : OpenClaim := { program := "ytfhiepcjkocnlaa", sum := "7f008fa143fb5c8bf77fcffa459deb8cc7f1cb05c590add7a6d5ba8d345a97b4", func := "cardnet/cardnetlaw39.SchemeFees", spec := "schemeFees", unfollowed := true, recurses := true, named := ["math/bits.divideError", "math/bits.overflowError"], apart := false }
def SchemeFeesSaid : Prop := schemeFeesRow.holds Try.pinned (OpenSpec.ofChange schemeFeesSpec)

/-- ITS FALSE NEIGHBOUR: 'it returns false'. Refute it at one input. -/
def schemeFeesWrong : ChangeSpec := { name := "schemeFees", fn := fun _ => fun
  | [d1, d2] => { results := [.lit (.bool false)], args := [d1, d2] }
  | _ => none }
def SchemeFeesWrongFalsely : Prop := schemeFeesRow.holds Try.pinned (OpenSpec.ofChange schemeFeesWrong)

/-- 'cardnetlaw39.SchemeExact': WHATEVER THE INPUT: true; the input reads as it did. -/
def schemeExactSpec : ChangeSpec := { name := "schemeExact", fn := fun _ => fun
  | [d1, d2] => { results := [.lit (.bool true)], args := [d1, d2] }
  | _ => none }
def schemeExactRow : OpenClaim := { program := "ytfhiepcjkocnlaa", sum := "7f008fa143fb5c8bf77fcffa459deb8cc7f1cb05c590add7a6d5ba8d345a97b4", func := "cardnet/cardnetlaw39.SchemeExact", spec := "schemeExact", unfollowed := true, recurses := true, named := ["math/bits.divideError", "math/bits.overflowError"], apart := false }
def SchemeExactSaid : Prop := schemeExactRow.holds Try.pinned (OpenSpec.ofChange schemeExactSpec)

/-- ITS FALSE NEIGHBOUR: 'it returns false'. Refute it at one input. -/
def schemeExactWrong : ChangeSpec := { name := "schemeExact", fn := fun _ => fun
  | [d1, d2] => { results := [.lit (.bool false)], args := [d1, d2] }
  | _ => none }
def SchemeExactWrongFalsely : Prop := schemeExactRow.holds Try.pinned (OpenSpec.ofChange schemeExactWrong)

/-- 'cardnetlaw39.SchemeParts': WHATEVER THE INPUT: true; the input reads as it did. -/
def schemePartsSpec : ChangeSpec := { name := "schemeParts", fn := fun _ => fun
  | [d1, d2] => { results := [.lit (.bool true)], args := [d1, d2] }
  | _ => none }
def schemePartsRow : OpenClaim := { program := "ytfhiepcjkocnlaa", sum := "7f008fa143fb5c8bf77fcffa459deb8cc7f1cb05c590add7a6d5ba8d345a97b4", func := "cardnet/cardnetlaw39.SchemeParts", spec := "schemeParts", unfollowed := true, recurses := true, named := ["math/bits.divideError", "math/bits.overflowError"], apart := false }
def SchemePartsSaid : Prop := schemePartsRow.holds Try.pinned (OpenSpec.ofChange schemePartsSpec)

/-- ITS FALSE NEIGHBOUR: 'it returns false'. Refute it at one input. -/
def schemePartsWrong : ChangeSpec := { name := "schemeParts", fn := fun _ => fun
  | [d1, d2] => { results := [.lit (.bool false)], args := [d1, d2] }
  | _ => none }
def SchemePartsWrongFalsely : Prop := schemePartsRow.holds Try.pinned (OpenSpec.ofChange schemePartsWrong)

/-- 'cardnetlaw39.SchemeSaves': WHATEVER THE INPUT: true; the input reads as it did. -/
def schemeSavesSpec : ChangeSpec := { name := "schemeSaves", fn := fun _ => fun
  | [d] => { results := [.lit (.bool true)], args := [d] }
  | _ => none }
def schemeSavesRow : OpenClaim := { program := "ytfhiepcjkocnlaa", sum := "7f008fa143fb5c8bf77fcffa459deb8cc7f1cb05c590add7a6d5ba8d345a97b4", func := "cardnet/cardnetlaw39.SchemeSaves", spec := "schemeSaves", unfollowed := true, recurses := true, named := ["math/bits.divideError", "math/bits.overflowError"], apart := false }
def SchemeSavesSaid : Prop := schemeSavesRow.holds Try.pinned (OpenSpec.ofChange schemeSavesSpec)

/-- ITS FALSE NEIGHBOUR: 'it returns false'. Refute it at one input. -/
def schemeSavesWrong : ChangeSpec := { name := "schemeSaves", fn := fun _ => fun
  | [d] => { results := [.lit (.bool false)], args := [d] }
  | _ => none }
def SchemeSavesWrongFalsely : Prop := schemeSavesRow.holds Try.pinned (OpenSpec.ofChange schemeSavesWrong)

/- THE SECOND FORM. 'bulk': how many values and letters a reading holds, each counted each time it is reached (what is shared counts as often as it is met; a slice's spare places count too). A statement '..UptoSaid' is the law's where the arguments, and the package variables that the reading takes, are together of bulk at most 1048576: NARROWER than '..Said'. Prove '..Said' where nothing that the law and all that it calls make is longer than what came in: it says more and counts as full. Else prove '..UptoSaid'. A law counts once. -/
mutual
def uptoBulk {H : Type} : DataW H → Nat
  | .lit (.string bytes) => bytes.length + 1
  | .lit _ => 1
  | .nil => 1
  | .ptr d => uptoBulk d + 1
  | .slice elems spare => uptoBulkAll elems + uptoBulkAll spare + 1
  | .agg parts => uptoBulkAll parts + 1
  | .iface _ d => uptoBulk d + 1
  | .map entries => uptoBulkEntries entries + 1
  | .held _ => 1
def uptoBulkAll {H : Type} : List (DataW H) → Nat
  | [] => 0
  | d :: r => uptoBulk d + uptoBulkAll r
def uptoBulkEntries {H : Type} : List (Lit × DataW H) → Nat
  | [] => 0
  | x :: r => uptoBulkEntry x + uptoBulkEntries r
def uptoBulkEntry {H : Type} : Lit × DataW H → Nat
  | (.string bytes, d) => bytes.length + uptoBulk d + 1
  | (_, d) => uptoBulk d + 1
 end
def uptoSmall : (H : Type) → List (DataW H) → Bool := fun _ ds => decide (uptoBulkAll ds ≤ 1048576)
def OpenSpec.upto (s : _root_.Go.ChangeSpec) : _root_.Go.OpenSpec := { _root_.Go.OpenSpec.ofChange s with cond := some uptoSmall }

/-- 'cardnetlaw39.SchemeShares', WHERE WHAT IT READS IS OF BULK AT MOST 1048576: true; the input reads as it did. -/
def schemeSharesUptoRow : OpenClaim := { program := "ytfhiepcjkocnlaa", sum := "7f008fa143fb5c8bf77fcffa459deb8cc7f1cb05c590add7a6d5ba8d345a97b4", func := "cardnet/cardnetlaw39.SchemeShares", spec := "schemeShares", unfollowed := true, recurses := true, named := ["math/bits.divideError", "math/bits.overflowError"], apart := false, narrowed := true }
def SchemeSharesUptoSaid : Prop := schemeSharesUptoRow.holds Try.pinned (OpenSpec.upto schemeSharesSpec)

/-- 'cardnetlaw39.SchemeFees', WHERE WHAT IT READS IS OF BULK AT MOST 1048576: true; the input reads as it did. -/
def schemeFeesUptoRow : OpenClaim := { program := "ytfhiepcjkocnlaa", sum := "7f008fa143fb5c8bf77fcffa459deb8cc7f1cb05c590add7a6d5ba8d345a97b4", func := "cardnet/cardnetlaw39.SchemeFees", spec := "schemeFees", unfollowed := true, recurses := true, named := ["math/bits.divideError", "math/bits.overflowError"], apart := false, narrowed := true }
def SchemeFeesUptoSaid : Prop := schemeFeesUptoRow.holds Try.pinned (OpenSpec.upto schemeFeesSpec)

/-- 'cardnetlaw39.SchemeExact', WHERE WHAT IT READS IS OF BULK AT MOST 1048576: true; the input reads as it did. -/
def schemeExactUptoRow : OpenClaim := { program := "ytfhiepcjkocnlaa", sum := "7f008fa143fb5c8bf77fcffa459deb8cc7f1cb05c590add7a6d5ba8d345a97b4", func := "cardnet/cardnetlaw39.SchemeExact", spec := "schemeExact", unfollowed := true, recurses := true, named := ["math/bits.divideError", "math/bits.overflowError"], apart := false, narrowed := true }
def SchemeExactUptoSaid : Prop := schemeExactUptoRow.holds Try.pinned (OpenSpec.upto schemeExactSpec)

/-- 'cardnetlaw39.SchemeParts', WHERE WHAT IT READS IS OF BULK AT MOST 1048576: true; the input reads as it did. -/
def schemePartsUptoRow : OpenClaim := { program := "ytfhiepcjkocnlaa", sum := "7f008fa143fb5c8bf77fcffa459deb8cc7f1cb05c590add7a6d5ba8d345a97b4", func := "cardnet/cardnetlaw39.SchemeParts", spec := "schemeParts", unfollowed := true, recurses := true, named := ["math/bits.divideError", "math/bits.overflowError"], apart := false, narrowed := true }
def SchemePartsUptoSaid : Prop := schemePartsUptoRow.holds Try.pinned (OpenSpec.upto schemePartsSpec)

/-- 'cardnetlaw39.SchemeSaves', WHERE WHAT IT READS IS OF BULK AT MOST 1048576: true; the input reads as it did. -/
def schemeSavesUptoRow : OpenClaim := { program := "ytfhiepcjkocnlaa", sum := "7f008fa143fb5c8bf77fcffa459deb8cc7f1cb05c590add7a6d5ba8d345a97b4", func := "cardnet/cardnetlaw39.SchemeSaves", spec := "schemeSaves", unfollowed := true, recurses := true, named := ["math/bits.divideError", "math/bits.overflowError"], apart := false, narrowed := true }
def SchemeSavesUptoSaid : Prop := schemeSavesUptoRow.holds Try.pinned (OpenSpec.upto schemeSavesSpec)

end Rows
end Go.Proofs.Ytfhiepcjkocnlaa
