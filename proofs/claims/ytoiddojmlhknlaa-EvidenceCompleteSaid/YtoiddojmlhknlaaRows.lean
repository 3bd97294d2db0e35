/-
  No cell of these rows narrows 'for every input' (looked for: loops, veiled, ifaces, maps, wideKeys, modest, calm, conditions, laid).
  DERIVED. THE GIVEN ROWS OF THIS SEAT. 2 by the template 'for every input the law returns true; each argument reads behind the call as it read before'; 0 by the template 'total and deterministic' (their statements: YtoiddojmlhknlaaTotals.lean).
  GIVEN WITH THE SEED: the statements are not yours to turn. If you find one false, say at which input.
  Laid BY PROGRAM, IN A SANDBOX (cutbox-rows.mjs): the forced cells as the released guide's own fill.sh prints them over the translation ab5bd96aa00ca7ac… (all of the seat's roots in one cut). By AI agents, Wed Nov 11 2026. No macro, syntax, notation, axiom, sorry.
-/
import Derived.Test.YtoiddojmlhknlaaChecked
import GoSem.Claim
import GoSem.ClaimJoined
import GoSem.ClaimMapViews
import Derived.JoinedTies
import Derived.KernelRfl
namespace Go.Proofs.Ytoiddojmlhknlaa
/- THE CELL 'sum', in the pinned program and in every row, IS THE sha256 OF THE DUMP (.gsa) THAT YtoiddojmlhknlaaProg.lean LOADS. Nothing in Lean hashes anything: it is a label: what it is worth is what the hold of that sum in a sandbox is worth. -/
noncomputable def Try.pinned : Pinned := { name := "ytoiddojmlhknlaa", sum := "ab5bd96aa00ca7ac955f35febfce25a63bad1b15da21e14478abcd8f4ce58c71", checked := Try.checked }
namespace Rows
def none {H : Type} : Left H := { results := [], args := [] }

/-- 'cardnetlaw45.EvidenceItems': WHATEVER THE INPUT: true; the input reads as it did. -/
def evidenceItemsSpec : ChangeSpec := { name := "evidenceItems", fn := fun _ => fun
  | [d1, d2] => { results := [.lit (.bool true)], args := [d1, d2] }
  | _ => none }
def evidenceItemsRow : OpenClaim := { program := "ytoiddojmlhknlaa", sum := "ab5bd96aa00ca7ac955f35febfce25a63bad1b15da21e14478abcd8f4ce58c71", func := "cardnet/cardnetlaw45.EvidenceItems", spec := "evidenceItems", apart := false }
def EvidenceItemsSaid : Prop := evidenceItemsRow.holds Try.pinned (OpenSpec.ofChange evidenceItemsSpec)

/-- ITS FALSE NEIGHBOUR: 'it returns false'. Refute it at one input. -/
def evidenceItemsWrong : ChangeSpec := { name := "evidenceItems", fn := fun _ => fun
  | [d1, d2] => { results := [.lit (.bool false)], args := [d1, d2] }
  | _ => none }
def EvidenceItemsWrongFalsely : Prop := evidenceItemsRow.holds Try.pinned (OpenSpec.ofChange evidenceItemsWrong)

/-- 'cardnetlaw45.EvidenceComplete': WHATEVER THE INPUT: true; the input reads as it did. -/
def evidenceCompleteSpec : ChangeSpec := { name := "evidenceComplete", fn := fun _ => fun
  | [d1, d2] => { results := [.lit (.bool true)], args := [d1, d2] }
  | _ => none }
def evidenceCompleteRow : OpenClaim := { program := "ytoiddojmlhknlaa", sum := "ab5bd96aa00ca7ac955f35febfce25a63bad1b15da21e14478abcd8f4ce58c71", func := "cardnet/cardnetlaw45.EvidenceComplete", spec := "evidenceComplete", apart := false }
def EvidenceCompleteSaid : Prop := evidenceCompleteRow.holds Try.pinned (OpenSpec.ofChange evidenceCompleteSpec)

/-- ITS FALSE NEIGHBOUR: 'it returns false'. Refute it at one input. -/
def evidenceCompleteWrong : ChangeSpec := { name := "evidenceComplete", fn := fun _ => fun
  | [d1, d2] => { results := [.lit (.bool false)], args := [d1, d2] }
  | _ => none }
def EvidenceCompleteWrongFalsely : Prop := evidenceCompleteRow.holds Try.pinned (OpenSpec.ofChange evidenceCompleteWrong)

/- THE SECOND FORM. 'bulk': how many values and letters a reading holds, each counted each time it is reached (what is shared counts as often as it is met; a slice's spare places count too). A statement '..UptoSaid' is the law's where the arguments, and the package variables that the reading takes, are together of bulk at most 1048576: NARROWER than '..Said'. Prove '..Said' where nothing that the law and all that it calls make is longer than what came in: it says more and counts as full. Else prove '..UptoSaid'. A law counts once. -/
mutual
def uptoBulk {H : Type} : DataW H → Nat
  | .lit (.string bytes) => bytes.length + 1
  | .lit _ => 1
  | .nil => 1
  | .ptr d => uptoBulk d + 1
  | .slice elems spare => uptoBulkAll elems + uptoBulkAll spare + 1
  | .agg parts => uptoBulkAll parts + 1
  | .iface _ d => uptoBulk d + 1
  | .map entries => uptoBulkEntries entries + 1
  | .held _ => 1
def uptoBulkAll {H : Type} : List (DataW H) → Nat
  | [] => 0
  | d :: r => uptoBulk d + uptoBulkAll r
def uptoBulkEntries {H : Type} : List (Lit × DataW H) → Nat
  | [] => 0
  | x :: r => uptoBulkEntry x + uptoBulkEntries r
def uptoBulkEntry {H : Type} : Lit × DataW H → Nat
  | (.string bytes, d) => bytes.length + uptoBulk d + 1
  | (_, d) => uptoBulk d + 1
 end
def uptoSmall : (H : Type) → List (DataW H) → Bool := fun _ ds => decide (uptoBulkAll ds ≤ 1048576)
def OpenSpec.upto (s : _root_.Go.ChangeSpec) : _root_.Go.OpenSpec := { _root_.Go.OpenSpec.ofChange s with cond := some uptoSmall }

/-- 'cardnetlaw45.EvidenceItems', WHERE WHAT IT READS IS OF BULK AT MOST 1048576: true; the input reads as it did. -/
def evidenceItemsUptoRow : OpenClaim := { program := "ytoiddojmlhknlaa", sum := "ab5bd96aa00ca7ac955f35febfce25a63bad1b15da21e14478abcd8f4ce58c71", func := "cardnet/cardnetlaw45.EvidenceItems", spec := "evidenceItems", apart := false, narrowed := true }
def EvidenceItemsUptoSaid : Prop := evidenceItemsUptoRow.holds Try.pinned (OpenSpec.upto evidenceItemsSpec)

/-- 'cardnetlaw45.EvidenceComplete', WHERE WHAT IT READS IS OF BULK AT MOST 1048576: true; the input reads as it did. -/
def evidenceCompleteUptoRow : OpenClaim := { program := "ytoiddojmlhknlaa", sum := "ab5bd96aa00ca7ac955f35febfce25a63bad1b15da21e14478abcd8f4ce58c71", func := "cardnet/cardnetlaw45.EvidenceComplete", spec := "evidenceComplete", apart := false, narrowed := true }
def EvidenceCompleteUptoSaid : Prop := evidenceCompleteUptoRow.holds Try.pinned (OpenSpec.upto evidenceCompleteSpec)

end Rows
end Go.Proofs.Ytoiddojmlhknlaa
