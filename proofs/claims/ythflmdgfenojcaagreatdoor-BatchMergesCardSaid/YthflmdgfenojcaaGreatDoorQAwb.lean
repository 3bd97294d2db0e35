/- Part of the proof over this seat. -/
import Derived.Test.YthflmdgfenojcaaGreatDoorQDcw
import Derived.Test.YthflmdgfenojcaaGreatDoorQFew
namespace Go.Proofs.YthflmdgfenojcaaGreatDoor
set_option linter.unusedVariables false
open Go.RowKit Go.Sort Go.Maps
def b0 : Bat := ⟨⟨#[70, 50, 48, 45, 49]⟩, ⟨#[115, 104, 111, 112]⟩, 20, []⟩
end Go.Proofs.YthflmdgfenojcaaGreatDoor
