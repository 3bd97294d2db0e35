/- The law Once, as the frame wants it. -/
import Derived.Test.YtodlholfhgicoaaDoorLOnc
import Derived.Test.YtodlholfhgicoaaDoorLMak
namespace Go.Proofs.YtodlholfhgicoaaDoor
set_option linter.unusedVariables false
open Go.RowKit Go.Sort Go.Maps

theorem cryptogramOnce_walk (w : World) (hw : KW w) (_ : True) (k : Int) (hk : (Lit.int .u64 k).wf = true) (wn : Int) (hn : (Lit.int .u8 wn).wf = true) (A : Option Addr) (cp : Nat) (l : List (Nat × Nat))
    (h : IsRow w A (l.flatMap tryC) ∧ (∀ x ∈ l, x.1 < 256 ∧ x.2 < 65536) ∧ l.length ≤ cp ∧ (A = none → cp = 0) ∧ cp ≤ maxLen) :
    Calls Tryd.prog 5 #[.int .u64 k, .int .u8 wn, .slice A l.length cp] w fun e w' => e = .returned (.bool true) ∧ Below w.heap.size w w' := by
  obtain ⟨m, rfl, hm⟩ := u64_nat hk
  obtain ⟨n, rfl, hn'⟩ := u8_nat hn
  exact once_any m n A cp l w hw hm hn' h.1 h.2.1 (Nat.le_trans h.2.2.1 h.2.2.2.2)
end Go.Proofs.YtodlholfhgicoaaDoor
