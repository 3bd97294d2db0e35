/- Rows of bytes of the call's own: written, read, turned into a string. -/
import Derived.Test.YtimjohcflclpmaaWalk1
import Derived.Test.YtimjohcflclpmaaPlain3
namespace Go.Proofs.Ytimjohcflclpmaa
set_option linter.unusedVariables false
open Go.RowKit

/-- Block b holds these bytes, and may be written. -/
def BytesAt (w : World) (b : Nat) (l : List UInt8) : Prop := ∀ j, j < l.length → w.cell? ⟨b, j, none⟩ = some (.int .u8 ((l.getD j 0).toNat : Int)) ∧ w.frozen? ⟨b, j, none⟩ = false
theorem BytesAt.set {w : World} {b : Nat} {l : List UInt8} (h : BytesAt w b l) (i : Nat) (hi : i < l.length) (x : UInt8) : BytesAt (w.setCell ⟨b, i, none⟩ (.int .u8 (x.toNat : Int))) b (l.set i x) := by
  intro j hj
  have hj' : j < l.length := by simpa using hj
  obtain ⟨h1, h2⟩ := h j hj'
  refine ⟨?_, by rw [World.frozen?_setCell]; exact h2⟩
  by_cases hij : i = j
  · subst hij
    rw [World.cell?_setCell_same _ _ _ h1]
    simp [List.getD, hi]
  · rw [World.cell?_setCell_other _ _ _ _ (fun e => hij (congrArg Addr.off e)), h1]
    simp [List.getD, hij]
theorem conv_ex (w : World) (s : ByteArray) : ∃ wN cap, (convert 9 33 (.string s)).run Try.prog w = .ok (.slice (some ⟨w.heap.size, 0, none⟩) s.size cap) wN ∧ BytesAt wN w.heap.size s.data.toList ∧ Below w.heap.size w wN ∧ w.heap.size < wN.heap.size := by
  refine ⟨_, _, run_bytes_of_string (P := Try.prog) w 9 33 5 s Try.underlying9 Try.underlying33 Try.underlying5, ?_, ((Below.refl _ _).drew).alloc (Nat.le_refl _) _, by simp⟩
  intro j hj
  have hj' : j < s.data.size := by simpa using hj
  have hsz : j < (bytesRow s (grownCap w s.size 0 5)).size := (Array.getElem?_eq_some_iff.1 (bytesRow_at s (grownCap w s.size 0 5) j hj')).1
  constructor
  · have := World.cell?_alloc_mark w.drew (bytesRow s (grownCap w s.size 0 5)) 5 ((bytesRow s (grownCap w s.size 0 5)).size, (bytesRow s (grownCap w s.size 0 5)).size + 1) j
    rw [bytesRow_at s _ j hj'] at this
    simp only [List.getD, Array.getElem?_toList, Array.getElem?_eq_getElem hj', Option.getD_some]
    exact this
  · have := World.frozen?_alloc_mark w.drew (bytesRow s (grownCap w s.size 0 5)) 5 (bytesRow s (grownCap w s.size 0 5)).size ((bytesRow s (grownCap w s.size 0 5)).size + 1) j
    refine this.trans ?_
    simp; omega
theorem conv_back (w : World) (b : Nat) (l : List UInt8) (cap : Nat) (h : BytesAt w b l) : (convert 33 9 (.slice (some ⟨b, 0, none⟩) l.length cap)).run Try.prog w = .ok (.string ⟨l.toArray⟩) w := by
  refine run_convert_bytes_back w 33 9 5 ⟨b, 0, none⟩ cap l Try.underlying33 Try.underlying5 Try.underlying9 ?_
  intro j hj
  have hplain : (⟨b, 0, none⟩ : Addr).add j = ⟨b, j, none⟩ := by unfold Addr.add; split <;> simp_all
  rw [hplain, (h j hj).1]
  simp [List.getD, hj]
end Go.Proofs.Ytimjohcflclpmaa
