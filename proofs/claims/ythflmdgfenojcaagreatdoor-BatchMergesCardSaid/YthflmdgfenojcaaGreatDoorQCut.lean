/- Part of the proof over this seat. -/
import Derived.Lib.Split
import Derived.Test.YthflmdgfenojcaaGreatDoorQEnc
namespace Go.Proofs.YthflmdgfenojcaaGreatDoor
set_option linter.unusedVariables false
open Go.RowKit
theorem cutL_len (c : UInt8) : ∀ l x, x ∈ cutL c l → x.length ≤ l.length
  | [], x, h => by simp [cutL] at h; subst h; simp
  | b :: l, x, h => by
    have ih := cutL_len c l
    unfold cutL at h
    split at h
    · rcases List.mem_cons.1 h with rfl | h
      · simp
      · have := ih x h; simp; omega
    · rcases List.mem_cons.1 h with rfl | h
      · have := ih ((cutL c l).headD []) (by rw [cutL_form c l]; exact List.mem_cons_self)
        rw [List.length_cons, List.length_cons]; omega
      · have := ih x (by rw [cutL_form c l]; exact List.mem_cons_of_mem _ h)
        simp; omega
/-- The parts of a text between vertical bars. -/
def cutS (s : ByteArray) : List ByteArray := Lib.splitB barS 0 (Lib.countB s barS) s
theorem cutS_data (s : ByteArray) : (cutS s).map (·.data.toList) = cutL 124 s.data.toList := by
  unfold cutS
  rw [Lib.splitB_data, ← splitK_cut]
  have h : Lib.countB s barS = s.data.toList.count 124 := Lib.count_one 124 s.data.toList
  rw [h]; rfl
theorem cutS_len (s : ByteArray) : (cutS s).length = Lib.countB s barS + 1 := Lib.splitB_all barS (by decide) 0 _ s rfl
theorem cutS_size (s : ByteArray) : ∀ x ∈ cutS s, x.size ≤ s.size := by
  intro x hx
  have h : x.data.toList ∈ (cutS s).map (·.data.toList) := List.mem_map_of_mem hx
  rw [cutS_data] at h
  have := cutL_len 124 _ _ h
  simpa using this
def zeroS : ByteArray := ⟨#[48]⟩
def oneS : ByteArray := ⟨#[49]⟩
def prt (l : List ByteArray) (j : Nat) : ByteArray := l.getD j ⟨#[]⟩
/-- Whether the parts have the form of a record. -/
def numsB (l : List ByteArray) : Bool := numOK (prt l 0) && (numOK (prt l 7) && (numOK (prt l 9) && numOK (prt l 10)))
def endB (p : ByteArray) : Bool := decide (p = zeroS) || decide (p = oneS)
def formB (l : List ByteArray) : Bool := decide (l.length = 12) && (numsB l && endB (prt l 11))
def recL (l : List ByteArray) : Rec := ⟨numV (prt l 0), prt l 1, prt l 2, prt l 3, prt l 4, prt l 5, prt l 6, numV (prt l 7), prt l 8, numV (prt l 9), numV (prt l 10), decide (prt l 11 = oneS)⟩
def zrec : Rec := ⟨0, ⟨#[]⟩, ⟨#[]⟩, ⟨#[]⟩, ⟨#[]⟩, ⟨#[]⟩, ⟨#[]⟩, 0, ⟨#[]⟩, 0, 0, false⟩
def decE (s : ByteArray) : Int := if formB (cutS s) = true then chkE (recL (cutS s)) else 2
def decV (s : ByteArray) : Rec := if decE s = 0 then recL (cutS s) else zrec
/-- What Decode answers. -/
def DecPost (s : ByteArray) (w : World) (e : Ending) (w' : World) : Prop := e = .returned (.tuple #[(decV s).val, .int .i64 (decE s)]) ∧ Below w.heap.size w w'
theorem prt_size (s : ByteArray) (j : Nat) : (prt (cutS s) j).size ≤ s.size := by
  unfold prt
  rcases Nat.lt_or_ge j (cutS s).length with h | h
  · have e : (cutS s).getD j ⟨#[]⟩ = (cutS s)[j] := by simp [h]
    rw [e]; exact cutS_size s _ (List.getElem_mem h)
  · have e : (cutS s).getD j ⟨#[]⟩ = ⟨#[]⟩ := by simp [List.getElem?_eq_none h]
    rw [e]; exact Nat.zero_le _
section
open Go.Sort
theorem results_row_tmp {P : Program} {fn : Func} {p u : Tmp} {ty : TypeId} (h : fn.results = #[.cell p ty, .tmp u]) (tmps : Array Value) (w : World) (g : Nat) (t : TypeId) (cs : Array Value) (fr : Nat × Nat) (d : TypeDesc) (v : Value)
    (hp : tmps.getD p undef = .pointer (some ⟨g, 0, none⟩)) (hv : tmps.getD u undef = v) (hg : w.heap[g]? = some (.cells cs t fr))
    (hu : P.underlying ty = some d) (hd : (match d with | .struct _ | .array _ _ => true | _ => false) = true) (hi : (P.info? ty).map (·.size) = some cs.size) :
    (results fn tmps).run P w = .ok (.tuple #[.agg cs, v]) w := by
  have hp' : tmps[p]?.getD undef = .pointer (some ⟨g, 0, none⟩) := by simpa using hp
  have hv' : tmps[u]?.getD undef = v := by simpa using hv
  simp [results, h, hp', hv', asAddr, run_loadVar_row w g t ty cs fr d hg hu hd hi]
end
end Go.Proofs.YthflmdgfenojcaaGreatDoor
