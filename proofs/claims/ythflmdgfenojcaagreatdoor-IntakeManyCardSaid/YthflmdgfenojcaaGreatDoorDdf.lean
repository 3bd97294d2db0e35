/- Files of records: what Decode computes, in plain. No walk. -/
import Derived.Test.YthflmdgfenojcaaGreatDoorBdf
namespace Go.Proofs.YthflmdgfenojcaaGreatDoor
set_option linter.unusedVariables false
open Go.RowKit

def lfS : ByteArray := ⟨#[10]⟩
/-- The lines of a text. -/
def lnS (s : ByteArray) : List ByteArray := Lib.splitB lfS 0 (Lib.countB s lfS) s
theorem lnS_data (s : ByteArray) : (lnS s).map (·.data.toList) = cutL 10 s.data.toList := by
  unfold lnS
  rw [Lib.splitB_data, ← splitK_cut]
  have h : Lib.countB s lfS = s.data.toList.count 10 := Lib.count_one 10 s.data.toList
  rw [h]; rfl
theorem lnS_len (s : ByteArray) : (lnS s).length = Lib.countB s lfS + 1 := Lib.splitB_all lfS (by decide) 0 _ s rfl
theorem lnS_size (s : ByteArray) : ∀ x ∈ lnS s, x.size ≤ s.size := by
  intro x hx
  have h : x.data.toList ∈ (lnS s).map (·.data.toList) := List.mem_map_of_mem hx
  rw [lnS_data] at h
  have := cutL_len 10 _ _ h
  simpa using this
def bodyOf (s : ByteArray) : ByteArray := s.extract 0 (s.size - 1)
def nLn (s : ByteArray) : Nat := (lnS (bodyOf s)).length
def lnAt (s : ByteArray) (k : Nat) : ByteArray := prt (lnS (bodyOf s)) k
/-- The parts of the header and of the trailer; the check line, its digits, and what it covers. -/
def hdP (s : ByteArray) (j : Nat) : ByteArray := prt (cutS (lnAt s 0)) j
def trP (s : ByteArray) (j : Nat) : ByteArray := prt (cutS (lnAt s (nLn s - 2))) j
def ckL (s : ByteArray) : ByteArray := lnAt s (nLn s - 1)
def ckD (s : ByteArray) : ByteArray := (ckL s).extract 2 (ckL s).size
def cov (s : ByteArray) : ByteArray := s.extract 0 (s.size - 1 - (ckL s).size)
def nRc (s : ByteArray) : Nat := nLn s - 3
def rcL (s : ByteArray) (k : Nat) : ByteArray := lnAt s (1 + k)
def isCk (x : ByteArray) : Bool := decide (x.size = 8) && lowHex x.data.toList
def HdF (s : ByteArray) : Prop := (cutS (lnAt s 0)).length = 4 ∧ hdP s 0 = ⟨#[72]⟩ ∧ numOK (hdP s 3) = true
def CkF (s : ByteArray) : Prop := Lib.hasPrefix (ckL s).data.toList [67, 124] = true ∧ isCk (ckD s) = true
def TrF (s : ByteArray) : Prop := (cutS (lnAt s (nLn s - 2))).length = 5 ∧ trP s 0 = ⟨#[84]⟩ ∧ ∀ j, j < 4 → numOK (trP s (j + 1)) = true
def RcF (s : ByteArray) : Prop := ∀ k, k < nRc s → Lib.hasPrefix (rcL s k).data.toList [82, 124] = true
def FormF (s : ByteArray) : Prop := HdF s ∧ CkF s ∧ TrF s ∧ RcF s
instance (s : ByteArray) : Decidable (FormF s) := by unfold FormF HdF CkF TrF RcF; infer_instance
def divE (s : ByteArray) : Int := if Lib.countB s lfS < 3 then 1 else if Lib.hasSuffix s.data.toList [10] = true ∧ FormF s then 0 else 2
/-- The record whose fields count for the totals of a record line. -/
def clm (x : ByteArray) : Rec := if (cutS x).length = 13 ∧ numOK (prt (cutS x) 1) = true ∧ numOK (prt (cutS x) 8) = true then ⟨numV (prt (cutS x) 1), ⟨#[]⟩, ⟨#[]⟩, ⟨#[]⟩, ⟨#[]⟩, ⟨#[]⟩, prt (cutS x) 7, numV (prt (cutS x) 8), ⟨#[]⟩, 0, 0, false⟩ else zrec
def recLs (s : ByteArray) : List ByteArray := (List.range (nRc s)).map (rcL s)
def clmL (s : ByteArray) : List Rec := (recLs s).map clm
def TotF (s : ByteArray) : Prop := numV (trP s 1) = (nRc s : Int) ∧ numV (trP s 2) = debS (clmL s) (nRc s) ∧ numV (trP s 3) = creS (clmL s) (nRc s) ∧ numV (trP s 4) = (C7.totB (cardsOf (clmL s)) : Int)
instance (s : ByteArray) : Decidable (TotF s) := by unfold TotF; infer_instance
def exaE (s : ByteArray) : Int := if ckD s ≠ crcS (cov s).data.toList then 9 else if ¬ TotF s then 9 else if 200 < nRc s then 3 else headE (hdP s 1) (hdP s 2) (numV (hdP s 3))
def fileE (s : ByteArray) : Int := if divE s ≠ 0 then divE s else exaE s
/-! ### the records of a file -/
structure RdS where
  rs : List Rec
  bad : List (Nat × ByteArray × Int)
def lnId (x : ByteArray) : ByteArray := if (cutS x).length = 13 then prt (cutS x) 2 else ⟨#[]⟩
def txtOf (x : ByteArray) : ByteArray := x.extract 2 x.size
def ptD (sd : ByteArray) (rs : List Rec) (x : ByteArray) : Int := if decE (txtOf x) ≠ 0 then decE (txtOf x) else if (decV (txtOf x)).aq ≠ sd then 5 else if (decV (txtOf x)).id ∈ idsOf rs then 7 else 0
def rdStep (sd : ByteArray) (st : RdS) (i : Nat) (x : ByteArray) : RdS := if ptD sd st.rs x = 0 then ⟨st.rs ++ [decV (txtOf x)], st.bad⟩ else ⟨st.rs, st.bad ++ [(i, lnId x, ptD sd st.rs x)]⟩
def rdK (s : ByteArray) : Nat → RdS
  | 0 => ⟨[], []⟩
  | k + 1 => rdStep (hdP s 2) (rdK s k) k (rcL s k)
def fileV (s : ByteArray) : Bat := if fileE s = 0 then ⟨hdP s 1, hdP s 2, numV (hdP s 3), (rdK s (nRc s)).rs⟩ else ⟨⟨#[]⟩, ⟨#[]⟩, 0, []⟩
def fileB (s : ByteArray) : List (Nat × ByteArray × Int) := if fileE s = 0 then (rdK s (nRc s)).bad else []
end Go.Proofs.YthflmdgfenojcaaGreatDoor
