/- Part of the proof over this seat. -/
import Derived.Laws.AppendOwn
import Derived.Laws.OwnMore
import Derived.OwnWalk
import Derived.Deep.LoopGhost
import Derived.Test.YthflmdgfenojcaaGreatDoorQRec
import Derived.Test.YthflmdgfenojcaaGreatDoorQC7Walk
namespace Go.Proofs.YthflmdgfenojcaaGreatDoor
set_option linter.unusedVariables false
open Go.RowKit
instance : Inhabited Rec := ⟨⟨0, ⟨#[]⟩, ⟨#[]⟩, ⟨#[]⟩, ⟨#[]⟩, ⟨#[]⟩, ⟨#[]⟩, 0, ⟨#[]⟩, 0, 0, false⟩⟩
def recF (r : Rec) : List Value := [.int .i64 r.k, .string r.id, .string r.au, .string r.aq, .string r.iss, .string r.me, .string r.ca, .int .i64 r.a, .string r.cu, .int .i64 r.d, .int .i64 r.c, .bool r.f]
def rcAt (l : List Rec) (i : Nat) : Rec := l.getD i default
theorem rcAt_get (l : List Rec) (i : Nat) (h : i < l.length) : rcAt l i = l[i] := by unfold rcAt; simp [h]
theorem rec_cells (l : List Rec) (k : Nat) (hk : k < l.length) (j : Nat) (hj : j < 12) : (l.flatMap recF)[k * 12 + j]? = (recF l[k])[j]? := by
  induction l generalizing k with
  | nil => simp at hk
  | cons x l ih =>
    have h4 : (recF x).length = 12 := rfl
    rw [List.flatMap_cons]
    cases k with
    | zero => rw [List.getElem?_append_left (by omega)]; simp
    | succ k =>
      rw [List.getElem?_append_right (by omega), show (k + 1) * 12 + j - (recF x).length = k * 12 + j by omega]
      simpa using ih k (by simpa using hk)
/-- A record lies at a place. -/
structure RcAt (W : World) (b o : Nat) (r : Rec) : Prop where
  c0 : W.cell? ⟨b, o, none⟩ = some (.int .i64 r.k)
  c1 : W.cell? ⟨b, o + 1, none⟩ = some (.string r.id)
  c2 : W.cell? ⟨b, o + 2, none⟩ = some (.string r.au)
  c3 : W.cell? ⟨b, o + 3, none⟩ = some (.string r.aq)
  c4 : W.cell? ⟨b, o + 4, none⟩ = some (.string r.iss)
  c5 : W.cell? ⟨b, o + 5, none⟩ = some (.string r.me)
  c6 : W.cell? ⟨b, o + 6, none⟩ = some (.string r.ca)
  c7 : W.cell? ⟨b, o + 7, none⟩ = some (.int .i64 r.a)
  c8 : W.cell? ⟨b, o + 8, none⟩ = some (.string r.cu)
  c9 : W.cell? ⟨b, o + 9, none⟩ = some (.int .i64 r.d)
  c10 : W.cell? ⟨b, o + 10, none⟩ = some (.int .i64 r.c)
  c11 : W.cell? ⟨b, o + 11, none⟩ = some (.bool r.f)
theorem cell_later {w wX : World} {p : Addr} {v : Value} (hb : Below w.heap.size w wX) (h : w.cell? p = some v) : wX.cell? p = some v := (hb.cell (World.block_lt_of_cell? w _ h)).trans h
theorem RcAt.later {w W : World} {b o : Nat} {r : Rec} (h : RcAt w b o r) (hb : Below w.heap.size w W) : RcAt W b o r :=
  ⟨cell_later hb h.c0, cell_later hb h.c1, cell_later hb h.c2, cell_later hb h.c3, cell_later hb h.c4, cell_later hb h.c5, cell_later hb h.c6, cell_later hb h.c7, cell_later hb h.c8, cell_later hb h.c9, cell_later hb h.c10, cell_later hb h.c11⟩
theorem row_rc {wr : World} {A : Option Addr} {l : List Rec} (hr : IsRow wr A (l.flatMap recF)) (j : Nat) (h : j < l.length) :
    ∃ b off, A = some ⟨b, off, none⟩ ∧ ∀ k, k < l.length → RcAt wr b (off + k * 12) (rcAt l k) := by
  rcases hr with hr | ⟨b, off, rfl, hr⟩
  · have := (List.getElem?_eq_some_iff.1 (rec_cells l j h 0 (by omega))).1
    omega
  · refine ⟨b, off, rfl, fun k hk => ?_⟩
    rw [rcAt_get l k hk]
    have hc := fun j hj => rec_cells l k hk j hj
    constructor <;> first | exact hr _ _ (hc 0 (by omega)) | (rw [Nat.add_assoc]; first | exact hr _ _ (hc 1 (by omega)) | exact hr _ _ (hc 2 (by omega)) | exact hr _ _ (hc 3 (by omega)) | exact hr _ _ (hc 4 (by omega)) | exact hr _ _ (hc 5 (by omega)) | exact hr _ _ (hc 6 (by omega)) | exact hr _ _ (hc 7 (by omega)) | exact hr _ _ (hc 8 (by omega)) | exact hr _ _ (hc 9 (by omega)) | exact hr _ _ (hc 10 (by omega)) | exact hr _ _ (hc 11 (by omega)))
/-- What a record adds to the debits and to the credits. -/
def amtR (r : Rec) : Int := if r.a < 0 ∨ 999999999999 < r.a then 0 else r.a
def debR (r : Rec) : Int := if r.k = 1 ∨ r.k = 4 then amtR r else 0
def creR (r : Rec) : Int := if r.k = 2 ∨ r.k = 3 then amtR r else 0
def debS (l : List Rec) (k : Nat) : Int := (l.take k).foldl (fun s r => s + debR r) 0
def creS (l : List Rec) (k : Nat) : Int := (l.take k).foldl (fun s r => s + creR r) 0
theorem amt_bd (r : Rec) : 0 ≤ amtR r ∧ amtR r ≤ 999999999999 := by unfold amtR; split <;> omega
theorem deb_bd (r : Rec) : 0 ≤ debR r ∧ debR r ≤ 999999999999 := by have := amt_bd r; unfold debR; split <;> omega
theorem cre_bd (r : Rec) : 0 ≤ creR r ∧ creR r ≤ 999999999999 := by have := amt_bd r; unfold creR; split <;> omega
theorem debS_succ (l : List Rec) (k : Nat) (h : k < l.length) : debS l (k + 1) = debS l k + debR (rcAt l k) := by
  unfold debS; rw [List.take_succ_eq_append_getElem h, List.foldl_append, rcAt_get l k h]; rfl
theorem creS_succ (l : List Rec) (k : Nat) (h : k < l.length) : creS l (k + 1) = creS l k + creR (rcAt l k) := by
  unfold creS; rw [List.take_succ_eq_append_getElem h, List.foldl_append, rcAt_get l k h]; rfl
theorem debS_bd (l : List Rec) : ∀ k, k ≤ l.length → 0 ≤ debS l k ∧ debS l k ≤ 999999999999 * (k : Int)
  | 0, _ => ⟨Int.le_refl _, Int.le_refl _⟩
  | k + 1, h => by have := debS_bd l k (by omega); have := deb_bd (rcAt l k); rw [debS_succ l k (by omega)]; omega
theorem creS_bd (l : List Rec) : ∀ k, k ≤ l.length → 0 ≤ creS l k ∧ creS l k ≤ 999999999999 * (k : Int)
  | 0, _ => ⟨Int.le_refl _, Int.le_refl _⟩
  | k + 1, h => by have := creS_bd l k (by omega); have := cre_bd (rcAt l k); rw [creS_succ l k (by omega)]; omega
def cardsOf (l : List Rec) : List ByteArray := l.map fun r => r.ca
end Go.Proofs.YthflmdgfenojcaaGreatDoor
