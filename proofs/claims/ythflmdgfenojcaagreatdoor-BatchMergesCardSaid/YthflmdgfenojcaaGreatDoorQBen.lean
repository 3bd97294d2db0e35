/- Part of the proof over this seat. -/
import Derived.Lib.OthersKept
import Derived.Lib.ItoaLen
import Derived.Deep.RegionHeld3
import Derived.Outline
import Derived.Test.YthflmdgfenojcaaGreatDoorQBck
import Derived.Test.YthflmdgfenojcaaGreatDoorQShelf
import Derived.Test.YthflmdgfenojcaaGreatDoorQBd
import Derived.Test.YthflmdgfenojcaaGreatDoorQCr
import Derived.Test.YthflmdgfenojcaaGreatDoorQPr
import Derived.Test.YthflmdgfenojcaaGreatDoorQEnc
namespace Go.Proofs.YthflmdgfenojcaaGreatDoor
set_option linter.unusedVariables false
open Go.RowKit Go.Maps
def BW (w : World) : Prop := KW w ∧ TzW w
theorem BW.below {w w' : World} (h : BW w) (hb : Below w.heap.size w w') : BW w' := ⟨h.1.below hb, h.2.below hb⟩
theorem ito_size {v : Int} (h0 : -9223372036854775808 ≤ v) (h1 : v ≤ 9223372036854775807) : (itoS v).data.toList.length ≤ 21 := Lib.itoa_length_le v h0 h1
theorem finS_size (f : Bool) : (finS f).data.toList.length ≤ 1 := by cases f <;> decide
def szR (r : Rec) : Nat := r.id.size + r.au.size + r.aq.size + r.iss.size + r.me.size + r.ca.size + r.cu.size
theorem encS_size' {r : Rec} (h : chkE r = 0) : (encS r).size ≤ szR r + 100 := by
  obtain ⟨i1, i2, i3, i4, i5, i6, i7, i8⟩ := Fit.ints r h
  have h1 := ito_size (v := r.k) (by omega) (by omega)
  have h2 := ito_size (v := r.a) (by omega) (by omega)
  have h3 := ito_size (v := r.d) (by omega) (by omega)
  have h4 := ito_size (v := r.c) (by omega) (by omega)
  have h5 := finS_size r.f
  show (Lib.join (r.texts.map (·.data.toList)) [124]).toArray.size ≤ szR r + 100
  rw [List.size_toArray]
  unfold Rec.texts szR
  rw [List.map_cons, Lib.join_length]
  simp [Lib.lens] at *
  omega
theorem hcs2 (x y : ByteArray) : ∀ i, i < [x, y].length → (#[Value.string x, .string y])[i]? = some (.string (strAt [x, y] i)) := fun i hi => by
  match i, hi with
  | 0, _ => rfl
  | 1, _ => rfl
theorem hsz2 {x y : ByteArray} {M : Nat} (hx : x.size ≤ M) (hy : y.size ≤ M) : ∀ i, i < [x, y].length → (strAt [x, y] i).size ≤ M := fun i hi => by
  match i, hi with
  | 0, _ => exact hx
  | 1, _ => exact hy
theorem hcs4 (x y z u : ByteArray) : ∀ i, i < [x, y, z, u].length → (#[Value.string x, .string y, .string z, .string u])[i]? = some (.string (strAt [x, y, z, u] i)) := fun i hi => by
  match i, hi with
  | 0, _ => rfl
  | 1, _ => rfl
  | 2, _ => rfl
  | 3, _ => rfl
theorem hsz4 {x y z u : ByteArray} {M : Nat} (hx : x.size ≤ M) (hy : y.size ≤ M) (hz : z.size ≤ M) (hu : u.size ≤ M) : ∀ i, i < [x, y, z, u].length → (strAt [x, y, z, u] i).size ≤ M := fun i hi => by
  match i, hi with
  | 0, _ => exact hx
  | 1, _ => exact hy
  | 2, _ => exact hz
  | 3, _ => exact hu
theorem hcs5 (x y z u v : ByteArray) : ∀ i, i < [x, y, z, u, v].length → (#[Value.string x, .string y, .string z, .string u, .string v])[i]? = some (.string (strAt [x, y, z, u, v] i)) := fun i hi => by
  match i, hi with
  | 0, _ => rfl
  | 1, _ => rfl
  | 2, _ => rfl
  | 3, _ => rfl
  | 4, _ => rfl
theorem hsz5 {x y z u v : ByteArray} {M : Nat} (hx : x.size ≤ M) (hy : y.size ≤ M) (hz : z.size ≤ M) (hu : u.size ≤ M) (hv : v.size ≤ M) : ∀ i, i < [x, y, z, u, v].length → (strAt [x, y, z, u, v] i).size ≤ M := fun i hi => by
  match i, hi with
  | 0, _ => exact hx
  | 1, _ => exact hy
  | 2, _ => exact hz
  | 3, _ => exact hu
  | 4, _ => exact hv
theorem bodyK_len {b : Bat} (hi : b.id.size ≤ 1000000) (hs : b.sd.size ≤ 1000000) (hd : -9223372036854775808 ≤ b.dt ∧ b.dt ≤ 9223372036854775807) (hr : ∀ j, j < b.rs.length → (encS (rcAt b.rs j)).size ≤ 1000000) : ∀ k, k ≤ b.rs.length → (bodyK b k).length ≤ 4000005 * (k + 1)
  | 0, _ => by
    unfold bodyK hdrL
    have := lineL_len [⟨#[72]⟩, b.id, b.sd, itoS b.dt] 1000000 (hsz4 (by decide) hi hs (Nat.le_trans (itoS_size _ hd) (by omega)))
    simp only [List.take_zero, List.flatMap_nil, List.append_nil]
    exact Nat.le_trans this (by simp)
  | k + 1, h => by
    have ih := bodyK_len hi hs hd hr k (by omega)
    rw [bodyK_succ b k (by omega), List.length_append]
    have := lineL_len [⟨#[82]⟩, encS (rcAt b.rs k)] 1000000 (hsz2 (by decide) (hr k (by omega)))
    unfold recL'
    have e : ([⟨#[82]⟩, encS (rcAt b.rs k)] : List ByteArray).length = 2 := rfl
    rw [e] at this
    omega
section
variable {b : Bat} {A : Option Addr} {cp B : Nat} {l m : List UInt8} {w W W' X : World}
variable {TB : Nat} {x0 x1 x2 x3 : Int}
end
def BenPost (b : Bat) (w : World) (e : Ending) (w' : World) : Prop := e = .returned (.tuple #[.string (encB b), .int .i64 (chkB b)]) ∧ Below w.heap.size w w'
end Go.Proofs.YthflmdgfenojcaaGreatDoor
