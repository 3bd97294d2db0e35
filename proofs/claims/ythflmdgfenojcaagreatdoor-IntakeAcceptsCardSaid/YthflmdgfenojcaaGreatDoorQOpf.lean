/- Part of the proof over this seat. -/
import Derived.Test.YthflmdgfenojcaaGreatDoorQHo
import Derived.Test.YthflmdgfenojcaaGreatDoorQOSs
namespace Go.Proofs.YthflmdgfenojcaaGreatDoor
set_option linter.unusedVariables false
open Go.RowKit Go.ChangeShapes Go.WideShapes Go.Deep Go.Joins
theorem cells39 : Tryz.prog.cellsOf 39 = 2 := by kernel_rfl
theorem cells9 : Tryz.prog.cellsOf 9 = 1 := by kernel_rfl
theorem fl_read {H : Type} {enc : TypeId × Value → H} {W : World} (cs : List Value) (m : Nat) (y) (hl : cs.length = 2) (h : DataW.trod enc Tryz.prog W 0 (fun _ => true) true m 39 cs = some y) : ∃ x : Int × ByteArray, cs = fileT x ∧ x.2.size ≤ maxLen := by
  match cs, hl with
  | [c0, c1], _ =>
    obtain ⟨z0, z1, n, xz, _, g0, g1⟩ := trod_struct2 Tryz.underlying39 h
    have k3 : Tryz.prog.cellsOf 3 = 1 := by kernel_rfl
    obtain ⟨s0, e0, x0, w0⟩ := DataW.trod_int Tryz.underlying3 (show DataW.trod enc Tryz.prog W 0 (fun _ => true) true n 3 [c0] = some z0 by simpa [k3] using g0)
    obtain ⟨s1, e1, x1, w1⟩ := DataW.trod_string Tryz.underlying9 (show DataW.trod enc Tryz.prog W 0 (fun _ => true) true n 9 [c1] = some z1 by simpa [cells9] using g1)
    injection e0 with e0; injection e1 with e1
    subst e0 e1
    exact ⟨(s0, s1), rfl, w1⟩
theorem fls_open {H : Type} {enc : TypeId × Value → H} {W : World} {a : Option Addr} {len cap : Nat} {d : DataW H} {p : List MemPlace} (h : DataW.Trod enc Tryz.prog W 0 (fun _ => true) true 23 (.slice a len cap) d p) (hw : ∀ k ∈ d.weights Tryz.prog 23, k ≤ reachBytes) :
    ∃ l : List (Int × ByteArray), l.length = len ∧ IsRow W a (l.flatMap fileT) ∧ (∀ x ∈ l, x.2.size ≤ maxLen) ∧ len ≤ cap ∧ (a = none → cap = 0) ∧ cap ≤ maxLen :=
  slice_openW fileT (fun x => x.2.size ≤ maxLen) 2 Tryz.underlying23 cells39 (fun cs m y hl hy hk => fl_read cs m y hl hy) h hw
theorem st_read {H : Type} {enc : TypeId × Value → H} {W : World} (cs : List Value) (m : Nat) (y) (hl : cs.length = 1) (h : DataW.trod enc Tryz.prog W 0 (fun _ => true) true m 9 cs = some y) : ∃ x : ByteArray, cs = [Value.string x] ∧ x.size ≤ maxLen := by
  match cs, hl with
  | [c0], _ =>
    obtain ⟨s1, e1, x1, w1⟩ := DataW.trod_string Tryz.underlying9 h
    injection e1 with e1
    subst e1
    exact ⟨s1, rfl, w1⟩
theorem flat_one (l : List ByteArray) : (l.flatMap fun x => [Value.string x]) = l.map Value.string := by
  induction l with
  | nil => rfl
  | cons x l ih => rw [List.flatMap_cons, ih]; rfl
theorem txs_open {H : Type} {enc : TypeId × Value → H} {W : World} {a : Option Addr} {len cap : Nat} {d : DataW H} {p : List MemPlace} (h : DataW.Trod enc Tryz.prog W 0 (fun _ => true) true 22 (.slice a len cap) d p) (hw : ∀ k ∈ d.weights Tryz.prog 22, k ≤ reachBytes) :
    ∃ l : List ByteArray, l.length = len ∧ IsRow W a (l.map Value.string) ∧ (∀ x ∈ l, x.size ≤ maxLen) ∧ len ≤ cap ∧ (a = none → cap = 0) ∧ cap ≤ maxLen := by
  obtain ⟨l, h1, h2, h3⟩ := slice_openW (fun x => [Value.string x]) (fun x : ByteArray => x.size ≤ maxLen) 1 Tryz.underlying22 cells9 (fun cs m y hl hy hk => st_read cs m y hl hy) h hw
  rw [flat_one] at h2
  exact ⟨l, h1, h2, h3⟩
end Go.Proofs.YthflmdgfenojcaaGreatDoor
