/- The walks of Describe and Check, of the program and of the reference. -/
import Derived.Test.YtoiddojmlhknlaaDoorName
import Derived.Test.YtoiddojmlhknlaaDoorHash
import Derived.WalkLawsBesides
import Derived.WalkSpells
import Derived.BigQuiet
import Derived.Lib.Hide
import Derived.Lib.SmallJoins
namespace Go.Proofs.YtoiddojmlhknlaaDoor
set_option linter.unusedVariables false
open Go.RowKit

/-- An item: its kind, its size, its hash. -/
def itemOf (k : ByteArray) (n h : Nat) : Value := .agg #[.string k, .int .i64 n, .int .u64 h]
def zeroItem : Value := .agg #[.string ⟨#[]⟩, .int .i64 0, .int .u64 0]
def descE (k c : ByteArray) : Nat := if nameB k.data.toList = false then 5 else if c.size = 0 then 1 else if 4000 < c.size then 3 else 0
def descV (k c : ByteArray) : Value := if descE k c = 0 then itemOf k c.size (fnv H0 c.data.toList) else zeroItem
def DescPost (k c : ByteArray) (w : World) (e : Ending) (w' : World) : Prop := e = .returned (.tuple #[descV k c, .int .i64 (descE k c)]) ∧ Below w.heap.size w w'
set_option maxHeartbeats 1600000 in
theorem describe_any (k c : ByteArray) (w : World) (hk : k.size ≤ maxLen) (hc : c.size ≤ maxLen) : Calls Tryd.prog 22 #[.string k, .string c] w (DescPost k c w) := by
  have hn := Lib.hid (fun w => name_any k w hk)
  have hh := Lib.hid (fun w => hash_any c w hc)
  unfold maxLen at hk hc
  go_enter Tryd.func22, Tryd.ntmps22
  go_wp2_with fail
  refine (hn.out _).mono ?_
  rintro e w1 ⟨rfl, hb⟩
  have hlt : w.heap.size < w1.heap.size := Nat.lt_of_lt_of_le (by simp) hb.size
  have hcell : w1.heap[w.heap.size]? = some (Obj.cells #[.string ⟨#[]⟩, .int .i64 0, .int .u64 0] 35) := by
    rw [hb.block _ (by simp)]; exact (MapKept.heap_alloc w _).1
  have c0 : w1.cell? ⟨w.heap.size, 0, none⟩ = some (.string ⟨#[]⟩) := by simp [World.cell?, hcell]
  have c1 : w1.cell? ⟨w.heap.size, 1, none⟩ = some (.int .i64 0) := by simp [World.cell?, hcell]
  have c2 : w1.cell? ⟨w.heap.size, 2, none⟩ = some (.int .u64 0) := by simp [World.cell?, hcell]
  have f0 : w1.frozen? ⟨w.heap.size, 0, none⟩ = false := by simp [World.frozen?, hcell]
  have f1 : w1.frozen? ⟨w.heap.size, 1, none⟩ = false := by simp [World.frozen?, hcell]
  have f2 : w1.frozen? ⟨w.heap.size, 2, none⟩ = false := by simp [World.frozen?, hcell]
  have hb' : Hid (Below w.heap.size w w1) := Lib.hid ((Joins.below_alloc1 w _).trans (hb.mono (by simp)))
  clear hb
  cases hnb : nameB k.data.toList
  · have hnb' := Lib.hid hnb
    clear hnb
    go_wp2_with fail
    refine bodyPost_ret (v := .tuple #[zeroItem, .int .i64 5]) ?_ rfl ?_
    · have hres : Tryd.f22.results = #[.cell 4 35, .tmp 5] := by kernel_rfl
      simp only [results, hres]
      go_simp
      rfl
    · have he : descE k c = 5 := by simp [descE, hnb'.out]
      exact ⟨by simp [descV, he], ((hb'.out.setCell (p := ⟨w.heap.size, 0, none⟩) (Nat.le_refl _) _).setCell (p := ⟨w.heap.size, 1, none⟩) (Nat.le_refl _) _).setCell (p := ⟨w.heap.size, 2, none⟩) (Nat.le_refl _) _⟩
  · have hnb' := Lib.hid hnb
    clear hnb
    by_cases hc0 : c.size = 0
    · obtain rfl : c = ⟨#[]⟩ := ByteArray.ext (Array.eq_empty_of_size_eq_zero (by show c.size = 0; omega))
      clear hc0
      go_wp2_with fail
      refine bodyPost_ret (v := .tuple #[zeroItem, .int .i64 1]) ?_ rfl ?_
      · have hres : Tryd.f22.results = #[.cell 4 35, .tmp 5] := by kernel_rfl
        simp only [results, hres]
        go_simp
        rfl
      · have he : descE k ⟨#[]⟩ = 1 := by simp [descE, hnb'.out]; exact fun h => absurd rfl h
        exact ⟨by simp [descV, he], ((hb'.out.setCell (p := ⟨w.heap.size, 0, none⟩) (Nat.le_refl _) _).setCell (p := ⟨w.heap.size, 1, none⟩) (Nat.le_refl _) _).setCell (p := ⟨w.heap.size, 2, none⟩) (Nat.le_refl _) _⟩
    · have hne : (c.toList == []) = false := by
        rw [ByteArray.toList_eq, beq_eq_false_iff_ne]
        intro e
        have e1 : c.data.toList.length = 0 := by rw [e]; rfl
        have e2 : c.data.toList.length = c.size := by simp
        omega
      have hne2 : c.toList.isEmpty = false := by simpa using hne
      have hne3 : c.toList ≠ [] := by simpa using hne
      by_cases h4 : 4000 < c.size
      · go_wp2_with fail
        refine bodyPost_ret (v := .tuple #[zeroItem, .int .i64 3]) ?_ rfl ?_
        · have hres : Tryd.f22.results = #[.cell 4 35, .tmp 5] := by kernel_rfl
          simp only [results, hres]
          go_simp
          rfl
        · have he : descE k c = 3 := by simp [descE, hnb'.out, hc0, h4]
          exact ⟨by simp [descV, he], ((hb'.out.setCell (p := ⟨w.heap.size, 0, none⟩) (Nat.le_refl _) _).setCell (p := ⟨w.heap.size, 1, none⟩) (Nat.le_refl _) _).setCell (p := ⟨w.heap.size, 2, none⟩) (Nat.le_refl _) _⟩
      · go_wp2_with fail
        refine (hh.out _).mono ?_
        rintro e w2 ⟨rfl, rfl⟩
        go_wp2_with fail
        refine bodyPost_ret (v := .tuple #[itemOf k c.size (fnv H0 c.data.toList), .int .i64 0]) ?_ rfl ?_
        · have hres : Tryd.f22.results = #[.cell 4 35, .tmp 5] := by kernel_rfl
          simp only [results, hres]
          go_simp
          rfl
        · have he : descE k c = 0 := by simp [descE, hnb'.out, hc0, h4]
          exact ⟨by simp [descV, he], ((hb'.out.setCell (p := ⟨w.heap.size, 0, none⟩) (Nat.le_refl _) _).setCell (p := ⟨w.heap.size, 1, none⟩) (Nat.le_refl _) _).setCell (p := ⟨w.heap.size, 2, none⟩) (Nat.le_refl _) _⟩
theorem rname_below (s : ByteArray) (w : World) (hs : s.size ≤ maxLen) : Calls Tryd.prog 36 #[.string s] w fun e w' => e = .returned (.bool (nameB s.data.toList)) ∧ Below w.heap.size w w' := by
  refine (rname_any s w hs).mono ?_
  rintro e w' ⟨rfl, rfl⟩
  exact ⟨rfl, Below.refl _ _⟩
set_option maxHeartbeats 1600000 in
theorem rdescribe_any (k c : ByteArray) (w : World) (hk : k.size ≤ maxLen) (hc : c.size ≤ maxLen) : Calls Tryd.prog 33 #[.string k, .string c] w (DescPost k c w) := by
  have hn := Lib.hid (fun w => rname_below k w hk)
  have hh := Lib.hid (fun w => rhash_any c w hc)
  unfold maxLen at hk hc
  go_enter Tryd.func33, Tryd.ntmps33
  go_wp2_with fail
  refine (hn.out _).mono ?_
  rintro e w1 ⟨rfl, hb⟩
  have hlt : w.heap.size < w1.heap.size := Nat.lt_of_lt_of_le (by simp) hb.size
  have hcell : w1.heap[w.heap.size]? = some (Obj.cells #[.string ⟨#[]⟩, .int .i64 0, .int .u64 0] 35) := by
    rw [hb.block _ (by simp)]; exact (MapKept.heap_alloc w _).1
  have c0 : w1.cell? ⟨w.heap.size, 0, none⟩ = some (.string ⟨#[]⟩) := by simp [World.cell?, hcell]
  have c1 : w1.cell? ⟨w.heap.size, 1, none⟩ = some (.int .i64 0) := by simp [World.cell?, hcell]
  have c2 : w1.cell? ⟨w.heap.size, 2, none⟩ = some (.int .u64 0) := by simp [World.cell?, hcell]
  have f0 : w1.frozen? ⟨w.heap.size, 0, none⟩ = false := by simp [World.frozen?, hcell]
  have f1 : w1.frozen? ⟨w.heap.size, 1, none⟩ = false := by simp [World.frozen?, hcell]
  have f2 : w1.frozen? ⟨w.heap.size, 2, none⟩ = false := by simp [World.frozen?, hcell]
  have hb' : Hid (Below w.heap.size w w1) := Lib.hid ((Joins.below_alloc1 w _).trans (hb.mono (by simp)))
  clear hb
  cases hnb : nameB k.data.toList
  · have hnb' := Lib.hid hnb
    clear hnb
    go_wp2_with fail
    refine bodyPost_ret (v := .tuple #[zeroItem, .int .i64 5]) ?_ rfl ?_
    · have hres : Tryd.f33.results = #[.cell 4 35, .tmp 5] := by kernel_rfl
      simp only [results, hres]
      go_simp
      rfl
    · have he : descE k c = 5 := by simp [descE, hnb'.out]
      exact ⟨by simp [descV, he], ((hb'.out.setCell (p := ⟨w.heap.size, 0, none⟩) (Nat.le_refl _) _).setCell (p := ⟨w.heap.size, 1, none⟩) (Nat.le_refl _) _).setCell (p := ⟨w.heap.size, 2, none⟩) (Nat.le_refl _) _⟩
  · have hnb' := Lib.hid hnb
    clear hnb
    by_cases hc0 : c.size = 0
    · obtain rfl : c = ⟨#[]⟩ := ByteArray.ext (Array.eq_empty_of_size_eq_zero (by show c.size = 0; omega))
      clear hc0
      go_wp2_with fail
      refine bodyPost_ret (v := .tuple #[zeroItem, .int .i64 1]) ?_ rfl ?_
      · have hres : Tryd.f33.results = #[.cell 4 35, .tmp 5] := by kernel_rfl
        simp only [results, hres]
        go_simp
        rfl
      · have he : descE k ⟨#[]⟩ = 1 := by simp [descE, hnb'.out]; exact fun h => absurd rfl h
        exact ⟨by simp [descV, he], ((hb'.out.setCell (p := ⟨w.heap.size, 0, none⟩) (Nat.le_refl _) _).setCell (p := ⟨w.heap.size, 1, none⟩) (Nat.le_refl _) _).setCell (p := ⟨w.heap.size, 2, none⟩) (Nat.le_refl _) _⟩
    · have hne : (c.toList == []) = false := by
        rw [ByteArray.toList_eq, beq_eq_false_iff_ne]
        intro e
        have e1 : c.data.toList.length = 0 := by rw [e]; rfl
        have e2 : c.data.toList.length = c.size := by simp
        omega
      have hne2 : c.toList.isEmpty = false := by simpa using hne
      have hne3 : c.toList ≠ [] := by simpa using hne
      by_cases h4 : 4000 < c.size
      · go_wp2_with fail
        refine bodyPost_ret (v := .tuple #[zeroItem, .int .i64 3]) ?_ rfl ?_
        · have hres : Tryd.f33.results = #[.cell 4 35, .tmp 5] := by kernel_rfl
          simp only [results, hres]
          go_simp
          rfl
        · have he : descE k c = 3 := by simp [descE, hnb'.out, hc0, h4]
          exact ⟨by simp [descV, he], ((hb'.out.setCell (p := ⟨w.heap.size, 0, none⟩) (Nat.le_refl _) _).setCell (p := ⟨w.heap.size, 1, none⟩) (Nat.le_refl _) _).setCell (p := ⟨w.heap.size, 2, none⟩) (Nat.le_refl _) _⟩
      · go_wp2_with fail
        refine (hh.out _).mono ?_
        rintro e w2 ⟨rfl, rfl⟩
        go_wp2_with fail
        refine bodyPost_ret (v := .tuple #[itemOf k c.size (fnv H0 c.data.toList), .int .i64 0]) ?_ rfl ?_
        · have hres : Tryd.f33.results = #[.cell 4 35, .tmp 5] := by kernel_rfl
          simp only [results, hres]
          go_simp
          rfl
        · have he : descE k c = 0 := by simp [descE, hnb'.out, hc0, h4]
          exact ⟨by simp [descV, he], ((hb'.out.setCell (p := ⟨w.heap.size, 0, none⟩) (Nat.le_refl _) _).setCell (p := ⟨w.heap.size, 1, none⟩) (Nat.le_refl _) _).setCell (p := ⟨w.heap.size, 2, none⟩) (Nat.le_refl _) _⟩
end Go.Proofs.YtoiddojmlhknlaaDoor
