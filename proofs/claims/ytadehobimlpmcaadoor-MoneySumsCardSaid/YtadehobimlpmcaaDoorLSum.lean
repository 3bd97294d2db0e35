/- The walk of MoneySums. -/
import Derived.Test.YtadehobimlpmcaaDoorSum
import Derived.Test.YtadehobimlpmcaaDoorAwk
namespace Go.Proofs.YtadehobimlpmcaaDoor
set_option linter.unusedVariables false
open Go.RowKit

theorem sumV_agg (cur : ByteArray) (l : List Mny) : ∃ n s, sumV cur l = .agg #[.int .i64 n, .string s] := by
  unfold sumV
  split
  · exact ⟨_, _, rfl⟩
  · exact ⟨_, _, rfl⟩
set_option maxRecDepth 100000 in
set_option maxHeartbeats 12800000 in
theorem moneySums_walk (w : World) (hw : KW w) (_ : True) (cur : ByteArray) (hcur : cur.size ≤ maxLen) (A : Option Addr) (c : Nat) (l : List Mny)
    (hl : IsRow w A (l.flatMap Mny.cells) ∧ (∀ x ∈ l, (Lit.int .i64 x.a).wf = true ∧ x.s.size ≤ maxLen) ∧ l.length ≤ c ∧ (A = none → c = 0) ∧ c ≤ maxLen) :
    Calls Tryd.prog 9 #[.string cur, .slice A l.length c] w fun e w' => e = .returned (.bool true) ∧ Below w.heap.size w w' := by
  obtain ⟨hrow, hok, hlc, -, hcl⟩ := hl
  have HI := Lib.hid (fun W hW => awake_any W hW)
  have HW := Lib.hid hw
  unfold maxLen at hcl
  by_cases hbig : 100 < l.length
  · have hbig' : (100 : Int) < (l.length : Int) := by omega
    clear hrow hok hcur hw hbig
    go_enter Tryd.func9, Tryd.ntmps9
    go_wp2_with fail
    refine (HI.out _ HW.out).mono ?_
    rintro e w1 ⟨rfl, hb⟩
    have HB := Lib.hid hb
    clear hb
    go_wp2_with fail
    go_ret
    exact ⟨rfl, HB.out⟩
  · have hbig' : ¬ (100 : Int) < (l.length : Int) := by omega
    have hok' : ∀ x ∈ l, x.s.size ≤ maxLen := fun x hx => (hok x hx).2
    have HR := Lib.hid hrow
    have hA := fun W (h : IsRow W A (l.flatMap Mny.cells)) => sum_any cur A c l W h hok' (by omega) hcur
    have hB := fun W (h : IsRow W A (l.flatMap Mny.cells)) => rsum_any cur A c l W h hok' (by omega) hcur
    unfold SumPost at hA hB
    obtain ⟨n, s, hv⟩ := sumV_agg cur l
    rw [hv] at hA hB
    generalize sumER cur l = E at *
    have HA := Lib.hid hA
    have HB := Lib.hid hB
    have q1 := fun W => eq_same n s W
    clear hrow hok hok' hA hB hv hcur hw hbig
    go_enter Tryd.func9, Tryd.ntmps9
    go_wp2_with fail
    refine (HA.out _ HR.out).mono ?_
    rintro e w1 ⟨rfl, hb⟩
    have B1 := Lib.hid hb
    clear hb
    go_wp2_with fail
    refine (HB.out _ (HR.out.below (B1.out.alloc B1.out.size _))).mono ?_
    rintro e w2 ⟨rfl, hb⟩
    obtain ⟨k, z1, hb1⟩ := box1 hb
    have B2 := Lib.hid (B1.out.trans (hb1.mono B1.out.size))
    have K1 := Lib.hid k
    have a0 := cell_c K1.out 0
    have a1 := cell_c K1.out 1
    clear hb hb1 k
    go_wp2_with fail
    refine (HI.out _ (HW.out.below (B2.out.alloc B2.out.size _))).mono ?_
    rintro e w3 ⟨rfl, hb⟩
    have B3 := Lib.hid (B2.out.trans ((box1 hb).2.2.mono B2.out.size))
    clear hb a0 a1
    go_wp2_with fail
    go_ret
    exact ⟨rfl, B3.out⟩
end Go.Proofs.YtadehobimlpmcaaDoor
