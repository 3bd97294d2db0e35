/- The walk of the reference's Check: one theorem for each kind of list. No bad price. -/
import Derived.Test.YtfhiepcjkocnlaaChk
namespace Go.Proofs.Ytfhiepcjkocnlaa
set_option linter.unusedVariables false
open Go.RowKit

set_option maxHeartbeats 12800000 in
/-- The first tier does not begin at 1. -/
theorem rchk_first (A : Option Addr) (c : Nat) (l : List Tr) (w : World) (hr : IsRow w A (cellsT l)) (hz : l.length ≠ 0) (h64 : ¬ 64 < l.length) (i : Nat) (hi : i < l.length) (hall : ∀ j, j < i → goodT l j) (h0 : i = 0) (hf : (l.getD 0 default).f ≠ 1) :
    Calls Try.prog 17 #[.slice A l.length c] w fun e w' => e = .returned (.int .i64 (chkE l)) ∧ Below w.heap.size w w' := by
  have hzb : ((l.length : Int) == 0) = false := beq_eq_false_iff_ne.2 (by omega)
  have hl : l.length ≤ 64 := by omega
  rcases hr with h0 | ⟨b, off, rfl, hc⟩
  · rw [cellsT_length] at h0; omega
  have HC := Lib.hid hc
  have HA := Lib.hid hall
  have he := Lib.hid (chkE_no hz h64 i hi (fun hg => hf (h0 ▸ hg.1 h0)))
  have hi' : i ≤ l.length := by omega
  clear hz hc hall
  go_enter Try.func17, Try.ntmps17
  go_wp2_with fail
  clear hzb
  go_loopw [3] (fun x wr => ∃ k m : Nat, k ≤ i ∧ x = .int .i64 k ∧ wr = w.drewN m) (fun x _ => l.length - (intOf x).toNat)
  case atStart => exact ⟨0, 0, Nat.zero_le _, rfl, rfl⟩
  case round =>
    obtain ⟨k, m, hk, rfl, rfl⟩ := hrel
    by_cases hlt : k < i
    · omega
    · obtain rfl : k = i := by omega
      obtain ⟨c0, c1⟩ := row_tier HC.out k hi
      rw [← getD_at l k hi] at c0 c1
      obtain ⟨fk, hfk⟩ : ∃ fk, (l.getD k default).f = fk := ⟨_, rfl⟩
      obtain ⟨pk, hpk⟩ : ∃ pk, (l.getD k default).p = pk := ⟨_, rfl⟩
      rw [hfk] at c0
      rw [hpk] at c1
      have f1 : (fk != 1) = true := bne_iff_ne.2 (by rw [← hfk, h0]; exact hf)
      have k0 : ((k : Int) == 0) = true := beq_iff_eq.2 (by omega)
      rw [h0, Nat.zero_mul, Nat.add_zero] at c0 c1
      clear hfk hpk hf
      go_wp2_with fail
      go_big_quiet (fail)
      go_wp2_with fail
      go_ret
      exact ⟨by rw [he.out]; rfl, dNb (below_drewN w m) _⟩

set_option maxHeartbeats 12800000 in
/-- All tiers are right. -/
theorem rchk_ok (A : Option Addr) (c : Nat) (l : List Tr) (w : World) (hr : IsRow w A (cellsT l)) (hz : l.length ≠ 0) (h64 : ¬ 64 < l.length) (i : Nat) (hi : i = l.length) (hall : ∀ j, j < i → goodT l j) :
    Calls Try.prog 17 #[.slice A l.length c] w fun e w' => e = .returned (.int .i64 (chkE l)) ∧ Below w.heap.size w w' := by
  have hzb : ((l.length : Int) == 0) = false := beq_eq_false_iff_ne.2 (by omega)
  have hl : l.length ≤ 64 := by omega
  rcases hr with h0 | ⟨b, off, rfl, hc⟩
  · rw [cellsT_length] at h0; omega
  have HC := Lib.hid hc
  have HA := Lib.hid hall
  have he := Lib.hid (chkE_ok hz h64 (fun j hj => hall j (by omega)))
  have hi' : i ≤ l.length := by omega
  clear hz hc hall
  go_enter Try.func17, Try.ntmps17
  go_wp2_with fail
  clear hzb
  go_loopw [3] (fun x wr => ∃ k m : Nat, k ≤ i ∧ x = .int .i64 k ∧ wr = w.drewN m) (fun x _ => l.length - (intOf x).toNat)
  case atStart => exact ⟨0, 0, Nat.zero_le _, rfl, rfl⟩
  case round =>
    obtain ⟨k, m, hk, rfl, rfl⟩ := hrel
    by_cases hlt : k < i
    · have hkl : k < l.length := by omega
      obtain ⟨c0, c1⟩ := row_tier HC.out k hkl
      have hcp := (row_tier HC.out (k - 1) (by omega)).1
      rw [← getD_at l k hkl] at c0 c1
      rw [← getD_at l (k - 1) (by omega)] at hcp
      have hgd := HA.out k hlt
      obtain ⟨g1, g2, g3, g4⟩ := hgd
      rcases Nat.eq_zero_or_pos k with hk0 | hk0
      · have q2 := g1 hk0
        obtain ⟨fk, hfk⟩ : ∃ fk, (l.getD k default).f = fk := ⟨_, rfl⟩
        obtain ⟨pk, hpk⟩ : ∃ pk, (l.getD k default).p = pk := ⟨_, rfl⟩
        rw [hfk] at c0
        rw [hpk] at c1 g3 g4
        have f1 : (fk != 1) = false := by simp only [bne_eq_false_iff_eq]; rw [← hfk, hk0]; exact q2
        have k0 : ((k : Int) == 0) = true := beq_iff_eq.2 (by omega)
        have kn : ¬ (0 < (k : Int)) := by omega
        rw [hk0, Nat.zero_mul, Nat.add_zero] at c0 c1
        have d1 : decide (pk < 0) = false := decide_eq_false (by omega)
        have d2 : decide (1000000000 < pk) = false := decide_eq_false (by omega)
        clear g1 g2 hcp q2 hfk hpk
        go_wp2_with fail
        go_big_quiet (fail)
        go_wp2_with fail
        go_roundw
        case rel => exact ⟨k + 1, _, by omega, by go_num, rfl⟩
        case measure => simp [intOf]; omega
      · have q2 := g2 hk0
        clear g1 g2
        obtain ⟨fk, hfk⟩ : ∃ fk, (l.getD k default).f = fk := ⟨_, rfl⟩
        obtain ⟨pk, hpk⟩ : ∃ pk, (l.getD k default).p = pk := ⟨_, rfl⟩
        obtain ⟨fp, hfp⟩ : ∃ fp, (l.getD (k - 1) default).f = fp := ⟨_, rfl⟩
        rw [hfk] at c0 q2
        rw [hpk] at c1 g3 g4
        rw [hfp] at hcp q2
        clear hfk hpk hfp
        have k0 : ((k : Int) == 0) = false := beq_eq_false_iff_ne.2 (by omega)
        have kp : decide (0 < (k : Int)) = true := decide_eq_true (by omega)
        have d0 : decide (fk ≤ fp) = false := decide_eq_false (by omega)
        have d1 : decide (pk < 0) = false := decide_eq_false (by omega)
        have d2 : decide (1000000000 < pk) = false := decide_eq_false (by omega)
        go_wp2_with fail
        go_big_quiet (fail)
        go_wp2_with fail
        go_roundw
        case rel => exact ⟨k + 1, _, by omega, by go_num, rfl⟩
        case measure => simp [intOf]; omega
    · obtain rfl : k = i := by omega
      subst hi
      go_wp2_with fail
      go_ret
      exact ⟨by rw [he.out]; rfl, below_drewN w m⟩

set_option maxHeartbeats 12800000 in
/-- A tier does not begin behind the one ahead of it. -/
theorem rchk_order (A : Option Addr) (c : Nat) (l : List Tr) (w : World) (hr : IsRow w A (cellsT l)) (hz : l.length ≠ 0) (h64 : ¬ 64 < l.length) (i : Nat) (hi : i < l.length) (hall : ∀ j, j < i → goodT l j) (hp : 0 < i) (hf : (l.getD i default).f ≤ (l.getD (i - 1) default).f) :
    Calls Try.prog 17 #[.slice A l.length c] w fun e w' => e = .returned (.int .i64 (chkE l)) ∧ Below w.heap.size w w' := by
  have hzb : ((l.length : Int) == 0) = false := beq_eq_false_iff_ne.2 (by omega)
  have hl : l.length ≤ 64 := by omega
  rcases hr with h0 | ⟨b, off, rfl, hc⟩
  · rw [cellsT_length] at h0; omega
  have HC := Lib.hid hc
  have HA := Lib.hid hall
  have he := Lib.hid (chkE_no hz h64 i hi (fun hg => by have := hg.2.1 hp; omega))
  have hi' : i ≤ l.length := by omega
  clear hz hc hall
  go_enter Try.func17, Try.ntmps17
  go_wp2_with fail
  clear hzb
  go_loopw [3] (fun x wr => ∃ k m : Nat, k ≤ i ∧ x = .int .i64 k ∧ wr = w.drewN m) (fun x _ => l.length - (intOf x).toNat)
  case atStart => exact ⟨0, 0, Nat.zero_le _, rfl, rfl⟩
  case round =>
    obtain ⟨k, m, hk, rfl, rfl⟩ := hrel
    by_cases hlt : k < i
    · have hkl : k < l.length := by omega
      obtain ⟨c0, c1⟩ := row_tier HC.out k hkl
      have hcp := (row_tier HC.out (k - 1) (by omega)).1
      rw [← getD_at l k hkl] at c0 c1
      rw [← getD_at l (k - 1) (by omega)] at hcp
      have hgd := HA.out k hlt
      obtain ⟨g1, g2, g3, g4⟩ := hgd
      rcases Nat.eq_zero_or_pos k with hk0 | hk0
      · have q2 := g1 hk0
        obtain ⟨fk, hfk⟩ : ∃ fk, (l.getD k default).f = fk := ⟨_, rfl⟩
        obtain ⟨pk, hpk⟩ : ∃ pk, (l.getD k default).p = pk := ⟨_, rfl⟩
        rw [hfk] at c0
        rw [hpk] at c1 g3 g4
        have f1 : (fk != 1) = false := by simp only [bne_eq_false_iff_eq]; rw [← hfk, hk0]; exact q2
        have k0 : ((k : Int) == 0) = true := beq_iff_eq.2 (by omega)
        have kn : ¬ (0 < (k : Int)) := by omega
        rw [hk0, Nat.zero_mul, Nat.add_zero] at c0 c1
        have d1 : decide (pk < 0) = false := decide_eq_false (by omega)
        have d2 : decide (1000000000 < pk) = false := decide_eq_false (by omega)
        clear g1 g2 hcp q2 hfk hpk
        go_wp2_with fail
        go_big_quiet (fail)
        go_wp2_with fail
        go_roundw
        case rel => exact ⟨k + 1, _, by omega, by go_num, rfl⟩
        case measure => simp [intOf]; omega
      · have q2 := g2 hk0
        clear g1 g2
        obtain ⟨fk, hfk⟩ : ∃ fk, (l.getD k default).f = fk := ⟨_, rfl⟩
        obtain ⟨pk, hpk⟩ : ∃ pk, (l.getD k default).p = pk := ⟨_, rfl⟩
        obtain ⟨fp, hfp⟩ : ∃ fp, (l.getD (k - 1) default).f = fp := ⟨_, rfl⟩
        rw [hfk] at c0 q2
        rw [hpk] at c1 g3 g4
        rw [hfp] at hcp q2
        clear hfk hpk hfp
        have k0 : ((k : Int) == 0) = false := beq_eq_false_iff_ne.2 (by omega)
        have kp : decide (0 < (k : Int)) = true := decide_eq_true (by omega)
        have d0 : decide (fk ≤ fp) = false := decide_eq_false (by omega)
        have d1 : decide (pk < 0) = false := decide_eq_false (by omega)
        have d2 : decide (1000000000 < pk) = false := decide_eq_false (by omega)
        go_wp2_with fail
        go_big_quiet (fail)
        go_wp2_with fail
        go_roundw
        case rel => exact ⟨k + 1, _, by omega, by go_num, rfl⟩
        case measure => simp [intOf]; omega
    · obtain rfl : k = i := by omega
      obtain ⟨c0, c1⟩ := row_tier HC.out k hi
      rw [← getD_at l k hi] at c0 c1
      have hcp := (row_tier HC.out (k - 1) (by omega)).1
      rw [← getD_at l (k - 1) (by omega)] at hcp
      obtain ⟨fk, hfk⟩ : ∃ fk, (l.getD k default).f = fk := ⟨_, rfl⟩
      obtain ⟨pk, hpk⟩ : ∃ pk, (l.getD k default).p = pk := ⟨_, rfl⟩
      obtain ⟨fp, hfp⟩ : ∃ fp, (l.getD (k - 1) default).f = fp := ⟨_, rfl⟩
      rw [hfk] at c0 hf
      rw [hpk] at c1
      rw [hfp] at hcp hf
      clear hfk hpk hfp
      have k0 : ((k : Int) == 0) = false := beq_eq_false_iff_ne.2 (by omega)
      have kp : decide (0 < (k : Int)) = true := decide_eq_true (by omega)
      have d0 : decide (fk ≤ fp) = true := decide_eq_true (by omega)
      go_wp2_with fail
      go_big_quiet (fail)
      go_wp2_with fail
      go_ret
      exact ⟨by rw [he.out]; rfl, dNb (below_drewN w m) _⟩

end Go.Proofs.Ytfhiepcjkocnlaa
