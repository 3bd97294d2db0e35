/- The walk of the reference's Divide. -/
import Derived.Test.YtadehobimlpmcaaDoorMon
namespace Go.Proofs.YtadehobimlpmcaaDoor
set_option linter.unusedVariables false
open Go.RowKit

theorem dv_split (a m d b : Nat) : a * (2 * m + b) = (2 * (a * m % d) + b * a) + d * (2 * (a * m / d)) := by
  have h := Nat.div_add_mod (a * m) d
  have e1 : a * (2 * m + b) = 2 * (a * m) + b * a := by rw [Nat.mul_add, Nat.mul_comm a b, ← Nat.mul_assoc, Nat.mul_comm a 2, Nat.mul_assoc]
  have e2 : d * (2 * (a * m / d)) = 2 * (d * (a * m / d)) := by rw [← Nat.mul_assoc, Nat.mul_comm d 2, Nat.mul_assoc]
  rw [e1, e2]
  generalize a * m = x at *
  generalize d * (x / d) = y at *
  omega
theorem dv_q (a m d b : Nat) (hd : 0 < d) : a * (2 * m + b) / d = 2 * (a * m / d) + (2 * (a * m % d) + b * a) / d := by
  rw [dv_split, Nat.add_mul_div_left _ _ hd]; omega
theorem dv_r (a m d b : Nat) : a * (2 * m + b) % d = (2 * (a * m % d) + b * a) % d := by
  rw [dv_split, Nat.add_mul_mod_self_left]
theorem dv_m (n k : Nat) : n / 2 ^ k = 2 * (n / 2 ^ (k + 1)) + n / 2 ^ k % 2 := by
  rw [Nat.pow_succ, ← Nat.div_div_eq_div_mul]; omega
theorem cap_lt {q t L : Nat} (h : 2 * min q (L + 1) + t ≤ L) : 2 * min q (L + 1) + t = min (2 * q + t) (L + 1) := by omega
theorem cap_gt {q t L : Nat} (h : L < 2 * min q (L + 1) + t) : L + 1 = min (2 * q + t) (L + 1) := by omega
/-- The state of Divide with k bits left. -/
structure DvS (a n d L k Q R : Nat) : Prop where
  q : Q = min (a * (n / 2 ^ k) / d) (L + 1)
  r : R = a * (n / 2 ^ k) % d
theorem DvS.start {a n d L : Nat} (h : n < 2 ^ 53) : DvS a n d L 53 0 0 := by
  have : n / 2 ^ 53 = 0 := Nat.div_eq_of_lt h
  exact ⟨by rw [this]; simp, by rw [this]; simp⟩
theorem DvS.lo {a n d L k Q R b t r' : Nat} (h : DvS a n d L (k + 1) Q R) (hd : 0 < d) (hb : n / 2 ^ k % 2 = b) (ht : (2 * R + b * a) / d = t) (hr : (2 * R + b * a) % d = r') (hle : 2 * Q + t ≤ L) : DvS a n d L k (2 * Q + t) r' := by
  have hm := dv_m n k
  rw [hb] at hm
  obtain ⟨rfl, rfl⟩ := h
  refine ⟨?_, by rw [hm, dv_r, hr]⟩
  rw [hm, dv_q _ _ _ _ hd, ht]
  exact cap_lt hle
theorem DvS.hi {a n d L k Q R b t r' : Nat} (h : DvS a n d L (k + 1) Q R) (hd : 0 < d) (hb : n / 2 ^ k % 2 = b) (ht : (2 * R + b * a) / d = t) (hr : (2 * R + b * a) % d = r') (hgt : L < 2 * Q + t) : DvS a n d L k (L + 1) r' := by
  have hm := dv_m n k
  rw [hb] at hm
  obtain ⟨rfl, rfl⟩ := h
  refine ⟨?_, by rw [hm, dv_r, hr]⟩
  rw [hm, dv_q _ _ _ _ hd, ht]
  exact cap_gt hgt
theorem and1 (x : Nat) (hx : x < 9223372036854775808) : bits .and .i64 (x : Int) 1 = ((x % 2 : Nat) : Int) := by
  show IntKind.i64.wrap ((BitVec.ofInt 64 (x : Int) &&& BitVec.ofInt 64 1).toNat : Int) = _
  rw [BitVec.toNat_and, BitVec.toNat_ofInt, show (BitVec.ofInt 64 1).toNat = 1 from by decide, Nat.and_one_is_mod]
  rw [IntWalk.i64_in _ (by omega)]; omega
theorem bitAt (n k : Nat) (hn : n ≤ 4503599627370496) : bits .and .i64 ((n : Int) / 2 ^ k) 1 = ((n / 2 ^ k % 2 : Nat) : Int) := by
  have h : n / 2 ^ k ≤ n := Nat.div_le_self _ _
  have e : ((n / 2 ^ k : Nat) : Int) = (n : Int) / 2 ^ k := by simp
  rw [← e, and1 _ (by omega)]
theorem DvS.fin {a n d L Q R : Nat} (h : DvS a n d L 0 Q R) : Q = min (a * n / d) (L + 1) ∧ R = a * n % d := by
  have := h.q
  have := h.r
  simp at *
  exact ⟨by assumption, by assumption⟩
set_option maxHeartbeats 3200000 in
theorem rdiv_any (a n d L : Nat) (w : World) (ha : a ≤ 4503599627370496) (hn : n ≤ 4503599627370496) (hd : 0 < d) (hd' : d ≤ 70368744177664) (hL : L ≤ 4503599627370496) :
    Calls Tryd.prog 34 #[.int .i64 a, .int .i64 n, .int .i64 d, .int .i64 L] w fun e w' => e = .returned (.tuple #[.int .i64 ((min (a * n / d) (L + 1) : Nat) : Int), .int .i64 ((a * n % d : Nat) : Int)]) ∧ w = w' := by
  have HST := Lib.hid (DvS.start (a := a) (d := d) (L := L) (show n < 2 ^ 53 by omega))
  go_enter Tryd.func34, Tryd.ntmps34
  go_wp2_with fail
  go_loop [10, 11, 12] (fun q r i => ∃ k Q R : Nat, k ≤ 53 ∧ i = .int .i64 ((k : Int) - 1) ∧ q = .int .i64 Q ∧ r = .int .i64 R ∧ Q ≤ L + 1 ∧ R < d ∧ Hid (DvS a n d L k Q R)) (fun _ _ i => (intOf i + 1).toNat)
  case atStart => exact ⟨53, 0, 0, by omega, rfl, rfl, rfl, by omega, hd, HST⟩
  case round =>
    obtain ⟨k, Q, R, hk, rfl, rfl, rfl, hQ, hR, hst⟩ := hrel
    by_cases hk0 : 0 < k
    · obtain ⟨j, rfl⟩ : ∃ j, k = j + 1 := ⟨k - 1, by omega⟩
      have HB := bitAt n j hn
      rcases (show n / 2 ^ j % 2 = 1 ∨ n / 2 ^ j % 2 = 0 by omega) with hb | hb
      · rw [hb] at HB
        have hbit : (bits BinOp.and IntKind.i64 ((n : Int) / 2 ^ j) 1 == 1) = true := by rw [HB]; rfl
        obtain ⟨t, ht⟩ : ∃ t, (2 * R + 1 * a) / d = t := ⟨_, rfl⟩
        obtain ⟨r1, hr1⟩ : ∃ r1, (2 * R + 1 * a) % d = r1 := ⟨_, rfl⟩
        have htb : t ≤ 2 * R + a := by rw [← ht, Nat.one_mul]; exact Nat.div_le_self _ _
        have hrb : r1 < d := by rw [← hr1]; exact Nat.mod_lt _ hd
        have ti : (2 * (R : Int) + (a : Int)) / (d : Int) = (t : Int) := by rw [← ht, Nat.one_mul]; simp
        have ri : (2 * (R : Int) + (a : Int)) % (d : Int) = (r1 : Int) := by rw [← hr1, Nat.one_mul]; simp
        have HLO := Lib.hid (fun h => DvS.lo hst.out hd hb ht hr1 h)
        have HHI := Lib.hid (fun h => DvS.hi hst.out hd hb ht hr1 h)
        clear hb HB ht hr1 hst
        by_cases hc : 2 * Q + t ≤ L
        · have HN := Lib.hid (HLO.out hc)
          have hc' : ¬ (L : Int) < 2 * (Q : Int) + (t : Int) := by omega
          go_wp2_with fail
          exact ⟨⟨j, 2 * Q + t, r1, by omega, by go_num, by go_num, by rw [ri], by omega, hrb, HN⟩, by simp [intOf] <;> omega⟩
        · have HN := Lib.hid (HHI.out (by omega))
          have hc' : (L : Int) < 2 * (Q : Int) + (t : Int) := by omega
          go_wp2_with fail
          exact ⟨⟨j, L + 1, r1, by omega, by go_num, by go_num, by rw [ri], by omega, hrb, HN⟩, by simp [intOf] <;> omega⟩
      · rw [hb] at HB
        have hbit : (bits BinOp.and IntKind.i64 ((n : Int) / 2 ^ j) 1 == 1) = false := by rw [HB]; rfl
        obtain ⟨t, ht⟩ : ∃ t, (2 * R + 0 * a) / d = t := ⟨_, rfl⟩
        obtain ⟨r1, hr1⟩ : ∃ r1, (2 * R + 0 * a) % d = r1 := ⟨_, rfl⟩
        have htb : t ≤ 2 * R := by rw [← ht, Nat.zero_mul]; exact Nat.div_le_self _ _
        have hrb : r1 < d := by rw [← hr1]; exact Nat.mod_lt _ hd
        have ti : (2 * (R : Int)) / (d : Int) = (t : Int) := by rw [← ht, Nat.zero_mul]; simp
        have ri : (2 * (R : Int)) % (d : Int) = (r1 : Int) := by rw [← hr1, Nat.zero_mul]; simp
        have HLO := Lib.hid (fun h => DvS.lo hst.out hd hb ht hr1 h)
        have HHI := Lib.hid (fun h => DvS.hi hst.out hd hb ht hr1 h)
        clear hb HB ht hr1 hst
        by_cases hc : 2 * Q + t ≤ L
        · have HN := Lib.hid (HLO.out hc)
          have hc' : ¬ (L : Int) < 2 * (Q : Int) + (t : Int) := by omega
          go_wp2_with fail
          exact ⟨⟨j, 2 * Q + t, r1, by omega, by go_num, by go_num, by rw [ri], by omega, hrb, HN⟩, by simp [intOf] <;> omega⟩
        · have HN := Lib.hid (HHI.out (by omega))
          have hc' : (L : Int) < 2 * (Q : Int) + (t : Int) := by omega
          go_wp2_with fail
          exact ⟨⟨j, L + 1, r1, by omega, by go_num, by go_num, by rw [ri], by omega, hrb, HN⟩, by simp [intOf] <;> omega⟩
    · have HF := Lib.hid ((show k = 0 by omega) ▸ hst.out : DvS a n d L 0 Q R)
      have hk1 : ¬ (0 : Int) ≤ (k : Int) - 1 := by omega
      have hk2 : ¬ (1 : Int) ≤ (k : Int) := by omega
      clear hst
      go_wp2_with fail
      go_ret2
      exact ⟨by rw [HF.out.fin.1, HF.out.fin.2]; rfl, rfl⟩
end Go.Proofs.YtadehobimlpmcaaDoor
