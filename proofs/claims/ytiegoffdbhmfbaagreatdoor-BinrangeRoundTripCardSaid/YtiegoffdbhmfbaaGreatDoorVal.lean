/- The number that a prefix denotes; whether a range follows another. -/
import Derived.Test.YtiegoffdbhmfbaaGreatDoorSor
import Derived.Test.YtiegoffdbhmfbaaGreatDoorShelf
import Derived.Lib.ParseIntB
import Derived.Lib.AtoiErrMem
namespace Go.Proofs.YtiegoffdbhmfbaaGreatDoor
set_option linter.unusedVariables false
open Go.RowKit

def valF (n : Nat) (l : List UInt8) : Nat := l.foldl (fun n b => 10 * n + (b.toNat - 48)) n
def valS (s : ByteArray) : Nat := valF 0 s.data.toList
theorem valF_lt : ∀ (l : List UInt8) (n a : Nat), l.all isDg = true → n < 10 ^ a → valF n l < 10 ^ (a + l.length)
  | [], n, a, _, h => h
  | b :: l, n, a, hd, h => by
    rw [List.all_cons, Bool.and_eq_true] at hd
    have hb : 48 ≤ b.toNat ∧ b.toNat ≤ 57 := by
      have := hd.1; unfold isDg at this
      simpa using this
    have := valF_lt l (10 * n + (b.toNat - 48)) (a + 1) hd.2 (by rw [Nat.pow_succ]; omega)
    rw [List.length_cons, show a + (l.length + 1) = a + 1 + l.length by omega]
    exact this
theorem parseU_val : ∀ (l : List UInt8) (n a : Nat), l.all isDg = true → n < 10 ^ a → a + l.length ≤ 18 → Lib.parseUintM 18446744073709551615 n l = .ok (valF n l)
  | [], n, a, _, h, _ => rfl
  | b :: l, n, a, hd, h, hl => by
    rw [List.all_cons, Bool.and_eq_true] at hd
    have hb : 48 ≤ b.toNat ∧ b.toNat ≤ 57 := by
      have := hd.1; unfold isDg at this
      simpa using this
    rw [List.length_cons] at hl
    have h1 : 10 ^ (a + 1) ≤ 10 ^ 18 := Nat.pow_le_pow_right (by decide) (by omega)
    have h2 : (10 : Nat) ^ 18 = 1000000000000000000 := by decide
    have h3 : 10 * n + (b.toNat - 48) < 10 ^ (a + 1) := by rw [Nat.pow_succ]; omega
    have h4 : n * 10 + (b.toNat - 48) = 10 * n + (b.toNat - 48) := by omega
    rw [Lib.parseUintM, if_pos hb, if_neg (by omega), if_neg (by omega), h4, parseU_val l _ (a + 1) hd.2 h3 (by omega)]
    rfl
theorem valS_lt {s : ByteArray} (hd : digsB s = true) : valS s < 10 ^ s.size := by
  have := valF_lt s.data.toList 0 0 hd (by decide)
  rw [Nat.zero_add] at this; exact this
theorem parse_val {s : ByteArray} (hd : digsB s = true) (h1 : 1 ≤ s.size) (h2 : s.size ≤ 10) : Lib.parseIntB 64 s.data.toList = .ok (valS s : Int) := by
  have hM : (2 ^ 64 - 1 : Nat) = 18446744073709551615 := by decide
  have hH : (2 ^ (64 - 1) : Nat) = 9223372036854775808 := by decide
  have hl : s.data.toList.length = s.size := rfl
  have hv := valS_lt hd
  have hp := parseU_val s.data.toList 0 0 hd (by decide) (by omega)
  have hb : (10 : Nat) ^ s.size ≤ 10 ^ 10 := Nat.pow_le_pow_right (by decide) h2
  have hb2 : (10 : Nat) ^ 10 = 10000000000 := by decide
  unfold valS at *
  unfold digsB at hd
  generalize s.data.toList = l at *
  cases l with
  | nil => simp at hl; omega
  | cons c r =>
    rw [List.all_cons, Bool.and_eq_true] at hd
    have hc : 48 ≤ c.toNat ∧ c.toNat ≤ 57 := by
      have := hd.1; unfold isDg at this
      simpa using this
    unfold Lib.parseIntB
    have h45 : ¬ c.toNat = 45 := by omega
    have h43 : ¬ c.toNat = 43 := by omega
    simp only [h45, h43, or_self, if_false, not_false_eq_true, true_and, false_and]
    unfold Lib.parseUintB
    simp only [hM, hH]
    rw [if_neg (by simp), hp]
    simp only
    rw [if_neg (by omega)]
set_option maxRecDepth 100000 in
set_option maxHeartbeats 1600000 in
theorem value_any (s : ByteArray) (w : World) (hd : digsB s = true) (h1 : 1 ≤ s.size) (h2 : s.size ≤ 10) : Calls Tryz.prog 49 #[.string s] w fun e w' => e = .returned (.int .i64 (valS s)) ∧ Below w.heap.size w w' := by
  have HP : Hid (∀ W, Calls Tryz.prog 66 #[.string s, .int .i64 10, .int .i64 64] W fun e w' => e = .returned (.tuple #[.int .i64 (valS s), .nilIface]) ∧ Below W.heap.size W w') := Lib.hid (fun W => (Tryz.strconv_ParseInt_10_at64_ok s (by omega) _ (parse_val hd h1 h2) W).mono fun e w' ⟨he, hw'⟩ => ⟨he, by
    rcases hw' with rfl | ⟨t, rfl⟩
    · exact Below.refl _ _
    · exact Lib.bytesWorld_below _ _ _⟩)
  generalize valS s = V at *
  clear hd h1 h2
  go_enter Tryz.func49, Tryz.ntmps49
  go_wp2_with fail
  refine (HP.out _).mono ?_
  rintro e w2 ⟨rfl, hb⟩
  have HB := Lib.hid hb
  clear hb
  go_wp2_with fail
  go_ret
  exact ⟨rfl, HB.out⟩
/-- b begins where a ends. -/
def folB (a b : Rg) : Bool := decide (a.lo.size = b.lo.size) && (decide (a.is = b.is) && (decide (a.pr = b.pr) && decide (valS b.lo = valS a.hi + 1)))
theorem bs_same (s t : ByteArray) (h : s = t) : (s.toList == t.toList) = true := (Lib.bytes_beq_iff s t).2 h
theorem bs_diff (s t : ByteArray) (h : s ≠ t) : (s.toList == t.toList) = false := (Lib.bytes_beq_false_iff s t).2 h
set_option maxRecDepth 100000 in
set_option maxHeartbeats 3200000 in
theorem follows_any (a b : Rg) (w : World) (ha : formB a.lo a.hi = true) (hb : formB b.lo b.hi = true) :
    Calls Tryz.prog 32 #[.agg (rgC a), .agg (rgC b)] w fun e w' => e = .returned (.bool (folB a b)) ∧ Below w.heap.size w w' := by
  obtain ⟨al, ah, ai, ap⟩ := a
  obtain ⟨bl, bh, bi, bp⟩ := b
  unfold rgC
  simp only at ha hb ⊢
  have HF : Hid (folB ⟨al, ah, ai, ap⟩ ⟨bl, bh, bi, bp⟩ = (decide (al.size = bl.size) && (decide (ai = bi) && (decide (ap = bp) && decide (valS bl = valS ah + 1))))) := Lib.hid rfl
  unfold formB pfxB at ha hb
  simp only [Bool.and_eq_true, decide_eq_true_eq] at ha hb
  obtain ⟨⟨⟨⟨a1, a2⟩, a3⟩, ⟨a4, a5⟩, a6⟩, a7⟩ := ha
  obtain ⟨⟨⟨⟨b1, b2⟩, b3⟩, ⟨b4, b5⟩, b6⟩, b7⟩ := hb
  have HV1 := Lib.hid (fun W => value_any bl W b3 b1 b2)
  have HV2 := Lib.hid (fun W => value_any ah W a6 a4 a5)
  have hv1 := valS_lt b3
  have hv2 := valS_lt a6
  have hb1 : (10 : Nat) ^ bl.size ≤ 10 ^ 10 := Nat.pow_le_pow_right (by decide) b2
  have hb2 : (10 : Nat) ^ ah.size ≤ 10 ^ 10 := Nat.pow_le_pow_right (by decide) a5
  have hb3 : (10 : Nat) ^ 10 = 10000000000 := by decide
  have hwr : IntKind.i64.wrap ((valS ah : Int) + 1) = (valS ah : Int) + 1 := IntWalk.i64_in _ (by omega)
  have HD : Hid (decide (valS bl = valS ah + 1) = ((valS bl : Int) == (valS ah : Int) + 1)) := Lib.hid (by
    show _ = decide ((valS bl : Int) = (valS ah : Int) + 1)
    rw [decide_eq_decide]; omega)
  clear a1 a2 a3 a4 a5 a6 a7 b1 b2 b3 b4 b5 b6 b7 hv1 hv2 hb1 hb2 hb3
  generalize valS bl = V1 at *
  generalize valS ah = V2 at *
  have HW : Hid (Below w.heap.size w ((w.alloc (.cells #[.string al, .string ah, .string ai, .string ap] 26)).alloc (.cells #[.string bl, .string bh, .string bi, .string bp] 26))) := Lib.hid (box2 (Below.refl _ _)).2.2
  by_cases c1 : al.size = bl.size
  · have c1z : ((al.size : Int) != (bl.size : Int)) = false := by simp; omega
    rw [decide_eq_true c1, Bool.true_and] at HF
    clear c1
    by_cases c2 : ai = bi
    · have c2z := bs_same ai bi c2
      rw [decide_eq_true c2, Bool.true_and] at HF
      clear c2
      by_cases c3 : ap = bp
      · have c3z := bs_same ap bp c3
        rw [decide_eq_true c3, Bool.true_and, HD.out] at HF
        clear c3 HD
        have HK : Hid (∀ W, Below ((w.alloc (.cells #[.string al, .string ah, .string ai, .string ap] 26)).alloc (.cells #[.string bl, .string bh, .string bi, .string bp] 26)).heap.size ((w.alloc (.cells #[.string al, .string ah, .string ai, .string ap] 26)).alloc (.cells #[.string bl, .string bh, .string bi, .string bp] 26)) W → W.cell? ⟨w.heap.size + 1, 0, none⟩ = some (.string bl) ∧ W.cell? ⟨w.heap.size, 1, none⟩ = some (.string ah)) := Lib.hid (fun W h => ⟨cell_c (box2 h).2.1 0, cell_c (box2 h).1 1⟩)
        have HBW : Hid (Below ((w.alloc (.cells #[.string al, .string ah, .string ai, .string ap] 26)).alloc (.cells #[.string bl, .string bh, .string bi, .string bp] 26)).heap.size ((w.alloc (.cells #[.string al, .string ah, .string ai, .string ap] 26)).alloc (.cells #[.string bl, .string bh, .string bi, .string bp] 26)) ((w.alloc (.cells #[.string al, .string ah, .string ai, .string ap] 26)).alloc (.cells #[.string bl, .string bh, .string bi, .string bp] 26)).drew) := Lib.hid (Below.refl _ _).drew
        go_enter Tryz.func32, Tryz.ntmps32
        go_wp2_with fail
        go_region_held3 (fun w' => w'.cell? ⟨w.heap.size + 1, 0, none⟩ = some (.string bl) ∧ w'.cell? ⟨w.heap.size, 1, none⟩ = some (.string ah))
          (exact HK.out _ HBW.out)
          (first
            | (go_at_call 49; (with_reducible refine (HV1.out _).mono ?_); rintro e wq ⟨rfl, hb⟩; have HBW := Lib.hid (HBW.out.trans (hb.mono HBW.out.size)); clear hb)
            | (go_at_call 49; (with_reducible refine (HV2.out _).mono ?_); rintro e wq ⟨rfl, hb⟩; have HBW := Lib.hid (HBW.out.trans (hb.mono HBW.out.size)); clear hb))
        all_goals
          go_wp2_with fail
          go_ret
          exact ⟨by rw [HF.out]; rfl, (box2 HBW.out).2.2⟩
      · have c3z := bs_diff ap bp c3
        rw [decide_eq_false c3, Bool.false_and] at HF
        clear c3 HD
        go_enter Tryz.func32, Tryz.ntmps32
        go_wp2_with fail
        go_ret
        exact ⟨by rw [HF.out]; rfl, HW.out⟩
    · have c2z := bs_diff ai bi c2
      rw [decide_eq_false c2, Bool.false_and] at HF
      clear c2 HD
      go_enter Tryz.func32, Tryz.ntmps32
      go_wp2_with fail
      go_ret
      exact ⟨by rw [HF.out]; rfl, HW.out⟩
  · have c1z : ((al.size : Int) != (bl.size : Int)) = true := by simp; omega
    rw [decide_eq_false c1, Bool.false_and] at HF
    clear c1 HD
    go_enter Tryz.func32, Tryz.ntmps32
    go_wp2_with fail
    go_ret
    exact ⟨by rw [HF.out]; rfl, HW.out⟩
end Go.Proofs.YtiegoffdbhmfbaaGreatDoor
