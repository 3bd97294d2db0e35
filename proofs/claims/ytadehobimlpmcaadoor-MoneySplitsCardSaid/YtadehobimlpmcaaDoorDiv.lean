/- The walk of bits.Div64. -/
import Derived.Test.YtadehobimlpmcaaDoorShelf
import Derived.Test.YtadehobimlpmcaaDoorBase
import Derived.Test.YtadehobimlpmcaaDoorDv
import Derived.Laws.Bits64
import Derived.Laws.Bits64b
import Derived.Laws.Shifts
import Derived.Lib.BitFns
import Derived.Deep.CutBlock
namespace Go.Proofs.YtadehobimlpmcaaDoor
set_option linter.unusedVariables false
open Go.RowKit

theorem wrapU_in (n : Int) (h0 : 0 ≤ n) (h1 : n < 18446744073709551616) : IntKind.u64.wrap n = n := by rw [IntKind.wrap_u64]; omega
theorem tdivU (x y : Nat) (hx : x < 18446744073709551616) : IntKind.u64.wrap ((x : Int).tdiv (y : Int)) = ((x / y : Nat) : Int) := by
  rw [Int.tdiv_eq_ediv_of_nonneg (by omega), ← Int.natCast_ediv]
  have := Nat.div_le_self x y
  generalize x / y = z at *
  exact wrapU_in _ (by omega) (by omega)
theorem ediU (x y : Nat) (hx : x < 18446744073709551616) : IntKind.u64.wrap ((x : Int) / (y : Int)) = ((x / y : Nat) : Int) := by
  rw [← Int.tdiv_eq_ediv_of_nonneg (by omega)]; exact tdivU x y hx
theorem tmodU (x y : Nat) : (x : Int).tmod (y : Int) = ((x % y : Nat) : Int) := by
  rw [Int.tmod_eq_emod_of_nonneg (by omega), ← Int.natCast_emod]
set_option maxHeartbeats 1600000 in
theorem div_lo (lo y : Nat) (w : World) (hlo : lo < 18446744073709551616) (hy : y < 18446744073709551616) (h0 : 0 < y) :
    Calls Tryd.prog 31 #[.int .u64 0, .int .u64 lo, .int .u64 y] w fun e w' => e = .returned (.tuple #[.int .u64 ((lo / y : Nat) : Int), .int .u64 ((lo % y : Nat) : Int)]) ∧ Below w.heap.size w w' := by
  obtain ⟨q, hq⟩ : ∃ q, lo / y = q := ⟨_, rfl⟩
  obtain ⟨r, hr⟩ : ∃ r, lo % y = r := ⟨_, rfl⟩
  have e1 : IntKind.u64.wrap ((lo : Int).tdiv (y : Int)) = (q : Int) := by rw [tdivU lo y hlo, hq]
  have e1' : IntKind.u64.wrap ((lo : Int) / (y : Int)) = (q : Int) := by rw [ediU lo y hlo, hq]
  have e2 : (lo : Int).tmod (y : Int) = (r : Int) := by rw [tmodU, hr]
  have e3 : IntKind.u64.wrap (r : Int) = (r : Int) := wrapU_in _ (by omega) (by have := Nat.mod_lt lo h0; omega)
  have y0 : ((y : Int) == 0) = false := beq_eq_false_iff_ne.2 (by omega)
  have y1 : ¬ (y : Int) ≤ 0 := by omega
  have y2 : (y : Int) ≠ 0 := by omega
  rw [hq, hr]
  clear hq hr hlo hy h0
  go_enter Tryd.func31, Tryd.ntmps31
  go_wp2_with fail
  go_quiet (fail)
  go_wp2_with fail
  go_ret2
  exact ⟨rfl, ⟨rfl, rfl, rfl, Nat.le_refl _, fun _ _ => rfl⟩⟩
/-- The quotient's upper half: what the first loop leaves. -/
theorem lz_facts (y : Nat) (h0 : 0 < y) (hy : y < 18446744073709551616) : ∃ s : Nat, 64 - (Lib.bitLen y : Int) = (s : Int) ∧ s < 64 ∧ 9223372036854775808 ≤ y * 2 ^ s ∧ y * 2 ^ s < 18446744073709551616 := by
  have hle := Lib.bitLen_le y 64 (by omega) hy
  have hlt : y < 2 ^ Lib.bitLen y := by
    rcases Nat.lt_or_ge y (2 ^ Lib.bitLen y) with h | h
    · exact h
    · have := Lib.bitLen_shift (Lib.bitLen y) y h hy
      have h2 : Lib.bitLen (y / 2 ^ Lib.bitLen y) = 0 := by omega
      have h3 : 0 < y / 2 ^ Lib.bitLen y := Nat.div_pos h (Nat.pow_pos (by omega))
      have h4 := Lib.bitLen_half (y / 2 ^ Lib.bitLen y) (by omega) (Nat.lt_of_le_of_lt (Nat.div_le_self _ _) hy)
      omega
  have hpos : Lib.bitLen y ≠ 0 := by
    intro e; rw [e] at hlt; simp at hlt; omega
  have hge : 2 ^ (Lib.bitLen y - 1) ≤ y := by
    rcases Nat.lt_or_ge y (2 ^ (Lib.bitLen y - 1)) with h | h
    · have := Lib.bitLen_le y (Lib.bitLen y - 1) (by omega) h
      omega
    · exact h
  refine ⟨64 - Lib.bitLen y, by omega, by omega, ?_, ?_⟩
  · have h1 : 2 ^ (Lib.bitLen y - 1) * 2 ^ (64 - Lib.bitLen y) = 9223372036854775808 := by
      rw [← Nat.pow_add, show Lib.bitLen y - 1 + (64 - Lib.bitLen y) = 63 by omega]
    rw [← h1]; exact Nat.mul_le_mul_right _ hge
  · have h1 : 2 ^ Lib.bitLen y * 2 ^ (64 - Lib.bitLen y) = 18446744073709551616 := by
      rw [← Nat.pow_add, show Lib.bitLen y + (64 - Lib.bitLen y) = 64 by omega]
    rw [← h1]; exact Nat.mul_lt_mul_of_pos_right hlt (Nat.pow_pos (by omega))
set_option maxHeartbeats 12800000 in
theorem div_hi (hi lo y : Nat) (w : World) (hhi : 0 < hi) (hhy : hi < y) (hlo : lo < 18446744073709551616) (hy : y < 18446744073709551616) :
    Calls Tryd.prog 31 #[.int .u64 hi, .int .u64 lo, .int .u64 y] w fun e w' => e = .returned (.tuple #[.int .u64 (((hi * 18446744073709551616 + lo) / y : Nat) : Int), .int .u64 (((hi * 18446744073709551616 + lo) % y : Nat) : Int)]) ∧ w = w' := by
  obtain ⟨s, hs1, hs2, hs3, hs4⟩ := lz_facts y (by omega) hy
  have hl := Lib.hid (fun W => Tryd.bits_LeadingZeros64 (y : Int) W (by omega) (by omega))
  have y0 : ((y : Int) == 0) = false := beq_eq_false_iff_ne.2 (by omega)
  have y1 : ¬ (y : Int) ≤ (hi : Int) := by omega
  have y2 : ((hi : Int) == 0) = false := beq_eq_false_iff_ne.2 (by omega)
  have HS := Lib.hid hs1
  have hmv := moved (hi * 18446744073709551616 + lo) y s (by omega)
  rw [moved_halves hi lo s (by omega) hlo] at hmv
  obtain ⟨Y, hY⟩ : ∃ Y : Nat, y * 2 ^ s = Y := ⟨_, rfl⟩
  obtain ⟨X, hX⟩ : ∃ X : Nat, hi * 2 ^ s = X := ⟨_, rfl⟩
  obtain ⟨L, hL⟩ : ∃ L : Nat, lo / 2 ^ (64 - s) = L := ⟨_, rfl⟩
  obtain ⟨Z, hZ⟩ : ∃ Z : Nat, lo * 2 ^ s % 18446744073709551616 = Z := ⟨_, rfl⟩
  obtain ⟨U, hU⟩ : ∃ U : Nat, X + L = U := ⟨_, rfl⟩
  have hp : 0 < 2 ^ s := Nat.pow_pos (by omega)
  have hps : 2 ^ (64 - s) * 2 ^ s = 18446744073709551616 := by rw [← Nat.pow_add, Nat.sub_add_cancel (by omega)]
  have hLs : L < 2 ^ s := by rw [← hL, Nat.div_lt_iff_lt_mul (Nat.pow_pos (by omega)), Nat.mul_comm, hps]; exact hlo
  have hXY : X + 2 ^ s ≤ Y := by
    have : (hi + 1) * 2 ^ s ≤ y * 2 ^ s := Nat.mul_le_mul_right _ hhy
    rw [Nat.add_mul, Nat.one_mul, hX, hY] at this; exact this
  have hUor : X ||| L = U := by rw [← hX, or_add hi L s hLs, hX]; exact hU
  rw [hY] at hs3 hs4 hmv
  rw [hX, hL, hZ, hU] at hmv
  have hUY : U < Y := by omega
  have hZ64 : Z < 18446744073709551616 := by rw [← hZ]; exact Nat.mod_lt _ (by omega)
  have e39 : IntKind.u64.wrap ((y : Int) * 2 ^ s) = (Y : Int) := by
    have : (y : Int) * 2 ^ s = ((y * 2 ^ s : Nat) : Int) := by rw [Int.natCast_mul, Int.natCast_pow]; rfl
    rw [this, hY]; exact wrapU_in _ (by omega) (by omega)
  have e46 : IntKind.u64.wrap ((hi : Int) * 2 ^ s) = (X : Int) := by
    have : (hi : Int) * 2 ^ s = ((hi * 2 ^ s : Nat) : Int) := by rw [Int.natCast_mul, Int.natCast_pow]; rfl
    rw [this, hX]; exact wrapU_in _ (by omega) (by omega)
  have e54 : IntKind.u64.wrap ((lo : Int) * 2 ^ s) = (Z : Int) := by
    have : (lo : Int) * 2 ^ s = ((lo * 2 ^ s : Nat) : Int) := by rw [Int.natCast_mul, Int.natCast_pow]; rfl
    rw [this, IntKind.wrap_u64, ← hZ]; omega
  have e50 : (lo : Int) / 2 ^ (64 - s) = (L : Int) := by
    have : (lo : Int) / 2 ^ (64 - s) = ((lo / 2 ^ (64 - s) : Nat) : Int) := by rw [Int.natCast_ediv, Int.natCast_pow]; rfl
    rw [this, hL]
  have e51 : bits .or .u64 (X : Int) (L : Int) = (U : Int) := by rw [bits_or_u64_nat X L (by omega) (by omega), hUor]
  obtain ⟨a, ha⟩ : ∃ a : Nat, Y / 4294967296 = a := ⟨_, rfl⟩
  obtain ⟨b, hb⟩ : ∃ b : Nat, Y % 4294967296 = b := ⟨_, rfl⟩
  obtain ⟨t1, ht1⟩ : ∃ t : Nat, Z / 4294967296 = t := ⟨_, rfl⟩
  obtain ⟨t0, ht0⟩ : ∃ t : Nat, Z % 4294967296 = t := ⟨_, rfl⟩
  have e41 : (Y : Int) / 4294967296 = (a : Int) := by omega
  have e56 : (Z : Int) / 4294967296 = (t1 : Int) := by omega
  have e43 : bits .and .u64 (Y : Int) 4294967295 = (b : Int) := by
    rw [show (4294967295 : Int) = ((4294967295 : Nat) : Int) from rfl, bits_and_u64_nat Y 4294967295 (by omega) (by omega), show (4294967295 : Nat) = 2 ^ 32 - 1 from rfl, Nat.and_two_pow_sub_one_eq_mod]; omega
  have e58 : bits .and .u64 (Z : Int) 4294967295 = (t0 : Int) := by
    rw [show (4294967295 : Int) = ((4294967295 : Nat) : Int) from rfl, bits_and_u64_nat Z 4294967295 (by omega) (by omega), show (4294967295 : Nat) = 2 ^ 32 - 1 from rfl, Nat.and_two_pow_sub_one_eq_mod]; omega
  have HA31 := Lib.hid (show 2147483648 ≤ a by omega)
  have HA32 := Lib.hid (show a < 4294967296 by omega)
  have HB32 := Lib.hid (show b < 4294967296 by omega)
  have HT1 := Lib.hid (show t1 < 4294967296 by omega)
  have HT0 := Lib.hid (show t0 < 4294967296 by omega)
  have HY := Lib.hid (show a * 4294967296 + b = Y by omega)
  have HU1 := Lib.hid (show U < a * 4294967296 + b by omega)
  obtain ⟨R, hR⟩ : ∃ R : Nat, (U * 4294967296 + t1) % Y = R := ⟨_, rfl⟩
  obtain ⟨q1, hq1⟩ : ∃ q : Nat, (U * 4294967296 + t1) / Y = q := ⟨_, rfl⟩
  obtain ⟨q0, hq0⟩ : ∃ q : Nat, (R * 4294967296 + t0) / Y = q := ⟨_, rfl⟩
  obtain ⟨R0, hR0⟩ : ∃ q : Nat, (R * 4294967296 + t0) % Y = q := ⟨_, rfl⟩
  have hth := two_halves U t1 t0 Y q1 q0 R (by omega) hq1.symm hR.symm hq0.symm
  rw [show t1 * 4294967296 + t0 = Z by omega, hR0] at hth
  rw [hth.1, hth.2] at hmv
  have hRY : R < Y := by rw [← hR]; exact Nat.mod_lt _ (by omega)
  have HU0 := Lib.hid (show R < a * 4294967296 + b by omega)
  have hr1 := (half_rem U t1 Y q1 (by omega) (by omega) hq1.symm).1
  have hr0 := (half_rem R t0 Y q0 (by omega) (by omega) hq0.symm).1
  rw [hR] at hr1
  rw [hR0] at hr0
  have HQ1 := Lib.hid (show (U * 4294967296 + t1) / (a * 4294967296 + b) = q1 by rw [HY.out]; exact hq1)
  have HQ0 := Lib.hid (show (R * 4294967296 + t0) / (a * 4294967296 + b) = q0 by rw [HY.out]; exact hq0)
  have HFIN := Lib.hid hmv
  have HES1 := Lib.hid (est_start (t := t1) HA31.out HA32.out HB32.out HT1.out HU1.out)
  have HES0 := Lib.hid (est_start (t := t0) HA31.out HA32.out HB32.out HT0.out HU0.out)
  have hU64 : U < 18446744073709551616 := by omega
  have hR64 : R < 18446744073709551616 := by omega
  obtain ⟨g0, hg0⟩ : ∃ g, U / a = g := ⟨_, rfl⟩
  obtain ⟨h0, hh0⟩ : ∃ g, U % a = g := ⟨_, rfl⟩
  obtain ⟨g1, hg1⟩ : ∃ g, R / a = g := ⟨_, rfl⟩
  obtain ⟨h1, hh1⟩ : ∃ g, R % a = g := ⟨_, rfl⟩
  have e61 : IntKind.u64.wrap ((U : Int) / (a : Int)) = (g0 : Int) := by rw [ediU U a hU64, hg0]
  have e61' : IntKind.u64.wrap ((U : Int).tdiv (a : Int)) = (g0 : Int) := by rw [tdivU U a hU64, hg0]
  have e96 : IntKind.u64.wrap ((R : Int) / (a : Int)) = (g1 : Int) := by rw [ediU R a hR64, hg1]
  have e96' : IntKind.u64.wrap ((R : Int).tdiv (a : Int)) = (g1 : Int) := by rw [tdivU R a hR64, hg1]
  have hd0 := Nat.div_add_mod U a
  have hd1 := Nat.div_add_mod R a
  rw [hg0, hh0] at hd0
  rw [hg1, hh1] at hd1
  obtain ⟨p0, hp0⟩ : ∃ p, a * g0 = p := ⟨_, rfl⟩
  obtain ⟨p1, hp1⟩ : ∃ p, a * g1 = p := ⟨_, rfl⟩
  rw [hp0] at hd0
  rw [hp1] at hd1
  have e65 : IntKind.u64.wrap ((g0 : Int) * (a : Int)) = (p0 : Int) := by rw [← Int.natCast_mul, Nat.mul_comm, hp0]; exact wrapU_in _ (by omega) (by omega)
  have e100 : IntKind.u64.wrap ((g1 : Int) * (a : Int)) = (p1 : Int) := by rw [← Int.natCast_mul, Nat.mul_comm, hp1]; exact wrapU_in _ (by omega) (by omega)
  have e66 : IntKind.u64.wrap ((U : Int) - (p0 : Int)) = (h0 : Int) := by rw [wrapU_in _ (by omega) (by omega)]; omega
  have e101 : IntKind.u64.wrap ((R : Int) - (p1 : Int)) = (h1 : Int) := by rw [wrapU_in _ (by omega) (by omega)]; omega
  have HH0 := Lib.hid (show h0 < 4294967296 by have := Nat.mod_lt U (show 0 < a by omega); omega)
  have HH1 := Lib.hid (show h1 < 4294967296 by have := Nat.mod_lt R (show 0 < a by omega); omega)
  rw [hg0, hh0] at HES1
  rw [hg1, hh1] at HES0
  -- what stands between the loops and behind them
  obtain ⟨C, hC⟩ : ∃ C : Int, (4294967296 : Int) = C := ⟨_, rfl⟩
  have HC := Lib.hid hC
  obtain ⟨n87, h87⟩ : ∃ n, IntKind.u64.wrap ((U : Int) * C) = n := ⟨_, rfl⟩
  obtain ⟨n89, h89⟩ : ∃ n, IntKind.u64.wrap (n87 + (t1 : Int)) = n := ⟨_, rfl⟩
  obtain ⟨n92, h92⟩ : ∃ n, IntKind.u64.wrap ((q1 : Int) * (Y : Int)) = n := ⟨_, rfl⟩
  have e93 : IntKind.u64.wrap (n89 - n92) = (R : Int) := by
    rw [← h89, ← h87, ← h92, ← hC, IntKind.wrap_u64, IntKind.wrap_u64, IntKind.wrap_u64, IntKind.wrap_u64]
    generalize (q1 : Int) * (Y : Int) = z at *
    omega
  obtain ⟨n122, h122⟩ : ∃ n, IntKind.u64.wrap ((q1 : Int) * C) = n := ⟨_, rfl⟩
  obtain ⟨QF, hQF⟩ : ∃ n : Nat, q1 * 4294967296 + q0 = n := ⟨_, rfl⟩
  have hQ64 : QF < 18446744073709551616 := by
    have h1 : q1 < 4294967296 := by rw [← hq1, Nat.div_lt_iff_lt_mul (by omega)]; omega
    have h2 : q0 < 4294967296 := by rw [← hq0, Nat.div_lt_iff_lt_mul (by omega)]; omega
    omega
  have e124 : IntKind.u64.wrap (n122 + (q0 : Int)) = (QF : Int) := by
    rw [← h122, ← hC, IntKind.wrap_u64, IntKind.wrap_u64]; omega
  obtain ⟨n126, h126⟩ : ∃ n, IntKind.u64.wrap ((R : Int) * C) = n := ⟨_, rfl⟩
  obtain ⟨n128, h128⟩ : ∃ n, IntKind.u64.wrap (n126 + (t0 : Int)) = n := ⟨_, rfl⟩
  obtain ⟨n131, h131⟩ : ∃ n, IntKind.u64.wrap ((q0 : Int) * (Y : Int)) = n := ⟨_, rfl⟩
  have e132 : IntKind.u64.wrap (n128 - n131) = (R0 : Int) := by
    rw [← h128, ← h126, ← h131, ← hC, IntKind.wrap_u64, IntKind.wrap_u64, IntKind.wrap_u64, IntKind.wrap_u64]
    generalize (q0 : Int) * (Y : Int) = z at *
    omega
  obtain ⟨RF, hRF⟩ : ∃ n : Nat, R0 / 2 ^ s = n := ⟨_, rfl⟩
  have e134 : (R0 : Int) / 2 ^ s = (RF : Int) := by
    have : (R0 : Int) / 2 ^ s = ((R0 / 2 ^ s : Nat) : Int) := by rw [Int.natCast_ediv, Int.natCast_pow]; rfl
    rw [this, hRF]
  rw [hQF, hRF] at HFIN
  rw [← HFIN.out.1, ← HFIN.out.2]
  have a1 : (1 : Int) ≤ (a : Int) := by have := HA31.out; omega
  clear hs1 hs3 hs4 hhi hhy hlo hy hmv hY hX hL hZ hU hp hps hLs hXY hUor hUY hZ64 ha hb ht1 ht0 hR hq1 hq0 hR0 hth hRY hr1 hr0 hU64 hR64 hg0 hh0 hg1 hh1 hd0 hd1 hp0 hp1 hQF hQ64 hRF
  rw [hC] at e41 e56
  have HHL := Lib.hid (fun W => (hl.out W))
  go_enter Tryd.func31, Tryd.ntmps31
  go_upto_block 0 with (go_at_call 54; refine (hl.out _).mono ?_; rintro e w1 ⟨rfl, rfl⟩; rw [Int.toNat_natCast, HS.out])
  go_cut [15, 16] from 67 to 85 (fun vq vh wx => ∃ g h : Nat, vq = .int .u64 g ∧ vh = .int .u64 h ∧ Hid (g = (U * 4294967296 + t1) / (a * 4294967296 + b)) ∧ wx = w1)
  case first =>
    go_wp2_with fail
    go_loop [15, 16] (fun vq vh => ∃ g h : Nat, vq = .int .u64 g ∧ vh = .int .u64 h ∧ Hid (Est a b U t1 g h) ∧ Hid (h < 4294967296)) (fun vq _ => (intOf vq).toNat)
    case atStart => exact ⟨_, _, rfl, rfl, HES1, HH0⟩
    case round =>
      obtain ⟨g, h, rfl, rfl, hE, hh⟩ := hrel
      have hP := Lib.hid (est_small hE.out HB32.out)
      obtain ⟨h', hh'⟩ : ∃ h' : Nat, h + a = h' := ⟨_, rfl⟩
      have hsum := Lib.hid (show h' < 18446744073709551616 by have := hh.out; have := HA32.out; omega)
      have e83 : IntKind.u64.wrap ((h : Int) + (a : Int)) = (h' : Int) := by rw [← Int.natCast_add, hh']; exact wrapU_in _ (by omega) (by have := hsum.out; omega)
      have e74 : IntKind.u64.wrap (C * (h : Int)) = ((4294967296 * h : Nat) : Int) := by rw [← HC.out]; have := hh.out; rw [wrapU_in _ (by omega) (by omega)]; omega
      obtain ⟨m74, hm74⟩ : ∃ m74 : Nat, 4294967296 * h = m74 := ⟨_, rfl⟩
      rw [hm74] at e74
      obtain ⟨m76, hm76⟩ : ∃ m76 : Nat, m74 + t1 = m76 := ⟨_, rfl⟩
      have e76 : IntKind.u64.wrap ((m74 : Int) + (t1 : Int)) = (m76 : Int) := by rw [← Int.natCast_add, hm76]; exact wrapU_in _ (by omega) (by have := hh.out; have := HT1.out; omega)
      obtain ⟨P, hPe⟩ : ∃ P : Nat, g * b = P := ⟨_, rfl⟩
      have e72 : IntKind.u64.wrap ((g : Int) * (b : Int)) = (P : Int) := by rw [← Int.natCast_mul, hPe]; exact wrapU_in _ (by omega) (by have := hP.out; omega)
      have HPE := Lib.hid hPe
      have H74 := Lib.hid hm74
      have H76 := Lib.hid hm76
      have HH' := Lib.hid hh'
      clear hh' hm74 hm76 hPe
      by_cases hgo : 4294967296 ≤ g ∨ m76 < P
      · have hnx := est_next hE.out HA31.out HT1.out HU1.out (by rcases hgo with q | q; exact .inl q; exact .inr (by have := HPE.out; have := H74.out; have := H76.out; omega))
        obtain ⟨n1, hE2, n3⟩ := hnx
        rw [HH'.out] at hE2
        have HE2 := Lib.hid hE2
        have HN3 := Lib.hid n3
        have g1 : (1 : Int) ≤ (g : Int) := by omega
        have e80 : IntKind.u64.wrap ((g : Int) - 1) = ((g - 1 : Nat) : Int) := by rw [wrapU_in _ (by omega) (by omega)]; omega
        obtain ⟨g', hg'⟩ : ∃ g', g - 1 = g' := ⟨_, rfl⟩
        rw [hg'] at e80 HE2 HN3
        have HG := Lib.hid (show g' + 1 = g by omega)
        clear hg' hE2 n1 n3
        have hbrk : (C ≤ (h' : Int) ∧ 4294967296 ≤ h') ∨ ((h' : Int) < C ∧ h' < 4294967296) := by rw [← HC.out]; omega
        have htst : C ≤ (g : Int) ∨ ((g : Int) < C ∧ (m76 : Int) < (P : Int)) := by rw [← HC.out]; omega
        clear hgo
        rcases htst with q | ⟨q, q'⟩
        all_goals
          rcases hbrk with ⟨k1, k2⟩ | ⟨k1, k2⟩
        all_goals
          have K2 := Lib.hid k2
          clear k2
        · go_wp2_with fail
          go_meet
          exact ⟨g', h', rfl, rfl, Lib.hid (est_break HE2.out HA31.out HB32.out HN3.out (by have := K2.out; omega)), rfl⟩
        · go_wp2_with fail
          go_round
          case rel => exact ⟨g', h', rfl, rfl, HE2, K2⟩
          case measure => have := HG.out; simp [intOf]; omega
        · go_wp2_with fail
          go_meet
          exact ⟨g', h', rfl, rfl, Lib.hid (est_break HE2.out HA31.out HB32.out HN3.out (by have := K2.out; omega)), rfl⟩
        · go_wp2_with fail
          go_round
          case rel => exact ⟨g', h', rfl, rfl, HE2, K2⟩
          case measure => have := HG.out; simp [intOf]; omega
      · have hst := Lib.hid (est_stop hE.out HA31.out (by have := HPE.out; have := H74.out; have := H76.out; omega))
        have q1 : (g : Int) < C := by rw [← HC.out]; omega
        have q2 : ¬ (m76 : Int) < (P : Int) := by omega
        clear hgo
        go_wp2_with fail
        go_meet
        exact ⟨g, h, rfl, rfl, hst, rfl⟩
  case rest =>
    obtain ⟨g, h, rfl, rfl, hg, rfl⟩ := hcut
    have hgq := hg.out.trans HQ1.out
    subst hgq
    clear hg
    go_upto_block 2 with (fail)
    go_cut [18, 16] from 102 to 120 (fun vq vh wx => ∃ g h : Nat, vq = .int .u64 g ∧ vh = .int .u64 h ∧ Hid (g = (R * 4294967296 + t0) / (a * 4294967296 + b)) ∧ wx = wc)
    case first =>
      go_wp2_with fail
      go_loop [18, 16] (fun vq vh => ∃ g h : Nat, vq = .int .u64 g ∧ vh = .int .u64 h ∧ Hid (Est a b R t0 g h) ∧ Hid (h < 4294967296)) (fun vq _ => (intOf vq).toNat)
      case atStart => exact ⟨_, _, rfl, rfl, HES0, HH1⟩
      case round =>
        obtain ⟨g, h, rfl, rfl, hE, hh⟩ := hrel
        have hP := Lib.hid (est_small hE.out HB32.out)
        obtain ⟨h', hh'⟩ : ∃ h' : Nat, h + a = h' := ⟨_, rfl⟩
        have hsum := Lib.hid (show h' < 18446744073709551616 by have := hh.out; have := HA32.out; omega)
        have e83 : IntKind.u64.wrap ((h : Int) + (a : Int)) = (h' : Int) := by rw [← Int.natCast_add, hh']; exact wrapU_in _ (by omega) (by have := hsum.out; omega)
        have e74 : IntKind.u64.wrap (C * (h : Int)) = ((4294967296 * h : Nat) : Int) := by rw [← HC.out]; have := hh.out; rw [wrapU_in _ (by omega) (by omega)]; omega
        obtain ⟨m74, hm74⟩ : ∃ m74 : Nat, 4294967296 * h = m74 := ⟨_, rfl⟩
        rw [hm74] at e74
        obtain ⟨m76, hm76⟩ : ∃ m76 : Nat, m74 + t0 = m76 := ⟨_, rfl⟩
        have e76 : IntKind.u64.wrap ((m74 : Int) + (t0 : Int)) = (m76 : Int) := by rw [← Int.natCast_add, hm76]; exact wrapU_in _ (by omega) (by have := hh.out; have := HT0.out; omega)
        obtain ⟨P, hPe⟩ : ∃ P : Nat, g * b = P := ⟨_, rfl⟩
        have e72 : IntKind.u64.wrap ((g : Int) * (b : Int)) = (P : Int) := by rw [← Int.natCast_mul, hPe]; exact wrapU_in _ (by omega) (by have := hP.out; omega)
        have HPE := Lib.hid hPe
        have H74 := Lib.hid hm74
        have H76 := Lib.hid hm76
        have HH' := Lib.hid hh'
        clear hh' hm74 hm76 hPe
        by_cases hgo : 4294967296 ≤ g ∨ m76 < P
        · have hnx := est_next hE.out HA31.out HT0.out HU0.out (by rcases hgo with q | q; exact .inl q; exact .inr (by have := HPE.out; have := H74.out; have := H76.out; omega))
          obtain ⟨n1, hE2, n3⟩ := hnx
          rw [HH'.out] at hE2
          have HE2 := Lib.hid hE2
          have HN3 := Lib.hid n3
          have g1 : (1 : Int) ≤ (g : Int) := by omega
          have e80 : IntKind.u64.wrap ((g : Int) - 1) = ((g - 1 : Nat) : Int) := by rw [wrapU_in _ (by omega) (by omega)]; omega
          obtain ⟨g', hg'⟩ : ∃ g', g - 1 = g' := ⟨_, rfl⟩
          rw [hg'] at e80 HE2 HN3
          have HG := Lib.hid (show g' + 1 = g by omega)
          clear hg' hE2 n1 n3
          have hbrk : (C ≤ (h' : Int) ∧ 4294967296 ≤ h') ∨ ((h' : Int) < C ∧ h' < 4294967296) := by rw [← HC.out]; omega
          have htst : C ≤ (g : Int) ∨ ((g : Int) < C ∧ (m76 : Int) < (P : Int)) := by rw [← HC.out]; omega
          clear hgo
          rcases htst with q | ⟨q, q'⟩
          all_goals
            rcases hbrk with ⟨k1, k2⟩ | ⟨k1, k2⟩
          all_goals
            have K2 := Lib.hid k2
            clear k2
          · go_wp2_with fail
            go_meet
            exact ⟨g', h', rfl, rfl, Lib.hid (est_break HE2.out HA31.out HB32.out HN3.out (by have := K2.out; omega)), rfl⟩
          · go_wp2_with fail
            go_round
            case rel => exact ⟨g', h', rfl, rfl, HE2, K2⟩
            case measure => have := HG.out; simp [intOf]; omega
          · go_wp2_with fail
            go_meet
            exact ⟨g', h', rfl, rfl, Lib.hid (est_break HE2.out HA31.out HB32.out HN3.out (by have := K2.out; omega)), rfl⟩
          · go_wp2_with fail
            go_round
            case rel => exact ⟨g', h', rfl, rfl, HE2, K2⟩
            case measure => have := HG.out; simp [intOf]; omega
        · have hst := Lib.hid (est_stop hE.out HA31.out (by have := HPE.out; have := H74.out; have := H76.out; omega))
          have q1 : (g : Int) < C := by rw [← HC.out]; omega
          have q2 : ¬ (m76 : Int) < (P : Int) := by omega
          clear hgo
          go_wp2_with fail
          go_meet
          exact ⟨g, h, rfl, rfl, hst, rfl⟩
    case rest =>
      obtain ⟨g, h, rfl, rfl, hg, rfl⟩ := hcut
      have hgq := hg.out.trans HQ0.out
      subst hgq
      clear hg
      go_wp2_with fail
      go_ret2
      exact ⟨rfl, rfl⟩
end Go.Proofs.YtadehobimlpmcaaDoor
