/- swapRange and rotate over rows of ranges. -/
import Derived.Test.YtiegoffdbhmfbaaGreatDoorSo1
import Derived.Test.YtiegoffdbhmfbaaGreatDoorSym
namespace Go.Proofs.YtiegoffdbhmfbaaGreatDoor
set_option linter.unusedVariables false
open Go.RowKit Go.Sort

set_option maxHeartbeats 4000000 in
set_option maxRecDepth 1000000 in
theorem swr_any (f : Nat → Rg) (blk cap a b n : Nat) (F : Value) (d : Array Nat) (w0 w : World) (hH : RowS f blk w0 d w) (h1 : a + n ≤ b) (h2 : b + n ≤ d.size) (hsz : d.size < 1000000) :
    Calls Tryz.prog 82 #[.slice (some ⟨blk, 0, none⟩) d.size cap, .int .i64 a, .int .i64 b, .int .i64 n, F] w (InsPost f blk w0 (swR a b n d)) := by
  have HH : Hid (RowS f blk w0 (swR a b 0 d) w) := Lib.hid hH
  unfold InsPost
  clear hH
  go_enter Tryz.func82, Tryz.ntmps82
  go_wp2_with fail
  go_loopg [10] n (fun g vi wr => ∃ i : Nat, vi = .int .i64 i ∧ i ≤ n ∧ n - i ≤ g ∧ Hid (RowS f blk w0 (swR a b i d) wr))
  case atStart => exact ⟨0, rfl, Nat.zero_le _, by omega, HH⟩
  case round =>
    obtain ⟨i, rfl, hi, hg, HR⟩ := hrel
    by_cases hlt : i < n
    · have hltz : (i : Int) < (n : Int) := by omega
      rw [← swR_size a b d i] at h2 hsz
      have HZ := Lib.hid (swR_size a b d i)
      have HNX : Hid (swR a b (i + 1) d = swp (swR a b i d) (a + i) (b + i)) := Lib.hid rfl
      obtain ⟨dj, hdj⟩ : ∃ dj, swR a b i d = dj := ⟨_, rfl⟩
      rw [hdj] at HR h2 hsz HZ HNX
      clear hdj
      rw [← HZ.out]
      obtain ⟨p, hp⟩ : ∃ p, a + i = p := ⟨_, rfl⟩
      obtain ⟨q, hq⟩ : ∃ q, b + i = q := ⟨_, rfl⟩
      rw [hp, hq] at HNX
      have HSW := Lib.hid (HR.out.swap p q (by omega) (by omega) _ _ rfl rfl)
      obtain ⟨c0, c1, c2, c3⟩ := HR.out.cells p (by omega)
      obtain ⟨e0, e1, e2, e3⟩ := HR.out.cells q (by omega)
      have f0 := HR.out.free (p * 4)
      have f1 := HR.out.free (p * 4 + 1)
      have f2 := HR.out.free (p * 4 + 2)
      have f3 := HR.out.free (p * 4 + 3)
      have g0 := HR.out.free (q * 4)
      have g1 := HR.out.free (q * 4 + 1)
      have g2 := HR.out.free (q * 4 + 2)
      have g3 := HR.out.free (q * 4 + 3)
      have hbq := HR.out.lt
      rw [← HNX.out] at HSW
      generalize f dj[p]! = fx at *
      generalize f dj[q]! = fy at *
      obtain ⟨xl, xh, xi, xp⟩ := fx
      obtain ⟨yl, yh, yi, yp⟩ := fy
      simp only at c0 c1 c2 c3 e0 e1 e2 e3 HSW
      have hpi : (a : Int) + (i : Int) = (p : Int) := by omega
      have hqi : (b : Int) + (i : Int) = (q : Int) := by omega
      have wpi : IntKind.i64.wrap (p : Int) = (p : Int) := IntWalk.i64_in _ (by omega)
      have wqi : IntKind.i64.wrap (q : Int) = (q : Int) := IntWalk.i64_in _ (by omega)
      have p0 : (0 : Int) ≤ (p : Int) := by omega
      have q0 : (0 : Int) ≤ (q : Int) := by omega
      have p1 : (p : Int) < (dj.size : Int) := by omega
      have q1 : (q : Int) < (dj.size : Int) := by omega
      have HP := Lib.hid (show i + 1 ≤ n ∧ n - (i + 1) < gk by omega)
      clear hp hq HR HNX hg hi hlt
      go_wp2_with fail
      go_region
      all_goals go_wp2_with fail
      rw [HZ.out]
      go_roundg (n - (i + 1))
      case measure => exact HP.out.2
      case rel => exact ⟨i + 1, by go_num, HP.out.1, Nat.le_refl _, HSW⟩
    · have hltz : ¬ (i : Int) < (n : Int) := by omega
      have : i = n := by omega
      subst this
      go_wp2_with fail
      go_end0
      exact ⟨rfl, HR.out⟩
def RotPost (f : Nat → Rg) (blk : Nat) (w0 : World) (d : Array Nat) (a m b : Nat) (e : Ending) (w' : World) : Prop := e = .returned (.tuple #[]) ∧ ∃ d', Rot d d' a m b ∧ RowS f blk w0 d' w'
set_option maxHeartbeats 4000000 in
set_option maxRecDepth 1000000 in
theorem rot_any (f : Nat → Rg) (blk cap a m b : Nat) (F : Value) (d : Array Nat) (w0 w : World) (hH : RowS f blk w0 d w) (h1 : a < m) (h2 : m < b) (h3 : b ≤ d.size) (hsz : d.size < 1000000) :
    Calls Tryz.prog 72 #[.slice (some ⟨blk, 0, none⟩) d.size cap, .int .i64 a, .int .i64 m, .int .i64 b, F] w (RotPost f blk w0 d a m b) := by
  have HH := Lib.hid hH
  unfold RotPost
  clear hH
  have w1 : IntKind.i64.wrap ((m : Int) - (a : Int)) = ((m - a : Nat) : Int) := by rw [IntWalk.i64_in _ (by omega)]; omega
  have w2 : IntKind.i64.wrap ((b : Int) - (m : Int)) = ((b - m : Nat) : Int) := by rw [IntWalk.i64_in _ (by omega)]; omega
  go_enter Tryz.func72, Tryz.ntmps72
  go_wp2_with fail
  go_loopg [10, 11] (b - a) (fun g vi vj wr => ∃ (i j : Nat) (dk : Array Nat), vi = .int .i64 i ∧ vj = .int .i64 j ∧ i + j ≤ g ∧ Hid (RotS d a m b dk i j) ∧ Hid (RowS f blk w0 dk wr))
  case atStart => exact ⟨m - a, b - m, d, rfl, rfl, by omega, Lib.hid (RotS.start d h1 h2), HH⟩
  case round =>
    obtain ⟨i, j, dk, rfl, rfl, hg, HR, HS⟩ := hrel
    have i0 := HR.out.i0
    have j0 := HR.out.j0
    have im := HR.out.im
    have jm := HR.out.jm
    have hdk := HR.out.perm.1
    have e1 : IntKind.i64.wrap ((m : Int) - (i : Int)) = ((m - i : Nat) : Int) := by rw [IntWalk.i64_in _ (by omega)]; omega
    by_cases hij : i = j
    · subst hij
      have hc := swr_any f blk cap (m - i) m i F dk w0 _ HS.out (by omega) (by omega) (by omega)
      rw [hdk] at hc
      have HC := Lib.hid hc
      have HE := Lib.hid (HR.out.eq (by omega) (by omega) h3)
      clear hc
      have hb : ((i : Int) != (i : Int)) = false := by simp
      go_wp2_with fail
      refine HC.out.mono ?_
      rintro e w1 ⟨rfl, HS2⟩
      go_wp2_with fail
      go_end0
      exact ⟨rfl, _, HE.out, HS2⟩
    · have hb : ((i : Int) != (j : Int)) = true := by simp; omega
      by_cases hgt : j < i
      · have hgz : (j : Int) < (i : Int) := by omega
        have hc := swr_any f blk cap (m - i) m j F dk w0 _ HS.out (by omega) (by omega) (by omega)
        rw [hdk] at hc
        have HC := Lib.hid hc
        have HE := Lib.hid (HR.out.gt (by omega) (by omega) h3 hgt)
        have e2 : IntKind.i64.wrap ((i : Int) - (j : Int)) = ((i - j : Nat) : Int) := by rw [IntWalk.i64_in _ (by omega)]; omega
        clear hc
        go_wp2_with fail
        refine HC.out.mono ?_
        rintro e w1 ⟨rfl, hs2⟩
        have HS2 := Lib.hid hs2
        clear hs2
        go_wp2_with fail
        go_roundg (i - j + j)
        case measure => omega
        case rel => exact ⟨i - j, j, _, rfl, rfl, Nat.le_refl _, HE, HS2⟩
      · have hgz : ¬ (j : Int) < (i : Int) := by omega
        have hc := swr_any f blk cap (m - i) (m + j - i) i F dk w0 _ HS.out (by omega) (by omega) (by omega)
        rw [hdk] at hc
        have HC := Lib.hid hc
        have HE := Lib.hid (HR.out.lt (by omega) (by omega) h3 (by omega))
        have e2 : IntKind.i64.wrap ((j : Int) - (i : Int)) = ((j - i : Nat) : Int) := by rw [IntWalk.i64_in _ (by omega)]; omega
        have e3 : IntKind.i64.wrap ((m : Int) + (j : Int)) = (m : Int) + (j : Int) := IntWalk.i64_in _ (by omega)
        have e4 : IntKind.i64.wrap ((m : Int) + (j : Int) - (i : Int)) = ((m + j - i : Nat) : Int) := by rw [IntWalk.i64_in _ (by omega)]; omega
        clear hc
        go_wp2_with fail
        with_reducible refine HC.out.mono ?_
        rintro e w1 ⟨rfl, hs2⟩
        have HS2 := Lib.hid hs2
        clear hs2
        go_wp2_with fail
        go_roundg (i + (j - i))
        case measure => omega
        case rel => exact ⟨i, j - i, _, rfl, rfl, Nat.le_refl _, HE, HS2⟩
end Go.Proofs.YtiegoffdbhmfbaaGreatDoor
