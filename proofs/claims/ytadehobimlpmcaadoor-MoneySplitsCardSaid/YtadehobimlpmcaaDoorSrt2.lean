/- The walks of swapRange, rotate and symMerge. -/
import Derived.Test.YtadehobimlpmcaaDoorSrt
import Derived.Test.YtadehobimlpmcaaDoorSym
namespace Go.Proofs.YtadehobimlpmcaaDoor
set_option linter.unusedVariables false
open Go.RowKit Go.Sort

set_option maxHeartbeats 4000000 in
set_option maxRecDepth 1000000 in
theorem swr_any (blk cap a b n : Nat) (F : Value) (d : Array Nat) (w : World) (hH : Holds encI w blk 0 d) (h1 : a + n ≤ b) (h2 : b + n ≤ d.size) (hsz : d.size < 1000000) :
    Calls Tryd.prog 85 #[.slice (some ⟨blk, 0, none⟩) d.size cap, .int .i64 a, .int .i64 b, .int .i64 n, F] w fun e w' =>
      e = .returned (.tuple #[]) ∧ ∃ m, w' = (putRow encI w blk 0 (swR a b n d)).drewN m := by
  have HST := Lib.hid (putRow_self encI w blk 0 d hH).symm
  have HH := Lib.hid hH
  clear hH
  go_enter Tryd.func85, Tryd.ntmps85
  go_wp2_with fail
  go_loopg [10] n (fun g vi wr => ∃ i m : Nat, vi = .int .i64 i ∧ i ≤ n ∧ n - i ≤ g ∧ wr = (putRow encI w blk 0 (swR a b i d)).drewN m)
  case atStart => exact ⟨0, 0, rfl, Nat.zero_le _, by omega, HST.out⟩
  case round =>
    obtain ⟨i, m, rfl, hi, hg, rfl⟩ := hrel
    by_cases hlt : i < n
    · have hltz : (i : Int) < (n : Int) := by omega
      have hHj := holds_putRow encI w blk 0 d (swR a b i d) HH.out (swR_size a b d i)
      rw [← swR_size a b d i] at h2 hsz
      have HZ := Lib.hid (swR_size a b d i)
      obtain ⟨dj, hdj⟩ : ∃ dj, swR a b i d = dj := ⟨_, rfl⟩
      rw [hdj] at hHj h2 hsz HZ ⊢
      have HD := Lib.hid hdj
      clear hdj
      rw [← HZ.out]
      obtain ⟨p, hp⟩ : ∃ p, a + i = p := ⟨_, rfl⟩
      obtain ⟨q, hq⟩ : ∃ q, b + i = q := ⟨_, rfl⟩
      obtain ⟨x, hx⟩ : ∃ x, dj[p]! = x := ⟨_, rfl⟩
      obtain ⟨y, hy⟩ : ∃ y, dj[q]! = y := ⟨_, rfl⟩
      obtain ⟨cp, fp⟩ := hHj p (by omega)
      obtain ⟨cq, fq⟩ := hHj q (by omega)
      rw [Nat.zero_add] at cp fp cq fq
      rw [hx] at cp
      rw [hy] at cq
      have hpi : (a : Int) + (i : Int) = (p : Int) := by omega
      have hqi : (b : Int) + (i : Int) = (q : Int) := by omega
      have wpi : IntKind.i64.wrap (p : Int) = (p : Int) := IntWalk.i64_in _ (by omega)
      have wqi : IntKind.i64.wrap (q : Int) = (q : Int) := IntWalk.i64_in _ (by omega)
      have p0 : (0 : Int) ≤ (p : Int) := by omega
      have q0 : (0 : Int) ≤ (q : Int) := by omega
      have p1 : (p : Int) < (dj.size : Int) := by omega
      have q1 : (q : Int) < (dj.size : Int) := by omega
      have cp' : ((putRow encI w blk 0 dj).drewN m).cell? ⟨blk, p, none⟩ = some (.int .i64 x) := cp
      have cq' : ((putRow encI w blk 0 dj).drewN m).cell? ⟨blk, q, none⟩ = some (.int .i64 y) := cq
      have fp' : ((putRow encI w blk 0 dj).drewN m).frozen? ⟨blk, p, none⟩ = false := fp
      have fq' : ((putRow encI w blk 0 dj).drewN m).frozen? ⟨blk, q, none⟩ = false := fq
      have HP := Lib.hid hp
      have HQ := Lib.hid hq
      have HX := Lib.hid hx
      have HY := Lib.hid hy
      have HB := Lib.hid (And.intro h1 h2)
      clear hHj cp fp cq fq hp hq hx hy
      generalize hwq : (putRow encI w blk 0 dj).drewN m = wq at cp' cq' fp' fq' ⊢
      have HWQ := Lib.hid hwq
      clear hwq
      go_wp2_with fail
      go_region
      all_goals go_wp2_with fail
      rw [HZ.out]
      go_roundg (n - (i + 1))
      case measure => omega
      case rel =>
        refine ⟨i + 1, m + 1, by go_num, by omega, Nat.le_refl _, ?_⟩
        rw [← HWQ.out, ← HX.out, ← HY.out, swR, HD.out, HP.out, HQ.out]
        have h1 := HB.out.1
        have h2 := HB.out.2
        have hp := HP.out
        have hq := HQ.out
        have := swap_worldC encI w blk 0 dj m p q (by omega) (by omega)
        rw [Nat.zero_add, Nat.zero_add] at this
        exact this
    · have hltz : ¬ (i : Int) < (n : Int) := by omega
      have : i = n := by omega
      subst this
      go_wp2_with fail
      go_end0
      exact ⟨rfl, m, rfl⟩
theorem holds_mix {blk m : Nat} {d d' : Array Nat} {w : World} (hH : Holds encI w blk 0 d) (h : d'.size = d.size) : Holds encI ((putRow encI w blk 0 d').drewN m) blk 0 d' := by
  intro j hj
  have := holds_putRow encI w blk 0 d d' hH h j hj
  exact this
theorem put_mix (w : World) (blk m q : Nat) (d d' : Array Nat) (h : d'.size = d.size) : (putRow encI ((putRow encI w blk 0 d).drewN m) blk 0 d').drewN q = (putRow encI w blk 0 d').drewN (m + q) := by
  rw [← World.drewN_drewN]
  show ((putRow encI (putRow encI w blk 0 d) blk 0 d').drewN m).drewN q = _
  rw [putRow_putRow encI w blk 0 d d' h]
/-- swapRange behind other turns of the row. -/
theorem swr_at (blk cap a b n m : Nat) (F : Value) (d d0 : Array Nat) (w : World) (hH : Holds encI w blk 0 d0) (hs : d.size = d0.size) (h1 : a + n ≤ b) (h2 : b + n ≤ d.size) (hsz : d.size < 1000000) :
    Calls Tryd.prog 85 #[.slice (some ⟨blk, 0, none⟩) d.size cap, .int .i64 a, .int .i64 b, .int .i64 n, F] ((putRow encI w blk 0 d).drewN m) fun e w' =>
      e = .returned (.tuple #[]) ∧ ∃ q, w' = (putRow encI w blk 0 (swR a b n d)).drewN q := by
  refine (swr_any blk cap a b n F d _ (holds_mix hH hs) h1 h2 hsz).mono ?_
  rintro e w' ⟨rfl, q, rfl⟩
  exact ⟨rfl, m + q, put_mix w blk m q d _ (swR_size a b d n)⟩
set_option maxHeartbeats 4000000 in
set_option maxRecDepth 1000000 in
theorem rot_any (blk cap a m b : Nat) (F : Value) (d : Array Nat) (w : World) (hH : Holds encI w blk 0 d) (h1 : a < m) (h2 : m < b) (h3 : b ≤ d.size) (hsz : d.size < 1000000) :
    Calls Tryd.prog 78 #[.slice (some ⟨blk, 0, none⟩) d.size cap, .int .i64 a, .int .i64 m, .int .i64 b, F] w fun e w' =>
      e = .returned (.tuple #[]) ∧ ∃ q d', Rot d d' a m b ∧ w' = (putRow encI w blk 0 d').drewN q := by
  have HST := Lib.hid (putRow_self encI w blk 0 d hH).symm
  have HH := Lib.hid hH
  clear hH
  have w1 : IntKind.i64.wrap ((m : Int) - (a : Int)) = ((m - a : Nat) : Int) := by rw [IntWalk.i64_in _ (by omega)]; omega
  have w2 : IntKind.i64.wrap ((b : Int) - (m : Int)) = ((b - m : Nat) : Int) := by rw [IntWalk.i64_in _ (by omega)]; omega
  go_enter Tryd.func78, Tryd.ntmps78
  go_wp2_with fail
  go_loopg [10, 11] (b - a) (fun g vi vj wr => ∃ (i j q : Nat) (dk : Array Nat), vi = .int .i64 i ∧ vj = .int .i64 j ∧ i + j ≤ g ∧ Hid (RotS d a m b dk i j) ∧ wr = (putRow encI w blk 0 dk).drewN q)
  case atStart => exact ⟨m - a, b - m, 0, d, rfl, rfl, by omega, Lib.hid (RotS.start d h1 h2), HST.out⟩
  case round =>
    obtain ⟨i, j, q, dk, rfl, rfl, hg, HR, rfl⟩ := hrel
    have i0 := HR.out.i0
    have j0 := HR.out.j0
    have im := HR.out.im
    have jm := HR.out.jm
    have hdk := HR.out.perm.1
    have e1 : IntKind.i64.wrap ((m : Int) - (i : Int)) = ((m - i : Nat) : Int) := by rw [IntWalk.i64_in _ (by omega)]; omega
    by_cases hij : i = j
    · subst hij
      have hc := swr_at blk cap (m - i) m i q F dk d w HH.out hdk (by omega) (by omega) (by omega)
      rw [hdk] at hc
      have HC := Lib.hid hc
      have HE := Lib.hid (HR.out.eq (by omega) (by omega) h3)
      clear hc
      have hb : ((i : Int) != (i : Int)) = false := by simp
      go_wp2_with fail
      refine HC.out.mono ?_
      rintro e w1 ⟨rfl, q', rfl⟩
      go_wp2_with fail
      go_end0
      exact ⟨rfl, q', _, HE.out, rfl⟩
    · have hb : ((i : Int) != (j : Int)) = true := by simp; omega
      by_cases hgt : j < i
      · have hgz : (j : Int) < (i : Int) := by omega
        have hc := swr_at blk cap (m - i) m j q F dk d w HH.out hdk (by omega) (by omega) (by omega)
        rw [hdk] at hc
        have HC := Lib.hid hc
        have HE := Lib.hid (HR.out.gt (by omega) (by omega) h3 hgt)
        have e2 : IntKind.i64.wrap ((i : Int) - (j : Int)) = ((i - j : Nat) : Int) := by rw [IntWalk.i64_in _ (by omega)]; omega
        clear hc
        go_wp2_with fail
        refine HC.out.mono ?_
        rintro e w1 ⟨rfl, q', rfl⟩
        go_wp2_with fail
        go_roundg (i - j + j)
        case measure => omega
        case rel => exact ⟨i - j, j, q', _, rfl, rfl, Nat.le_refl _, HE, rfl⟩
      · have hgz : ¬ (j : Int) < (i : Int) := by omega
        have hc := swr_at blk cap (m - i) (m + j - i) i q F dk d w HH.out hdk (by omega) (by omega) (by omega)
        rw [hdk] at hc
        have HC := Lib.hid hc
        have HE := Lib.hid (HR.out.lt (by omega) (by omega) h3 (by omega))
        have e2 : IntKind.i64.wrap ((j : Int) - (i : Int)) = ((j - i : Nat) : Int) := by rw [IntWalk.i64_in _ (by omega)]; omega
        have e3 : IntKind.i64.wrap ((m : Int) + (j : Int)) = (m : Int) + (j : Int) := IntWalk.i64_in _ (by omega)
        have e4 : IntKind.i64.wrap ((m : Int) + (j : Int) - (i : Int)) = ((m + j - i : Nat) : Int) := by rw [IntWalk.i64_in _ (by omega)]; omega
        clear hc
        go_wp2_with fail
        with_reducible refine HC.out.mono ?_
        rintro e w1 ⟨rfl, q', rfl⟩
        go_wp2_with fail
        go_roundg (i + (j - i))
        case measure => omega
        case rel => exact ⟨i, j - i, q', _, rfl, rfl, Nat.le_refl _, HE, rfl⟩
end Go.Proofs.YtadehobimlpmcaaDoor
