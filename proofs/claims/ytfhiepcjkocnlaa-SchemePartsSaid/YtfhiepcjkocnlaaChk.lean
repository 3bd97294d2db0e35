/- The walks of Check, the program's and the reference's. -/
import Derived.Test.YtfhiepcjkocnlaaPlain
import Derived.StillTailTactics
import Derived.Deep.QuietTactic
import Derived.BigQuiet
namespace Go.Proofs.Ytfhiepcjkocnlaa
set_option linter.unusedVariables false
open Go.RowKit

theorem below_drewN (w : World) (k : Nat) : Below w.heap.size w (w.drewN k) := ⟨rfl, rfl, rfl, Nat.le_refl _, fun _ _ => rfl⟩
theorem dNb {B : Nat} {a w : World} (h : Below B a w) (k : Nat) : Below B a (w.drewN k) := h.trans ⟨rfl, rfl, rfl, Nat.le_refl _, fun _ _ => rfl⟩
set_option maxHeartbeats 1600000 in
theorem check_any (A : Option Addr) (c : Nat) (l : List Tr) (w : World) (hr : IsRow w A (cellsT l)) (hl : l.length ≤ 1000000) :
    Calls Try.prog 16 #[.slice A l.length c] w fun e w' => e = .returned (.int .i64 (chkE l)) ∧ Below w.heap.size w w' := by
  by_cases hz : l.length = 0
  · have he := Lib.hid (chkE_0 hz)
    have hzb : ((l.length : Int) == 0) = true := beq_iff_eq.2 (by omega)
    clear hr
    go_enter Try.func16, Try.ntmps16
    go_wp2_with fail
    go_ret
    exact ⟨by rw [he.out]; rfl, Below.refl _ _⟩
  have hzb : ((l.length : Int) == 0) = false := beq_eq_false_iff_ne.2 (by omega)
  by_cases h64 : 64 < l.length
  · have he := Lib.hid (chkE_64 h64)
    clear hr
    go_enter Try.func16, Try.ntmps16
    go_wp2_with fail
    go_ret
    exact ⟨by rw [he.out]; rfl, Below.refl _ _⟩
  have HR := Lib.hid hr
  rcases hr with h0 | ⟨b, off, rfl, hc⟩
  · rw [cellsT_length] at h0; omega
  have H4 := Lib.hid (fun i hi h => chkE_no hz h64 i hi h)
  have HOK := Lib.hid (fun h => chkE_ok hz h64 h)
  have hpos : 0 < l.length := by omega
  clear hz
  have hc0 := (row_tier hc 0 hpos).1
  rw [Nat.zero_mul, Nat.add_zero] at hc0
  obtain ⟨f0, hf0⟩ : ∃ f0, (l.getD 0 default).f = f0 := ⟨_, rfl⟩
  rw [← getD_at l 0 hpos, hf0] at hc0
  have HF0 := Lib.hid hf0
  clear hc hf0
  by_cases hf : f0 = 1
  · have hfb : (f0 != 1) = false := by simp only [bne_eq_false_iff_eq]; exact hf
    have HF := Lib.hid (HF0.out.trans hf)
    clear hf
    go_enter Try.func16, Try.ntmps16
    go_wp2_with fail
    clear hc0 hfb hzb
    go_loopw [18] (fun i wr => ∃ k : Nat, k ≤ l.length ∧ i = .int .i64 k ∧ Hid (∀ j, j < k → goodT l j) ∧ Hid (Below w.heap.size w wr)) (fun i _ => l.length - (intOf i).toNat)
    case atStart => exact ⟨0, Nat.zero_le _, rfl, Lib.hid (fun j h => by omega), Lib.hid (Below.refl _ _)⟩
    case round =>
      obtain ⟨k, hk, rfl, hall, hb⟩ := hrel
      by_cases hlt : k < l.length
      · rcases HR.out.below hb.out with h0 | ⟨b', off', ha, hc⟩
        · rw [cellsT_length] at h0; omega
        injection ha with ha
        injection ha with hb1 hb2 _
        subst hb1 hb2
        obtain ⟨c0, c1⟩ := row_tier hc k hlt
        obtain ⟨fk, hfk⟩ : ∃ fk, (l.getD k default).f = fk := ⟨_, rfl⟩
        obtain ⟨pk, hpk⟩ : ∃ pk, (l.getD k default).p = pk := ⟨_, rfl⟩
        obtain ⟨fp, hfp⟩ : ∃ fp, (l.getD (k - 1) default).f = fp := ⟨_, rfl⟩
        rw [← getD_at l k hlt, hfk] at c0
        rw [← getD_at l k hlt, hpk] at c1
        have hcp := (row_tier hc (k - 1) (by omega)).1
        rw [← getD_at l (k - 1) (by omega), hfp] at hcp
        have hgood := Lib.hid (show goodT l k ↔ ((k = 0 → fk = 1) ∧ (0 < k → fp < fk) ∧ 0 ≤ pk ∧ pk ≤ 1000000000) by unfold goodT; rw [hfk, hpk, hfp]; exact ⟨fun h => ⟨fun e => by have := h.1 e; rw [← hfk, e]; exact this, h.2⟩, fun h => ⟨fun e => by have := h.1 e; rw [← hfk, e] at this; exact this, h.2⟩⟩)
        have hf1 := Lib.hid (fun e : k = 0 => show fk = 1 by rw [← hfk, e]; exact HF.out)
        have hnx := Lib.hid (fun hg : goodT l k => show ∀ j, j < k + 1 → goodT l j from fun j hj => by
          rcases Nat.lt_or_ge j k with q | q
          · exact hall.out j q
          · obtain rfl : j = k := by omega
            exact hg)
        have hbad := Lib.hid (H4.out k hlt)
        have hlb := World.block_lt_of_cell? wr _ c0
        clear hc hfk hpk hfp
        go_wp2_with fail
        generalize hW : wr.alloc (Obj.cells #[Value.int IntKind.i64 fk, Value.int IntKind.i64 pk] 51) = W
        have x0 : W.cell? ⟨wr.heap.size, 0, none⟩ = some (.int .i64 fk) := by rw [← hW]; simp
        have x1 : W.cell? ⟨wr.heap.size, 1, none⟩ = some (.int .i64 pk) := by rw [← hW]; simp
        have xp : W.cell? ⟨b, off + (k - 1) * 2, none⟩ = some (.int .i64 fp) := by rw [← hW, World.cell?_alloc_old _ _ _ (Nat.ne_of_lt hlb)]; exact hcp
        have HBW : Hid (Below w.heap.size w W) := Lib.hid (by rw [← hW]; exact hb.out.alloc hb.out.size _)
        clear hW c0 c1 hcp
        by_cases hbf : 0 < k ∧ fk ≤ fp
        · obtain ⟨hk0, hle⟩ := hbf
          have he := Lib.hid (hbad.out (fun hg => by have := (hgood.out.1 hg).2.1 hk0; omega))
          go_quiet (fail)
          go_wp2_with fail
          go_ret
          exact ⟨by rw [he.out]; rfl, dNb HBW.out _⟩
        · by_cases hpr : 0 ≤ pk ∧ pk ≤ 1000000000
          · obtain ⟨p0, p1⟩ := hpr
            have hN := Lib.hid (hnx.out (hgood.out.2 ⟨hf1.out, fun h => by omega, p0, p1⟩))
            rcases Nat.eq_zero_or_pos k with hk0 | hk0
            · have hkn : ¬ 0 < (k : Int) := by omega
              clear hbf
              go_quiet (fail)
              go_wp2_with fail
              go_roundw
              case rel => exact ⟨1, by omega, rfl, Lib.hid (fun j hj => hN.out j (by omega)), Lib.hid (dNb HBW.out _)⟩
              case measure => simp [intOf]; omega
            · have hlt2 : fp < fk := by omega
              clear hbf
              go_quiet (fail)
              go_wp2_with fail
              go_roundw
              case rel => exact ⟨k + 1, by omega, by go_num, hN, Lib.hid (dNb HBW.out _)⟩
              case measure => simp [intOf]; omega
          · have he := Lib.hid (hbad.out (fun hg => by have := (hgood.out.1 hg).2.2; omega))
            have hpp : pk < 0 ∨ (0 ≤ pk ∧ 1000000000 < pk) := by omega
            clear hpr
            rcases Nat.eq_zero_or_pos k with hk0 | hk0
            · have hkn : ¬ 0 < (k : Int) := by omega
              clear hbf
              go_quiet (fail)
              rcases hpp with hpp | ⟨hpp, hpq⟩
              all_goals
                go_wp2_with fail
                go_ret
                exact ⟨by rw [he.out]; rfl, dNb HBW.out _⟩
            · have hlt2 : fp < fk := by omega
              clear hbf
              go_quiet (fail)
              rcases hpp with hpp | ⟨hpp, hpq⟩
              all_goals
                go_wp2_with fail
                go_ret
                exact ⟨by rw [he.out]; rfl, dNb HBW.out _⟩
      · obtain rfl : k = l.length := by omega
        have he := Lib.hid (HOK.out (fun i hi => hall.out i hi))
        go_wp2_with fail
        go_ret
        exact ⟨by rw [he.out]; rfl, hb.out⟩
  · have hfb : (f0 != 1) = true := bne_iff_ne.2 hf
    have he := Lib.hid (H4.out 0 hpos (fun h => hf (by rw [← HF0.out]; exact h.1 rfl)))
    clear hf
    go_enter Try.func16, Try.ntmps16
    go_wp2_with fail
    go_ret
    exact ⟨by rw [he.out]; rfl, Below.refl _ _⟩
end Go.Proofs.Ytfhiepcjkocnlaa
