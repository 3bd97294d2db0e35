/- The walk of MoneyShares. -/
import Derived.Test.YtadehobimlpmcaaDoorStw
import Derived.Test.YtadehobimlpmcaaDoorRsp
import Derived.Test.YtadehobimlpmcaaDoorAwk
import Derived.Test.YtadehobimlpmcaaDoorOpen
namespace Go.Proofs.YtadehobimlpmcaaDoor
set_option linter.unusedVariables false
open Go.RowKit

set_option maxHeartbeats 1600000 in
theorem rsplit_bad (a : Int) (cur : ByteArray) (A : Option Addr) (c : Nat) (ws : List Int) (w : World) (hr : IsRow w A (cellsI ws)) (hl : ws.length ≤ 1000000) (hs : cur.size ≤ maxLen) (hbad : monE a cur ≠ 0 ∨ sumV1 ws = 0) :
    Calls Tryd.prog 14 #[.agg #[.int .i64 a, .string cur], .slice A ws.length c] w fun e w' => e = .returned (.tuple #[.slice none 0 0, .int .i64 (splE a cur)]) ∧ Below w.heap.size w w' := by
  have HM := Lib.hid (fun W => rmon_any a cur W hs)
  have HR := Lib.hid hr
  obtain ⟨me, hme⟩ : ∃ me, monE a cur = me := ⟨_, rfl⟩
  have HSE := Lib.hid (show splE a cur = if me = 0 then 4 else me by unfold splE; rw [hme])
  rw [hme] at HM hbad
  clear hr hme
  by_cases h0 : me = 0
  · have hz := Lib.hid (show sumV1 ws = 0 by rcases hbad with h | h; exact absurd h0 h; exact h)
    have he := Lib.hid (show splE a cur = 4 by rw [HSE.out, if_pos h0])
    have hzb : (me != 0) = false := by simp only [bne_eq_false_iff_eq]; exact h0
    clear hbad h0
    go_enter Tryd.func14, Tryd.ntmps14
    go_wp2_with fail
    refine (HM.out _).mono ?_
    rintro e w1 ⟨rfl, hb⟩
    have hb1 := ((Below.refl w.heap.size w).alloc (Nat.le_refl _) (.cells #[.int .i64 a, .string cur] 23)).trans (hb.mono (by simp))
    have HB := Lib.hid hb1
    clear hb hb1
    go_wp2_with fail
    refine (rwgt_any A c ws _ (HR.out.below HB.out) hl).mono ?_
    rintro e w2 ⟨rfl, rfl⟩
    rw [hz.out]
    go_wp2_with fail
    go_ret2
    exact ⟨by rw [he.out]; rfl, HB.out⟩
  · have he := Lib.hid (show splE a cur = me by rw [HSE.out, if_neg h0])
    have hzb : (me != 0) = true := bne_iff_ne.2 h0
    clear hbad h0
    go_enter Tryd.func14, Tryd.ntmps14
    go_wp2_with fail
    refine (HM.out _).mono ?_
    rintro e w1 ⟨rfl, hb⟩
    have hb1 := ((Below.refl w.heap.size w).alloc (Nat.le_refl _) (.cells #[.int .i64 a, .string cur] 23)).trans (hb.mono (by simp))
    have HB := Lib.hid hb1
    clear hb hb1
    go_wp2_with fail
    go_ret2
    exact ⟨by rw [he.out]; rfl, HB.out⟩
def ShPost (n : Nat) (E : Int) (f : Nat → Int) (cur : ByteArray) (w : World) (e : Ending) (w' : World) : Prop :=
  ∃ B cp, e = .returned (.tuple #[.slice B n cp, .int .i64 E]) ∧ RowM w' B n f cur ∧ Below w.heap.size w w'
theorem split_both (a : Int) (cur : ByteArray) (A : Option Addr) (c : Nat) (ws : List Int) (hl : ws.length ≤ 1000) (hs : cur.size ≤ maxLen) :
    ∃ n E f, n ≤ 1000000 ∧ (∀ W, IsRow W A (cellsI ws) → Calls Tryd.prog 13 #[.agg #[.int .i64 a, .string cur], .slice A ws.length c] W (ShPost n E f cur W)) ∧
      ∀ W, IsRow W A (cellsI ws) → Calls Tryd.prog 14 #[.agg #[.int .i64 a, .string cur], .slice A ws.length c] W (ShPost n E f cur W) := by
  by_cases hbad : monE a cur ≠ 0 ∨ sumV1 ws = 0
  · refine ⟨0, splE a cur, fun _ => 0, by omega, fun W hW => (split_bad a cur A c ws W hW (by omega) hs hbad).mono ?_, fun W hW => (rsplit_bad a cur A c ws W hW (by omega) hs hbad).mono ?_⟩
    · rintro e w' ⟨rfl, hb⟩
      exact ⟨none, 0, rfl, .inl rfl, hb⟩
    · rintro e w' ⟨rfl, hb⟩
      exact ⟨none, 0, rfl, .inl rfl, hb⟩
  · have hm : monE a cur = 0 := Decidable.byContradiction fun h => hbad (.inl h)
    have hz : sumV1 ws ≠ 0 := fun h => hbad (.inr h)
    have hok : allW ws = true := Decidable.byContradiction fun h => hz (by unfold sumV1; rw [if_neg h])
    have hpos : 0 < totW ws ws.length := by unfold sumV1 at hz; rw [if_pos hok] at hz; omega
    refine ⟨ws.length, 0, amtF a a.natAbs (totW ws ws.length) (natsOf ws), by omega, fun W hW => (split_ok a cur A c ws W hW hs hm hok hpos (sortOK_any (by omega))).mono ?_, fun W hW => (rsplit_ok a cur A c ws W hW hs hm hok hpos).mono ?_⟩
    · rintro e w' ⟨L, rfl, hrow, hL, hb⟩
      refine ⟨_, _, rfl, .inr ⟨L, 0, rfl, fun k hk => ?_⟩, hb⟩
      have h1 := hrow.cell (i := k * 2) (by omega)
      have h2 := hrow.cell (i := k * 2 + 1) (by omega)
      rw [if_pos (by omega), show k * 2 / 2 = k by omega] at h1
      rw [if_neg (by omega)] at h2
      rw [Nat.zero_add]
      exact ⟨h1, h2⟩
    · rintro e w' ⟨L, cp, rfl, hrow, hL, hb⟩
      refine ⟨_, _, rfl, .inr ⟨L, 0, rfl, fun k hk => ?_⟩, hb⟩
      rw [Nat.zero_add]
      exact hrow k hk
set_option maxRecDepth 100000 in
set_option maxHeartbeats 12800000 in
theorem moneyShares_walk (w : World) (hw : KW w) (_ : True) (x : Mny) (hx : (Lit.int .i64 x.a).wf = true ∧ x.s.size ≤ maxLen) (A : Option Addr) (c : Nat) (l : List Int)
    (hl : IsRow w A (l.map (.int .i64)) ∧ (∀ x ∈ l, (Lit.int .i64 x).wf = true) ∧ l.length ≤ c ∧ (A = none → c = 0) ∧ c ≤ maxLen) :
    Calls Tryd.prog 4 #[x.val, .slice A l.length c] w fun e w' => e = .returned (.bool true) ∧ Below w.heap.size w w' := by
  obtain ⟨hrow, hok, hlc, -, hcl⟩ := hl
  obtain ⟨a, s⟩ := x
  have hs : s.size ≤ maxLen := hx.2
  show Calls Tryd.prog 4 #[.agg #[.int .i64 a, .string s], .slice A l.length c] w _
  have HI := Lib.hid (fun W hW => awake_any W hW)
  have HW := Lib.hid hw
  unfold maxLen at hcl
  by_cases hbig : 100 < l.length
  · have hbig' : (100 : Int) < (l.length : Int) := by omega
    clear hrow hok hw hbig
    go_enter Tryd.func4, Tryd.ntmps4
    go_wp2_with fail
    refine (HI.out _ (HW.out.below ((Below.refl _ _).alloc (Nat.le_refl _) _))).mono ?_
    rintro e w1 ⟨rfl, hb⟩
    have HB := Lib.hid (((Below.refl w.heap.size w).alloc (Nat.le_refl _) _).trans (hb.mono (by simp)))
    clear hb
    go_wp2_with fail
    go_ret
    exact ⟨rfl, HB.out⟩
  · have hbig' : ¬ (100 : Int) < (l.length : Int) := by omega
    have HR := Lib.hid (show IsRow w A (cellsI l) from hrow)
    obtain ⟨n, E, f, hn, hA, hB⟩ := split_both a s A c l (by omega) hs
    unfold ShPost at hA hB
    have HA := Lib.hid hA
    have HB := Lib.hid hB
    have HS := Lib.hid (fun (B1 B2 : Option Addr) (c1 c2 : Nat) (W : World) (h1 : RowM W B1 n f s) (h2 : RowM W B2 n f s) => same_any B1 c1 B2 c2 n f s W h1 h2 hn)
    clear hrow hok hA hB hw hbig hn hx hs
    go_enter Tryd.func4, Tryd.ntmps4
    go_wp2_with fail
    refine (HA.out _ (HR.out.below ((Below.refl _ _).alloc (Nat.le_refl _) _))).mono ?_
    rintro e w1 ⟨B1, c1, rfl, hrow1, hb⟩
    obtain ⟨k, z0, hb1⟩ := box1 hb
    have BB := Lib.hid hb1
    have R1 := Lib.hid hrow1
    have a0 := cell_c k 0
    have a1 := cell_c k 1
    clear hb hb1 k hrow1
    go_wp2_with fail
    refine (HB.out _ (HR.out.below BB.out)).mono ?_
    rintro e w2 ⟨B2, c2, rfl, hrow2, hb⟩
    have BB2 := Lib.hid (BB.out.trans (hb.mono BB.out.size))
    have R2 := Lib.hid hrow2
    have R1' := Lib.hid (R1.out.below hb)
    clear hb a0 a1 hrow2
    go_wp2_with fail
    refine (HS.out _ _ _ _ _ R1'.out R2.out).mono ?_
    rintro e w3 ⟨rfl, hb⟩
    have BB3 := Lib.hid (BB2.out.trans (hb.mono BB2.out.size))
    clear hb
    go_wp2_with fail
    refine (HI.out _ (HW.out.below BB3.out)).mono ?_
    rintro e w4 ⟨rfl, hb⟩
    have BB4 := Lib.hid (BB3.out.trans (hb.mono BB3.out.size))
    clear hb
    go_wp2_with fail
    go_ret
    exact ⟨rfl, BB4.out⟩
end Go.Proofs.YtadehobimlpmcaaDoor
