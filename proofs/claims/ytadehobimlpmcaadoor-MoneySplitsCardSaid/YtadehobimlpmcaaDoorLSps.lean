/- The walk of MoneySplits. -/
import Derived.Test.YtadehobimlpmcaaDoorLShr
import Derived.Test.YtadehobimlpmcaaDoorLSpf
namespace Go.Proofs.YtadehobimlpmcaaDoor
set_option linter.unusedVariables false
open Go.RowKit

theorem monE_usd {a : Int} (h : -1099511627776 ≤ a ∧ a ≤ 1099511627776) : monE a usdS = 0 := by
  unfold monE inT
  rw [decide_eq_true (by omega), decide_eq_true (by omega), show curB usdS = true by decide +kernel]
  rfl
def SpPost (n : Nat) (f : Nat → Int) (cur : ByteArray) (w : World) (e : Ending) (w' : World) : Prop :=
  ∃ B cp, e = .returned (.tuple #[.slice B n cp, .int .i64 0]) ∧ RowM w' B n f cur ∧ Below w.heap.size w w'
theorem split_row (a : Int) (cur : ByteArray) (A : Option Addr) (c : Nat) (ws : List Int) (w : World) (hr : IsRow w A (cellsI ws)) (hs : cur.size ≤ maxLen) (hm : monE a cur = 0) (hok : allW ws = true) (hpos : 0 < totW ws ws.length) (hl : ws.length ≤ 64) :
    Calls Tryd.prog 13 #[.agg #[.int .i64 a, .string cur], .slice A ws.length c] w (SpPost ws.length (amtF a a.natAbs (totW ws ws.length) (natsOf ws)) cur w) := by
  refine (split_ok a cur A c ws w hr hs hm hok hpos (sortOK_any (by omega))).mono ?_
  rintro e w' ⟨L, rfl, hrow, hL, hb⟩
  refine ⟨_, _, rfl, .inr ⟨L, 0, rfl, fun k hk => ?_⟩, hb⟩
  have h1 := hrow.cell (i := k * 2) (by omega)
  have h2 := hrow.cell (i := k * 2 + 1) (by omega)
  rw [if_pos (by omega), show k * 2 / 2 = k by omega] at h1
  rw [if_neg (by omega)] at h2
  rw [Nat.zero_add]
  exact ⟨h1, h2⟩
set_option maxRecDepth 100000 in
set_option maxHeartbeats 12800000 in
theorem moneySplits_walk (w : World) (hw : KW w) (_ : True) (a : Int) (A : Option Addr) (c : Nat) (l : List Int)
    (hl : IsRow w A (l.map (.int .i64)) ∧ (∀ x ∈ l, (Lit.int .i64 x).wf = true) ∧ l.length ≤ c ∧ (A = none → c = 0) ∧ c ≤ maxLen) :
    Calls Tryd.prog 5 #[.int .i64 a, .slice A l.length c] w fun e w' => e = .returned (.bool true) ∧ Below w.heap.size w w' := by
  obtain ⟨hrow, hok, hlc, -, hcl⟩ := hl
  have HI := Lib.hid (fun W hW => awake_any W hW)
  have HW := Lib.hid hw
  have HR := Lib.hid (show IsRow w A (cellsI l) from hrow)
  unfold maxLen at hcl
  clear hok hlc hrow hw
  by_cases hbig : 64 < l.length ∨ 1099511627776 < a ∨ a < -1099511627776
  · have hc : 64 < (l.length : Int) ∨ (¬ 64 < (l.length : Int) ∧ 1099511627776 < a) ∨ (¬ 64 < (l.length : Int) ∧ ¬ 1099511627776 < a ∧ a < -1099511627776) := by omega
    clear hbig
    rcases hc with q | ⟨q1, q2⟩ | ⟨q1, q2, q3⟩
    all_goals
      go_enter Tryd.func5, Tryd.ntmps5
      go_wp2_with fail
      refine (HI.out _ HW.out).mono ?_
      rintro e w1 ⟨rfl, hb⟩
      have HB := Lib.hid hb
      clear hb
      go_wp2_with fail
      go_ret
      exact ⟨rfl, HB.out⟩
  · have q1 : ¬ 64 < (l.length : Int) := by omega
    have q2 : ¬ 1099511627776 < a := by omega
    have q3 : ¬ a < -1099511627776 := by omega
    have hl64 : l.length ≤ 64 := by omega
    clear hbig
    go_enter Tryd.func5, Tryd.ntmps5
    go_wp2_with fail
    go_loop [5, 6] (fun s i => ∃ k : Nat, k ≤ l.length ∧ i = .int .i64 k ∧ s = .int .i64 (totW l k) ∧ totW l k ≤ 1000 * k ∧ Hid (∀ j, j < k → 0 ≤ l.getD j 0 ∧ l.getD j 0 ≤ 1000)) (fun _ i => l.length - (intOf i).toNat)
    case atStart => exact ⟨0, Nat.zero_le _, rfl, rfl, by simp [totW, sumTo], Lib.hid (fun j h => by omega)⟩
    case round =>
      obtain ⟨k, hk, rfl, rfl, htk, hall⟩ := hrel
      by_cases hlt : k < l.length
      · have hrow := HR.out
        rcases hrow with h0 | ⟨b, off, rfl, hc⟩
        · rw [show (cellsI l).length = l.length by simp [cellsI]] at h0; omega
        have c0 := row_int hc k hlt
        have hst := Lib.hid (show totW l (k + 1) = totW l k + (l.getD k 0).toNat by unfold totW; rw [sumTo, natsOf_at])
        have hnx := Lib.hid (show (0 ≤ l.getD k 0 ∧ l.getD k 0 ≤ 1000) → ∀ j, j < k + 1 → 0 ≤ l.getD j 0 ∧ l.getD j 0 ≤ 1000 from fun h j hj => by
          rcases Nat.lt_or_ge j k with q | q
          · exact hall.out j q
          · obtain rfl : j = k := by omega
            exact h)
        clear hc
        generalize l.getD k 0 = x at *
        have i1 : (k : Int) < (l.length : Int) := by omega
        by_cases hx : 0 ≤ x ∧ x ≤ 1000
        · have hN := Lib.hid (hnx.out hx)
          have hT : totW l (k + 1) = totW l k + x.toNat := hst.out
          have e2 : IntKind.i64.wrap ((totW l k : Int) + x) = ((totW l (k + 1) : Nat) : Int) := by rw [IntWalk.i64_in _ (by omega)]; omega
          have x0 : ¬ x < 0 := by omega
          have x1 : ¬ 1000 < x := by omega
          obtain ⟨T1, hT1⟩ : ∃ T1, totW l (k + 1) = T1 := ⟨_, rfl⟩
          rw [hT1] at e2 hT
          have HT1 := Lib.hid hT1
          have HT2 := Lib.hid (show T1 ≤ 1000 * (k + 1) by omega)
          clear hT1
          generalize totW l k = T0 at *
          clear hx hT hst hnx htk
          go_wp2_with fail
          exact ⟨⟨k + 1, by omega, by go_num, by rw [HT1.out], by rw [HT1.out]; exact HT2.out, hN⟩, by simp [intOf]; omega⟩
        · have hd : x < 0 ∨ (¬ x < 0 ∧ 1000 < x) := by omega
          clear hx hst hnx htk
          rcases hd with q | ⟨q, q'⟩
          all_goals
            go_wp2_with fail
            refine (HI.out _ HW.out).mono ?_
            rintro e w1 ⟨rfl, hb⟩
            have HB := Lib.hid hb
            clear hb
            go_wp2_with fail
            go_ret
            exact ⟨rfl, HB.out⟩
      · obtain rfl : k = l.length := by omega
        have HALL := hall
        clear hall hk hlt
        have HU := Lib.hid (fun W => usd_any a W)
        have HOK := Lib.hid (show allW l = true from allW_yes hl64 (fun j hj => (okW_iff _).2 ⟨(HALL.out j hj).1, by have := (HALL.out j hj).2; omega⟩))
        have HM := Lib.hid (monE_usd (a := a) (by omega))
        by_cases hz : totW l l.length = 0
        · rw [hz]
          have HBAD := Lib.hid (fun W hW => split_bad a usdS A c l W hW (by omega) (by decide) (.inr (by unfold sumV1; rw [if_pos HOK.out, hz])))
          have HE := Lib.hid (show splE a usdS = 4 by unfold splE; rw [if_pos HM.out])
          clear hz htk
          go_wp2_with fail
          refine (HU.out _).mono ?_
          rintro e w1 ⟨rfl, hb⟩
          have B1 := Lib.hid hb
          clear hb
          go_wp2_with fail
          refine (HBAD.out _ (HR.out.below B1.out)).mono ?_
          rintro e w2 ⟨rfl, hb⟩
          have B2 := Lib.hid (B1.out.trans (hb.mono B1.out.size))
          clear hb
          rw [HE.out]
          go_wp2_with fail
          refine (HI.out _ (HW.out.below B2.out)).mono ?_
          rintro e w3 ⟨rfl, hb⟩
          have B3 := Lib.hid (B2.out.trans (hb.mono B2.out.size))
          clear hb
          go_wp2_with fail
          go_ret
          exact ⟨rfl, B3.out⟩
        · have HSP := Lib.hid (fun W hW => split_row a usdS A c l W hW (by decide) HM.out HOK.out (by omega) hl64)
          unfold SpPost at HSP
          have HF := Lib.hid (spl_facts a l (fun k hk => (HALL.out k hk).1) (by omega))
          obtain ⟨f, hf⟩ : ∃ f, amtF a a.natAbs (totW l l.length) (natsOf l) = f := ⟨_, rfl⟩
          rw [hf] at HSP HF
          have hS64 : totW l l.length ≤ 64000 := by omega
          generalize totW l l.length = S at *
          have hz1 : ((S : Int) == 0) = false := by simp only [beq_eq_false_iff_ne]; omega
          have hz2 : ((l.length : Int) != (l.length : Int)) = false := by simp
          have hneg : IntKind.i64.wrap (-(S : Int)) = -(S : Int) := IntWalk.i64_in _ (by omega)
          clear hz htk hf
          go_wp2_with fail
          refine (HU.out _).mono ?_
          rintro e w1 ⟨rfl, hb⟩
          have B1 := Lib.hid hb
          clear hb
          go_wp2_with fail
          refine (HSP.out _ (HR.out.below B1.out)).mono ?_
          rintro e w2 ⟨B, cp, rfl, hrow2, hb⟩
          have B2 := Lib.hid (B1.out.trans (hb.mono B1.out.size))
          have R2 := Lib.hid hrow2
          have HR2 := Lib.hid ((HR.out.below B1.out).below hb)
          clear hb hrow2
          go_wp2_with fail
          clear hz1 hz2
          go_loop [9, 10] (fun s i => ∃ k : Nat, k ≤ l.length ∧ i = .int .i64 k ∧ s = .int .i64 (sumI f k)) (fun _ i => l.length - (intOf i).toNat)
          case atStart => exact ⟨0, Nat.zero_le _, rfl, rfl⟩
          case round =>
            obtain ⟨k, hk, rfl, rfl⟩ := hrel
            by_cases hlt : k < l.length
            · have hr1 := HR2.out
              have hr2 := R2.out
              rcases hr1 with h0 | ⟨b, off, rfl, hc⟩
              · rw [show (cellsI l).length = l.length by simp [cellsI]] at h0; omega
              rcases hr2 with h0 | ⟨b', off', rfl, hc'⟩
              · omega
              have c0 := row_int hc k hlt
              obtain ⟨c1, c2⟩ := hc' k hlt
              have hus : usdS.toList = [85, 83, 68] := by decide +kernel
              clear hc hc'
              have f1 := HF.out.small k hlt
              have f2 := HF.out.zero k hlt
              have f3 := HF.out.near k hlt
              have f4 := HF.out.sumB (k + 1) (by omega)
              have f5 := HALL.out k hlt
              have HN1 := Lib.hid (show sumI f (k + 1) = sumI f k + f k from rfl)
              rw [HN1.out] at f4
              generalize f k = n at *
              generalize l.getD k 0 = x at *
              generalize sumI f k = T at *
              have g1 := mul_bd (n := n) (N := 1099511627776) (S := S) (B := 64000) (by omega) hS64
              obtain ⟨y, rfl⟩ := Int.eq_ofNat_of_zero_le f5.1
              have g2 := mul_bd (n := a) (N := 1099511627776) (S := y) (B := 1000) (by omega) (by omega)
              obtain ⟨P, hP⟩ : ∃ P, n * (S : Int) = P := ⟨_, rfl⟩
              obtain ⟨Q, hQ⟩ : ∃ Q, a * (y : Int) = Q := ⟨_, rfl⟩
              rw [hP, hQ] at f3
              rw [hP] at g1
              rw [hQ] at g2
              have wP : IntKind.i64.wrap (n * (S : Int)) = P := by rw [hP]; exact IntWalk.i64_in _ (by omega)
              have wQ : IntKind.i64.wrap (a * (y : Int)) = Q := by rw [hQ]; exact IntWalk.i64_in _ (by omega)
              obtain ⟨D, hD⟩ : ∃ D, P - Q = D := ⟨_, rfl⟩
              rw [hD] at f3
              have wD : IntKind.i64.wrap (P - Q) = D := by rw [hD]; exact IntWalk.i64_in _ (by omega)
              have wT : IntKind.i64.wrap (T + n) = T + n := IntWalk.i64_in _ (by omega)
              have d1 : ¬ 1099511627776 < n := by omega
              have d2 : ¬ n < -1099511627776 := by omega
              have d3 : ¬ (S : Int) ≤ D := by omega
              have d4 : ¬ D ≤ -(S : Int) := by omega
              have i1 : (k : Int) < (l.length : Int) := by omega
              by_cases hy : y = 0
              · have y1 : ((y : Int) == 0) = true := by simp only [beq_iff_eq]; omega
                have n1 : (n != 0) = false := by simp only [bne_eq_false_iff_eq]; exact f2 (by omega)
                clear f1 f2 f3 f4 f5 g1 g2 hP hQ hD hy
                go_wp2_with fail
                exact ⟨⟨k + 1, by omega, by go_num, by rw [HN1.out]⟩, by simp [intOf]; omega⟩
              · have y1 : ((y : Int) == 0) = false := by simp only [beq_eq_false_iff_ne]; omega
                clear f1 f2 f3 f4 f5 g1 g2 hP hQ hD hy
                go_wp2_with fail
                exact ⟨⟨k + 1, by omega, by go_num, by rw [HN1.out]⟩, by simp [intOf]; omega⟩
            · obtain rfl : k = l.length := by omega
              rw [HF.out.sum]
              have haa : (a == a) = true := by simp
              clear hk hlt
              go_wp2_with fail
              refine (HI.out _ (HW.out.below B2.out)).mono ?_
              rintro e w3 ⟨rfl, hb⟩
              have B3 := Lib.hid (B2.out.trans (hb.mono B2.out.size))
              clear hb
              go_wp2_with fail
              go_ret
              exact ⟨rfl, B3.out⟩
end Go.Proofs.YtadehobimlpmcaaDoor
