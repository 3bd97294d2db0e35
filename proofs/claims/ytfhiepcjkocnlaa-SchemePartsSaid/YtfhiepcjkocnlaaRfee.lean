/- The walks of the reference's Marginal and Fee. -/
import Derived.Test.YtfhiepcjkocnlaaRchk
import Derived.Test.YtfhiepcjkocnlaaSpn
namespace Go.Proofs.Ytfhiepcjkocnlaa
set_option linter.unusedVariables false
open Go.RowKit

set_option maxHeartbeats 1600000 in
theorem rmarg_any (A : Option Addr) (c : Nat) (l : List Tr) (n : Int) (w : World) (hr : IsRow w A (cellsT l)) (hl : l.length ≤ 1000000) :
    Calls Try.prog 14 #[.slice A l.length c, .int .i64 n] w fun e w' => e = .returned (.tuple #[.int .i64 (margV l n), .int .i64 (margE l n)]) ∧ Below w.heap.size w w' := by
  have hck := Lib.hid (rcheck_any A c l w hr hl)
  have HR := Lib.hid hr
  obtain ⟨ce, hce⟩ : ∃ ce, chkE l = ce := ⟨_, rfl⟩
  rw [hce] at hck
  by_cases hz : ce = 0
  · by_cases hn : n < 1 ∨ 1000000000 < n
    · have hE := Lib.hid (show margE l n = 4 by unfold margE; rw [hce, if_pos hz, if_pos hn])
      have hV := Lib.hid (show margV l n = 0 by unfold margV; rw [hE.out, if_neg (by omega)])
      have hzb : (ce != 0) = false := by simp only [bne_eq_false_iff_eq]; exact hz
      have hcase : n < 1 ∨ (1 ≤ n ∧ 1000000000 < n) := by omega
      clear hr hn hce
      rcases hcase with q | ⟨q, q'⟩
      all_goals
        go_enter Try.func14, Try.ntmps14
        go_wp2_with fail
        refine hck.out.mono ?_
        rintro e w1 ⟨rfl, hb⟩
        have HB := Lib.hid hb
        clear hb
        go_wp2_with fail
        go_ret2
        exact ⟨by rw [hE.out, hV.out]; rfl, HB.out⟩
    · have hE := Lib.hid (show margE l n = 0 by unfold margE; rw [hce, if_pos hz, if_neg hn])
      have hV := Lib.hid (show margV l n = margL (l.drop 0) n 0 by unfold margV; rw [hE.out, if_pos rfl]; rfl)
      have hzb : (ce != 0) = false := by simp only [bne_eq_false_iff_eq]; exact hz
      have q1 : 1 ≤ n := by omega
      have q2 : n ≤ 1000000000 := by omega
      clear hr hn hce hz
      go_enter Try.func14, Try.ntmps14
      go_wp2_with fail
      refine hck.out.mono ?_
      rintro e w1 ⟨rfl, hb⟩
      have HB := Lib.hid hb
      have HR1 := Lib.hid (HR.out.below hb)
      clear hb
      go_wp2_with fail
      clear hzb
      go_loop [7, 8] (fun p i => ∃ (k : Nat) (pv : Int), k ≤ l.length ∧ i = .int .i64 k ∧ p = .int .i64 pv ∧ Hid (margV l n = margL (l.drop k) n pv)) (fun _ i => l.length - (intOf i).toNat)
      case atStart => exact ⟨0, 0, Nat.zero_le _, rfl, rfl, hV⟩
      case round =>
        obtain ⟨k, pv, hk, rfl, rfl, hp⟩ := hrel
        by_cases hlt : k < l.length
        · rcases HR1.out with h0 | ⟨b, off, rfl, hc⟩
          · rw [cellsT_length] at h0; omega
          obtain ⟨c0, c1⟩ := row_tier hc k hlt
          clear hc
          have hst := Lib.hid (marg_step l n pv k hlt)
          have hsp := Lib.hid (marg_stop l n pv k hlt)
          obtain ⟨x, hx⟩ : ∃ x, l.getD k default = x := ⟨_, rfl⟩
          rw [← getD_at l k hlt, hx] at c0 c1
          rw [hx] at hst hsp
          clear hx
          obtain ⟨fk, pk⟩ := x
          simp only at c0 c1 hst hsp
          by_cases hf : fk ≤ n
          · have hN := Lib.hid (hp.out.trans (hst.out hf))
            go_wp2_with fail
            go_round
            case rel => exact ⟨k + 1, pk, by omega, by go_num, rfl, hN⟩
            case measure => simp [intOf]; omega
          · have hN := Lib.hid (hp.out.trans (hsp.out hf))
            go_wp2_with fail
            go_ret2
            exact ⟨by rw [hE.out, hN.out]; rfl, HB.out⟩
        · obtain rfl : k = l.length := by omega
          have hN := Lib.hid (hp.out.trans (marg_end l n pv))
          go_wp2_with fail
          go_ret2
          exact ⟨by rw [hE.out, hN.out]; rfl, HB.out⟩
  · have hE := Lib.hid (show margE l n = ce by unfold margE; rw [hce, if_neg hz])
    have hV := Lib.hid (show margV l n = 0 by unfold margV; rw [hE.out, if_neg hz])
    have hzb : (ce != 0) = true := bne_iff_ne.2 hz
    clear hr hce hz
    go_enter Try.func14, Try.ntmps14
    go_wp2_with fail
    refine hck.out.mono ?_
    rintro e w1 ⟨rfl, hb⟩
    have HB := Lib.hid hb
    clear hb
    go_wp2_with fail
    go_ret2
    exact ⟨by rw [hE.out, hV.out]; rfl, HB.out⟩
set_option maxHeartbeats 3200000 in
theorem rfee_any (A : Option Addr) (c : Nat) (l : List Tr) (n : Int) (w : World) (hr : IsRow w A (cellsT l)) (hl : l.length ≤ 1000000) (hup : upT l) :
    Calls Try.prog 15 #[.slice A l.length c, .int .i64 n] w fun e w' => e = .returned (.tuple #[.int .i64 (feeV l n), .int .i64 (feeE l n)]) ∧ Below w.heap.size w w' := by
  have hck := Lib.hid (rcheck_any A c l w hr hl)
  have HR := Lib.hid hr
  obtain ⟨ce, hce⟩ : ∃ ce, chkE l = ce := ⟨_, rfl⟩
  rw [hce] at hck
  by_cases hz : ce = 0
  · by_cases hn : n < 0 ∨ 1000000000 < n
    · have hE := Lib.hid (show feeE l n = 4 by unfold feeE; rw [hce, if_pos hz, if_pos hn])
      have hV := Lib.hid (show feeV l n = 0 by unfold feeV; rw [hE.out, if_neg (by omega)])
      have hzb : (ce != 0) = false := by simp only [bne_eq_false_iff_eq]; exact hz
      have hcase : n < 0 ∨ (0 ≤ n ∧ 1000000000 < n) := by omega
      clear hr hn hce
      rcases hcase with q | ⟨q, q'⟩
      all_goals
        go_enter Try.func15, Try.ntmps15
        go_wp2_with fail
        refine hck.out.mono ?_
        rintro e w1 ⟨rfl, hb⟩
        have HB := Lib.hid hb
        clear hb
        go_wp2_with fail
        go_ret2
        exact ⟨by rw [hE.out, hV.out]; rfl, HB.out⟩
    · have hok : okT l := okT_of_chk (hce.trans hz)
      have q1 : 0 ≤ n := by omega
      have q2 : n ≤ 1000000000 := by omega
      have HS := Lib.hid (feeAt_start hok n q1)
      have HOK := Lib.hid hok
      have HNX := Lib.hid (fun s r k (hF : FeeAt l n k s r) hk hf => feeAt_next hok hF hk hf q2)
      have HFI := Lib.hid (fee_fin (l := l) (n := n) (hce.trans hz) q1 q2)
      have hzb : (ce != 0) = false := by simp only [bne_eq_false_iff_eq]; exact hz
      clear hr hn hce hz hok
      go_enter Try.func15, Try.ntmps15
      go_wp2_with fail
      refine hck.out.mono ?_
      rintro e w1 ⟨rfl, hb⟩
      have HB := Lib.hid hb
      have HR1 := Lib.hid (HR.out.below hb)
      clear hb
      go_wp2_with fail
      clear hzb
      go_loopw [7, 8, 9] (fun s i z wr => ∃ (k m : Nat) (sv : Int), k ≤ l.length ∧ i = .int .i64 k ∧ s = .int .i64 sv ∧ Hid (∃ r, FeeAt l n k sv r) ∧ wr = w1.drewN m) (fun _ i _ _ => l.length - (intOf i).toNat)
      case atStart => exact ⟨0, 0, 0, Nat.zero_le _, rfl, rfl, Lib.hid ⟨0, HS.out⟩, rfl⟩
      case round =>
        obtain ⟨k, m, sv, hk, rfl, rfl, hp, rfl⟩ := hrel
        by_cases hlt : k < l.length
        · rcases HR1.out with h0 | ⟨b, off, rfl, hc⟩
          · rw [cellsT_length] at h0; omega
          obtain ⟨r, hF⟩ := hp.out
          obtain ⟨c0, c1⟩ := row_tier hc k hlt
          rw [← getD_at l k hlt] at c0 c1
          obtain ⟨fk, hfk⟩ : ∃ fk, (l.getD k default).f = fk := ⟨_, rfl⟩
          obtain ⟨pk, hpk⟩ : ∃ pk, (l.getD k default).p = pk := ⟨_, rfl⟩
          by_cases hf : fk ≤ n
          · obtain ⟨⟨g1, g2⟩, ⟨g3, g4⟩, g5⟩ := HNX.out sv r k hF hlt (by rw [hfk]; exact hf)
            have hs0 := hF.lo
            have hs1 := hF.hi
            have hr1 := hF.rc
            have hr2 := hF.nx hlt
            rw [hfk] at c0 g1 g3 g4 g5 hr2
            rw [hpk] at c1 g3 g4 g5
            by_cases hl1 : k + 1 < l.length
            · have cn := (row_tier hc (k + 1) hl1).1
              rw [← getD_at l (k + 1) hl1] at cn
              have hla := last_next l n k hl1
              obtain ⟨fn, hfn⟩ : ∃ fn, (l.getD (k + 1) default).f = fn := ⟨_, rfl⟩
              rw [hfn] at cn hla
              rw [hla] at g1 g2 g3 g4 g5
              clear hla
              have hfb : fn ≤ 9223372036854775807 := by rw [← hfn]; exact hup (k + 1)
              have hgn := (HOK.out (k + 1) hl1).2.1 (by omega)
              rw [Nat.add_sub_cancel, hfn, hfk] at hgn
              clear hfn hfk hpk hc hF
              clear hp hup
              rcases Int.lt_or_le (fn - 1) n with hmn | hmn
              · rw [Int.min_eq_right (by omega)] at g1 g2 g3 g4 g5
                have HN := Lib.hid g5
                obtain ⟨q, hq⟩ : ∃ q, (fn - 1 - fk + 1) * pk = q := ⟨_, rfl⟩
                rw [hq] at g3 g4 HN
                have e1 : IntKind.i64.wrap (fn - 1 - fk) = fn - 1 - fk := IntWalk.i64_in _ (by omega)
                have e2 : IntKind.i64.wrap (fn - 1 - fk + 1) = fn - 1 - fk + 1 := IntWalk.i64_in _ (by omega)
                have e3 : IntKind.i64.wrap ((fn - 1 - fk + 1) * pk) = q := by rw [hq]; exact IntWalk.i64_in _ (by omega)
                have e4 : IntKind.i64.wrap (sv + q) = sv + q := IntWalk.i64_in _ (by omega)
                have fk1 : 1 ≤ fk := by omega
                clear g1 g2 g3 g4 g5 hq hs0 hs1 hr1 hr2
                go_wp2_with fail
                go_quiet (fail)
                clear e1 e2 e3 e4
                go_wp2_with fail
                go_roundw
                case rel => exact ⟨k + 1, _, sv + q, by omega, by go_num, rfl, Lib.hid ⟨_, HN.out⟩, rfl⟩
                case measure => simp [intOf]; omega
              · rw [Int.min_eq_left hmn] at g1 g2 g3 g4 g5
                have HN := Lib.hid g5
                obtain ⟨q, hq⟩ : ∃ q, (n - fk + 1) * pk = q := ⟨_, rfl⟩
                rw [hq] at g3 g4 HN
                have e1 : IntKind.i64.wrap (n - fk) = n - fk := IntWalk.i64_in _ (by omega)
                have e2 : IntKind.i64.wrap (n - fk + 1) = n - fk + 1 := IntWalk.i64_in _ (by omega)
                have e3 : IntKind.i64.wrap ((n - fk + 1) * pk) = q := by rw [hq]; exact IntWalk.i64_in _ (by omega)
                have e4 : IntKind.i64.wrap (sv + q) = sv + q := IntWalk.i64_in _ (by omega)
                have fk1 : 1 ≤ fk := by omega
                clear g1 g2 g3 g4 g5 hq hs0 hs1 hr1 hr2
                go_wp2_with fail
                go_quiet (fail)
                clear e1 e2 e3 e4
                go_wp2_with fail
                go_roundw
                case rel => exact ⟨k + 1, _, sv + q, by omega, by go_num, rfl, Lib.hid ⟨_, HN.out⟩, rfl⟩
                case measure => simp [intOf]; omega
            · have hla := last_end l n k hl1
              rw [hla] at g1 g2 g3 g4 g5
              clear hla hfk hpk hc hF hp hup
              have HN := Lib.hid g5
              obtain ⟨q, hq⟩ : ∃ q, (n - fk + 1) * pk = q := ⟨_, rfl⟩
              rw [hq] at g3 g4 HN
              have e1 : IntKind.i64.wrap (n - fk) = n - fk := IntWalk.i64_in _ (by omega)
              have e2 : IntKind.i64.wrap (n - fk + 1) = n - fk + 1 := IntWalk.i64_in _ (by omega)
              have e3 : IntKind.i64.wrap ((n - fk + 1) * pk) = q := by rw [hq]; exact IntWalk.i64_in _ (by omega)
              have e4 : IntKind.i64.wrap (sv + q) = sv + q := IntWalk.i64_in _ (by omega)
              have fk1 : 1 ≤ fk := by omega
              clear g1 g2 g3 g4 g5 hq hs0 hs1 hr1 hr2
              go_wp2_with fail
              go_quiet (fail)
              clear e1 e2 e3 e4
              go_wp2_with fail
              go_roundw
              case rel => exact ⟨k + 1, _, sv + q, by omega, by go_num, rfl, Lib.hid ⟨_, HN.out⟩, rfl⟩
              case measure => simp [intOf]; omega
          · rw [hfk] at c0
            clear hc hpk
            have ⟨⟨f0, f1⟩, f2, f3⟩ := HFI.out k sv r hF (.inr ⟨hlt, by omega⟩)
            clear hp hup hF hfk
            have hw5 : 0 ≤ sv + 50 := by omega
            by_cases hm : 4503599627370496 < (sv + 50) / 100
            · have h2 := Lib.hid (f2 hm)
              clear f2 f3
              go_wp2_with fail
              go_ret2
              exact ⟨by rw [h2.out.1, h2.out.2]; rfl, dNb HB.out _⟩
            · have h3 := Lib.hid (f3 (by omega))
              clear f2 f3
              go_wp2_with fail
              go_ret2
              exact ⟨by rw [h3.out.1, h3.out.2]; rfl, dNb HB.out _⟩
        · obtain rfl : k = l.length := by omega
          obtain ⟨r, hF⟩ := hp.out
          have ⟨⟨f0, f1⟩, f2, f3⟩ := HFI.out l.length sv r hF (.inl rfl)
          clear hp hup hF
          have hw5 : 0 ≤ sv + 50 := by omega
          by_cases hm : 4503599627370496 < (sv + 50) / 100
          · have h2 := Lib.hid (f2 hm)
            clear f2 f3
            go_wp2_with fail
            go_ret2
            exact ⟨by rw [h2.out.1, h2.out.2]; rfl, dNb HB.out _⟩
          · have h3 := Lib.hid (f3 (by omega))
            clear f2 f3
            go_wp2_with fail
            go_ret2
            exact ⟨by rw [h3.out.1, h3.out.2]; rfl, dNb HB.out _⟩
  · have hE := Lib.hid (show feeE l n = ce by unfold feeE; rw [hce, if_neg hz])
    have hV := Lib.hid (show feeV l n = 0 by unfold feeV; rw [hE.out, if_neg hz])
    have hzb : (ce != 0) = true := bne_iff_ne.2 hz
    clear hr hce hz
    go_enter Try.func15, Try.ntmps15
    go_wp2_with fail
    refine hck.out.mono ?_
    rintro e w1 ⟨rfl, hb⟩
    have HB := Lib.hid hb
    clear hb
    go_wp2_with fail
    go_ret2
    exact ⟨by rw [hE.out, hV.out]; rfl, HB.out⟩
end Go.Proofs.Ytfhiepcjkocnlaa
