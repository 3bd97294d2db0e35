/- The walk of SchemeShares. -/
import Derived.Test.YtfhiepcjkocnlaaFew
import Derived.Test.YtfhiepcjkocnlaaFees
namespace Go.Proofs.Ytfhiepcjkocnlaa
set_option linter.unusedVariables false
open Go.RowKit

/-- What an argument that is a slice of volumes gives. -/
def VolArg (w : World) (A : Option Addr) (c : Nat) (l : List Vol) : Prop := IsRow w A (cellsV l) ∧ (∀ x ∈ l, x.s.size ≤ maxLen ∧ (Lit.int .i64 x.c).wf = true) ∧ l.length ≤ c ∧ (A = none → c = 0) ∧ c ≤ maxLen
set_option maxRecDepth 100000 in
set_option maxHeartbeats 6400000 in
theorem schemeShares_walk (w : World) (A : Option Addr) (c : Nat) (l : List Tr) (h : TierArg w A c l) (B : Option Addr) (d : Nat) (v : List Vol) (hv : VolArg w B d v) :
    Calls Try.prog 3 #[.slice A l.length c, .slice B v.length d] w fun e w' => e = .returned (.bool true) ∧ Below w.heap.size w w' := by
  have hup := upT_of h.2.1
  have hns : ∀ x ∈ v, x.s.size ≤ maxLen := fun x hx => (hv.2.1 x hx).1
  have HFW := Lib.hid (few_any A c l B d v w (Nat.le_trans h.2.2.1 h.2.2.2.2) hv.1 (Nat.le_trans hv.2.2.1 hv.2.2.2.2) hns)
  cases hf : fewB l v
  case false =>
    rw [hf] at HFW
    clear h hv hup hns hf
    go_enter Try.func3, Try.ntmps3
    go_wp2_with fail
    refine HFW.out.mono ?_
    rintro e w1 ⟨rfl, rfl⟩
    go_wp2_with fail
    refine (awake_any _).mono ?_
    rintro e w1 ⟨rfl, hb⟩
    go_wp2_with fail
    go_ret
    exact ⟨rfl, hb⟩
  case true =>
    rw [hf] at HFW
    obtain ⟨f1, f2⟩ := fewB_facts hf
    have HR := Lib.hid h.1
    have HV := Lib.hid hv.1
    have HUP := Lib.hid hup
    by_cases hz : wholeE l v = 0
    · have hw := whole_ok hz
      have hs := shares_of hz
      have HSH := Lib.hid (share_ok A c l B d v w h.1 (by omega) hup hv.1 (by omega) hns hz)
      have HWO := Lib.hid hw
      have HS := Lib.hid hs
      have h16 := hw.len
      have HFE := Lib.hid (fun W hW => fee_any A c l (sumC v v.length) W hW (by omega) hup)
      rw [hw.fee, ← hw.val] at HFE
      obtain ⟨fee, hfee⟩ : ∃ fee, wholeV l v = fee := ⟨_, rfl⟩
      rw [hfee] at HFE
      have HFEE := Lib.hid hfee
      have HFB := Lib.hid (show 0 ≤ fee ∧ fee ≤ 4503599627370496 by rw [← hfee]; exact ⟨hw.lo, hw.hi⟩)
      obtain ⟨n, hn⟩ : ∃ n, v.length = n := ⟨_, rfl⟩
      rw [hn] at HSH h16 HFE HFW f1 ⊢
      have HN := Lib.hid hn
      have hnn : ((n : Int) != (n : Int)) = false := by simp
      clear h hv hup hns hf hz hw hs hfee hn
      go_enter Try.func3, Try.ntmps3
      go_wp2_with fail
      refine HFW.out.mono ?_
      rintro e w1 ⟨rfl, rfl⟩
      go_wp2_with fail
      refine HSH.out.mono ?_
      rintro e w2 ⟨L, rfl, hrl, hL, hb⟩
      have HRL := Lib.hid hrl
      have HB := Lib.hid hb
      clear hrl hb
      go_wp2_with fail
      clear hnn
      go_loop [7, 8, 9] (fun al sm i => ∃ k : Nat, k ≤ n ∧ i = .int .i64 k ∧ al = .int .i64 (sumC v k) ∧ sm = .int .i64 (sumI (shareF l v) k)) (fun _ _ i => n - (intOf i).toNat)
      case atStart => exact ⟨0, Nat.zero_le _, rfl, rfl, rfl⟩
      case round =>
        obtain ⟨k, hk, rfl, rfl, rfl⟩ := hrel
        by_cases hlt : k < n
        · rcases HV.out.below HB.out with h0 | ⟨b, off, rfl, hc⟩
          · rw [cellsV_length, HN.out] at h0; omega
          have d1 := (row_vol hc k (by rw [HN.out]; exact hlt)).2
          have x0 := HRL.out.cell hlt
          have hgood := badV_ok (HWO.out.all k (by rw [HN.out]; exact hlt))
          have hsb := sumC_bd k (fun j hj => HWO.out.all j (by rw [HN.out]; omega))
          have hpb := HS.out.part k (by rw [HN.out]; exact hk)
          have hpb2 := HS.out.part (k + 1) (by rw [HN.out]; exact hlt)
          rw [HFEE.out] at hpb hpb2
          have hlo := HS.out.lo k (by rw [HN.out]; exact hlt)
          have hzr := HS.out.zero k (by rw [HN.out]; exact hlt)
          have hsm := Lib.hid (show sumC v (k + 1) = sumC v k + (v.getD k default).c from rfl)
          have hsi : sumI (shareF l v) (k + 1) = sumI (shareF l v) k + shareF l v k := rfl
          obtain ⟨xc, hxc⟩ : ∃ xc, (v.getD k default).c = xc := ⟨_, rfl⟩
          obtain ⟨fk, hfk⟩ : ∃ fk, shareF l v k = fk := ⟨_, rfl⟩
          obtain ⟨sk, hsk⟩ : ∃ sk, sumC v k = sk := ⟨_, rfl⟩
          obtain ⟨si, hsi0⟩ : ∃ si, sumI (shareF l v) k = si := ⟨_, rfl⟩
          rw [hxc] at d1 hsm hgood hzr
          rw [hfk] at x0 hlo hzr hsi
          rw [hsk] at hsb hsm ⊢
          rw [hsi0] at hpb hsi ⊢
          rw [hsi] at hpb2
          have HSI := Lib.hid hsi
          have hfb := HFB.out
          obtain ⟨_, _, g1, g2⟩ := hgood
          have y0 : ¬ fk < 0 := by omega
          have y1 : ¬ 4503599627370496 < fk := by omega
          have y2 : ¬ xc < 0 := by omega
          have y3 : ¬ 1000000000 < xc := by omega
          have y5 : si + fk ≤ 4503599627370496 := by omega
          have HZR := Lib.hid hzr
          clear hc hxc hfk hsk hsi0 hsi hzr hfb
          by_cases hx0 : xc = 0
          · have b0 : (xc == 0) = true := beq_iff_eq.2 hx0
            have b1 : (fk != 0) = false := by rw [HZR.out hx0]; rfl
            clear hx0
            go_wp2_with fail
            exact ⟨⟨k + 1, by omega, by go_num, by rw [hsm.out], by rw [HSI.out]⟩, by simp [intOf]; omega⟩
          · have b0 : (xc == 0) = false := beq_eq_false_iff_ne.2 hx0
            clear hx0
            go_wp2_with fail
            exact ⟨⟨k + 1, by omega, by go_num, by rw [hsm.out], by rw [HSI.out]⟩, by simp [intOf]; omega⟩
        · obtain rfl : k = n := by omega
          have hall := HS.out.all
          rw [HN.out, HFEE.out] at hall
          rw [hall]
          have hff : (fee == fee) = true := by simp
          clear hall
          generalize sumC v k = sk at *
          go_wp2_with fail
          refine (HFE.out _ (HR.out.below HB.out)).mono ?_
          rintro e w3 ⟨rfl, hb⟩
          have HB3 := Lib.hid (HB.out.trans (hb.mono HB.out.size))
          clear hb
          go_wp2_with fail
          refine (awake_any _).mono ?_
          rintro e w4 ⟨rfl, hb⟩
          go_wp2_with fail
          go_ret
          exact ⟨rfl, HB3.out.trans (hb.mono HB3.out.size)⟩
    · have HSH := Lib.hid (share_bad A c l B d v w h.1 (by omega) hup hv.1 (by omega) hns hz)
      obtain ⟨e0, he0⟩ : ∃ e0, wholeE l v = e0 := ⟨_, rfl⟩
      rw [he0] at HSH hz
      have hzb : (e0 != 0) = true := bne_iff_ne.2 hz
      clear h hv hup hns hf hz he0
      go_enter Try.func3, Try.ntmps3
      go_wp2_with fail
      refine HFW.out.mono ?_
      rintro e w1 ⟨rfl, rfl⟩
      go_wp2_with fail
      refine HSH.out.mono ?_
      rintro e w2 ⟨rfl, hb⟩
      have HB := Lib.hid hb
      clear hb
      go_wp2_with fail
      refine (awake_any _).mono ?_
      rintro e w3 ⟨rfl, hb⟩
      go_wp2_with fail
      go_ret
      exact ⟨rfl, HB.out.trans (hb.mono HB.out.size)⟩
end Go.Proofs.Ytfhiepcjkocnlaa
