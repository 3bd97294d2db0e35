/- The walks of Saved and of SchemeSaves. -/
import Derived.Test.YtfhiepcjkocnlaaSvl
import Derived.Test.YtfhiepcjkocnlaaFees
import Derived.Test.YtfhiepcjkocnlaaShs
namespace Go.Proofs.Ytfhiepcjkocnlaa
set_option linter.unusedVariables false
open Go.RowKit

def savV (t : List Tr) (v : List Vol) : Int := if wholeE t v = 0 then sepF t v v.length - wholeV t v else 0
set_option maxRecDepth 100000 in
set_option maxHeartbeats 3200000 in
theorem saved_any (A : Option Addr) (c : Nat) (t : List Tr) (B : Option Addr) (d : Nat) (v : List Vol) (w : World) (hr : IsRow w A (cellsT t)) (hl : t.length ≤ 1000000) (hup : upT t) (hv : IsRow w B (cellsV v)) (hvl : v.length ≤ 1000000) (hns : ∀ x ∈ v, x.s.size ≤ maxLen) :
    Calls Try.prog 20 #[.slice A t.length c, .slice B v.length d] w fun e w' => e = .returned (.tuple #[.int .i64 (savV t v), .int .i64 (wholeE t v)]) ∧ Below w.heap.size w w' := by
  have hw := whole_any A c t B d v w hr hl hup hv hvl hns
  have HR := Lib.hid hr
  have HV := Lib.hid hv
  by_cases hz : wholeE t v = 0
  · have hwo := whole_ok hz
    have hse := sep_of hz
    have HSV := Lib.hid (show savV t v = sepF t v v.length - wholeV t v by unfold savV; rw [if_pos hz])
    have HWB := Lib.hid (show 0 ≤ wholeV t v ∧ wholeV t v ≤ 4503599627370496 from ⟨hwo.lo, hwo.hi⟩)
    obtain ⟨fee, hfee⟩ : ∃ fee, wholeV t v = fee := ⟨_, rfl⟩
    rw [hz, hfee] at hw
    rw [hfee] at HSV HWB
    rw [hz]
    have h16 := hwo.len
    have HSE := Lib.hid hse
    have HFA := Lib.hid (fun n W hW => fee_any A c t n W hW hl hup)
    obtain ⟨n, hn⟩ : ∃ n, v.length = n := ⟨_, rfl⟩
    rw [hn] at hw HSV h16 ⊢
    have HN := Lib.hid hn
    have HW := Lib.hid hw
    clear hr hv hns hup hwo hse hz hfee hw hn
    go_enter Try.func20, Try.ntmps20
    go_wp2_with fail
    refine HW.out.mono ?_
    rintro e w1 ⟨rfl, hb⟩
    have HB := Lib.hid hb
    clear hb
    go_wp2_with fail
    go_loopw [8, 24] (fun sm i wr => ∃ k : Nat, k ≤ n ∧ i = .int .i64 k ∧ sm = .int .i64 (sepF t v k) ∧ Hid (Below w.heap.size w wr)) (fun _ i _ => n - (intOf i).toNat)
    case atStart => exact ⟨0, Nat.zero_le _, rfl, rfl, HB⟩
    case round =>
      obtain ⟨k, hk, rfl, rfl, hbl⟩ := hrel
      by_cases hlt : k < n
      · rcases HV.out.below hbl.out with h0 | ⟨b, off, ha, hc⟩
        · rw [cellsV_length, HN.out] at h0; omega
        obtain ⟨d0, d1⟩ := row_vol hc k (by rw [HN.out]; exact hlt)
        have h1 := HSE.out.one k (by rw [HN.out]; exact hlt)
        have h2 := HSE.out.bd k (by rw [HN.out]; exact hk)
        have hsm := Lib.hid (show sepF t v (k + 1) = sepF t v k + feeV t (v.getD k default).c from rfl)
        obtain ⟨xs, hxs⟩ : ∃ xs, (v.getD k default).s = xs := ⟨_, rfl⟩
        obtain ⟨xc, hxc⟩ : ∃ xc, (v.getD k default).c = xc := ⟨_, rfl⟩
        rw [hxs] at d0
        rw [hxc] at d1 hsm h1
        obtain ⟨g0, g1, g2⟩ := h1
        have HF := Lib.hid (HFA.out xc _ (HR.out.below (hbl.out.alloc hbl.out.size (.cells #[.string xs, .int .i64 xc] 31))))
        have HBA := Lib.hid (hbl.out.alloc hbl.out.size (.cells #[.string xs, .int .i64 xc] 31))
        rw [g0] at HF
        obtain ⟨fv, hfv⟩ : ∃ fv, feeV t xc = fv := ⟨_, rfl⟩
        rw [hfv] at HF hsm g1 g2
        obtain ⟨sk, hsk⟩ : ∃ sk, sepF t v k = sk := ⟨_, rfl⟩
        rw [hsk] at h2 hsm ⊢
        have h3 : 0 ≤ sk ∧ sk ≤ 72057594037927936 := by omega
        subst ha
        clear hc hxs hxc g0 hfv hsk hbl h2
        go_wp2_with fail
        refine HF.out.mono ?_
        rintro e w2 ⟨rfl, hb⟩
        have HB2 := Lib.hid (HBA.out.trans (hb.mono HBA.out.size))
        clear hb
        go_wp2_with fail
        go_roundw
        case rel => exact ⟨k + 1, by omega, by go_num, by rw [hsm.out], HB2⟩
        case measure => simp [intOf]; omega
      · obtain rfl : k = n := by omega
        have h2 := HSE.out.bd k (by rw [HN.out]; exact hk)
        have hwb := HWB.out
        have h3 : 0 ≤ sepF t v k ∧ sepF t v k ≤ 72057594037927936 := by omega
        clear h2
        generalize sepF t v k = sk at *
        go_wp2_with fail
        go_ret2
        exact ⟨by rw [HSV.out]; rfl, hbl.out⟩
  · have HSV := Lib.hid (show savV t v = 0 by unfold savV; rw [if_neg hz])
    obtain ⟨e0, he0⟩ : ∃ e0, wholeE t v = e0 := ⟨_, rfl⟩
    rw [he0] at hw hz ⊢
    have HW := Lib.hid hw
    have hzb : (e0 != 0) = true := bne_iff_ne.2 hz
    clear hr hv hns hup hz he0 hw
    go_enter Try.func20, Try.ntmps20
    go_wp2_with fail
    refine HW.out.mono ?_
    rintro e w1 ⟨rfl, hb⟩
    have HB := Lib.hid hb
    clear hb
    go_wp2_with fail
    go_ret2
    exact ⟨by rw [HSV.out]; rfl, HB.out⟩
end Go.Proofs.Ytfhiepcjkocnlaa
