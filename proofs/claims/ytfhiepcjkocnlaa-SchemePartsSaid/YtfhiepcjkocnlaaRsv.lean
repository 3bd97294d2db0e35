/- The walk of the reference's Saved. -/
import Derived.Test.YtfhiepcjkocnlaaRsh
import Derived.Test.YtfhiepcjkocnlaaSav
namespace Go.Proofs.Ytfhiepcjkocnlaa
set_option linter.unusedVariables false
open Go.RowKit

set_option maxRecDepth 100000 in
set_option maxHeartbeats 6400000 in
theorem rsaved_any (A : Option Addr) (c : Nat) (t : List Tr) (B : Option Addr) (d : Nat) (v : List Vol) (w : World) (hr : IsRow w A (cellsT t)) (hl : t.length ≤ 1000000) (hup : upT t) (hv : IsRow w B (cellsV v)) (hvl : v.length ≤ 1000000) (hns : ∀ x ∈ v, x.s.size ≤ maxLen) :
    Calls Try.prog 21 #[.slice A t.length c, .slice B v.length d] w fun e w' => e = .returned (.tuple #[.int .i64 (savV t v), .int .i64 (wholeE t v)]) ∧ Below w.heap.size w w' := by
  have HR := Lib.hid hr
  have HV := Lib.hid hv
  by_cases hz : wholeE t v = 0
  · have hwo := whole_ok hz
    have hse := sep_of hz
    have hsh := shares_of hz
    have HSP := Lib.hid (rshare_ok A c t B d v w hr hl hup hv hvl hns hz)
    have HSV := Lib.hid (show savV t v = sepF t v v.length - sumI (shareF t v) v.length by unfold savV; rw [if_pos hz, hsh.all])
    rw [hz]
    have h16 := hwo.len
    have HWB := Lib.hid (show 0 ≤ wholeV t v ∧ wholeV t v ≤ 4503599627370496 from ⟨hwo.lo, hwo.hi⟩)
    have HSE := Lib.hid hse
    have HSH := Lib.hid hsh
    have HFA := Lib.hid (fun n W hW => rfee_any A c t n W hW hl hup)
    obtain ⟨n, hn⟩ : ∃ n, v.length = n := ⟨_, rfl⟩
    rw [hn] at HSP HSV h16 ⊢
    have HN := Lib.hid hn
    clear hr hv hns hup hwo hse hsh hz hn
    go_enter Try.func21, Try.ntmps21
    go_wp2_with fail
    refine HSP.out.mono ?_
    rintro e w1 ⟨L, rfl, hrl, hL, hb⟩
    have HRL := Lib.hid hrl
    have HB := Lib.hid hb
    have hLw := hrl.lt
    clear hrl hb
    go_wp2_with fail
    go_loopw [8, 9] (fun sm i wr => ∃ k : Nat, k ≤ n ∧ i = .int .i64 k ∧ sm = .int .i64 (sepF t v k - sumI (shareF t v) k) ∧ Hid (wr.rowIs L 2 n (fun i => .int .i64 (shareF t v i))) ∧ Hid (Below w.heap.size w wr)) (fun _ i _ => n - (intOf i).toNat)
    case atStart => exact ⟨0, Nat.zero_le _, rfl, rfl, HRL, HB⟩
    case round =>
      obtain ⟨k, hk, rfl, rfl, hrl, hbl⟩ := hrel
      by_cases hlt : k < n
      · rcases HV.out.below hbl.out with h0 | ⟨b, off, ha, hc⟩
        · rw [cellsV_length, HN.out] at h0; omega
        obtain ⟨d0, d1⟩ := row_vol hc k (by rw [HN.out]; exact hlt)
        have h1 := HSE.out.one k (by rw [HN.out]; exact hlt)
        have h2 := HSE.out.bd k (by rw [HN.out]; exact hk)
        have hpb := HSH.out.part k (by rw [HN.out]; exact hk)
        have hpb2 := HSH.out.part (k + 1) (by rw [HN.out]; exact hlt)
        have hlo := HSH.out.lo k (by rw [HN.out]; exact hlt)
        have hsi : sumI (shareF t v) (k + 1) = sumI (shareF t v) k + shareF t v k := rfl
        have hsm : sepF t v (k + 1) = sepF t v k + feeV t (v.getD k default).c := rfl
        obtain ⟨xc, hxc⟩ : ∃ xc, (v.getD k default).c = xc := ⟨_, rfl⟩
        rw [hxc] at d1 hsm h1
        obtain ⟨g0, g1, g2⟩ := h1
        have HF := Lib.hid (HFA.out xc wr (HR.out.below hbl.out))
        rw [g0] at HF
        have hwb := HWB.out
        obtain ⟨fv, hfv⟩ : ∃ fv, feeV t xc = fv := ⟨_, rfl⟩
        rw [hfv] at HF hsm g1 g2
        obtain ⟨sk, hsk⟩ : ∃ sk, sepF t v k = sk := ⟨_, rfl⟩
        obtain ⟨si, hsi0⟩ : ∃ si, sumI (shareF t v) k = si := ⟨_, rfl⟩
        obtain ⟨fk, hfk⟩ : ∃ fk, shareF t v k = fk := ⟨_, rfl⟩
        rw [hsk] at h2 hsm ⊢
        rw [hsi0] at hpb hsi ⊢
        rw [hfk] at hsi hlo
        rw [hsi] at hpb2
        have h3 : 0 ≤ sk ∧ sk ≤ 72057594037927936 := by omega
        have h4 : 0 ≤ si ∧ si ≤ 4503599627370496 := by omega
        have h5 : 0 ≤ fk ∧ fk ≤ 4503599627370496 := by omega
        have HSM := Lib.hid hsm
        have HSI := Lib.hid hsi
        have HFK := Lib.hid hfk
        have i1 : (k : Int) < (n : Int) := by omega
        subst ha
        clear hc hxc g0 hfv hsk hsi0 hfk hsm hsi h2 hpb hpb2 hlo hwb d0
        go_wp2_with fail
        refine HF.out.mono ?_
        rintro e w2 ⟨rfl, hb⟩
        have HB2 := Lib.hid (hbl.out.trans (hb.mono hbl.out.size))
        have hrl2 := hrl.out.of_block (hb.block _ hrl.out.lt)
        have z0 := hrl2.cell hlt
        rw [HFK.out] at z0
        have HRL2 := Lib.hid hrl2
        clear hb hrl2
        go_wp2_with fail
        go_roundw
        case rel => exact ⟨k + 1, by omega, by go_num, i64_eq (by rw [HSM.out, HSI.out]; omega), HRL2, HB2⟩
        case measure => simp [intOf]; omega
      · obtain rfl : k = n := by omega
        generalize sepF t v k - sumI (shareF t v) k = sk at *
        go_wp2_with fail
        go_ret2
        exact ⟨by rw [HSV.out]; rfl, hbl.out⟩
  · have HSV := Lib.hid (show savV t v = 0 by unfold savV; rw [if_neg hz])
    have HW := Lib.hid (rshare_bad A c t B d v w hr hl hup hv hvl hns hz)
    obtain ⟨e0, he0⟩ : ∃ e0, wholeE t v = e0 := ⟨_, rfl⟩
    rw [he0] at HW hz ⊢
    have hzb : (e0 != 0) = true := bne_iff_ne.2 hz
    clear hr hv hns hup hz he0
    go_enter Try.func21, Try.ntmps21
    go_wp2_with fail
    refine HW.out.mono ?_
    rintro e w1 ⟨rfl, hb⟩
    have HB := Lib.hid hb
    clear hb
    go_wp2_with fail
    go_ret2
    exact ⟨by rw [HSV.out]; rfl, HB.out⟩
end Go.Proofs.Ytfhiepcjkocnlaa
