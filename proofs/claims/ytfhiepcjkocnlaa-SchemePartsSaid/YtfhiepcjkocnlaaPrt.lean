/- The walk of SchemeParts. -/
import Derived.Test.YtfhiepcjkocnlaaRsv
import Derived.Test.YtfhiepcjkocnlaaShs
namespace Go.Proofs.Ytfhiepcjkocnlaa
set_option linter.unusedVariables false
open Go.RowKit

theorem rowF_of {w : World} {L n : Nat} {f : Nat → Int} (h : w.rowIs L 2 n (fun i => .int .i64 (f i))) : RowF w (some ⟨L, 0, none⟩) n f :=
  .inr ⟨L, 0, rfl, fun k hk => by rw [Nat.zero_add]; exact h.cell hk⟩
set_option maxRecDepth 100000 in
set_option maxHeartbeats 6400000 in
theorem schemeParts_walk (w : World) (A : Option Addr) (c : Nat) (l : List Tr) (h : TierArg w A c l) (B : Option Addr) (d : Nat) (v : List Vol) (hv : VolArg w B d v) :
    Calls Try.prog 6 #[.slice A l.length c, .slice B v.length d] w fun e w' => e = .returned (.bool true) ∧ Below w.heap.size w w' := by
  have hup := upT_of h.2.1
  have hns : ∀ x ∈ v, x.s.size ≤ maxLen := fun x hx => (hv.2.1 x hx).1
  have HFW := Lib.hid (few_any A c l B d v w (Nat.le_trans h.2.2.1 h.2.2.2.2) hv.1 (Nat.le_trans hv.2.2.1 hv.2.2.2.2) hns)
  cases hf : fewB l v
  case false =>
    rw [hf] at HFW
    clear h hv hup hns hf
    go_enter Try.func6, Try.ntmps6
    go_wp2_with fail
    refine HFW.out.mono ?_
    rintro e w1 ⟨rfl, rfl⟩
    go_wp2_with fail
    refine (awake_any _).mono ?_
    rintro e w1 ⟨rfl, hb⟩
    go_wp2_with fail
    go_ret
    exact ⟨rfl, hb⟩
  case true =>
    rw [hf] at HFW
    obtain ⟨f1, f2⟩ := fewB_facts hf
    have HR := Lib.hid h.1
    have HV := Lib.hid hv.1
    have HUP := Lib.hid hup
    have HNS := Lib.hid hns
    obtain ⟨sv, hsv⟩ : ∃ sv, savV l v = sv := ⟨_, rfl⟩
    have HSA := Lib.hid (fun W A c B d h1 h2 => saved_any A c l B d v W h1 (by omega) hup h2 (by omega) hns)
    have HRS := Lib.hid (fun W A c B d h1 h2 => rsaved_any A c l B d v W h1 (by omega) hup h2 (by omega) hns)
    have hq1 : (sv == sv) = true := by simp
    by_cases hz : wholeE l v = 0
    · have HSH := Lib.hid (share_ok A c l B d v w h.1 (by omega) hup hv.1 (by omega) hns hz)
      have HRH := Lib.hid (fun W A c B d h1 h2 => rshare_ok A c l B d v W h1 (by omega) hup h2 (by omega) hns hz)
      rw [hz, hsv] at HSA HRS
      generalize shareF l v = f at HSH HRH
      clear h hv hup hns hf hz hsv
      go_enter Try.func6, Try.ntmps6
      go_wp2_with fail
      refine HFW.out.mono ?_
      rintro e w1 ⟨rfl, rfl⟩
      go_wp2_with fail
      refine HSH.out.mono ?_
      rintro e w1 ⟨L, rfl, hrl, hL, hb⟩
      have HL1 := Lib.hid hrl
      have HB1 := Lib.hid hb
      clear hrl hL hb
      go_wp2_with fail
      refine (tiers_any A c l w1 (HR.out.below HB1.out) (by omega)).mono ?_
      rintro e w2 ⟨A1, c1, rfl, hr1, hb⟩
      have HR1 := Lib.hid hr1
      have HL2 := Lib.hid (HL1.out.of_block (hb.block _ HL1.out.lt))
      have HB2 := Lib.hid (HB1.out.trans (hb.mono HB1.out.size))
      clear hr1 hb HL1
      go_wp2_with fail
      refine (vols_any B d v w2 (HV.out.below HB2.out) (by omega)).mono ?_
      rintro e w3 ⟨B1, d1, rfl, hr1, hb⟩
      have HV1 := Lib.hid hr1
      have HR1' := Lib.hid (HR1.out.below hb)
      have HL3 := Lib.hid (HL2.out.of_block (hb.block _ HL2.out.lt))
      have HB3 := Lib.hid (HB2.out.trans (hb.mono HB2.out.size))
      clear hr1 hb HL2 HR1
      go_wp2_with fail
      refine (HRH.out w3 A1 c1 B1 d1 HR1'.out HV1.out).mono ?_
      rintro e w4 ⟨M, rfl, hrl, hM, hb⟩
      have HM4 := Lib.hid hrl
      have HL4 := Lib.hid (HL3.out.of_block (hb.block _ HL3.out.lt))
      have HB4 := Lib.hid (HB3.out.trans (hb.mono HB3.out.size))
      clear hrl hM hb HL3 HR1' HV1
      go_wp2_with fail
      refine (HSA.out w4 A c B d (HR.out.below HB4.out) (HV.out.below HB4.out)).mono ?_
      rintro e w5 ⟨rfl, hb⟩
      have HM5 := Lib.hid (HM4.out.of_block (hb.block _ HM4.out.lt))
      have HL5 := Lib.hid (HL4.out.of_block (hb.block _ HL4.out.lt))
      have HB5 := Lib.hid (HB4.out.trans (hb.mono HB4.out.size))
      clear hb HM4 HL4
      go_wp2_with fail
      refine (tiers_any A c l w5 (HR.out.below HB5.out) (by omega)).mono ?_
      rintro e w6 ⟨A2, c2, rfl, hr1, hb⟩
      have HR2 := Lib.hid hr1
      have HM6 := Lib.hid (HM5.out.of_block (hb.block _ HM5.out.lt))
      have HL6 := Lib.hid (HL5.out.of_block (hb.block _ HL5.out.lt))
      have HB6 := Lib.hid (HB5.out.trans (hb.mono HB5.out.size))
      clear hr1 hb HM5 HL5
      go_wp2_with fail
      refine (vols_any B d v w6 (HV.out.below HB6.out) (by omega)).mono ?_
      rintro e w7 ⟨B2, d2, rfl, hr1, hb⟩
      have HV2 := Lib.hid hr1
      have HR2' := Lib.hid (HR2.out.below hb)
      have HM7 := Lib.hid (HM6.out.of_block (hb.block _ HM6.out.lt))
      have HL7 := Lib.hid (HL6.out.of_block (hb.block _ HL6.out.lt))
      have HB7 := Lib.hid (HB6.out.trans (hb.mono HB6.out.size))
      clear hr1 hb HM6 HL6 HR2
      go_wp2_with fail
      refine (HRS.out w7 A2 c2 B2 d2 HR2'.out HV2.out).mono ?_
      rintro e w8 ⟨rfl, hb⟩
      have HM8 := Lib.hid (HM7.out.of_block (hb.block _ HM7.out.lt))
      have HL8 := Lib.hid (HL7.out.of_block (hb.block _ HL7.out.lt))
      have HB8 := Lib.hid (HB7.out.trans (hb.mono HB7.out.size))
      clear hb HM7 HL7 HR2' HV2
      go_wp2_with fail
      refine (same_any (some ⟨L, 0, none⟩) v.length (some ⟨M, 0, none⟩) v.length v.length f w8 (rowF_of HL8.out) (rowF_of HM8.out) (by omega)).mono ?_
      rintro e w9 ⟨rfl, hb⟩
      have HB9 := Lib.hid (HB8.out.trans (hb.mono HB8.out.size))
      clear hb
      go_wp2_with fail
      refine (awake_any _).mono ?_
      rintro e w10 ⟨rfl, hb⟩
      go_wp2_with fail
      go_ret
      exact ⟨rfl, HB9.out.trans (hb.mono HB9.out.size)⟩
    · have HSH := Lib.hid (share_bad A c l B d v w h.1 (by omega) hup hv.1 (by omega) hns hz)
      have HRH := Lib.hid (fun W A c B d h1 h2 => rshare_bad A c l B d v W h1 (by omega) hup h2 (by omega) hns hz)
      obtain ⟨e0, he0⟩ : ∃ e0, wholeE l v = e0 := ⟨_, rfl⟩
      rw [he0] at HSH HRH
      rw [he0, hsv] at HSA HRS
      have hq2 : (e0 == e0) = true := by simp
      clear h hv hup hns hf hz hsv he0
      go_enter Try.func6, Try.ntmps6
      go_wp2_with fail
      refine HFW.out.mono ?_
      rintro e w1 ⟨rfl, rfl⟩
      go_wp2_with fail
      refine HSH.out.mono ?_
      rintro e w1 ⟨rfl, hb⟩
      have HB1 := Lib.hid hb
      clear hb
      go_wp2_with fail
      refine (tiers_any A c l w1 (HR.out.below HB1.out) (by omega)).mono ?_
      rintro e w2 ⟨A1, c1, rfl, hr1, hb⟩
      have HR1 := Lib.hid hr1
      have HB2 := Lib.hid (HB1.out.trans (hb.mono HB1.out.size))
      clear hr1 hb
      go_wp2_with fail
      refine (vols_any B d v w2 (HV.out.below HB2.out) (by omega)).mono ?_
      rintro e w3 ⟨B1, d1, rfl, hr1, hb⟩
      have HV1 := Lib.hid hr1
      have HR1' := Lib.hid (HR1.out.below hb)
      have HB3 := Lib.hid (HB2.out.trans (hb.mono HB2.out.size))
      clear hr1 hb HR1
      go_wp2_with fail
      refine (HRH.out w3 A1 c1 B1 d1 HR1'.out HV1.out).mono ?_
      rintro e w4 ⟨rfl, hb⟩
      have HB4 := Lib.hid (HB3.out.trans (hb.mono HB3.out.size))
      clear hb HR1' HV1
      go_wp2_with fail
      refine (HSA.out w4 A c B d (HR.out.below HB4.out) (HV.out.below HB4.out)).mono ?_
      rintro e w5 ⟨rfl, hb⟩
      have HB5 := Lib.hid (HB4.out.trans (hb.mono HB4.out.size))
      clear hb
      go_wp2_with fail
      refine (tiers_any A c l w5 (HR.out.below HB5.out) (by omega)).mono ?_
      rintro e w6 ⟨A2, c2, rfl, hr1, hb⟩
      have HR2 := Lib.hid hr1
      have HB6 := Lib.hid (HB5.out.trans (hb.mono HB5.out.size))
      clear hr1 hb
      go_wp2_with fail
      refine (vols_any B d v w6 (HV.out.below HB6.out) (by omega)).mono ?_
      rintro e w7 ⟨B2, d2, rfl, hr1, hb⟩
      have HV2 := Lib.hid hr1
      have HR2' := Lib.hid (HR2.out.below hb)
      have HB7 := Lib.hid (HB6.out.trans (hb.mono HB6.out.size))
      clear hr1 hb HR2
      go_wp2_with fail
      refine (HRS.out w7 A2 c2 B2 d2 HR2'.out HV2.out).mono ?_
      rintro e w8 ⟨rfl, hb⟩
      have HB8 := Lib.hid (HB7.out.trans (hb.mono HB7.out.size))
      clear hb HR2' HV2
      go_wp2_with fail
      refine (same_any none 0 none 0 0 (fun _ => 0) w8 (.inl rfl) (.inl rfl) (by omega)).mono ?_
      rintro e w9 ⟨rfl, hb⟩
      have HB9 := Lib.hid (HB8.out.trans (hb.mono HB8.out.size))
      clear hb
      go_wp2_with fail
      refine (awake_any _).mono ?_
      rintro e w10 ⟨rfl, hb⟩
      go_wp2_with fail
      go_ret
      exact ⟨rfl, HB9.out.trans (hb.mono HB9.out.size)⟩
end Go.Proofs.Ytfhiepcjkocnlaa
