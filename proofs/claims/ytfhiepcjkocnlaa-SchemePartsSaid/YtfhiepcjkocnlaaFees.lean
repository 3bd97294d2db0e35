/- The walks of SchemeFees and SchemeExact. -/
import Derived.Test.YtfhiepcjkocnlaaTil
import Derived.Test.YtfhiepcjkocnlaaFee
import Derived.Test.YtfhiepcjkocnlaaRfee
import Derived.Test.YtfhiepcjkocnlaaAwake
import Derived.Test.YtfhiepcjkocnlaaOpen
namespace Go.Proofs.Ytfhiepcjkocnlaa
set_option linter.unusedVariables false
open Go.RowKit

set_option maxHeartbeats 3200000 in
theorem fees_any (w : World) (A : Option Addr) (c : Nat) (l : List Tr) (n : Int) (hr : IsRow w A (cellsT l)) (hup : upT l) (hm : l.length ≤ maxLen) :
    Calls Try.prog 4 #[.slice A l.length c, .int .i64 n] w fun e w' => e = .returned (.bool true) ∧ Below w.heap.size w w' := by
  unfold maxLen at hm
  by_cases h100 : 100 < l.length
  · clear hr
    go_enter Try.func4, Try.ntmps4
    go_wp2_with fail
    refine (awake_any _).mono ?_
    rintro e w1 ⟨rfl, hb⟩
    go_wp2_with fail
    go_ret
    exact ⟨rfl, hb⟩
  · have HR := Lib.hid hr
    have HT := Lib.hid (tiers_any A c l w hr (by omega))
    have HUP := Lib.hid hup
    clear hr hup
    go_enter Try.func4, Try.ntmps4
    go_wp2_with fail
    refine HT.out.mono ?_
    rintro e w1 ⟨A', c', rfl, hr1, hb1⟩
    have HR1 := Lib.hid hr1
    have HA1 := Lib.hid (HR.out.below hb1)
    have HB1 := Lib.hid hb1
    clear hr1 hb1
    have hl : l.length ≤ 1000000 := by omega
    go_wp2_with fail
    refine (marg_any A c l n _ HA1.out hl HUP.out).mono ?_
    rintro e w2 ⟨rfl, hb⟩
    have HR2 := Lib.hid (HR1.out.below hb)
    have HA2 := Lib.hid (HA1.out.below hb)
    have HB2 := Lib.hid (HB1.out.trans (hb.mono HB1.out.size))
    clear hb
    go_wp2_with fail
    refine (rmarg_any A' c' l n _ HR2.out hl).mono ?_
    rintro e w3 ⟨rfl, hb⟩
    have HR3 := Lib.hid (HR2.out.below hb)
    have HA3 := Lib.hid (HA2.out.below hb)
    have HB3 := Lib.hid (HB2.out.trans (hb.mono HB2.out.size))
    clear hb
    go_wp2_with fail
    refine (fee_any A c l n _ HA3.out hl HUP.out).mono ?_
    rintro e w4 ⟨rfl, hb⟩
    have HR4 := Lib.hid (HR3.out.below hb)
    have HA4 := Lib.hid (HA3.out.below hb)
    have HB4 := Lib.hid (HB3.out.trans (hb.mono HB3.out.size))
    clear hb
    go_wp2_with fail
    refine (rfee_any A' c' l n _ HR4.out hl HUP.out).mono ?_
    rintro e w5 ⟨rfl, hb⟩
    have HR5 := Lib.hid (HR4.out.below hb)
    have HA5 := Lib.hid (HA4.out.below hb)
    have HB5 := Lib.hid (HB4.out.trans (hb.mono HB4.out.size))
    clear hb
    go_wp2_with fail
    refine (check_any A c l _ HA5.out hl).mono ?_
    rintro e w6 ⟨rfl, hb⟩
    have HR6 := Lib.hid (HR5.out.below hb)
    have HB6 := Lib.hid (HB5.out.trans (hb.mono HB5.out.size))
    clear hb
    go_wp2_with fail
    refine (rcheck_any A' c' l _ HR6.out hl).mono ?_
    rintro e w7 ⟨rfl, hb⟩
    have HB7 := Lib.hid (HB6.out.trans (hb.mono HB6.out.size))
    clear hb
    go_wp2_with fail
    refine (awake_any _).mono ?_
    rintro e w8 ⟨rfl, hb⟩
    go_wp2_with fail
    go_ret
    exact ⟨rfl, HB7.out.trans (hb.mono HB7.out.size)⟩
set_option maxHeartbeats 3200000 in
theorem exact_any (w : World) (A : Option Addr) (c : Nat) (l : List Tr) (n : Nat) (hr : IsRow w A (cellsT l)) (hup : upT l) (hm : l.length ≤ maxLen) (hn : n < 65536) :
    Calls Try.prog 5 #[.slice A l.length c, .int .u16 n] w fun e w' => e = .returned (.bool true) ∧ Below w.heap.size w w' := by
  unfold maxLen at hm
  by_cases h100 : 100 < l.length
  · clear hr
    go_enter Try.func5, Try.ntmps5
    go_wp2_with fail
    refine (awake_any _).mono ?_
    rintro e w1 ⟨rfl, hb⟩
    go_wp2_with fail
    go_ret
    exact ⟨rfl, hb⟩
  · have HR := Lib.hid hr
    have HUP := Lib.hid hup
    have hl : l.length ≤ 1000000 := by omega
    obtain ⟨k, hk⟩ : ∃ k, n % 300 = k := ⟨_, rfl⟩
    have hk3 : k < 300 := by omega
    have HF := Lib.hid (fee_any A c l k w hr hl hup)
    clear hr hup
    have hkk : (n : Int) % 300 = (k : Int) := by omega
    have HK := Lib.hid hkk
    clear hk hkk
    by_cases hz : chkE l = 0
    · have hok := okT_of_chk hz
      have hne : l ≠ [] := by
        intro e
        rw [e] at hz
        exact absurd hz (by decide)
      have hbd := feeS_bd hok hne k
      have hfv := (fee_val hz (show (0 : Int) ≤ (k : Int) by omega) (by omega) rfl hbd.1).2 (by omega)
      obtain ⟨S, hS⟩ : ∃ S, feeS l k 0 = S := ⟨_, rfl⟩
      rw [hS] at hbd hfv
      have HS := Lib.hid hS
      have hE := hfv.1
      have hV := hfv.2
      rw [hE, hV] at HF
      have HOK := Lib.hid hok
      have HNE := Lib.hid hne
      have HZ := Lib.hid hz
      clear hS hfv hE hV hok hne hz
      have hS50 : 0 ≤ S + 50 := by omega
      go_enter Try.func5, Try.ntmps5
      go_wp2_with fail
      rw [HK.out]
      refine HF.out.mono ?_
      rintro e w1 ⟨rfl, hb⟩
      have HR1 := Lib.hid (HR.out.below hb)
      have HB1 := Lib.hid hb
      clear hb
      go_wp2_with fail
      go_loopw [8, 9, 10, 11] (fun s i p g wr => ∃ j : Nat, j ≤ k ∧ i = .int .i64 ((j : Int) + 1) ∧ s = .int .i64 (feeS l j 0) ∧ Below w.heap.size w wr ∧ w1.heap.size ≤ wr.heap.size) (fun _ i _ _ _ => k + 1 - (intOf i).toNat)
      case atStart => exact ⟨0, by omega, rfl, by rw [show ((0 : Nat) : Int) = 0 from rfl, fee_zero HOK.out], HB1.out, Nat.le_refl _⟩
      case round =>
        obtain ⟨j, hj, rfl, rfl, hb, hsz⟩ := hrel
        have hRr := HR.out.below hb
        have HB := Lib.hid hb
        clear hb
        by_cases hlt : j < k
        · have hma := Lib.hid (fun W h => marg_any A c l ((j : Int) + 1) W h hl HUP.out)
          have hE1 : margE l ((j : Int) + 1) = 0 := by unfold margE; rw [if_pos HZ.out, if_neg (by omega)]
          have hV1 : margV l ((j : Int) + 1) = margL l ((j : Int) + 1) 0 := by unfold margV; rw [hE1, if_pos rfl]
          have hpb := margL_bd (okT_price HOK.out) ((j : Int) + 1) 0 (by omega)
          have hsb := feeS_bd HOK.out HNE.out j
          have hst := fee_succ HOK.out HNE.out j
          rw [hE1, hV1] at hma
          obtain ⟨P, hP⟩ : ∃ P, margL l ((j : Int) + 1) 0 = P := ⟨_, rfl⟩
          rw [hP] at hma hpb hst
          obtain ⟨S0, hS0⟩ : ∃ S0, feeS l j 0 = S0 := ⟨_, rfl⟩
          rw [hS0] at hsb hst ⊢
          have HST := Lib.hid hst
          have HRr := Lib.hid hRr
          clear hE1 hV1 hP hS0 hst hRr
          obtain ⟨pb1, pb2⟩ := hpb
          go_wp2_with fail
          refine (hma.out _ HRr.out).mono ?_
          rintro e w2 ⟨rfl, hb⟩
          have HB2 := Lib.hid (HB.out.trans (hb.mono HB.out.size))
          have hsz2 := hb.size
          clear hb
          go_wp2_with fail
          have ej : (((j + 1 : Nat)) : Int) = (j : Int) + 1 := by omega
          exact ⟨⟨j + 1, by omega, by rw [ej], by rw [ej, HST.out], HB2.out, by omega⟩, by simp [intOf]; omega⟩
        · obtain rfl : j = k := by omega
          rw [HS.out]
          go_wp2_with fail
          refine (awake_any _).mono ?_
          rintro e w8 ⟨rfl, hb⟩
          go_wp2_with fail
          go_ret
          exact ⟨rfl, HB.out.trans (hb.mono HB.out.size)⟩
    · have hE : feeE l k = chkE l := by unfold feeE; rw [if_neg hz]
      have hV : feeV l k = 0 := by unfold feeV; rw [hE, if_neg hz]
      rw [hE, hV] at HF
      have hma := Lib.hid (fun W h => check_any A c l W h hl)
      obtain ⟨ce, hce⟩ : ∃ ce, chkE l = ce := ⟨_, rfl⟩
      rw [hce] at HF hma hz
      have hzb : (ce != 0) = true := bne_iff_ne.2 hz
      clear hE hV hce hz
      go_enter Try.func5, Try.ntmps5
      go_wp2_with fail
      rw [HK.out]
      refine HF.out.mono ?_
      rintro e w1 ⟨rfl, hb⟩
      have HR1 := Lib.hid (HR.out.below hb)
      have HB1 := Lib.hid hb
      clear hb
      go_wp2_with fail
      refine (hma.out _ HR1.out).mono ?_
      rintro e w2 ⟨rfl, hb⟩
      have HB2 := Lib.hid (HB1.out.trans (hb.mono HB1.out.size))
      clear hb
      go_wp2_with fail
      refine (awake_any _).mono ?_
      rintro e w8 ⟨rfl, hb⟩
      go_wp2_with fail
      go_ret
      exact ⟨rfl, HB2.out.trans (hb.mono HB2.out.size)⟩
/-- What an argument that is a slice of tiers gives. -/
def TierArg (w : World) (A : Option Addr) (c : Nat) (l : List Tr) : Prop := IsRow w A (cellsT l) ∧ (∀ x ∈ l, (Lit.int .i64 x.f).wf = true ∧ (Lit.int .i64 x.p).wf = true) ∧ l.length ≤ c ∧ (A = none → c = 0) ∧ c ≤ maxLen
theorem schemeFees_walk (w : World) (A : Option Addr) (c : Nat) (l : List Tr) (h : TierArg w A c l) (n : Int) (hn : (Lit.int .i64 n).wf = true) :
    Calls Try.prog 4 #[.slice A l.length c, .int .i64 n] w fun e w' => e = .returned (.bool true) ∧ Below w.heap.size w w' :=
  fees_any w A c l n h.1 (upT_of h.2.1) (Nat.le_trans h.2.2.1 h.2.2.2.2)
theorem wf_u16 {n : Int} (h : (Lit.int .u16 n).wf = true) : 0 ≤ n ∧ n ≤ 65535 := by
  simp [Lit.wf, IntKind.min, IntKind.max, IntKind.bits, IntKind.signed] at h
  omega
theorem schemeExact_walk (w : World) (A : Option Addr) (c : Nat) (l : List Tr) (h : TierArg w A c l) (n : Int) (hn : (Lit.int .u16 n).wf = true) :
    Calls Try.prog 5 #[.slice A l.length c, .int .u16 n] w fun e w' => e = .returned (.bool true) ∧ Below w.heap.size w w' := by
  obtain ⟨h0, h1⟩ := wf_u16 hn
  obtain ⟨m, rfl⟩ := Int.eq_ofNat_of_zero_le h0
  exact exact_any w A c l m h.1 (upT_of h.2.1) (Nat.le_trans h.2.2.1 h.2.2.2.2) (by omega)
end Go.Proofs.Ytfhiepcjkocnlaa
