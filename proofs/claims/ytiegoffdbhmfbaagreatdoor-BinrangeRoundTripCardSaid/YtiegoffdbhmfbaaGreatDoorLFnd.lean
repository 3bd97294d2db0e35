/- The walk of the law Finds. -/
import Derived.Test.YtiegoffdbhmfbaaGreatDoorAww
import Derived.Test.YtiegoffdbhmfbaaGreatDoorSma
import Derived.Test.YtiegoffdbhmfbaaGreatDoorRFnd
namespace Go.Proofs.YtiegoffdbhmfbaaGreatDoor
set_option linter.unusedVariables false
open Go.RowKit

theorem fd_sl {v : Value} {l : List Rg} {w : World} (hv : SlR w v l) (hok : ∀ x ∈ l, RgOk x) (s : ByteArray) (hs : s.size ≤ maxLen) : Calls Tryz.prog 7 #[v, .string s] w (FdPost l s w) := by
  obtain ⟨A, c, rfl, h1, h2, h3, _⟩ := hv.form
  exact find_any A c l s w h1 hok h2 h3 hs
theorem rfd_sl {v : Value} {l : List Rg} {w : World} (hv : SlR w v l) (hok : ∀ x ∈ l, RgOk x) (s : ByteArray) (hs : s.size ≤ maxLen) : Calls Tryz.prog 8 #[v, .string s] w (FdPost l s w) := by
  obtain ⟨A, c, rfl, h1, h2, h3, _⟩ := hv.form
  exact rfind_any A c l s w h1 hok h2 h3 hs
theorem sm_sl {v : Value} {l : List Rg} {w : World} (hv : SlR w v l) : Calls Tryz.prog 5 #[v] w (SmPost l w) := by
  obtain ⟨A, c, rfl, h1, h2, h3, _⟩ := hv.form
  exact small_any A c l w h1 h2 h3
set_option maxRecDepth 1000000 in
set_option maxHeartbeats 12800000 in
theorem law_finds (v : Value) (l : List Rg) (s : ByteArray) (w : World) (hv : SlR w v l) (hok : ∀ x ∈ l, RgOk x) (hs : s.size ≤ maxLen) :
    Calls Tryz.prog 3 #[v, .string s] w fun e w' => e = .returned (.bool true) ∧ Below w.heap.size w w' := by
  have HV := Lib.hid hv
  have HAW := Lib.hid (fun W => awake_any W)
  have HSM := Lib.hid (sm_sl hv)
  have HFD := Lib.hid (fun W (h : SlR W v l) => fd_sl h hok s hs)
  have HRF := Lib.hid (fun W (h : SlR W v l) => rfd_sl h hok s hs)
  unfold SmPost at HSM
  unfold FdPost at HFD HRF
  unfold maxLen at hs
  by_cases h100 : 100 < s.size
  · have hz : (100 : Int) < (s.size : Int) := by omega
    clear hv hok hs
    go_enter Tryz.func3, Tryz.ntmps3
    go_wp2_with fail
    refine HSM.out.mono ?_
    rintro e w1 ⟨b, rfl, hb80, hb⟩
    have HB := Lib.hid hb
    clear hb hb80
    cases b
    all_goals
      go_wp2_with fail
      refine (HAW.out _).mono ?_
      rintro e w2 ⟨rfl, hb⟩
      have HB2 := Lib.hid (HB.out.trans (hb.mono HB.out.size))
      clear hb
      go_wp2_with fail
      go_ret
      exact ⟨rfl, HB2.out⟩
  · have hz : ¬ (100 : Int) < (s.size : Int) := by omega
    clear hv hok hs h100
    go_enter Tryz.func3, Tryz.ntmps3
    go_wp2_with fail
    refine HSM.out.mono ?_
    rintro e w1 ⟨b, rfl, hb80, hb⟩
    have HB := Lib.hid hb
    have HV1 := Lib.hid (HV.out.below hb)
    clear hb hb80
    cases b
    · go_wp2_with fail
      refine (HAW.out _).mono ?_
      rintro e w2 ⟨rfl, hb⟩
      have HB2 := Lib.hid (HB.out.trans (hb.mono HB.out.size))
      clear hb
      go_wp2_with fail
      go_ret
      exact ⟨rfl, HB2.out⟩
    · go_wp2_with fail
      refine (HFD.out _ HV1.out).mono ?_
      rintro e w2 ⟨rfl, hb⟩
      have HB2 := Lib.hid (HB.out.trans (hb.mono HB.out.size))
      have HV2 := Lib.hid (HV1.out.below hb)
      clear hb HB HV1 HFD HSM
      generalize fdR l s = fa at *
      obtain ⟨⟨al, ah, ai, ap⟩, af⟩ := fa
      unfold rgC at HRF
      unfold rgC
      simp only at HRF ⊢
      have HA2 := Lib.hid (alloc_lt w2 (.cells #[.string al, .string ah, .string ai, .string ap] 26))
      have HK2 := Lib.hid (heap_alloc_new w2 (.cells #[.string al, .string ah, .string ai, .string ap] 26))
      have HB3 := Lib.hid (HB2.out.trans (HA2.out.mono HB2.out.size))
      have HV3 := Lib.hid (HV2.out.below HA2.out)
      clear HB2 HV2 HA2
      go_wp2_with fail
      refine (HRF.out _ HV3.out).mono ?_
      rintro e w4 ⟨rfl, hb⟩
      have HB4 := Lib.hid (HB3.out.trans (hb.mono HB3.out.size))
      have HK4 := Lib.hid (blk_later HK2.out hb)
      generalize w2.heap.size = X at *
      have z0 := cell_c HK4.out 0
      have z1 := cell_c HK4.out 1
      have z2 := cell_c HK4.out 2
      have z3 := cell_c HK4.out 3
      have hx : X < w4.heap.size := (Array.getElem?_eq_some_iff.1 HK4.out).1
      have HB5 := Lib.hid (HB4.out.trans ((alloc_lt w4 (.cells #[.string al, .string ah, .string ai, .string ap] 26)).mono HB4.out.size))
      have heq := fun W => eqr al ah ai ap W
      clear hb HB3 HV3 HK2 HRF
      go_wp2_with fail
      refine (HAW.out _).mono ?_
      rintro e w6 ⟨rfl, hb⟩
      have HB6 := Lib.hid (HB5.out.trans (hb.mono HB5.out.size))
      clear hb
      go_wp2_with fail
      go_ret
      exact ⟨rfl, HB6.out⟩
end Go.Proofs.YtiegoffdbhmfbaaGreatDoor
