/- The walk of the law Merges. -/
import Derived.Test.YtiegoffdbhmfbaaDoorAww
import Derived.Test.YtiegoffdbhmfbaaDoorSma
namespace Go.Proofs.YtiegoffdbhmfbaaDoor
set_option linter.unusedVariables false
open Go.RowKit

theorem ck_sl {v : Value} {l : List Rg} {w : World} (hv : SlR w v l) (hok : ∀ x ∈ l, RgOk x) : Calls Tryd.prog 6 #[v] w fun e w' => e = .returned (.int .i64 (ckR l)) ∧ Below w.heap.size w w' := by
  obtain ⟨A, c, rfl, h1, h2, h3, _⟩ := hv.form
  exact ckl_any A c l w h1 hok h2 h3
theorem fd_sl {v : Value} {l : List Rg} {w : World} (hv : SlR w v l) (hok : ∀ x ∈ l, RgOk x) (s : ByteArray) (hs : s.size ≤ maxLen) : Calls Tryd.prog 9 #[v, .string s] w (FdPost l s w) := by
  obtain ⟨A, c, rfl, h1, h2, h3, _⟩ := hv.form
  exact find_any A c l s w h1 hok h2 h3 hs
theorem sm_sl {v : Value} {l : List Rg} {w : World} (hv : SlR w v l) : Calls Tryd.prog 5 #[v] w (SmPost l w) := by
  obtain ⟨A, c, rfl, h1, h2, h3, _⟩ := hv.form
  exact small_any A c l w h1 h2 h3
theorem fdAt_none (l : List Rg) (s : ByteArray) : ∀ k, k ≤ l.length → (fdAt l s k).2 = false → fdAt l s k = (zRg, false) := by
  intro k
  induction k with
  | zero => intro _ _; rfl
  | succ k ih =>
    intro hk h
    rw [fdAt_step l s k (by omega)] at h ⊢
    unfold fdStep at h ⊢
    split at h
    · cases h
    · rename_i hc
      rw [if_neg hc]; exact ih (by omega) h
theorem fdR_same {l m : List Rg} (hl : TabOK l) (hm : TabOK m) (hs : ∀ s n is pr, Sem l s n is pr ↔ Sem m s n is pr) (s : ByteArray) :
    (fdR l s).2 = (fdR m s).2 ∧ (fdR l s).1.is = (fdR m s).1.is ∧ (fdR l s).1.pr = (fdR m s).1.pr := by
  have e1 := (ck_iff l).2 hl
  have e2 := (ck_iff m).2 hm
  unfold fdR
  rw [e1, e2]
  by_cases hp : panE s ≠ 0
  · rw [if_pos (.inr hp), if_pos (.inr hp)]; exact ⟨rfl, rfl, rfl⟩
  · rw [if_neg (by simp; simpa using hp), if_neg (by simp; simpa using hp)]
    obtain ⟨h1, h2⟩ := fd_same hl hm hs s
    cases hA : (fdAt l s l.length).2
    · rw [fdAt_none l s _ (Nat.le_refl _) hA, fdAt_none m s _ (Nat.le_refl _) (by rw [← h1]; exact hA)]
      exact ⟨rfl, rfl, rfl⟩
    · exact ⟨by rw [← h1, hA], h2 hA⟩
set_option maxRecDepth 1000000 in
set_option maxHeartbeats 12800000 in
theorem law_merges (v : Value) (l : List Rg) (s : ByteArray) (w : World) (hv : SlR w v l) (hok : ∀ x ∈ l, RgOk x) (hs : s.size ≤ maxLen) :
    Calls Tryd.prog 4 #[v, .string s] w fun e w' => e = .returned (.bool true) ∧ Below w.heap.size w w' := by
  have HV := Lib.hid hv
  have HS := Lib.hid hs
  have HAW := Lib.hid (fun W => awake_any W)
  have HSM := Lib.hid (sm_sl hv)
  have HCK := Lib.hid (fun W (h : SlR W v l) => ck_sl h hok)
  have HMR := Lib.hid (fun W (h : SlR W v l) => mrg_any v l W h hok)
  have HFD := Lib.hid (fun W (h : SlR W v l) => fd_sl h hok s hs)
  unfold SmPost at HSM
  unfold MrgPost at HMR
  unfold FdPost at HFD
  obtain ⟨A, cp, rfl, -, -, hcm, -⟩ := hv.form
  unfold maxLen at hcm hs
  by_cases h100 : 100 < s.size
  · have hz : (100 : Int) < (s.size : Int) := by omega
    clear hv hok hs
    go_enter Tryd.func4, Tryd.ntmps4
    go_wp2_with fail
    refine HSM.out.mono ?_
    rintro e w1 ⟨b, rfl, hb80, hb⟩
    have HB := Lib.hid hb
    clear hb hb80
    cases b
    all_goals
      go_wp2_with fail
      refine (HAW.out _).mono ?_
      rintro e w2 ⟨rfl, hb⟩
      have HB2 := Lib.hid (HB.out.trans (hb.mono HB.out.size))
      clear hb
      go_wp2_with fail
      go_ret
      exact ⟨rfl, HB2.out⟩
  · have hz : ¬ (100 : Int) < (s.size : Int) := by omega
    by_cases hE : ckR l = 0
    · have HT := Lib.hid ((ck_iff l).1 hE)
      rw [hE] at HCK HMR
      clear hv hok hs hE h100
      go_enter Tryd.func4, Tryd.ntmps4
      go_wp2_with fail
      refine HSM.out.mono ?_
      rintro e w1 ⟨b, rfl, hb80, hb⟩
      have HB := Lib.hid hb
      have HV1 := Lib.hid (HV.out.below hb)
      clear hb hb80
      cases b
      · go_wp2_with fail
        refine (HAW.out _).mono ?_
        rintro e w2 ⟨rfl, hb⟩
        have HB2 := Lib.hid (HB.out.trans (hb.mono HB.out.size))
        clear hb
        go_wp2_with fail
        go_ret
        exact ⟨rfl, HB2.out⟩
      · go_wp2_with fail
        refine (HCK.out _ HV1.out).mono ?_
        rintro e w2 ⟨rfl, hb⟩
        have HB2 := Lib.hid (HB.out.trans (hb.mono HB.out.size))
        have HV2 := Lib.hid (HV1.out.below hb)
        clear hb HB HV1
        go_wp2_with fail
        refine (HMR.out _ HV2.out).mono ?_
        rintro e w3 ⟨v1, r1, rfl, hsl, hb, hm, -⟩
        have HB3 := Lib.hid (HB2.out.trans (hb.mono HB2.out.size))
        have HV3 := Lib.hid (HV2.out.below hb)
        have HM := Lib.hid (hm trivial)
        have HU3 := Lib.hid hsl
        have HF := Lib.hid (HM.out.facts HT.out)
        have HMR1 := Lib.hid (fun W (h : SlR W v1 r1) => mrg_any v1 r1 W h HF.out.1.oks)
        have HCK1 := Lib.hid (fun W (h : SlR W v1 r1) => ck_sl h HF.out.1.oks)
        have HSO1 := Lib.hid (fun W (h : SlR W v1 r1) => sort_any v1 r1 W h HF.out.1.oks (by have := HF.out.1.len; omega))
        have HFD1 := Lib.hid (fun W (h : SlR W v1 r1) => fd_sl h HF.out.1.oks s HS.out)
        have HFS := Lib.hid (fdR_same HT.out HF.out.1 HF.out.2.2.2.2 s)
        unfold MrgPost at HMR1
        unfold SrtPost at HSO1
        unfold FdPost at HFD1
        rw [(ck_iff r1).2 HF.out.1] at HMR1 HCK1
        clear hb hsl hm HB2 HV2
        obtain ⟨A1, c1, rfl, -, -, -, -⟩ := HU3.out.form
        have hlen : ¬ (l.length : Int) < (r1.length : Int) := by have := HF.out.2.1; omega
        go_wp2_with fail
        refine (HMR1.out _ HU3.out).mono ?_
        rintro e w4 ⟨v2, r2, rfl, hsl, hb, hm, -⟩
        obtain rfl := HM.out.again HT.out (hm trivial)
        have HB4 := Lib.hid (HB3.out.trans (hb.mono HB3.out.size))
        have HV4 := Lib.hid (HV3.out.below hb)
        have HU4 := Lib.hid (HU3.out.below hb)
        have HX4 := Lib.hid hsl
        clear hb hsl hm HB3 HV3 HU3
        go_wp2_with fail
        refine (same_any _ _ _ _ HX4.out HU4.out).mono ?_
        rintro e w5 ⟨rfl, hb⟩
        have HB5 := Lib.hid (HB4.out.trans (hb.mono HB4.out.size))
        have HV5 := Lib.hid (HV4.out.below hb)
        have HU5 := Lib.hid (HU4.out.below hb)
        clear hb HB4 HV4 HU4 HX4
        go_wp2_with fail
        refine (HSO1.out _ HU5.out).mono ?_
        rintro e w6 ⟨v3, m3, rfl, hsr, hsl, hb⟩
        obtain rfl := (SrtOf.self HF.out.2.2.2.1).unique hsr
        have HB6 := Lib.hid (HB5.out.trans (hb.mono HB5.out.size))
        have HV6 := Lib.hid (HV5.out.below hb)
        have HU6 := Lib.hid (HU5.out.below hb)
        have HX6 := Lib.hid hsl
        clear hb hsl hsr HB5 HV5 HU5
        go_wp2_with fail
        refine (same_any _ _ _ _ HX6.out HU6.out).mono ?_
        rintro e w7 ⟨rfl, hb⟩
        have HB7 := Lib.hid (HB6.out.trans (hb.mono HB6.out.size))
        have HV7 := Lib.hid (HV6.out.below hb)
        have HU7 := Lib.hid (HU6.out.below hb)
        clear hb HB6 HV6 HU6 HX6
        go_wp2_with fail
        refine (HCK1.out _ HU7.out).mono ?_
        rintro e w8 ⟨rfl, hb⟩
        have HB8 := Lib.hid (HB7.out.trans (hb.mono HB7.out.size))
        have HV8 := Lib.hid (HV7.out.below hb)
        have HU8 := Lib.hid (HU7.out.below hb)
        clear hb HB7 HV7 HU7
        go_wp2_with fail
        clear hlen
        refine (HFD.out _ HV8.out).mono ?_
        rintro e w9 ⟨rfl, hb⟩
        have HB9 := Lib.hid (HB8.out.trans (hb.mono HB8.out.size))
        have HU9 := Lib.hid (HU8.out.below hb)
        clear hb HB8 HV8 HU8 HFD HCK HMR HMR1 HCK1 HSO1 HM HT HSM
        generalize fdR l s = fa at *
        generalize fdR r2 s = fb at *
        obtain ⟨⟨al, ah, ai, ap⟩, af⟩ := fa
        obtain ⟨⟨bl, bh, bi, bp⟩, bf⟩ := fb
        simp only at HFS
        obtain ⟨rfl, rfl, rfl⟩ := HFS.out
        unfold rgC at HFD1
        unfold rgC
        simp only at HFD1 ⊢
        have HA9 := Lib.hid (alloc_lt w9 (.cells #[.string al, .string ah, .string ai, .string ap] 29))
        have HK9 := Lib.hid (heap_alloc_new w9 (.cells #[.string al, .string ah, .string ai, .string ap] 29))
        have HB10 := Lib.hid (HB9.out.trans (HA9.out.mono HB9.out.size))
        have HU10 := Lib.hid (HU9.out.below HA9.out)
        clear HFS HF HA9 HB9 HU9
        go_wp2_with fail
        refine (HFD1.out _ HU10.out).mono ?_
        rintro e w11 ⟨rfl, hb⟩
        have HB11 := Lib.hid (HB10.out.trans (hb.mono HB10.out.size))
        have HK11 := Lib.hid (blk_later HK9.out hb)
        generalize w9.heap.size = X at *
        have z2 := cell_c HK11.out 2
        have z3 := cell_c HK11.out 3
        have hx : X < w11.heap.size := (Array.getElem?_eq_some_iff.1 HK11.out).1
        have HB12 := Lib.hid (HB11.out.trans ((alloc_lt w11 (.cells #[.string bl, .string bh, .string ai, .string ap] 29)).mono HB11.out.size))
        clear hb HB10 HU10 HK9
        go_wp2_with fail
        refine (HAW.out _).mono ?_
        rintro e w13 ⟨rfl, hb⟩
        have HB13 := Lib.hid (HB12.out.trans (hb.mono HB12.out.size))
        clear hb
        go_wp2_with fail
        go_ret
        exact ⟨rfl, HB13.out⟩
    · have hE' : (ckR l != 0) = true := by simpa using hE
      generalize ckR l = E at *
      clear hv hok hs hE h100 HMR HFD
      go_enter Tryd.func4, Tryd.ntmps4
      go_wp2_with fail
      refine HSM.out.mono ?_
      rintro e w1 ⟨b, rfl, hb80, hb⟩
      have HB := Lib.hid hb
      have HV1 := Lib.hid (HV.out.below hb)
      clear hb hb80
      cases b
      · go_wp2_with fail
        refine (HAW.out _).mono ?_
        rintro e w2 ⟨rfl, hb⟩
        have HB2 := Lib.hid (HB.out.trans (hb.mono HB.out.size))
        clear hb
        go_wp2_with fail
        go_ret
        exact ⟨rfl, HB2.out⟩
      · go_wp2_with fail
        refine (HCK.out _ HV1.out).mono ?_
        rintro e w2 ⟨rfl, hb⟩
        have HB2 := Lib.hid (HB.out.trans (hb.mono HB.out.size))
        clear hb HB HV1
        go_wp2_with fail
        refine (HAW.out _).mono ?_
        rintro e w3 ⟨rfl, hb⟩
        have HB3 := Lib.hid (HB2.out.trans (hb.mono HB2.out.size))
        clear hb
        go_wp2_with fail
        go_ret
        exact ⟨rfl, HB3.out⟩
end Go.Proofs.YtiegoffdbhmfbaaDoor
