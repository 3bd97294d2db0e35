/- The walks of the laws about keyed digests. -/
import Derived.Test.YtnoichipocmkgaaDoorNbr
namespace Go.Proofs.YtnoichipocmkgaaDoor
set_option linter.unusedVariables false
open Go.RowKit

def lit255 : ByteArray := ⟨#[48, 48, 48, 48, 48, 48, 48, 48, 48, 48, 48, 48, 48, 48, 102, 102]⟩
theorem aw1 : codeS 12345 3 = ⟨#[51, 52, 53]⟩ := ba_ext (by decide +kernel)
theorem aw2 : codeS 7 4 = ⟨#[48, 48, 48, 55]⟩ := ba_ext (by decide +kernel)
theorem aw3 : numV lit255 = 255 := by decide +kernel
theorem aw4 : numE lit255 = 0 := by decide +kernel
theorem aw5 : textS 255 = lit255 := ba_ext (by decide +kernel)
theorem aw6 : verB 1 ⟨#[97]⟩ ⟨#[]⟩ = false := by
  unfold verB
  rw [decide_eq_false (by intro h; exact absurd h.1 (by decide)), Bool.false_and]
set_option maxHeartbeats 800000 in
theorem awake_any (w : World) (hw : KX w) : Calls Tryd.prog 7 #[] w fun e w' => e = .returned (.bool true) ∧ Below w.heap.size w w' := by
  have h1 := Lib.hid (fun w hw => code_any 12345 3 w hw (by unfold M64; omega) (by omega) (by omega))
  have h2 := Lib.hid (fun w hw => code_any 7 4 w hw (by unfold M64; omega) (by omega) (by omega))
  have h3 := Lib.hid (fun w => code_bad 5 13 w (by omega))
  have h4 := Lib.hid (fun w hw => number_any lit255 w hw (by decide))
  have h5 := Lib.hid (fun w hw => text_any 255 w hw (by unfold M64; omega))
  have h6 := Lib.hid (fun w hw => verify_any 1 ⟨#[97]⟩ ⟨#[]⟩ w hw (by unfold M64; omega) (by decide) (by decide))
  rw [aw1] at h1
  rw [aw2] at h2
  rw [aw3, aw4] at h4
  rw [aw5] at h5
  rw [aw6] at h6
  have HW := Lib.hid hw
  clear hw
  go_enter Tryd.func7, Tryd.ntmps7
  go_wp2_with fail
  refine (h1.out _ HW.out.1).mono ?_
  rintro e w1 ⟨rfl, hb⟩
  have H1 := Lib.hid hb
  clear hb
  go_wp2_with fail
  refine (h2.out _ (HW.out.below H1.out).1).mono ?_
  rintro e w2 ⟨rfl, hb⟩
  have H2 := Lib.hid (H1.out.trans (hb.mono H1.out.size))
  clear hb
  go_wp2_with fail
  refine (h3.out _).mono ?_
  rintro e w3 ⟨rfl, rfl⟩
  go_wp2_with fail
  refine (h4.out _ (HW.out.below H2.out)).mono ?_
  rintro e w4 ⟨rfl, hb⟩
  have H4 := Lib.hid (H2.out.trans (hb.mono H2.out.size))
  clear hb
  go_wp2_with fail
  refine (h5.out _ (HW.out.below H4.out).1).mono ?_
  rintro e w5 ⟨rfl, hb⟩
  have H5 := Lib.hid (H4.out.trans (hb.mono H4.out.size))
  clear hb
  unfold lit255
  go_wp2_with fail
  refine (h6.out _ (HW.out.below H5.out)).mono ?_
  rintro e w6 ⟨rfl, hb⟩
  have H6 := Lib.hid (H5.out.trans (hb.mono H5.out.size))
  clear hb
  go_wp2_with fail
  go_ret
  exact ⟨rfl, H6.out⟩
theorem wf64 {k : Int} (h : (Lit.int .u64 k).wf = true) : 0 ≤ k ∧ k ≤ 18446744073709551615 := by
  have := bounds_u64 h
  omega
theorem wf8 {k : Int} (h : (Lit.int .u8 k).wf = true) : 0 ≤ k ∧ k ≤ 255 := by
  have := bounds_u8 h
  omega
set_option maxHeartbeats 800000 in
theorem keyedChecks_walk (w : World) (hw : KX w) (ht : True) (k : Int) (hk0 : (Lit.int .u64 k).wf = true) (d : ByteArray) (hd : d.size ≤ maxLen) (c : ByteArray) (hc : c.size ≤ maxLen) :
    Calls Tryd.prog 3 #[.int .u64 k, .string d, .string c] w fun e w' => e = .returned (.bool true) ∧ Below w.heap.size w w' := by
  have hk := wf64 hk0
  clear hk0
  obtain ⟨K, rfl⟩ := Int.eq_ofNat_of_zero_le hk.1
  have hK : K < M64 := by unfold M64; omega
  unfold maxLen at hd hc
  have ha := Lib.hid (fun w hw => awake_any w hw)
  have HW := Lib.hid hw
  by_cases hl : d.size ≤ 1000 ∧ c.size ≤ 1000
  · obtain ⟨l1, l2⟩ := hl
    have h1 := Lib.hid (fun w hw => number_any c w hw (by omega))
    have h2 := Lib.hid (fun w => rnumber_any c w (by omega))
    have h3 := Lib.hid (fun w hw => verify_any K d c w hw hK (by omega) (by omega))
    have h4 := Lib.hid (fun w => rverify_any K d c w hK (by omega) (by omega))
    generalize verB K d c = vb at h3 h4
    generalize numV c = nv at h1 h2
    generalize numE c = ne at h1 h2
    clear hw hk hK ht
    go_enter Tryd.func3, Tryd.ntmps3
    go_wp2_with fail
    refine (h1.out _ HW.out).mono ?_
    rintro e w1 ⟨rfl, hb⟩
    have H1 := Lib.hid hb
    clear hb
    go_wp2_with fail
    refine (h2.out _).mono ?_
    rintro e w2 ⟨rfl, hb⟩
    have H2 := Lib.hid (H1.out.trans (hb.mono H1.out.size))
    clear hb
    go_wp2_with fail
    refine (h3.out _ (HW.out.below H2.out)).mono ?_
    rintro e w3 ⟨rfl, hb⟩
    have H3 := Lib.hid (H2.out.trans (hb.mono H2.out.size))
    clear hb
    go_wp2_with fail
    refine (h4.out _).mono ?_
    rintro e w4 ⟨rfl, hb⟩
    have H4 := Lib.hid (H3.out.trans (hb.mono H3.out.size))
    clear hb
    go_wp2_with fail
    refine (ha.out _ (HW.out.below H4.out)).mono ?_
    rintro e w5 ⟨rfl, hb⟩
    have H5 := Lib.hid (H4.out.trans (hb.mono H4.out.size))
    clear hb
    go_wp2_with fail
    go_ret
    exact ⟨rfl, H5.out⟩
  · have hll : 1000 < d.size ∨ (d.size ≤ 1000 ∧ 1000 < c.size) := by omega
    rcases hll with hll | ⟨hl1, hll⟩
    all_goals
      clear hw hk hK ht hl
      go_enter Tryd.func3, Tryd.ntmps3
      go_wp2_with fail
      refine (ha.out _ HW.out).mono ?_
      rintro e w1 ⟨rfl, hb⟩
      have H1 := Lib.hid hb
      clear hb
      go_wp2_with fail
      go_ret
      exact ⟨rfl, H1.out⟩
set_option maxHeartbeats 800000 in
theorem keyedMacs_walk (w : World) (hw : KX w) (ht : True) (k : Int) (hk0 : (Lit.int .u64 k).wf = true) (d : ByteArray) (hd : d.size ≤ maxLen) (n : Int) :
    Calls Tryd.prog 5 #[.int .u64 k, .string d, .int .i64 n] w fun e w' => e = .returned (.bool true) ∧ Below w.heap.size w w' := by
  have hk := wf64 hk0
  clear hk0
  obtain ⟨K, rfl⟩ := Int.eq_ofNat_of_zero_le hk.1
  have hK : K < M64 := by unfold M64; omega
  unfold maxLen at hd
  have ha := Lib.hid (fun w hw => awake_any w hw)
  have HW := Lib.hid hw
  by_cases hl : d.size ≤ 1000
  · have h1 := Lib.hid (fun w => mac_any K d w hK (by omega))
    have h2 := Lib.hid (fun w => rmac_any K d w hK (by omega))
    have h3 := Lib.hid (fun w => derive_any K d w hK hl)
    have h4 := Lib.hid (fun w => rderive_any K d w hK hl)
    have h5 := Lib.hid (fun w hw => text_any K w hw hK)
    have h6 := Lib.hid (fun w => rtext_any K w hK)
    have hml := macOf_lt K d.data.toList
    generalize macOf K d.data.toList = m at h1 h2 hml
    generalize macOf K (lab ++ d).data.toList = m2 at h3 h4
    generalize textS K = tx at h5 h6
    obtain ⟨s, ne, hc1, hc2⟩ : ∃ (s : ByteArray) (ne : Int), Hid (∀ w, KW w → Calls Tryd.prog 12 #[.int .u64 m, .int .i64 n] w fun e w' => e = .returned (.tuple #[.string s, .int .i64 ne]) ∧ Below w.heap.size w w') ∧
        Hid (∀ w, Calls Tryd.prog 15 #[.int .u64 m, .int .i64 n] w fun e w' => e = .returned (.tuple #[.string s, .int .i64 ne]) ∧ Below w.heap.size w w') := by
      by_cases hr : 1 ≤ n ∧ n ≤ 12
      · obtain ⟨N, rfl⟩ := Int.eq_ofNat_of_zero_le (show 0 ≤ n by omega)
        exact ⟨codeS m N, 0, Lib.hid (fun w hw => code_any m N w hw hml (by omega) (by omega)), Lib.hid (fun w => rcode_any m N w hml (by omega) (by omega))⟩
      · exact ⟨⟨#[]⟩, 4, Lib.hid (fun w hw => (code_bad m n w (by omega)).mono fun e w' ⟨h1, h2⟩ => ⟨h1, by subst h2; exact Below.refl _ _⟩), Lib.hid (fun w => (rcode_bad m n w (by omega)).mono fun e w' ⟨h1, h2⟩ => ⟨h1, by subst h2; exact Below.refl _ _⟩)⟩
    clear hw hk hK ht hml
    go_enter Tryd.func5, Tryd.ntmps5
    go_wp2_with fail
    refine (h1.out _).mono ?_
    rintro e w1 ⟨rfl, hb⟩
    have H1 := Lib.hid hb
    clear hb
    go_wp2_with fail
    refine (hc1.out _ (HW.out.below H1.out).1).mono ?_
    rintro e w2 ⟨rfl, hb⟩
    have H2 := Lib.hid (H1.out.trans (hb.mono H1.out.size))
    clear hb
    go_wp2_with fail
    refine (hc2.out _).mono ?_
    rintro e w3 ⟨rfl, hb⟩
    have H3 := Lib.hid (H2.out.trans (hb.mono H2.out.size))
    clear hb
    go_wp2_with fail
    refine (h2.out _).mono ?_
    rintro e w4 ⟨rfl, hb⟩
    have H4 := Lib.hid (H3.out.trans (hb.mono H3.out.size))
    clear hb
    go_wp2_with fail
    refine (h3.out _).mono ?_
    rintro e w5 ⟨rfl, hb⟩
    have H5 := Lib.hid (H4.out.trans (hb.mono H4.out.size))
    clear hb
    go_wp2_with fail
    refine (h4.out _).mono ?_
    rintro e w6 ⟨rfl, hb⟩
    have H6 := Lib.hid (H5.out.trans (hb.mono H5.out.size))
    clear hb
    go_wp2_with fail
    refine (h5.out _ (HW.out.below H6.out).1).mono ?_
    rintro e w7 ⟨rfl, hb⟩
    have H7 := Lib.hid (H6.out.trans (hb.mono H6.out.size))
    clear hb
    go_wp2_with fail
    refine (h6.out _).mono ?_
    rintro e w8 ⟨rfl, rfl⟩
    go_wp2_with fail
    refine (ha.out _ (HW.out.below H7.out)).mono ?_
    rintro e w9 ⟨rfl, hb⟩
    have H9 := Lib.hid (H7.out.trans (hb.mono H7.out.size))
    clear hb
    go_wp2_with fail
    go_ret
    exact ⟨rfl, H9.out⟩
  · clear hw hk hK ht
    go_enter Tryd.func5, Tryd.ntmps5
    go_wp2_with fail
    refine (ha.out _ HW.out).mono ?_
    rintro e w1 ⟨rfl, hb⟩
    have H1 := Lib.hid hb
    clear hb
    go_wp2_with fail
    go_ret
    exact ⟨rfl, H1.out⟩
theorem num_text (n : Nat) (h : n < M64) : numV (textS n) = n ∧ numE (textS n) = 0 := by
  have hl : lowHex (textS n).data.toList = true := by rw [textS_list]; exact pad_low 16 n
  have ho : okHex (textS n) = true := by unfold okHex; rw [textS_size, hl]; rfl
  unfold numV numE
  rw [ho]
  exact ⟨by rw [if_pos rfl, textS_list, text16_val n h], rfl⟩
set_option maxHeartbeats 800000 in
theorem keyedDerives_walk (w : World) (hw : KX w) (ht : True) (k : Int) (hk0 : (Lit.int .u64 k).wf = true) (d : ByteArray) (hd : d.size ≤ maxLen) :
    Calls Tryd.prog 6 #[.int .u64 k, .string d] w fun e w' => e = .returned (.bool true) ∧ Below w.heap.size w w' := by
  have hk := wf64 hk0
  clear hk0
  obtain ⟨K, rfl⟩ := Int.eq_ofNat_of_zero_le hk.1
  have hK : K < M64 := by unfold M64; omega
  unfold maxLen at hd
  have ha := Lib.hid (fun w hw => awake_any w hw)
  have HW := Lib.hid hw
  by_cases hl : d.size ≤ 1000
  · have h1 := Lib.hid (fun w => mac_any K (lab ++ d) w hK (lab_size d hl))
    have h3 := Lib.hid (fun w => derive_any K d w hK hl)
    have hml := macOf_lt K (lab ++ d).data.toList
    generalize macOf K (lab ++ d).data.toList = m at h1 h3 hml
    have h5 := Lib.hid (fun w hw => text_any m w hw hml)
    have hnt := num_text m hml
    have h6 := Lib.hid (fun w hw => number_any (textS m) w hw (by rw [textS_size]; omega))
    rw [hnt.1, hnt.2] at h6
    have hts := textS_size m
    generalize textS m = tx at h5 h6 hts
    unfold lab at h1
    clear hw hk hK ht hml hnt
    go_enter Tryd.func6, Tryd.ntmps6
    go_wp2_with fail
    refine (h3.out _).mono ?_
    rintro e w1 ⟨rfl, hb⟩
    have H1 := Lib.hid hb
    clear hb
    go_wp2_with fail
    refine (h5.out _ (HW.out.below H1.out).1).mono ?_
    rintro e w2 ⟨rfl, hb⟩
    have H2 := Lib.hid (H1.out.trans (hb.mono H1.out.size))
    clear hb
    go_wp2_with fail
    refine (h6.out _ (HW.out.below H2.out)).mono ?_
    rintro e w3 ⟨rfl, hb⟩
    have H3 := Lib.hid (H2.out.trans (hb.mono H2.out.size))
    clear hb
    go_wp2_with fail
    refine (h1.out _).mono ?_
    rintro e w4 ⟨rfl, hb⟩
    have H4 := Lib.hid (H3.out.trans (hb.mono H3.out.size))
    clear hb
    go_wp2_with fail
    refine (h5.out _ (HW.out.below H4.out).1).mono ?_
    rintro e w5 ⟨rfl, hb⟩
    have H5 := Lib.hid (H4.out.trans (hb.mono H4.out.size))
    clear hb
    go_wp2_with fail
    refine (ha.out _ (HW.out.below H5.out)).mono ?_
    rintro e w9 ⟨rfl, hb⟩
    have H9 := Lib.hid (H5.out.trans (hb.mono H5.out.size))
    clear hb
    go_wp2_with fail
    go_ret
    exact ⟨rfl, H9.out⟩
  · clear hw hk hK ht
    go_enter Tryd.func6, Tryd.ntmps6
    go_wp2_with fail
    refine (ha.out _ HW.out).mono ?_
    rintro e w1 ⟨rfl, hb⟩
    have H1 := Lib.hid hb
    clear hb
    go_wp2_with fail
    go_ret
    exact ⟨rfl, H1.out⟩
theorem ver_same (K m : Nat) (d : ByteArray) (N : Nat) (hm : macOf K d.data.toList = m) (h1 : 1 ≤ N) (h2 : N ≤ 12) : verB K d (codeS m N) = true := by
  have hs : (codeS m N).size = N := (mk_size _).trans (codeL_length m N)
  unfold verB
  rw [hs, hm, decide_eq_true ⟨h1, h2⟩, codeS_list, decide_eq_true rfl]; rfl
theorem ver_other (K m : Nat) (d o : ByteArray) (N : Nat) (hm : macOf K d.data.toList = m) (h1 : 1 ≤ N) (h2 : N ≤ 12) (ho : o.size = N) : verB K d o = (o.toList == (codeS m N).toList) := by
  unfold verB
  rw [ho, hm, decide_eq_true ⟨h1, h2⟩, Bool.true_and, Bool.eq_iff_iff, decide_eq_true_eq, Lib.bytes_beq_iff]
  exact ⟨fun h => ba_ext (by rw [codeS_list, h]), fun h => by rw [h, codeS_list]⟩
set_option maxHeartbeats 1600000 in
theorem keyedVerifies_walk (w : World) (hw : KX w) (ht : True) (k : Int) (hk0 : (Lit.int .u64 k).wf = true) (d : ByteArray) (hd : d.size ≤ maxLen) (g : Int) (hg0 : (Lit.int .u8 g).wf = true) (o : ByteArray) (ho : o.size ≤ maxLen) :
    Calls Tryd.prog 4 #[.int .u64 k, .string d, .int .u8 g, .string o] w fun e w' => e = .returned (.bool true) ∧ Below w.heap.size w w' := by
  have hk := wf64 hk0
  have hg := wf8 hg0
  clear hk0 hg0
  obtain ⟨K, rfl⟩ := Int.eq_ofNat_of_zero_le hk.1
  obtain ⟨G, rfl⟩ := Int.eq_ofNat_of_zero_le hg.1
  have hK : K < M64 := by unfold M64; omega
  unfold maxLen at hd ho
  have ha := Lib.hid (fun w hw => awake_any w hw)
  have HW := Lib.hid hw
  by_cases hl : d.size ≤ 1000 ∧ o.size ≤ 20
  · obtain ⟨l1, l2⟩ := hl
    obtain ⟨N, hN⟩ : ∃ N, N = G % 12 + 1 := ⟨_, rfl⟩
    have n1 : 1 ≤ N := by omega
    have n2 : N ≤ 12 := by omega
    have hgn : (G : Int) % 12 + 1 = (N : Int) := by omega
    have h1 := Lib.hid (fun w => mac_any K d w hK (by omega))
    have hml := macOf_lt K d.data.toList
    obtain ⟨m, hm⟩ : ∃ m, macOf K d.data.toList = m := ⟨_, rfl⟩
    rw [hm] at h1 hml
    have h2 := Lib.hid (fun w hw => code_any m N w hw hml n1 n2)
    have hsz : (codeS m N).size = N := (mk_size _).trans (codeL_length m N)
    have h3 := Lib.hid (fun w hw => verify_any K d (codeS m N) w hw hK (by omega) (by rw [hsz]; omega))
    rw [ver_same K m d N hm n1 n2] at h3
    have h4 := Lib.hid (fun (hon : o.size = N) w hw => (ver_other K m d o N hm n1 n2 hon) ▸ verify_any K d o w hw hK (by omega) (by omega))
    have h5 := Lib.hid (fun w hw => text_any K w hw hK)
    have hnt := num_text K hK
    have h6 := Lib.hid (fun w hw => number_any (textS K) w hw (by rw [textS_size]; omega))
    rw [hnt.1, hnt.2] at h6
    generalize textS K = tx at h5 h6
    generalize codeS m N = cs at h2 h3 h4 hsz
    clear hw hk hK ht hml hnt hm hN
    by_cases hon : o.size = N
    · have honb : ((o.size : Int) == (N : Int)) = true := beq_iff_eq.2 (by omega)
      have h4' := Lib.hid (h4.out hon)
      clear h4 hon
      go_enter Tryd.func4, Tryd.ntmps4
      go_wp2_with fail
      refine (h1.out _).mono ?_
      rintro e w1 ⟨rfl, hb⟩
      have H1 := Lib.hid hb
      clear hb
      go_wp2_with fail
      refine (h2.out _ (HW.out.below H1.out).1).mono ?_
      rintro e w2 ⟨rfl, hb⟩
      have H2 := Lib.hid (H1.out.trans (hb.mono H1.out.size))
      clear hb
      go_wp2_with fail
      refine (h3.out _ (HW.out.below H2.out)).mono ?_
      rintro e w3 ⟨rfl, hb⟩
      have H3 := Lib.hid (H2.out.trans (hb.mono H2.out.size))
      clear hb
      go_wp2_with fail
      refine (h4'.out _ (HW.out.below H3.out)).mono ?_
      rintro e w4 ⟨rfl, hb⟩
      have H4 := Lib.hid (H3.out.trans (hb.mono H3.out.size))
      clear hb
      go_wp2_with fail
      refine (h5.out _ (HW.out.below H4.out).1).mono ?_
      rintro e w5 ⟨rfl, hb⟩
      have H5 := Lib.hid (H4.out.trans (hb.mono H4.out.size))
      clear hb
      go_wp2_with fail
      refine (h6.out _ (HW.out.below H5.out)).mono ?_
      rintro e w6 ⟨rfl, hb⟩
      have H6 := Lib.hid (H5.out.trans (hb.mono H5.out.size))
      clear hb
      go_wp2_with fail
      refine (ha.out _ (HW.out.below H6.out)).mono ?_
      rintro e w9 ⟨rfl, hb⟩
      have H9 := Lib.hid (H6.out.trans (hb.mono H6.out.size))
      clear hb
      go_wp2_with fail
      go_ret
      exact ⟨rfl, H9.out⟩
    · have honb : ((o.size : Int) == (N : Int)) = false := beq_eq_false_iff_ne.2 (by omega)
      clear h4 hon
      go_enter Tryd.func4, Tryd.ntmps4
      go_wp2_with fail
      refine (h1.out _).mono ?_
      rintro e w1 ⟨rfl, hb⟩
      have H1 := Lib.hid hb
      clear hb
      go_wp2_with fail
      refine (h2.out _ (HW.out.below H1.out).1).mono ?_
      rintro e w2 ⟨rfl, hb⟩
      have H2 := Lib.hid (H1.out.trans (hb.mono H1.out.size))
      clear hb
      go_wp2_with fail
      refine (h3.out _ (HW.out.below H2.out)).mono ?_
      rintro e w3 ⟨rfl, hb⟩
      have H3 := Lib.hid (H2.out.trans (hb.mono H2.out.size))
      clear hb
      go_wp2_with fail
      refine (h5.out _ (HW.out.below H3.out).1).mono ?_
      rintro e w5 ⟨rfl, hb⟩
      have H5 := Lib.hid (H3.out.trans (hb.mono H3.out.size))
      clear hb
      go_wp2_with fail
      refine (h6.out _ (HW.out.below H5.out)).mono ?_
      rintro e w6 ⟨rfl, hb⟩
      have H6 := Lib.hid (H5.out.trans (hb.mono H5.out.size))
      clear hb
      go_wp2_with fail
      refine (ha.out _ (HW.out.below H6.out)).mono ?_
      rintro e w9 ⟨rfl, hb⟩
      have H9 := Lib.hid (H6.out.trans (hb.mono H6.out.size))
      clear hb
      go_wp2_with fail
      go_ret
      exact ⟨rfl, H9.out⟩
  · have hll : 1000 < d.size ∨ (d.size ≤ 1000 ∧ 20 < o.size) := by omega
    rcases hll with hll | ⟨hl1, hll⟩
    all_goals
      clear hw hk hK ht hl
      go_enter Tryd.func4, Tryd.ntmps4
      go_wp2_with fail
      refine (ha.out _ HW.out).mono ?_
      rintro e w1 ⟨rfl, hb⟩
      have H1 := Lib.hid hb
      clear hb
      go_wp2_with fail
      go_ret
      exact ⟨rfl, H1.out⟩
end Go.Proofs.YtnoichipocmkgaaDoor
