/- The law RoundTrip. -/
import Derived.Test.YthflmdgfenojcaaDoorAwk
import Derived.Lib.ItoaLen
import Derived.Outline
namespace Go.Proofs.YthflmdgfenojcaaDoor
set_option linter.unusedVariables false
open Go.RowKit Go.Sort

theorem short_sizes {r : Rec} (h : shortB r = true) : r.id.size + r.au.size + r.aq.size + r.iss.size + r.me.size + r.ca.size + r.cu.size ≤ 1000000 := by
  unfold shortB at h
  simp only [Bool.and_eq_true, decide_eq_true_eq] at h
  omega
theorem decV_sizes (s : ByteArray) (hs : s.size ≤ 300) : (decV s).Fit ∧ (decV s).id.size + (decV s).au.size + (decV s).aq.size + (decV s).iss.size + (decV s).me.size + (decV s).ca.size + (decV s).cu.size ≤ 1000000 := by
  have hm : ∀ n, n ≤ 300 → n ≤ maxLen := fun n q => by have : maxLen = 2 ^ 63 - 1 := rfl; omega
  unfold decV
  split
  · have hp := fun j => Nat.le_trans (prt_size s j) hs
    refine ⟨⟨hm _ (hp 1), hm _ (hp 2), hm _ (hp 3), hm _ (hp 4), hm _ (hp 5), hm _ (hp 6), hm _ (hp 8)⟩, ?_⟩
    have h1 := hp 1
    have h2 := hp 2
    have h3 := hp 3
    have h4 := hp 4
    have h5 := hp 5
    have h6 := hp 6
    have h8 := hp 8
    show (prt (cutS s) 1).size + (prt (cutS s) 2).size + (prt (cutS s) 3).size + (prt (cutS s) 4).size + (prt (cutS s) 5).size + (prt (cutS s) 6).size + (prt (cutS s) 8).size ≤ 1000000
    omega
  · exact ⟨⟨hm _ (by decide), hm _ (by decide), hm _ (by decide), hm _ (by decide), hm _ (by decide), hm _ (by decide), hm _ (by decide)⟩, by decide⟩
theorem encV_bad {r : Rec} (h : chkE r ≠ 0) : encV r = ⟨#[]⟩ := by unfold encV; rw [if_neg h]
theorem encV_ok {r : Rec} (h : chkE r = 0) : encV r = encS r := by unfold encV; rw [if_pos h]
theorem ito_size {v : Int} (h0 : -9223372036854775808 ≤ v) (h1 : v ≤ 9223372036854775807) : (itoS v).data.toList.length ≤ 21 := Lib.itoa_length_le v h0 h1
theorem finS_size (f : Bool) : (finS f).data.toList.length ≤ 1 := by cases f <;> decide
theorem encS_size {r : Rec} (h : chkE r = 0) (hz : r.id.size + r.au.size + r.aq.size + r.iss.size + r.me.size + r.ca.size + r.cu.size ≤ 10000) : (encS r).size ≤ 1000000 := by
  obtain ⟨i1, i2, i3, i4, i5, i6, i7, i8⟩ := Fit.ints r h
  have h1 := ito_size (v := r.k) (by omega) (by omega)
  have h2 := ito_size (v := r.a) (by omega) (by omega)
  have h3 := ito_size (v := r.d) (by omega) (by omega)
  have h4 := ito_size (v := r.c) (by omega) (by omega)
  have h5 := finS_size r.f
  show (Lib.join (r.texts.map (·.data.toList)) [124]).toArray.size ≤ 1000000
  rw [List.size_toArray]
  unfold Rec.texts
  rw [List.map_cons, Lib.join_length]
  simp [Lib.lens] at *
  omega
theorem short_sizes' {r : Rec} (h : shortB r = true) : r.id.size + r.au.size + r.aq.size + r.iss.size + r.me.size + r.ca.size + r.cu.size ≤ 10000 := by
  unfold shortB at h
  simp only [Bool.and_eq_true, decide_eq_true_eq] at h
  omega
set_option maxRecDepth 100000 in
set_option maxHeartbeats 25600000 in
theorem round_any (r : Rec) (s : ByteArray) (hr : r.Fit) (hs : s.size ≤ maxLen) (w : World) (hw : KW w) : Calls Tryd.prog 3 #[r.val, .string s] w fun e w' => e = .returned (.bool true) ∧ Below w.heap.size w w' := by
  have HKW := Lib.hid hw
  have HAW := Lib.hid (fun W hW => awake_any W hW)
  have HSH := Lib.hid (fun W => short_any r W)
  have HCH := Lib.hid (fun W => chk_any r hr W)
  have HEN := Lib.hid (fun hz W hW => enc_any r hr hz W hW)
  have HSZ := Lib.hid (short_sizes (r := r))
  have HDT : Hid (chkE r = 0 → shortB r = true → ∀ W, KW W → Calls Tryd.prog 10 #[.string (encV r)] W fun e w' => e = .returned (.tuple #[r.val, .int .i64 0]) ∧ Below W.heap.size W w') := Lib.hid (fun h hb W hW => by
    have := dec_any (encS r) W hW (encS_size h (short_sizes' hb))
    unfold DecPost at this
    rw [(dec_enc h).1, (dec_enc h).2] at this
    rw [encV_ok h]; exact this)
  have HBAD := Lib.hid (encV_bad (r := r))
  have HDS := Lib.hid (fun (h : s.size ≤ 300) W hW => dec_any s W hW (by omega))
  have HEY := Lib.hid (fun (h : s.size ≤ 300) W hW => enc_any (decV s) (decV_sizes s h).1 (decV_sizes s h).2 W hW)
  have HY0 := Lib.hid (fun (h : decE s = 0) => And.intro (enc_dec h).1 ((encV_ok (enc_dec h).1).trans (enc_dec h).2))
  have HY1 := Lib.hid (zrec_bad (s := s))
  have hne := fun W => neq_same r W
  have heq := fun W => eq_same zrec W
  unfold BPost at HSH
  unfold PtPost at HCH
  unfold EncPost at HEN HEY
  unfold DecPost at HDS
  generalize encV (decV s) = V at *
  generalize chkE (decV s) = C at *
  generalize decV s = Y at *
  generalize decE s = G at *
  generalize encV r = T at *
  generalize chkE r = CE at *
  generalize shortB r = S at *
  unfold zrec at *
  obtain ⟨K, id, au, aq, iss, me, ca, a, cu, d, c, f⟩ := r
  unfold Rec.val Rec.cells at *
  dsimp only at *
  clear hw hr
  unfold maxLen at hs
  cases S with
  | false =>
    go_enter Tryd.func3, Tryd.ntmps3
    go_wp2_with fail
    refine (HSH.out _).mono ?_
    rintro e w1 ⟨rfl, hb⟩
    have HB := Lib.hid (box1 hb).2.2
    clear hb
    go_wp2_with fail
    refine (HAW.out _ (HKW.out.below HB.out)).mono ?_
    rintro e w2 ⟨rfl, hb⟩
    have HB := Lib.hid (HB.out.trans (hb.mono HB.out.size))
    clear hb
    go_wp2_with fail
    go_ret
    exact ⟨rfl, HB.out⟩
  | true =>
    by_cases h3 : 300 < s.size
    · go_enter Tryd.func3, Tryd.ntmps3
      go_wp2_with fail
      refine (HSH.out _).mono ?_
      rintro e w1 ⟨rfl, hb⟩
      have HB := Lib.hid (box1 hb).2.2
      clear hb
      go_wp2_with fail
      refine (HAW.out _ (HKW.out.below HB.out)).mono ?_
      rintro e w2 ⟨rfl, hb⟩
      have HB := Lib.hid (HB.out.trans (hb.mono HB.out.size))
      clear hb
      go_wp2_with fail
      go_ret
      exact ⟨rfl, HB.out⟩
    · have h300 : s.size ≤ 300 := by omega
      have HDS' := Lib.hid (HDS.out h300)
      have HEY' := Lib.hid (HEY.out h300)
      have HEN' := Lib.hid (HEN.out (HSZ.out rfl))
      clear HDS HEY HEN HSZ
      cases q : (CE != 0)
      case true =>
        have hT := HBAD.out (by simpa using q)
        subst hT
        go_enter Tryd.func3, Tryd.ntmps3
        go_wp2_with fail
        refine (HSH.out _).mono ?_
        rintro e w1 ⟨rfl, hb⟩
        have HB := Lib.hid (box1 hb).2.2
        have HK := Lib.hid (box1 hb).1
        clear hb
        obtain ⟨-, k0, k1, k2, k3, k4, k5, k6, k7, k8, k9, k10, k11⟩ := row12 (Below.refl _ _) HK.out
        go_wp2_with fail
        refine (HEN'.out _ (HKW.out.below HB.out)).mono ?_
        rintro e w2 ⟨rfl, hb⟩
        have HB := Lib.hid (HB.out.trans (hb.mono HB.out.size))
        have HK := Lib.hid (blk_later HK.out hb)
        clear hb k0 k1 k2 k3 k4 k5 k6 k7 k8 k9 k10 k11
        obtain ⟨-, k0, k1, k2, k3, k4, k5, k6, k7, k8, k9, k10, k11⟩ := row12 (Below.refl _ _) HK.out
        go_wp2_with fail
        refine (HCH.out _).mono ?_
        rintro e w3 ⟨rfl, hb⟩
        have HB := Lib.hid (HB.out.trans (hb.mono HB.out.size))
        clear hb k0 k1 k2 k3 k4 k5 k6 k7 k8 k9 k10 k11
        go_wp2_with fail
        refine (HDS'.out _ (HKW.out.below HB.out)).mono ?_
        rintro e w6 ⟨rfl, hb⟩
        have HB := Lib.hid (HB.out.trans (hb.mono HB.out.size))
        clear hb
        by_cases hg : G = 0
        · subst hg
          obtain ⟨hc, hv⟩ := HY0.out rfl
          subst hc
          subst hv
          obtain ⟨yK, yid, yau, yaq, yiss, yme, yca, ya, ycu, yd, yc, yf⟩ := Y
          dsimp only at *
          have HK := Lib.hid (heap_alloc_new w6 (.cells #[.int .i64 yK, .string yid, .string yau, .string yaq, .string yiss, .string yme, .string yca, .int .i64 ya, .string ycu, .int .i64 yd, .int .i64 yc, .bool yf] 25))
          have HB := Lib.hid (HB.out.trans ((bx w6 (.cells #[.int .i64 yK, .string yid, .string yau, .string yaq, .string yiss, .string yme, .string yca, .int .i64 ya, .string ycu, .int .i64 yd, .int .i64 yc, .bool yf] 25)).mono HB.out.size))
          clear HY0 HY1
          go_wp2_with fail
          refine (HEY'.out _ (HKW.out.below HB.out)).mono ?_
          rintro e w7 ⟨rfl, hb⟩
          have HB := Lib.hid (HB.out.trans (hb.mono HB.out.size))
          clear hb
          go_wp2_with fail
          refine (HAW.out _ (HKW.out.below HB.out)).mono ?_
          rintro e w8 ⟨rfl, hb⟩
          have HB := Lib.hid (HB.out.trans (hb.mono HB.out.size))
          clear hb
          go_wp2_with fail
          go_ret
          exact ⟨rfl, HB.out⟩
        · have hy := HY1.out hg
          subst hy
          have hgb : (G != 0) = true := by simpa using hg
          dsimp only at *
          have HB := Lib.hid (HB.out.trans ((bx w6 (.cells #[.int .i64 0, .string ⟨#[]⟩, .string ⟨#[]⟩, .string ⟨#[]⟩, .string ⟨#[]⟩, .string ⟨#[]⟩, .string ⟨#[]⟩, .int .i64 0, .string ⟨#[]⟩, .int .i64 0, .int .i64 0, .bool false] 25)).mono HB.out.size))
          clear HY0 HY1 hg
          go_wp2_with fail
          refine (HAW.out _ (HKW.out.below HB.out)).mono ?_
          rintro e w8 ⟨rfl, hb⟩
          have HB := Lib.hid (HB.out.trans (hb.mono HB.out.size))
          clear hb
          go_wp2_with fail
          go_ret
          exact ⟨rfl, HB.out⟩
      case false =>
        have h0 : CE = 0 := by simpa using q
        subst h0
        have HDX := Lib.hid (fun W hW => HDT.out (by first | rfl | trivial) (by first | rfl | trivial) W hW)
        clear q HDT
        go_enter Tryd.func3, Tryd.ntmps3
        go_wp2_with fail
        refine (HSH.out _).mono ?_
        rintro e w1 ⟨rfl, hb⟩
        have HB := Lib.hid (box1 hb).2.2
        have HK := Lib.hid (box1 hb).1
        clear hb
        obtain ⟨-, k0, k1, k2, k3, k4, k5, k6, k7, k8, k9, k10, k11⟩ := row12 (Below.refl _ _) HK.out
        go_wp2_with fail
        refine (HEN'.out _ (HKW.out.below HB.out)).mono ?_
        rintro e w2 ⟨rfl, hb⟩
        have HB := Lib.hid (HB.out.trans (hb.mono HB.out.size))
        have HK := Lib.hid (blk_later HK.out hb)
        clear hb k0 k1 k2 k3 k4 k5 k6 k7 k8 k9 k10 k11
        obtain ⟨-, k0, k1, k2, k3, k4, k5, k6, k7, k8, k9, k10, k11⟩ := row12 (Below.refl _ _) HK.out
        go_wp2_with fail
        refine (HCH.out _).mono ?_
        rintro e w3 ⟨rfl, hb⟩
        have HB := Lib.hid (HB.out.trans (hb.mono HB.out.size))
        have HK := Lib.hid (blk_later HK.out hb)
        clear hb k0 k1 k2 k3 k4 k5 k6 k7 k8 k9 k10 k11
        go_wp2_with fail
        refine (HDX.out _ (HKW.out.below HB.out)).mono ?_
        rintro e w4 ⟨rfl, hb⟩
        have HB := Lib.hid (HB.out.trans (hb.mono HB.out.size))
        have HK := Lib.hid (blk_later HK.out hb)
        clear hb
        obtain ⟨-, k0, k1, k2, k3, k4, k5, k6, k7, k8, k9, k10, k11⟩ := row12 (bx w4 (.cells #[.int .i64 K, .string id, .string au, .string aq, .string iss, .string me, .string ca, .int .i64 a, .string cu, .int .i64 d, .int .i64 c, .bool f] 25)) HK.out
        go_wp2_with fail
        have HB := Lib.hid (HB.out.trans ((bx w4 (.cells #[.int .i64 K, .string id, .string au, .string aq, .string iss, .string me, .string ca, .int .i64 a, .string cu, .int .i64 d, .int .i64 c, .bool f] 25)).mono HB.out.size))
        clear HK k0 k1 k2 k3 k4 k5 k6 k7 k8 k9 k10 k11
        refine (HDS'.out _ (HKW.out.below HB.out)).mono ?_
        rintro e w6 ⟨rfl, hb⟩
        have HB := Lib.hid (HB.out.trans (hb.mono HB.out.size))
        clear hb
        by_cases hg : G = 0
        · subst hg
          obtain ⟨hc, hv⟩ := HY0.out rfl
          subst hc
          subst hv
          obtain ⟨yK, yid, yau, yaq, yiss, yme, yca, ya, ycu, yd, yc, yf⟩ := Y
          dsimp only at *
          have HK := Lib.hid (heap_alloc_new w6 (.cells #[.int .i64 yK, .string yid, .string yau, .string yaq, .string yiss, .string yme, .string yca, .int .i64 ya, .string ycu, .int .i64 yd, .int .i64 yc, .bool yf] 25))
          have HB := Lib.hid (HB.out.trans ((bx w6 (.cells #[.int .i64 yK, .string yid, .string yau, .string yaq, .string yiss, .string yme, .string yca, .int .i64 ya, .string ycu, .int .i64 yd, .int .i64 yc, .bool yf] 25)).mono HB.out.size))
          clear HY0 HY1
          go_wp2_with fail
          refine (HEY'.out _ (HKW.out.below HB.out)).mono ?_
          rintro e w7 ⟨rfl, hb⟩
          have HB := Lib.hid (HB.out.trans (hb.mono HB.out.size))
          clear hb
          go_wp2_with fail
          refine (HAW.out _ (HKW.out.below HB.out)).mono ?_
          rintro e w8 ⟨rfl, hb⟩
          have HB := Lib.hid (HB.out.trans (hb.mono HB.out.size))
          clear hb
          go_wp2_with fail
          go_ret
          exact ⟨rfl, HB.out⟩
        · have hy := HY1.out hg
          subst hy
          have hgb : (G != 0) = true := by simpa using hg
          dsimp only at *
          have HB := Lib.hid (HB.out.trans ((bx w6 (.cells #[.int .i64 0, .string ⟨#[]⟩, .string ⟨#[]⟩, .string ⟨#[]⟩, .string ⟨#[]⟩, .string ⟨#[]⟩, .string ⟨#[]⟩, .int .i64 0, .string ⟨#[]⟩, .int .i64 0, .int .i64 0, .bool false] 25)).mono HB.out.size))
          clear HY0 HY1 hg
          go_wp2_with fail
          refine (HAW.out _ (HKW.out.below HB.out)).mono ?_
          rintro e w8 ⟨rfl, hb⟩
          have HB := Lib.hid (HB.out.trans (hb.mono HB.out.size))
          clear hb
          go_wp2_with fail
          go_ret
          exact ⟨rfl, HB.out⟩
end Go.Proofs.YthflmdgfenojcaaDoor
