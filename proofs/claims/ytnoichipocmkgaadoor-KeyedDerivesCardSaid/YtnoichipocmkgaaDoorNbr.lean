/- The walks of ParseUint (public), Number, the reference's Number, Verify. -/
import Derived.Test.YtnoichipocmkgaaDoorPu
import Derived.Lib.SlicesS
import Derived.StillTailTactics
namespace Go.Proofs.YtnoichipocmkgaaDoor
set_option linter.unusedVariables false
open Go.RowKit

theorem below_drewN (w : World) (k : Nat) : Below w.heap.size w (w.drewN k) := ⟨rfl, rfl, rfl, Nat.le_refl _, fun _ _ => rfl⟩
/-- The error's variable holds an error, or none. -/
def ErrW (w : World) : Prop := 0 < w.heap.size ∧ ∃ ev, w.cell? ⟨0, 0, none⟩ = some ev ∧ (ev = .nilIface ∨ ∃ te pe, ev = .iface te pe)
theorem ErrW.below {w w' : World} (h : ErrW w) (hb : Below w.heap.size w w') : ErrW w' := by
  obtain ⟨h0, ev, h1, h2⟩ := h
  exact ⟨Nat.lt_of_lt_of_le h0 hb.size, ev, (hb.cell (show (⟨0, 0, none⟩ : Addr).block < w.heap.size from h0)).trans h1, h2⟩
def KX (w : World) : Prop := KW w ∧ ErrW w
theorem KX.below {w w' : World} (h : KX w) (hb : Below w.heap.size w w') : KX w' := ⟨h.1.below hb, h.2.below hb⟩
/-- What ParseUint answers at sixteen bytes. -/
def PubPost (s : ByteArray) (w : World) (e : Ending) (w' : World) : Prop :=
  ∃ (n : Nat) (ev : Value), e = .returned (.tuple #[.int .u64 n, ev]) ∧ n < M64 ∧ (ev = .nilIface ∨ ∃ te pe, ev = .iface te pe) ∧ (lowHex s.data.toList = true → ev = .nilIface ∧ n = hexVal s.data.toList) ∧ Below w.heap.size w w'
set_option maxHeartbeats 400000 in
theorem pu_any (s : ByteArray) (w : World) (hw : KX w) (hs : s.size = 16) :
    Calls Tryd.prog 20 #[.string s, .int .i64 16, .int .i64 64] w (PubPost s w) := by
  have hi := Lib.hid (ipu_any s w hs)
  have HW := Lib.hid hw
  clear hw
  go_enter Tryd.func20, Tryd.ntmps20
  go_wp2_with fail
  refine hi.out.mono ?_
  rintro e w1 ⟨n, ev, rfl, hn, hev, hv, hb⟩
  have HB := Lib.hid hb
  have HV := Lib.hid hv
  have HN := Lib.hid hn
  clear hb hv hn
  rcases hev with rfl | rfl
  · go_wp2_with fail
    go_ret2
    exact ⟨n, _, rfl, HN.out, .inl rfl, fun h => ⟨rfl, (HV.out h).2⟩, HB.out⟩
  · obtain ⟨_, ev, he, hev⟩ := (HW.out.below HB.out).2
    have ht := Lib.hid (Tryd.strconv_toError_syntax ⟨#[80, 97, 114, 115, 101, 85, 105, 110, 116]⟩ s 16 64 ev w1 (by omega) he hev)
    clear he hev
    go_wp2_with fail
    refine ht.out.mono ?_
    rintro e w2 ⟨N, rfl, _, _, hb2⟩
    have HB2 := Lib.hid (HB.out.trans (hb2.mono HB.out.size))
    clear hb2
    go_wp2_with fail
    go_ret2
    exact ⟨n, _, rfl, HN.out, .inr ⟨_, _, rfl⟩, fun h => absurd (HV.out h).1 (by intro h; cases h), HB2.out⟩
/-- Is a text the sixteen digits of a number? What number, and what error. -/
def okHex (s : ByteArray) : Bool := decide (s.size = 16) && lowHex s.data.toList
def numV (s : ByteArray) : Nat := if okHex s then hexVal s.data.toList else 0
def numE (s : ByteArray) : Int := if okHex s then 0 else 2
theorem textS_list (m : Nat) : (textS m).data.toList = text16 m := rfl
theorem ba_ext {a b : ByteArray} (h : a.data.toList = b.data.toList) : a = b := by
  rw [ba_eq h, ← ba_eq rfl]
theorem text_ok {s : ByteArray} (hs : s.size = 16) {n : Nat} (hn : lowHex s.data.toList = true → n = hexVal s.data.toList) : textS n = s ↔ lowHex s.data.toList = true := by
  have hl : s.data.toList.length = 16 := by rw [← Lib.size_eq]; exact hs
  obtain ⟨a, b⟩ := text16_iff s.data.toList hl
  constructor
  · intro h; exact b n (by rw [← h]; rfl)
  · intro h
    refine ba_ext ?_
    rw [textS_list, hn h]; exact (a h).1
set_option maxHeartbeats 400000 in
theorem number_any (s : ByteArray) (w : World) (hw : KX w) (hl : s.size ≤ 1000000) :
    Calls Tryd.prog 8 #[.string s] w fun e w' => e = .returned (.tuple #[.int .u64 (numV s), .int .i64 (numE s)]) ∧ Below w.heap.size w w' := by
  by_cases hs : s.size = 16
  · have hp := Lib.hid (pu_any s w hw hs)
    have HW := Lib.hid hw
    clear hw
    go_enter Tryd.func8, Tryd.ntmps8
    go_wp2_with fail
    refine hp.out.mono ?_
    rintro e w1 ⟨n, ev, rfl, hn, hev, hv, hb⟩
    have HB := Lib.hid hb
    have HT := Lib.hid (text_any n w1 (HW.out.below hb).1 hn)
    have hiff := text_ok hs (fun h => (hv h).2)
    have HV := Lib.hid hv
    clear hb hn hv
    rcases hev with rfl | ⟨te, pe, rfl⟩
    · go_wp2_with fail
      refine HT.out.mono ?_
      rintro e w2 ⟨rfl, hb2⟩
      have HB2 := Lib.hid (HB.out.trans (hb2.mono HB.out.size))
      clear hb2
      by_cases hlow : lowHex s.data.toList = true
      · have hq := hiff.2 hlow
        have hv1 := Lib.hid (show numV s = n by unfold numV okHex; rw [hlow, hs]; exact (HV.out hlow).2.symm)
        have hv2 := Lib.hid (show numE s = 0 by unfold numE okHex; rw [hlow, hs]; rfl)
        go_wp2_with fail
        go_ret2
        exact ⟨by rw [hv1.out, hv2.out]; rfl, HB2.out⟩
      · have hq : ((textS n).toList == s.toList) = false := (Lib.bytes_beq_false_iff _ _).2 (fun h => hlow (hiff.1 h))
        have hv1 := Lib.hid (show numV s = 0 by unfold numV okHex; rw [Bool.eq_false_iff.2 hlow]; simp)
        have hv2 := Lib.hid (show numE s = 2 by unfold numE okHex; rw [Bool.eq_false_iff.2 hlow]; simp)
        clear hiff hlow
        go_wp2_with fail
        go_ret2
        exact ⟨by rw [hv1.out, hv2.out]; rfl, HB2.out⟩
    · have hlow : lowHex s.data.toList = false := by
        cases h : lowHex s.data.toList with
        | false => rfl
        | true => have := (HV.out h).1; cases this
      have hv1 := Lib.hid (show numV s = 0 by unfold numV okHex; rw [hlow]; simp)
      have hv2 := Lib.hid (show numE s = 2 by unfold numE okHex; rw [hlow]; simp)
      clear hiff hlow
      go_wp2_with fail
      go_ret2
      exact ⟨by rw [hv1.out, hv2.out]; rfl, HB.out⟩
  · have hv1 := Lib.hid (show numV s = 0 by unfold numV okHex; rw [decide_eq_false hs]; simp)
    have hv2 := Lib.hid (show numE s = 2 by unfold numE okHex; rw [decide_eq_false hs]; simp)
    have hne : ((s.size : Int) != 16) = true := bne_iff_ne.2 (by omega)
    clear hs
    go_enter Tryd.func8, Tryd.ntmps8
    go_wp2_with fail
    go_ret2
    exact ⟨by rw [hv1.out, hv2.out]; rfl, Below.refl _ _⟩
/-- The reference's digit of a byte: 0 where it is none. -/
def dref (c : Nat) : Nat := if lowB c then hval c else 0
def dpart (c k : Nat) : Nat := if lowB c && decide (hval c < k) then hval c else 0
def vref (l : List UInt8) : Nat := l.foldl (fun n c => n * 16 + dref c.toNat) 0
theorem vref_snoc (l : List UInt8) (c : UInt8) : vref (l ++ [c]) = vref l * 16 + dref c.toNat := by simp [vref]
theorem hval_lt {c : UInt8} (h : lowB c.toNat = true) : hval c.toNat < 16 := (low_d16 c h).2
theorem dref_lt (c : UInt8) : dref c.toNat < 16 := by
  unfold dref; split
  · exact hval_lt (by assumption)
  · omega
theorem dpart_16 (c : UInt8) : dpart c.toNat 16 = dref c.toNat := by
  unfold dpart dref
  by_cases h : lowB c.toNat = true
  · rw [h, decide_eq_true (hval_lt h)]; rfl
  · rw [Bool.eq_false_iff.2 h]; rfl
theorem dpart_next (c : UInt8) (k : Nat) (hk : k < 16) : dpart c.toNat (k + 1) = if (d16 k).toNat = c.toNat then k else dpart c.toNat k := by
  have key : ∀ (c : Fin 256) (k : Fin 16), dpart c.1 (k.1 + 1) = if (d16 k.1).toNat = c.1 then k.1 else dpart c.1 k.1 := by decide +kernel
  exact key ⟨c.toNat, c.toNat_lt⟩ ⟨k, hk⟩
theorem vref_low (l : List UInt8) (h : lowHex l = true) : vref l = hexVal l := by
  unfold vref hexVal
  have key : ∀ (l : List UInt8) (n : Nat), lowHex l = true → l.foldl (fun n c => n * 16 + dref c.toNat) n = l.foldl (fun n c => n * 16 + hval c.toNat) n := by
    intro l
    induction l with
    | nil => intros; rfl
    | cons a l ih =>
      intro n h
      unfold lowHex at h
      rw [List.all_cons, Bool.and_eq_true] at h
      have e : dref a.toNat = hval a.toNat := by unfold dref; rw [h.1]; rfl
      rw [List.foldl_cons, List.foldl_cons, e]
      exact ih _ h.2
  exact key l 0 h
theorem hexLit_get (k : Nat) (hk : k < 16) (h : k < hexLit.size) : (hexLit[k]).toNat = (d16 k).toNat := by
  have key : ∀ x : Fin 16, (hexLit.data.toList.getD x.1 0).toNat = (d16 x.1).toNat := by decide +kernel
  rw [← key ⟨k, hk⟩]
  have : k < hexLit.data.toList.length := by have := hexLit_size; simp; omega
  rw [List.getD_eq_getElem?_getD, List.getElem?_eq_getElem this]
  rfl
theorem dpart_lt (c : UInt8) (j : Nat) : dpart c.toNat j < 16 := by
  unfold dpart
  split
  · rename_i h; rw [Bool.and_eq_true] at h; exact hval_lt h.1
  · omega
/-- At the loop's end: the text of the number is the string exactly if that is sixteen digits. -/
theorem vref_fin (s : ByteArray) (k : Nat) (hk : k ≤ 16) (hks : k ≤ s.size) (hlt : ¬ (k < 16 ∧ k < s.size)) :
    (okHex s = true → textS (vref (s.data.toList.take k)) = s ∧ numV s = vref (s.data.toList.take k) ∧ numE s = 0) ∧ (okHex s = false → textS (vref (s.data.toList.take k)) ≠ s ∧ numV s = 0 ∧ numE s = 2) := by
  constructor
  · intro h
    have h' := h
    unfold okHex at h'
    rw [Bool.and_eq_true, decide_eq_true_eq] at h'
    obtain rfl : k = 16 := by omega
    have hv : vref (s.data.toList.take 16) = hexVal s.data.toList := by
      rw [List.take_of_length_le (by rw [← Lib.size_eq]; omega)]; exact vref_low _ h'.2
    refine ⟨(text_ok h'.1 (fun _ => hv)).2 h'.2, ?_, ?_⟩
    · unfold numV; rw [h, hv]; rfl
    · unfold numE; rw [h]; rfl
  · intro h
    refine ⟨fun he => ?_, ?_, ?_⟩
    · have hs : s.size = 16 := by rw [← he, textS_size]
      have hl : s.data.toList.length = 16 := by rw [← Lib.size_eq]; exact hs
      have := (text16_iff s.data.toList hl).2 (vref (s.data.toList.take k)) (by rw [← textS_list, he])
      unfold okHex at h
      rw [this, hs] at h
      cases h
    · unfold numV; rw [h]; rfl
    · unfold numE; rw [h]; rfl
set_option maxHeartbeats 800000 in
theorem rnumber_any (s : ByteArray) (w : World) (hl : s.size ≤ 1000000) :
    Calls Tryd.prog 9 #[.string s] w fun e w' => e = .returned (.tuple #[.int .u64 (numV s), .int .i64 (numE s)]) ∧ Below w.heap.size w w' := by
  go_enter Tryd.func9, Tryd.ntmps9
  go_name_bytes_deep 12 HL hHL
  have eHL : HL = hexLit := by rw [← hHL]; decide +kernel
  subst eHL
  clear hHL
  go_wp2_with fail
  go_loopw [4, 5] (fun v i wr => ∃ k m : Nat, k ≤ 16 ∧ k ≤ s.size ∧ i = .int .i64 k ∧ v = .int .u64 (vref (s.data.toList.take k)) ∧ Hid (vref (s.data.toList.take k) < 16 ^ k) ∧ wr = w.drewN m) (fun _ i _ => 16 - (intOf i).toNat)
  case atStart => exact ⟨0, 0, by omega, by omega, rfl, rfl, Lib.hid (by simp [vref]), rfl⟩
  case round =>
    obtain ⟨k, m, hk, hks, rfl, rfl, hv, rfl⟩ := hrel
    by_cases hlt : k < 16 ∧ k < s.size
    · obtain ⟨hk16, hk2⟩ := hlt
      obtain ⟨c, hc⟩ : ∃ c, c = s[k] := ⟨_, rfl⟩
      have hdk : decide ((k : Int) < 16) = true := decide_eq_true (by omega)
      go_wp2_with fail
      go_loopw [6, 7] (fun v i wr => ∃ j q : Nat, j ≤ 16 ∧ i = .int .i64 j ∧ v = .int .u64 (dpart c.toNat j) ∧ wr = w.drewN q) (fun _ i _ => 16 - (intOf i).toNat)
      case atStart => exact ⟨0, m, by omega, rfl, by simp [dpart], rfl⟩
      case round =>
        obtain ⟨j, q, hj, rfl, rfl, rfl⟩ := hrel
        by_cases hlt : j < 16
        · have hg := hexLit_get j hlt (by rw [hexLit_size]; exact hlt)
          have hjs : j < hexLit.size := by rw [hexLit_size]; exact hlt
          have hcn : s[k].toNat = c.toNat := by rw [hc]
          have hnx := Lib.hid (dpart_next c j hlt)
          have hdj := dpart_lt c j
          generalize dpart c.toNat j = dj at hnx hdj
          generalize (d16 j).toNat = x at hg hnx
          have hx := hexLit[j].toNat_lt
          have hy := c.toNat_lt
          rw [hg] at hx
          cases hq : ((x : Int) == (c.toNat : Int))
          all_goals
            go_wp2_with fail
            go_quiet (fail)
            go_wp2_with fail
          · go_roundw
            case rel => exact ⟨j + 1, _, by omega, by go_num, by rw [hnx.out, if_neg (by have := beq_eq_false_iff_ne.1 hq; omega)], rfl⟩
            case measure => simp [intOf]; omega
          · go_roundw
            case rel => exact ⟨j + 1, _, by omega, by go_num, by rw [hnx.out, if_pos (by have := beq_iff_eq.1 hq; omega)], rfl⟩
            case measure => simp [intOf]; omega
        · obtain rfl : j = 16 := by omega
          have hd16 := dref_lt c
          have hdp := Lib.hid (dpart_16 c)
          have hst := Lib.hid (show vref (s.data.toList.take (k + 1)) = vref (s.data.toList.take k) * 16 + dref c.toNat by rw [take_snoc s k hk2, vref_snoc, hc])
          have hv60 : vref (s.data.toList.take k) < 1152921504606846976 := by
            have h2 : 16 ^ k ≤ 16 ^ 15 := Nat.pow_le_pow_right (by omega) (by omega)
            have := hv.out
            omega
          have hlt2 := Lib.hid (show vref (s.data.toList.take (k + 1)) < 16 ^ (k + 1) by rw [hst.out, Nat.pow_succ]; have := hv.out; omega)
          rw [hdp.out]
          generalize dref c.toNat = dd at *
          generalize vref (s.data.toList.take k) = vv at *
          go_wp2_with fail
          go_roundw
          case rel => exact ⟨k + 1, q, by omega, by omega, by go_num, by rw [hst.out]; go_num, hlt2, rfl⟩
          case measure => simp [intOf]; omega
    · have hnv := vref_fin s k hk hks hlt
      have hvM := Lib.hid (show vref (s.data.toList.take k) < M64 by
        have h2 : 16 ^ k ≤ 16 ^ 16 := Nat.pow_le_pow_right (by omega) (by omega)
        have := hv.out
        unfold M64; omega)
      have hcc : (¬ k < 16 ∧ k < s.size) ∨ (¬ k < 16 ∧ ¬ k < s.size) ∨ (k < 16 ∧ ¬ k < s.size) := by omega
      rcases hcc with ⟨hcc, hcd⟩ | ⟨hcc, hcd⟩ | ⟨hcc, hcd⟩
      all_goals
        go_wp2_with fail
        refine (rtext_any _ _ hvM.out).mono ?_
        rintro e w2 ⟨rfl, rfl⟩
        cases ho : okHex s
        · obtain ⟨t1, t2, t3⟩ := hnv.2 ho
          have hq : ((textS (vref (s.data.toList.take k))).toList == s.toList) = false := (Lib.bytes_beq_false_iff _ _).2 t1
          have T2 := Lib.hid t2
          have T3 := Lib.hid t3
          clear t1 t2 t3 hnv ho
          go_wp2_with fail
          go_ret2
          exact ⟨by rw [T2.out, T3.out]; rfl, below_drewN _ _⟩
        · obtain ⟨t1, t2, t3⟩ := hnv.1 ho
          have T2 := Lib.hid t2
          have T3 := Lib.hid t3
          clear t2 t3 hnv ho
          go_wp2_with fail
          go_ret2
          exact ⟨by rw [T2.out, T3.out]; rfl, below_drewN _ _⟩
/-- Is a text the code of the data under the key? -/
def verB (k : Nat) (d c : ByteArray) : Bool := decide (1 ≤ c.size ∧ c.size ≤ 12) && decide (codeL (macOf k d.data.toList) c.size = c.data.toList)
set_option maxHeartbeats 400000 in
theorem verify_any (k : Nat) (d c : ByteArray) (w : World) (hw : KX w) (hk : k < M64) (hd : d.size ≤ 100000) (hc : c.size ≤ 100000) :
    Calls Tryd.prog 10 #[.int .u64 k, .string d, .string c] w fun e w' => e = .returned (.bool (verB k d c)) ∧ Below w.heap.size w w' := by
  have hm := Lib.hid (mac_any k d w hk hd)
  have HW := Lib.hid hw
  have hml := macOf_lt k d.data.toList
  obtain ⟨m, hmd⟩ : ∃ m, m = macOf k d.data.toList := ⟨_, rfl⟩
  have hver : verB k d c = (decide (1 ≤ c.size ∧ c.size ≤ 12) && decide (codeL m c.size = c.data.toList)) := by rw [hmd]; rfl
  rw [hver]
  rw [← hmd] at hm hml
  clear hmd hver hk hw
  by_cases hr : 1 ≤ c.size ∧ c.size ≤ 12
  · obtain ⟨r1, r2⟩ := hr
    have hcd := Lib.hid (fun w hw => code_any m c.size w hw hml r1 r2)
    have hv := Lib.hid (show (decide (1 ≤ c.size ∧ c.size ≤ 12) && decide (codeL m c.size = c.data.toList)) = ((codeS m c.size).toList == c.toList) by
      rw [decide_eq_true ⟨r1, r2⟩, Bool.true_and, Bool.eq_iff_iff, decide_eq_true_eq, Lib.bytes_beq_iff]
      exact ⟨fun h => ba_ext h, fun h => (codeS_list m c.size).symm.trans (congrArg (·.data.toList) h)⟩)
    rw [hv.out]
    clear hml hv
    go_enter Tryd.func10, Tryd.ntmps10
    go_wp2_with fail
    refine hm.out.mono ?_
    rintro e w1 ⟨rfl, hb⟩
    have HB := Lib.hid hb
    clear hb
    go_wp2_with fail
    refine (hcd.out _ (HW.out.below HB.out).1).mono ?_
    rintro e w2 ⟨rfl, hb2⟩
    have HB2 := Lib.hid (HB.out.trans (hb2.mono HB.out.size))
    clear hb2
    go_wp2_with fail
    go_ret
    exact ⟨rfl, HB2.out⟩
  · have hv := Lib.hid (show (decide (1 ≤ c.size ∧ c.size ≤ 12) && decide (codeL m c.size = c.data.toList)) = false by rw [decide_eq_false hr]; rfl)
    rw [hv.out]
    clear hml hv
    go_enter Tryd.func10, Tryd.ntmps10
    go_wp2_with fail
    refine hm.out.mono ?_
    rintro e w1 ⟨rfl, hb⟩
    have HB := Lib.hid hb
    clear hb
    go_wp2_with fail
    refine (code_bad m (c.size : Int) _ (by omega)).mono ?_
    rintro e w2 ⟨rfl, rfl⟩
    go_wp2_with fail
    go_ret
    exact ⟨rfl, HB.out⟩
set_option maxHeartbeats 400000 in
theorem rverify_any (k : Nat) (d c : ByteArray) (w : World) (hk : k < M64) (hd : d.size ≤ 100000) (hc : c.size ≤ 100000) :
    Calls Tryd.prog 11 #[.int .u64 k, .string d, .string c] w fun e w' => e = .returned (.bool (verB k d c)) ∧ Below w.heap.size w w' := by
  have hm := Lib.hid (rmac_any k d w hk hd)
  have hml := macOf_lt k d.data.toList
  obtain ⟨m, hmd⟩ : ∃ m, m = macOf k d.data.toList := ⟨_, rfl⟩
  have hver : verB k d c = (decide (1 ≤ c.size ∧ c.size ≤ 12) && decide (codeL m c.size = c.data.toList)) := by rw [hmd]; rfl
  rw [hver]
  rw [← hmd] at hm hml
  clear hmd hver hk
  by_cases hr : 1 ≤ c.size ∧ c.size ≤ 12
  · obtain ⟨r1, r2⟩ := hr
    have hcd := Lib.hid (fun w => rcode_any m c.size w hml r1 r2)
    have hv := Lib.hid (show (decide (1 ≤ c.size ∧ c.size ≤ 12) && decide (codeL m c.size = c.data.toList)) = ((codeS m c.size).toList == c.toList) by
      rw [decide_eq_true ⟨r1, r2⟩, Bool.true_and, Bool.eq_iff_iff, decide_eq_true_eq, Lib.bytes_beq_iff]
      exact ⟨fun h => ba_ext h, fun h => (codeS_list m c.size).symm.trans (congrArg (·.data.toList) h)⟩)
    rw [hv.out]
    clear hml hv
    go_enter Tryd.func11, Tryd.ntmps11
    go_wp2_with fail
    refine hm.out.mono ?_
    rintro e w1 ⟨rfl, hb⟩
    have HB := Lib.hid hb
    clear hb
    go_wp2_with fail
    refine (hcd.out _).mono ?_
    rintro e w2 ⟨rfl, hb2⟩
    have HB2 := Lib.hid (HB.out.trans (hb2.mono HB.out.size))
    clear hb2
    go_wp2_with fail
    go_ret
    exact ⟨rfl, HB2.out⟩
  · have hv := Lib.hid (show (decide (1 ≤ c.size ∧ c.size ≤ 12) && decide (codeL m c.size = c.data.toList)) = false by rw [decide_eq_false hr]; rfl)
    rw [hv.out]
    clear hml hv
    go_enter Tryd.func11, Tryd.ntmps11
    go_wp2_with fail
    refine hm.out.mono ?_
    rintro e w1 ⟨rfl, hb⟩
    have HB := Lib.hid hb
    clear hb
    go_wp2_with fail
    refine (rcode_bad m (c.size : Int) _ (by omega)).mono ?_
    rintro e w2 ⟨rfl, rfl⟩
    go_wp2_with fail
    go_ret
    exact ⟨rfl, HB.out⟩
end Go.Proofs.YtnoichipocmkgaaDoor
