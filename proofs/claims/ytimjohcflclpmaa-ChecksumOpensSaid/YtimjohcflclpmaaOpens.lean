/- The walk of ChecksumOpens. -/
import Derived.Test.YtimjohcflclpmaaBytes
import Derived.Test.YtimjohcflclpmaaAwake
namespace Go.Proofs.Ytimjohcflclpmaa
set_option linter.unusedVariables false
open Go.RowKit Go.ChangeShapes Go.WideShapes Go.ChangeAt

theorem list_inj {a b : ByteArray} (h : a.data.toList = b.data.toList) : a = b := ByteArray.ext (Array.toList_inj.1 h)
theorem body_app (s u : ByteArray) (hu : u.size = 8) : bodyS (s ++ u) = s := by
  apply list_inj
  unfold bodyS
  rw [ByteArray.size_append, hu, show s.size + 8 - 8 = s.size from by omega]
  simp
  exact List.take_of_length_le (by simp)
theorem open_sealed (s : ByteArray) : openV (s ++ sealS (crcOf s.data.toList)) = .tuple #[.string s, .int .i64 0] := by
  have h8 := sealS_size (crcOf s.data.toList)
  have hb := body_app s _ h8
  unfold openV
  rw [if_neg (by rw [ByteArray.size_append, h8]; omega), hb, if_pos]
  unfold sealedB
  rw [hb]; simp
theorem openV_cases (s : ByteArray) : ∃ (y : ByteArray) (f : Int), openV s = .tuple #[.string y, .int .i64 f] ∧ ((f = 0 ∧ y ++ sealS (crcOf y.data.toList) = s ∧ y.size ≤ s.size) ∨ ((f = 1 ∨ f = 9) ∧ y = ⟨#[]⟩)) := by
  unfold openV
  split
  · exact ⟨_, _, rfl, .inr ⟨.inl rfl, rfl⟩⟩
  · split
    · rename_i h
      refine ⟨_, _, rfl, .inl ⟨rfl, ?_, ?_⟩⟩
      · unfold sealedB at h; exact (of_decide_eq_true h).symm
      · unfold bodyS; simp
    · exact ⟨_, _, rfl, .inr ⟨.inr rfl, rfl⟩⟩
theorem open_broken (s : ByteArray) (i : Nat) (hi : i < s.size) (by_ : Nat) (h0 : by_ ≠ 0) (h8 : by_ < 256) (v : UInt8)
    (hv : v.toNat = ((s ++ sealS (crcOf s.data.toList)).data.toList.getD i 0).toNat ^^^ by_) :
    openV ⟨((s ++ sealS (crcOf s.data.toList)).data.toList.set i v).toArray⟩ = .tuple #[.string ⟨#[]⟩, .int .i64 9] := by
  have hz := sealS_size (crcOf s.data.toList)
  have hil : i < s.data.toList.length := by simpa using hi
  have hset : (ByteArray.mk ((s ++ sealS (crcOf s.data.toList)).data.toList.set i v).toArray) = ByteArray.mk (s.data.toList.set i v).toArray ++ sealS (crcOf s.data.toList) := by
    apply list_inj
    simp only [ByteArray.data_append, Array.toList_append]
    exact List.set_append_left _ _ hil
  rw [hset]
  have hb := body_app (ByteArray.mk (s.data.toList.set i v).toArray) _ hz
  unfold openV
  rw [if_neg (by rw [ByteArray.size_append, hz]; omega), hb, if_neg]
  unfold sealedB
  rw [hb]
  simp only [decide_eq_true_eq]
  intro h
  have h1 := (append_left_inj' _ _ _).1 h
  have h2 := sealS_inj _ _ (crcOf_lt _) (crcOf_lt _) h1
  have hg : ((s ++ sealS (crcOf s.data.toList)).data.toList.getD i 0) = s.data.toList[i] := by
    simp only [ByteArray.data_append, Array.toList_append, List.getD, List.getElem?_append_left hil, List.getElem?_eq_getElem hil, Option.getD_some]
  rw [hg] at hv
  have hd := crcReg_diff s.data.toList (s.data.toList.set i v) (by simp) (8 * i) by_ (by omega) (by simp; omega) (numOf_set' _ i hil v by_ hv)
  exact h0 (hd.1 h2.symm)

theorem BytesAt.drew {w : World} {b : Nat} {l : List UInt8} (h : BytesAt w b l) : BytesAt w.drew b l := fun j hj => h j hj
theorem xor_byte (x : UInt8) (t : Nat) (ht : t < 256) : (UInt8.ofNat (x.toNat ^^^ t)).toNat = x.toNat ^^^ t :=
  UInt8.toNat_ofNat_of_lt' (Nat.xor_lt_two_pow (n := 8) (UInt8.toNat_lt _) ht)
set_option maxHeartbeats 3200000 in
theorem checksumOpens_walk (w : World) (s : ByteArray) (hs : s.size ≤ maxLen) (at_ : Int) (hat : (Lit.int .u16 at_).wf = true) (bt : Int) (hbt : (Lit.int .u8 bt).wf = true) :
    Calls Try.prog 6 #[.string s, .int .u16 at_, .int .u8 bt] w fun e w' => e = .returned (.bool true) ∧ Below w.heap.size w w' := by
  have h16 := bounds_u16 hat
  have h8 := bounds_u8 hbt
  clear hat hbt
  unfold maxLen at hs
  by_cases hk : 300 < s.size
  · go_enter Try.func6, Try.ntmps6
    go_wp2_with fail
    refine (awake_any _).mono ?_
    rintro e w' ⟨rfl, hb⟩
    go_wp2_with fail
    go_ret
    exact ⟨rfl, hb⟩
  obtain ⟨a, rfl⟩ : ∃ a : Nat, at_ = (a : Int) := ⟨at_.toNat, by omega⟩
  obtain ⟨t, rfl⟩ : ∃ t : Nat, bt = (t : Int) := ⟨bt.toNat, by omega⟩
  have ha : a ≤ 65535 := by omega
  have ht : t ≤ 255 := by omega
  clear h16 h8
  have hz := sealS_size (crcOf s.data.toList)
  have hos := Lib.hid (open_sealed s)
  obtain ⟨y, f, hov, hyf⟩ := openV_cases s
  have HOV := Lib.hid hov
  clear hov
  have hys : y.size ≤ 1000000 := by
    rcases hyf with ⟨_, _, h⟩ | ⟨_, rfl⟩
    · omega
    · simp [ByteArray.size]
  have hyz := sealS_size (crcOf y.data.toList)
  have hst : (s ++ sealS (crcOf s.data.toList)).size = s.size + 8 := by rw [ByteArray.size_append, hz]
  rcases hyf with ⟨rfl, hy, _⟩ | ⟨hf, rfl⟩
  · have HY := Lib.hid hy
    clear hy
    by_cases ht0 : t = 0
    · subst ht0
      go_enter Try.func6, Try.ntmps6
      go_wp2_with fail
      refine (seal_any s _ (by omega)).mono ?_
      rintro e w1 ⟨rfl, hb1⟩
      go_wp2_with fail
      refine (open_any _ _ (by rw [ByteArray.size_append, hz]; omega)).mono ?_
      rintro e w2 ⟨rfl, hb2⟩
      rw [hos.out]
      go_wp2_with fail
      refine (open_any _ _ (by omega)).mono ?_
      rintro e w3 ⟨rfl, hb3⟩
      rw [HOV.out]
      go_wp2_with fail
      refine (seal_any y _ hys).mono ?_
      rintro e w4 ⟨rfl, hb4⟩
      rw [HY.out]
      go_wp2_with fail
      refine (awake_any _).mono ?_
      rintro e w9 ⟨rfl, hb9⟩
      go_wp2_with fail
      go_ret
      exact ⟨rfl, below2 (below2 (below2 (below2 hb1 hb2) hb3) hb4) hb9⟩
    · by_cases hn0 : s.size = 0
      · have e1 : ((t : Int) == 0) = false := beq_eq_false_iff_ne.2 (by omega)
        have e2 : ((s.size : Int) == 0) = true := beq_iff_eq.2 (by omega)
        clear hn0
        go_enter Try.func6, Try.ntmps6
        go_wp2_with fail
        refine (seal_any s _ (by omega)).mono ?_
        rintro e w1 ⟨rfl, hb1⟩
        go_wp2_with fail
        refine (open_any _ _ (by rw [ByteArray.size_append, hz]; omega)).mono ?_
        rintro e w2 ⟨rfl, hb2⟩
        rw [hos.out]
        go_wp2_with fail
        refine (open_any _ _ (by omega)).mono ?_
        rintro e w3 ⟨rfl, hb3⟩
        rw [HOV.out]
        go_wp2_with fail
        refine (seal_any y _ hys).mono ?_
        rintro e w4 ⟨rfl, hb4⟩
        rw [HY.out]
        go_wp2_with fail
        refine (awake_any _).mono ?_
        rintro e w9 ⟨rfl, hb9⟩
        go_wp2_with fail
        go_ret
        exact ⟨rfl, below2 (below2 (below2 (below2 hb1 hb2) hb3) hb4) hb9⟩
      · have e1 : ((t : Int) == 0) = false := beq_eq_false_iff_ne.2 (by omega)
        have e2 : ((s.size : Int) == 0) = false := beq_eq_false_iff_ne.2 (by omega)
        go_enter Try.func6, Try.ntmps6
        go_wp2_with fail
        refine (seal_any s _ (by omega)).mono ?_
        rintro e w1 ⟨rfl, hb1⟩
        go_wp2_with fail
        refine (open_any _ _ (by rw [ByteArray.size_append, hz]; omega)).mono ?_
        rintro e w2 ⟨rfl, hb2⟩
        rw [hos.out]
        go_wp2_with fail
        refine (open_any _ _ (by omega)).mono ?_
        rintro e w3 ⟨rfl, hb3⟩
        rw [HOV.out]
        go_wp2_with fail
        refine (seal_any y _ hys).mono ?_
        rintro e w4 ⟨rfl, hb4⟩
        rw [HY.out]
        obtain ⟨wN, cap, hcv, hB, hbel, hsz⟩ := conv_ex w4 (s ++ sealS (crcOf s.data.toList))
        rw [hst] at hcv
        have hml : a % s.size < s.size := Nat.mod_lt _ (by omega)
        have hm : (a : Int) % (s.size : Int) = ((a % s.size : Nat) : Int) := by push_cast; rfl
        have HBR := Lib.hid (fun v hv => open_broken s (a % s.size) hml t ht0 (by omega) v hv)
        generalize a % s.size = m at hm hml HBR
        have hmt : m < (s ++ sealS (crcOf s.data.toList)).data.toList.length := by
          show m < (s ++ sealS (crcOf s.data.toList)).data.size
          have : m < (s ++ sealS (crcOf s.data.toList)).size := by omega
          exact this
        obtain ⟨hc, hf⟩ := hB m hmt
        have hxt := u8_xor_nat ((s ++ sealS (crcOf s.data.toList)).data.toList.getD m 0).toNat t (UInt8.toNat_lt _) (by omega)
        have hvv := xor_byte ((s ++ sealS (crcOf s.data.toList)).data.toList.getD m 0) t (by omega)
        have HB0 := Lib.hid (HBR.out _ hvv)
        have hback := conv_back _ w4.heap.size _ cap (BytesAt.drew (BytesAt.set hB m hmt (UInt8.ofNat (((s ++ sealS (crcOf s.data.toList)).data.toList.getD m 0).toNat ^^^ t))))
        rw [hvv, List.length_set, show (s ++ sealS (crcOf s.data.toList)).data.toList.length = s.size + 8 from hst] at hback
        have hsl : (ByteArray.mk ((s ++ sealS (crcOf s.data.toList)).data.toList.set m (UInt8.ofNat (((s ++ sealS (crcOf s.data.toList)).data.toList.getD m 0).toNat ^^^ t))).toArray).size ≤ 1000000 := by
          show ((s ++ sealS (crcOf s.data.toList)).data.toList.set m _).toArray.size ≤ _
          rw [List.size_toArray, List.length_set, show (s ++ sealS (crcOf s.data.toList)).data.toList.length = s.size + 8 from hst]; omega
        clear hB hvv HBR
        generalize (s ++ sealS (crcOf s.data.toList)).data.toList.set m (UInt8.ofNat (((s ++ sealS (crcOf s.data.toList)).data.toList.getD m 0).toNat ^^^ t)) = l at hback HB0 hsl
        generalize ((s ++ sealS (crcOf s.data.toList)).data.toList.getD m 0) = x at hc hback hxt
        go_wp2_with fail
        clear hcv
        go_region
        go_wp2_with fail
        refine (open_any _ _ hsl).mono ?_
        rintro e w6 ⟨rfl, hb6⟩
        rw [HB0.out]
        go_wp2_with fail
        refine (awake_any _).mono ?_
        rintro e w9 ⟨rfl, hb9⟩
        go_wp2_with fail
        go_ret
        exact ⟨rfl, below2 (below2 (below2 (below2 (below2 (below2 hb1 hb2) hb3) hb4) ((hbel.setCell (Nat.le_refl _) _).drew)) hb6) hb9⟩
  · by_cases ht0 : t = 0
    · subst ht0
      rcases hf with rfl | rfl
      all_goals
        go_enter Try.func6, Try.ntmps6
        go_wp2_with fail
        refine (seal_any s _ (by omega)).mono ?_
        rintro e w1 ⟨rfl, hb1⟩
        go_wp2_with fail
        refine (open_any _ _ (by rw [ByteArray.size_append, hz]; omega)).mono ?_
        rintro e w2 ⟨rfl, hb2⟩
        rw [hos.out]
        go_wp2_with fail
        refine (open_any _ _ (by omega)).mono ?_
        rintro e w3 ⟨rfl, hb3⟩
        rw [HOV.out]
        go_wp2_with fail
        refine (awake_any _).mono ?_
        rintro e w9 ⟨rfl, hb9⟩
        go_wp2_with fail
        go_ret
        exact ⟨rfl, below2 (below2 (below2 hb1 hb2) hb3) hb9⟩
    · by_cases hn0 : s.size = 0
      · have e1 : ((t : Int) == 0) = false := beq_eq_false_iff_ne.2 (by omega)
        have e2 : ((s.size : Int) == 0) = true := beq_iff_eq.2 (by omega)
        clear hn0
        rcases hf with rfl | rfl
        all_goals
          go_enter Try.func6, Try.ntmps6
          go_wp2_with fail
          refine (seal_any s _ (by omega)).mono ?_
          rintro e w1 ⟨rfl, hb1⟩
          go_wp2_with fail
          refine (open_any _ _ (by rw [ByteArray.size_append, hz]; omega)).mono ?_
          rintro e w2 ⟨rfl, hb2⟩
          rw [hos.out]
          go_wp2_with fail
          refine (open_any _ _ (by omega)).mono ?_
          rintro e w3 ⟨rfl, hb3⟩
          rw [HOV.out]
          go_wp2_with fail
          refine (awake_any _).mono ?_
          rintro e w9 ⟨rfl, hb9⟩
          go_wp2_with fail
          go_ret
          exact ⟨rfl, below2 (below2 (below2 hb1 hb2) hb3) hb9⟩
      · have e1 : ((t : Int) == 0) = false := beq_eq_false_iff_ne.2 (by omega)
        have e2 : ((s.size : Int) == 0) = false := beq_eq_false_iff_ne.2 (by omega)
        rcases hf with rfl | rfl
        all_goals
          go_enter Try.func6, Try.ntmps6
          go_wp2_with fail
          refine (seal_any s _ (by omega)).mono ?_
          rintro e w1 ⟨rfl, hb1⟩
          go_wp2_with fail
          refine (open_any _ _ (by rw [ByteArray.size_append, hz]; omega)).mono ?_
          rintro e w2 ⟨rfl, hb2⟩
          rw [hos.out]
          go_wp2_with fail
          refine (open_any _ _ (by omega)).mono ?_
          rintro e w3 ⟨rfl, hb3⟩
          rw [HOV.out]
          obtain ⟨wN, cap, hcv, hB, hbel, hsz⟩ := conv_ex w3 (s ++ sealS (crcOf s.data.toList))
          rw [hst] at hcv
          have hml : a % s.size < s.size := Nat.mod_lt _ (by omega)
          have hm : (a : Int) % (s.size : Int) = ((a % s.size : Nat) : Int) := by push_cast; rfl
          have HBR := Lib.hid (fun v hv => open_broken s (a % s.size) hml t ht0 (by omega) v hv)
          generalize a % s.size = m at hm hml HBR
          have hmt : m < (s ++ sealS (crcOf s.data.toList)).data.toList.length := by
            show m < (s ++ sealS (crcOf s.data.toList)).data.size
            have : m < (s ++ sealS (crcOf s.data.toList)).size := by omega
            exact this
          obtain ⟨hc, hf⟩ := hB m hmt
          have hxt := u8_xor_nat ((s ++ sealS (crcOf s.data.toList)).data.toList.getD m 0).toNat t (UInt8.toNat_lt _) (by omega)
          have hvv := xor_byte ((s ++ sealS (crcOf s.data.toList)).data.toList.getD m 0) t (by omega)
          have HB0 := Lib.hid (HBR.out _ hvv)
          have hback := conv_back _ w3.heap.size _ cap (BytesAt.drew (BytesAt.set hB m hmt (UInt8.ofNat (((s ++ sealS (crcOf s.data.toList)).data.toList.getD m 0).toNat ^^^ t))))
          rw [hvv, List.length_set, show (s ++ sealS (crcOf s.data.toList)).data.toList.length = s.size + 8 from hst] at hback
          have hsl : (ByteArray.mk ((s ++ sealS (crcOf s.data.toList)).data.toList.set m (UInt8.ofNat (((s ++ sealS (crcOf s.data.toList)).data.toList.getD m 0).toNat ^^^ t))).toArray).size ≤ 1000000 := by
            show ((s ++ sealS (crcOf s.data.toList)).data.toList.set m _).toArray.size ≤ _
            rw [List.size_toArray, List.length_set, show (s ++ sealS (crcOf s.data.toList)).data.toList.length = s.size + 8 from hst]; omega
          clear hB hvv HBR
          generalize (s ++ sealS (crcOf s.data.toList)).data.toList.set m (UInt8.ofNat (((s ++ sealS (crcOf s.data.toList)).data.toList.getD m 0).toNat ^^^ t)) = l at hback HB0 hsl
          generalize ((s ++ sealS (crcOf s.data.toList)).data.toList.getD m 0) = x at hc hback hxt
          go_wp2_with fail
          clear hcv
          go_region
          go_wp2_with fail
          refine (open_any _ _ hsl).mono ?_
          rintro e w6 ⟨rfl, hb6⟩
          rw [HB0.out]
          go_wp2_with fail
          refine (awake_any _).mono ?_
          rintro e w9 ⟨rfl, hb9⟩
          go_wp2_with fail
          go_ret
          exact ⟨rfl, below2 (below2 (below2 (below2 (below2 hb1 hb2) hb3) ((hbel.setCell (Nat.le_refl _) _).drew)) hb6) hb9⟩
end Go.Proofs.Ytimjohcflclpmaa
