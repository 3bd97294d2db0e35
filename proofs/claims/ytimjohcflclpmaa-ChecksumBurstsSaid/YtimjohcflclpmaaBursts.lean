/- The walk of ChecksumBursts. -/
import Derived.Test.YtimjohcflclpmaaBytes
import Derived.Test.YtimjohcflclpmaaAwake
namespace Go.Proofs.Ytimjohcflclpmaa
set_option linter.unusedVariables false
open Go.RowKit Go.ChangeShapes Go.WideShapes Go.ChangeAt

/-- The loop's state behind k rounds: the block holds bytes that part from the string's by 2^m times a number below 2^k, which is not 0 exactly if a change was made. -/
def Burst (s : ByteArray) (m k b : Nat) (c : Bool) (w wr : World) : Prop :=
  ∃ (l : List UInt8) (B : Nat), l.length = s.size ∧ BytesAt wr b l ∧ B < 2 ^ k ∧ numOf l = numOf s.data.toList ^^^ 2 ^ m * B ∧ c = decide (B ≠ 0) ∧ Below w.heap.size w wr ∧ w.heap.size = b ∧ b < wr.heap.size
theorem burst_step (s : ByteArray) (m k b : Nat) (w wr : World) (l : List UInt8) (B : Nat) (hl : l.length = s.size) (hb : BytesAt wr b l) (hB : B < 2 ^ k)
    (hn : numOf l = numOf s.data.toList ^^^ 2 ^ m * B) (hbel : Below w.heap.size w wr) (hwb : w.heap.size = b) (hbw : b < wr.heap.size) (hi : (m + k) / 8 < l.length) (v : Nat)
    (hv : v = (l.getD ((m + k) / 8) 0).toNat ^^^ 2 ^ ((m + k) % 8)) :
    Burst s m (k + 1) b true w (wr.setCell ⟨b, (m + k) / 8, none⟩ (.int .u8 (v : Int))) := by
  have hg : l.getD ((m + k) / 8) 0 = l[(m + k) / 8] := by simp [List.getD, hi]
  have hv8 : v < 256 := by
    rw [hv]; exact Nat.xor_lt_two_pow (n := 8) (UInt8.toNat_lt _) (Nat.pow_lt_pow_right (by omega) (by omega))
  have hu : (UInt8.ofNat v).toNat = v := UInt8.toNat_ofNat_of_lt' hv8
  have hs := BytesAt.set hb ((m + k) / 8) hi (UInt8.ofNat v)
  rw [hu] at hs
  refine ⟨l.set ((m + k) / 8) (UInt8.ofNat v), B ^^^ 2 ^ k, by simpa using hl, hs, ?_, ?_, ?_, hbel.setCell (by simp; omega) _, hwb, by simpa using hbw⟩
  · exact Nat.xor_lt_two_pow (by rw [Nat.pow_succ]; omega) (Nat.pow_lt_pow_right (by omega) (by omega))
  · rw [numOf_set l _ ((m + k) % 8) hi _ (by rw [hu, hv, hg]), hn, xor_mul, Nat.xor_assoc, ← Nat.pow_add]
    congr 3
    omega
  · have hne : B ^^^ 2 ^ k ≠ 0 := by
      intro h0
      have h1 : (B ^^^ 2 ^ k) ^^^ 2 ^ k = 0 ^^^ 2 ^ k := by rw [h0]
      rw [Nat.xor_assoc, Nat.xor_self, Nat.xor_zero, Nat.zero_xor] at h1
      omega
    simp [hne]
theorem burst_keep (s : ByteArray) (m k b : Nat) (c : Bool) (w wr : World) (h : Burst s m k b c w wr) : Burst s m (k + 1) b c w wr := by
  obtain ⟨l, B, h1, h2, h3, h4, h5⟩ := h
  exact ⟨l, B, h1, h2, by rw [Nat.pow_succ]; omega, h4, h5⟩
theorem burst_end (s : ByteArray) (m b : Nat) (c : Bool) (w wr : World) (hm : m ≤ 8 * s.size) (h : Burst s m 32 b c w wr) :
    ∃ l : List UInt8, l.length = s.size ∧ BytesAt wr b l ∧ (!((crcOf l : Int) == (crcOf s.data.toList : Int))) = c ∧ Below w.heap.size w wr := by
  obtain ⟨l, B, h1, h2, h3, h4, h5, h6, h7, h8⟩ := h
  refine ⟨l, h1, h2, ?_, h6⟩
  have hd := crcReg_diff s.data.toList l (by simpa using h1.symm) m B (by simpa using h3) (by simpa using hm) h4
  rw [h5, Bool.eq_iff_iff]
  simp only [Bool.not_eq_true', beq_eq_false_iff_ne, decide_eq_true_eq, ne_eq, Int.natCast_inj]
  rw [hd]
theorem xor_shl (x r : Nat) (hx : x < 256) (hr : r < 8) : bits .xor .u8 (x : Int) ((2 : Int) ^ r % 256) = ((x ^^^ 2 ^ r : Nat) : Int) := by
  have h : (2 : Int) ^ r % 256 = ((2 ^ r : Nat) : Int) := by
    match r, hr with
    | 0, _ => rfl
    | 1, _ => rfl
    | 2, _ => rfl
    | 3, _ => rfl
    | 4, _ => rfl
    | 5, _ => rfl
    | 6, _ => rfl
    | 7, _ => rfl
  rw [h]
  exact u8_xor_nat _ _ hx (Nat.pow_lt_pow_right (a := 2) (n := 8) (by omega) hr)
theorem getD_lt (l : List UInt8) (i : Nat) (h : i < l.length) : l.getD i 0 = l[i] := by simp [List.getD, h]

set_option maxHeartbeats 1600000 in
theorem checksumBursts_walk (w : World) (s : ByteArray) (hs : s.size ≤ maxLen) (at_ : Int) (hat : (Lit.int .u16 at_).wf = true) (bt : Int) (hbt : (Lit.int .u32 bt).wf = true) :
    Calls Try.prog 5 #[.string s, .int .u16 at_, .int .u32 bt] w fun e w' => e = .returned (.bool true) ∧ Below w.heap.size w w' := by
  have h16 := bounds_u16 hat
  have h32 := bounds_u32 hbt
  clear hat hbt
  unfold maxLen at hs
  by_cases hk : 300 < s.size
  · go_enter Try.func5, Try.ntmps5
    go_wp2_with fail
    refine (awake_any _).mono ?_
    rintro e w' ⟨rfl, hb⟩
    go_wp2_with fail
    go_ret
    exact ⟨rfl, hb⟩
  by_cases h0 : s.size = 0
  · go_enter Try.func5, Try.ntmps5
    go_wp2_with fail
    refine (awake_any _).mono ?_
    rintro e w' ⟨rfl, hb⟩
    go_wp2_with fail
    go_ret
    exact ⟨rfl, hb⟩
  have hz : ((s.size : Int) == 0) = false := beq_eq_false_iff_ne.2 (by omega)
  obtain ⟨a, rfl⟩ : ∃ a : Nat, at_ = (a : Int) := ⟨at_.toNat, by omega⟩
  obtain ⟨t, rfl⟩ : ∃ t : Nat, bt = (t : Int) := ⟨bt.toNat, by omega⟩
  obtain ⟨wN, cap, hcv, hB, hbel, hsz⟩ := conv_ex w s
  have hm : (a : Int) % (8 * (s.size : Int)) = ((a % (8 * s.size) : Nat) : Int) := by push_cast; rfl
  have ha : a ≤ 65535 := by omega
  have ht : t ≤ 4294967295 := by omega
  have hml : a % (8 * s.size) < 8 * s.size := Nat.mod_lt _ (by omega)
  have hbur : Burst s (a % (8 * s.size)) 0 w.heap.size false w wN := ⟨s.data.toList, 0, by simp, hB, by simp, by simp, by simp, hbel, rfl, hsz⟩
  generalize a % (8 * s.size) = m at hm hml hbur
  have HB := Lib.hid hbur
  clear hbur hB hbel hsz h0 h16 h32
  go_enter Try.func5, Try.ntmps5
  go_wp2_with fail
  clear hcv
  go_loopw [8, 9] (fun c i wr => ∃ (k : Nat) (cb : Bool), k ≤ 32 ∧ i = .int .i64 k ∧ c = .bool cb ∧ Burst s m k w.heap.size cb w wr) (fun _ i _ => 32 - (intOf i).toNat)
  case atStart => exact ⟨0, false, by omega, rfl, rfl, HB.out⟩
  case round =>
    obtain ⟨k, cb, hk32, rfl, rfl, hbu⟩ := hrel
    by_cases hlt : k < 32
    · have HU := Lib.hid hbu
      clear hbu
      cases hbit : ((bits .and .u32 ((t : Int) / 2 ^ k) 1) == 1)
      · go_wp2_with fail
        go_roundw
        case rel => exact ⟨k + 1, cb, by omega, by go_num, rfl, burst_keep _ _ _ _ _ _ _ HU.out⟩
        case measure => simp [intOf]; omega
      · by_cases hn : m + k < 8 * s.size
        · obtain ⟨l, B, h1, h2, h3, h4, h5, h6, h7, h8⟩ := HU.out
          have hi : (m + k) / 8 < l.length := by omega
          obtain ⟨hc, hf⟩ := h2 _ hi
          have HS := Lib.hid (burst_step s m k w.heap.size w wr l B h1 h2 h3 h4 h6 h7 h8 hi _ rfl)
          have hr8 : (m + k) % 8 < 8 := by omega
          clear h1 h2 h3 h4 h5 h6 h7 h8
          go_wp2_with fail
          exact ⟨⟨k + 1, true, by omega, by go_num, rfl, by rw [xor_shl _ _ (UInt8.toNat_lt _) hr8, ← getD_lt l _ hi]; exact HS.out⟩, by simp [intOf]; omega⟩
        · go_wp2_with fail
          go_roundw
          case rel => exact ⟨k + 1, cb, by omega, by go_num, rfl, burst_keep _ _ _ _ _ _ _ HU.out⟩
          case measure => simp [intOf]; omega
    · obtain rfl : k = 32 := by omega
      obtain ⟨l, hl, hB, hq, hbl⟩ := burst_end s m _ cb w wr (by omega) hbu
      clear hbu
      have hcb := conv_back wr w.heap.size l cap hB
      rw [hl] at hcb
      have hls : (ByteArray.mk l.toArray).size ≤ maxLen := by
        show l.toArray.size ≤ _
        rw [List.size_toArray]; unfold maxLen; omega
      clear hB
      go_wp2_with fail
      refine (crc_any _ _ hls).mono ?_
      rintro e w' ⟨rfl, rfl⟩
      go_wp2_with fail
      refine (crc_any _ _ (by unfold maxLen; omega)).mono ?_
      rintro e w' ⟨rfl, rfl⟩
      go_wp2_with fail
      refine (awake_any _).mono ?_
      rintro e w' ⟨rfl, hb⟩
      go_wp2_with fail
      go_ret
      exact ⟨rfl, below2 hbl hb⟩
end Go.Proofs.Ytimjohcflclpmaa
