/- Part of the proof over this seat. -/
import Derived.Laws.RangeAny
import Derived.Laws.RangeString
import Derived.Test.YthflmdgfenojcaaGreatDoorQBase
namespace Go.Proofs.YthflmdgfenojcaaGreatDoor
set_option linter.unusedVariables false
open Go.RowKit
def isDg (b : UInt8) : Bool := decide (48 ≤ b.toNat) && decide (b.toNat ≤ 57)
def digsB (s : ByteArray) : Bool := s.data.toList.all isDg
theorem all_no {D : ByteArray} (k : Nat) (h : k < D.size) (hl : isDg D[k] = false) : digsB D = false := by
  unfold digsB
  rw [List.all_eq_false]
  exact ⟨D[k], Array.getElem_mem_toList h, by rw [hl]; simp⟩
theorem all_yes {D : ByteArray} (hw : ∀ j, (h : j < D.size) → isDg D[j] = true) : digsB D = true := by
  unfold digsB
  rw [List.all_eq_true]
  intro b hb
  obtain ⟨i, hi, rfl⟩ := List.mem_iff_getElem.1 hb
  exact hw i (by simpa using hi)
theorem digsB_at {s : ByteArray} (h : digsB s = true) (k : Nat) (hk : k < s.size) : 48 ≤ (s[k]).toNat ∧ (s[k]).toNat ≤ 57 := by
  unfold digsB at h
  have := List.all_eq_true.1 h s[k] (Array.getElem_mem_toList hk)
  unfold isDg at this
  rw [Bool.and_eq_true, decide_eq_true_eq, decide_eq_true_eq] at this
  exact this
/-- What a digit adds to the sum of Luhn's check. -/
def luD (d x : Nat) : Nat := if d % 2 = 0 then (if 9 < 2 * x then 2 * x - 9 else 2 * x) else x
def byteAt (s : ByteArray) (k : Nat) : Nat := if h : k < s.size then (s[k]).toNat else 0
def luT (s : ByteArray) : Nat → Nat
  | 0 => 0
  | k + 1 => luT s k + luD (s.size - k) (byteAt s k - 48)
theorem luT_succ (s : ByteArray) (k : Nat) : luT s (k + 1) = luT s k + luD (s.size - k) (byteAt s k - 48) := rfl
theorem byteAt_in {s : ByteArray} {k : Nat} (h : k < s.size) : byteAt s k = (s[k]).toNat := by unfold byteAt; rw [dif_pos h]
theorem luD_le {d x : Nat} (h : x ≤ 9) : luD d x ≤ 9 := by unfold luD; split; split <;> omega; omega
theorem luT_le {s : ByteArray} (h : digsB s = true) : ∀ k, k ≤ s.size → luT s k ≤ 9 * k
  | 0, _ => Nat.le_refl _
  | k + 1, hk => by
    have h1 := luT_le h k (by omega)
    have h2 := digsB_at h k (by omega)
    have h3 := luD_le (d := s.size - k) (show byteAt s k - 48 ≤ 9 by rw [byteAt_in (by omega)]; omega)
    rw [luT_succ]; omega
def luhnB (s : ByteArray) : Bool := decide (0 < s.size) && digsB s && decide (luT s s.size % 10 = 0)
/-- The error of a card number. -/
def panE (s : ByteArray) : Int := if s.size < 12 then 1 else if 19 < s.size then 3 else if digsB s = false then 2 else if luhnB s = false then 9 else 0
theorem iter_below (w : World) (s : ByteArray) (p : Nat) : Below w.heap.size w (w.iter s p) := (Below.refl _ _).alloc (Nat.le_refl _) _
set_option maxHeartbeats 1600000 in
theorem areDig_any (s : ByteArray) (w : World) (hs : s.size ≤ maxLen) : Calls Tryz.prog 171 #[.string s] w fun e w' => e = .returned (.bool (digsB s)) ∧ Below w.heap.size w w' := by
  unfold maxLen at hs
  have HNO := Lib.hid (fun k (h : k < s.size) hl => all_no (D := s) k h hl)
  have HYES := Lib.hid (fun h => all_yes (D := s) h)
  go_enter Tryz.func171, Tryz.ntmps171
  go_wp2_with fail
  go_loopw [4] (fun _ wr => ∃ pos : Nat, pos ≤ s.size ∧ wr = w.iter s pos ∧ Hid (∀ j, (h : j < pos) → (h' : j < s.size) → isDg (s[j]) = true)) (fun _ wr => s.size - wr.iterPos w.heap.size)
  case atStart => exact ⟨0, Nat.zero_le _, rfl, Lib.hid (fun j h _ => by omega)⟩
  case round =>
    obtain ⟨pos, hpos, rfl, hall⟩ := hrel
    by_cases hp : pos < s.size
    · obtain ⟨c, hc⟩ : ∃ c, (s[pos]).toNat = c := ⟨_, rfl⟩
      by_cases h128 : c < 128
      · have hnx : ∀ ty, (Instr.next (.pointer (some ⟨w.heap.size, 0, none⟩)) true ty).run Tryz.prog (w.iter s pos) = .ok (.tuple #[.bool true, .int .i64 pos, .int .i32 c]) (w.iter s (pos + 1)) := fun ty => by
          rw [run_next_any w s pos ty hp, decode_ascii s pos hp (by omega), hc]
        by_cases h1 : c < 48
        · have HF := Lib.hid (HNO.out pos hp (by unfold isDg; rw [hc, decide_eq_false (by omega)]; rfl))
          have h1' : (c : Int) < 48 := by omega
          clear hc
          go_wp2_with fail
          go_ret
          exact ⟨by rw [HF.out]; rfl, iter_below _ _ _⟩
        · by_cases h2 : 57 < c
          · have HF := Lib.hid (HNO.out pos hp (by unfold isDg; rw [hc, decide_eq_false (show ¬ c ≤ 57 by omega), Bool.and_false]))
            have h1' : ¬ (c : Int) < 48 := by omega
            have h2' : (57 : Int) < (c : Int) := by omega
            clear hc
            go_wp2_with fail
            go_ret
            exact ⟨by rw [HF.out]; rfl, iter_below _ _ _⟩
          · have hN := Lib.hid (show ∀ j, (h : j < pos + 1) → (h' : j < s.size) → isDg (s[j]) = true from fun j hj hj' => by
              rcases Nat.lt_or_ge j pos with q | q
              · exact hall.out j q hj'
              · obtain rfl : j = pos := by omega
                unfold isDg; rw [hc, decide_eq_true (by omega), decide_eq_true (by omega)]; rfl)
            have h1' : ¬ (c : Int) < 48 := by omega
            have h2' : ¬ (57 : Int) < (c : Int) := by omega
            clear hc
            go_wp2_with fail
            go_roundw
            case rel => exact ⟨pos + 1, by omega, rfl, hN⟩
            case measure => simp; omega
      · have hdh := decode_high s pos hp (by omega)
        obtain ⟨rn, hrn⟩ : ∃ r, (Utf8.decode s pos).1 = r := ⟨_, rfl⟩
        obtain ⟨wd, hwd⟩ : ∃ r, (Utf8.decode s pos).2 = r := ⟨_, rfl⟩
        have hnx : ∀ ty, (Instr.next (.pointer (some ⟨w.heap.size, 0, none⟩)) true ty).run Tryz.prog (w.iter s pos) = .ok (.tuple #[.bool true, .int .i64 pos, .int .i32 rn]) (w.iter s (pos + wd)) := fun ty => by
          rw [run_next_any w s pos ty hp, hrn, hwd]
        rw [hrn] at hdh
        have HF := Lib.hid (HNO.out pos hp (by unfold isDg; rw [hc, decide_eq_false (show ¬ c ≤ 57 by omega), Bool.and_false]))
        have h1' : ¬ (rn : Int) < 48 := by omega
        have h2' : (57 : Int) < (rn : Int) := by omega
        clear hc hdh hrn hwd
        go_wp2_with fail
        go_ret
        exact ⟨by rw [HF.out]; rfl, iter_below _ _ _⟩
    · have hnx : ∀ ty, (Instr.next (.pointer (some ⟨w.heap.size, 0, none⟩)) true ty).run Tryz.prog (w.iter s pos) = .ok (.tuple #[.bool false]) (w.iter s pos) := fun ty => run_next_end w s pos ty hp
      obtain rfl : pos = s.size := by omega
      have HT := Lib.hid (HYES.out (fun j h => hall.out j h h))
      go_wp2_with fail
      go_ret
      exact ⟨by rw [HT.out]; rfl, iter_below _ _ _⟩
set_option maxHeartbeats 3200000 in
theorem sum_any (s : ByteArray) (w : World) (hs : s.size ≤ 1000) (hd : digsB s = true) : Calls Tryz.prog 195 #[.string s] w fun e w' => e = .returned (.int .i64 (luT s s.size)) ∧ Below w.heap.size w w' := by
  have HD := Lib.hid (fun k h => digsB_at hd k h)
  have HL := Lib.hid (fun k h => luT_le hd k h)
  have H0 : Hid (luT s 0 = 0) := Lib.hid rfl
  clear hd
  go_enter Tryz.func195, Tryz.ntmps195
  go_wp2_with fail
  go_loopw [3, 4, 5, 6] (fun vt _ _ _ wr => ∃ (pos t : Nat), pos ≤ s.size ∧ wr = w.iter s pos ∧ vt = .int .i64 t ∧ t ≤ 9 * pos ∧ Hid (luT s pos = t)) (fun _ _ _ _ wr => s.size - wr.iterPos w.heap.size)
  case atStart => exact ⟨0, 0, Nat.zero_le _, rfl, rfl, by omega, H0⟩
  case round =>
    obtain ⟨pos, t, hpos, rfl, rfl, ht9, ht⟩ := hrel
    by_cases hp : pos < s.size
    · obtain ⟨c, hc⟩ : ∃ c, (s[pos]).toNat = c := ⟨_, rfl⟩
      have hdg := HD.out pos hp
      have hst := luT_succ s pos
      rw [byteAt_in hp, hc, ht.out] at hst
      rw [hc] at hdg
      have hnx : ∀ ty, (Instr.next (.pointer (some ⟨w.heap.size, 0, none⟩)) true ty).run Tryz.prog (w.iter s pos) = .ok (.tuple #[.bool true, .int .i64 pos, .int .i32 c]) (w.iter s (pos + 1)) := fun ty => by
        rw [run_next_any w s pos ty hp, decode_ascii s pos hp (by omega), hc]
      obtain ⟨x, rfl⟩ : ∃ x, c = x + 48 := ⟨c - 48, by omega⟩
      rw [show x + 48 - 48 = x by omega] at hst
      have hx9 : x ≤ 9 := by omega
      have ex : ((x + 48 : Nat) : Int) - 48 = (x : Int) := by omega
      obtain ⟨d, hdd⟩ : ∃ d, s.size - pos = d := ⟨_, rfl⟩
      have ed : (s.size : Int) - (pos : Int) = (d : Int) := by omega
      rw [hdd] at hst
      unfold luD at hst
      clear hc hdg
      by_cases h2 : d % 2 = 0
      · rw [if_pos h2] at hst
        have e2 : ((d : Int) % 2 == 0) = true := beq_iff_eq.2 (by omega)
        by_cases h9 : 9 < 2 * x
        · rw [if_pos h9] at hst
          have h9' : (9 : Int) < (x : Int) * 2 := by omega
          have HST := Lib.hid hst
          clear hst h2 h9 hdd
          go_wp2_with fail
          go_roundw
          case rel => exact ⟨pos + 1, t + (2 * x - 9), by omega, rfl, by go_num, by omega, HST⟩
          case measure => simp; omega
        · rw [if_neg h9] at hst
          have h9' : ¬ (9 : Int) < (x : Int) * 2 := by omega
          have HST := Lib.hid hst
          clear hst h2 h9 hdd
          go_wp2_with fail
          go_roundw
          case rel => exact ⟨pos + 1, t + 2 * x, by omega, rfl, by go_num, by omega, HST⟩
          case measure => simp; omega
      · rw [if_neg h2] at hst
        have e2 : ((d : Int) % 2 == 0) = false := beq_eq_false_iff_ne.2 (by omega)
        have HST := Lib.hid hst
        clear hst h2 hdd
        go_wp2_with fail
        go_roundw
        case rel => exact ⟨pos + 1, t + x, by omega, rfl, by go_num, by omega, HST⟩
        case measure => simp; omega
    · have hnx : ∀ ty, (Instr.next (.pointer (some ⟨w.heap.size, 0, none⟩)) true ty).run Tryz.prog (w.iter s pos) = .ok (.tuple #[.bool false]) (w.iter s pos) := fun ty => run_next_end w s pos ty hp
      obtain rfl : pos = s.size := by omega
      go_wp2_with fail
      go_ret
      exact ⟨by rw [ht.out]; rfl, iter_below _ _ _⟩
set_option maxHeartbeats 1600000 in
theorem luhn_any (s : ByteArray) (w : World) (hs : s.size ≤ 1000) (h0 : 0 < s.size) : Calls Tryz.prog 172 #[.string s] w fun e w' => e = .returned (.bool (luhnB s)) ∧ Below w.heap.size w w' := by
  have HA := Lib.hid (fun W => areDig_any s W (by unfold maxLen; omega))
  have hsl : s.data.toList.length = s.size := by simp
  have hem : s.toList.isEmpty = false := by rw [ByteArray.toList_eq]; simpa using (show s.data.toList ≠ [] from fun e => by rw [e] at hsl; simp at hsl; omega)
  clear hsl
  cases hd : digsB s
  · have HF := Lib.hid (show luhnB s = false by unfold luhnB; rw [hd]; simp)
    rw [hd] at HA
    clear hd hs h0
    go_enter Tryz.func172, Tryz.ntmps172
    go_wp2_with fail
    refine (HA.out _).mono ?_
    rintro e w1 ⟨rfl, hb⟩
    have HB := Lib.hid hb
    clear hb
    go_wp2_with fail
    go_ret
    exact ⟨by rw [HF.out]; rfl, HB.out⟩
  · have HS := Lib.hid (fun W => sum_any s W hs hd)
    have HL := luT_le hd s.size (Nat.le_refl _)
    have HV := Lib.hid (show luhnB s = decide (luT s s.size % 10 = 0) by unfold luhnB; rw [hd, decide_eq_true h0]; simp)
    rw [hd] at HA
    generalize luT s s.size = t at *
    by_cases hm : t % 10 = 0
    all_goals
      have hm' := congrArg (fun b : Bool => b) (show ((t : Int) % 10 == 0) = decide (t % 10 = 0) by rw [Bool.eq_iff_iff, beq_iff_eq, decide_eq_true_eq]; omega)
      first
        | rw [decide_eq_true hm] at HV hm'
        | rw [decide_eq_false hm] at HV hm'
      clear hd hs h0 hm
      go_enter Tryz.func172, Tryz.ntmps172
      go_wp2_with fail
      refine (HA.out _).mono ?_
      rintro e w1 ⟨rfl, hb⟩
      have HB := Lib.hid hb
      clear hb
      go_wp2_with fail
      refine (HS.out _).mono ?_
      rintro e w2 ⟨rfl, hb⟩
      have HB2 := Lib.hid (HB.out.trans (hb.mono HB.out.size))
      clear hb
      go_wp2_with fail
      go_ret
      exact ⟨by rw [HV.out]; rfl, HB2.out⟩
set_option maxHeartbeats 1600000 in
theorem pan_any (s : ByteArray) (w : World) (hs : s.size ≤ maxLen) : Calls Tryz.prog 135 #[.string s] w fun e w' => e = .returned (.int .i64 (panE s)) ∧ Below w.heap.size w w' := by
  have HA := Lib.hid (fun W => areDig_any s W hs)
  unfold maxLen at hs
  by_cases h12 : s.size < 12
  · have HF := Lib.hid (show panE s = 1 by unfold panE; rw [if_pos h12])
    go_enter Tryz.func135, Tryz.ntmps135
    go_wp2_with fail
    go_ret
    exact ⟨by rw [HF.out]; rfl, Below.refl _ _⟩
  · by_cases h19 : 19 < s.size
    · have HF := Lib.hid (show panE s = 3 by unfold panE; rw [if_neg h12, if_pos h19])
      go_enter Tryz.func135, Tryz.ntmps135
      go_wp2_with fail
      go_ret
      exact ⟨by rw [HF.out]; rfl, Below.refl _ _⟩
    · cases hd : digsB s
      · have HF := Lib.hid (show panE s = 2 by unfold panE; rw [if_neg h12, if_neg h19, if_pos hd])
        rw [hd] at HA
        clear hd
        go_enter Tryz.func135, Tryz.ntmps135
        go_wp2_with fail
        refine (HA.out _).mono ?_
        rintro e w1 ⟨rfl, hb⟩
        have HB := Lib.hid hb
        clear hb
        go_wp2_with fail
        go_ret
        exact ⟨by rw [HF.out]; rfl, HB.out⟩
      · have HL := Lib.hid (fun W => luhn_any s W (by omega) (by omega))
        rw [hd] at HA
        cases hl : luhnB s
        all_goals
          have HF := Lib.hid (show panE s = if luhnB s = false then 9 else 0 by unfold panE; rw [if_neg h12, if_neg h19, if_neg (by rw [hd]; simp)])
          rw [hl] at HF HL
          clear hl hd
          go_enter Tryz.func135, Tryz.ntmps135
          go_wp2_with fail
          refine (HA.out _).mono ?_
          rintro e w1 ⟨rfl, hb⟩
          have HB := Lib.hid hb
          clear hb
          go_wp2_with fail
          refine (HL.out _).mono ?_
          rintro e w2 ⟨rfl, hb⟩
          have HB2 := Lib.hid (HB.out.trans (hb.mono HB.out.size))
          clear hb
          go_wp2_with fail
          go_ret
          exact ⟨by rw [HF.out]; rfl, HB2.out⟩
end Go.Proofs.YthflmdgfenojcaaGreatDoor
