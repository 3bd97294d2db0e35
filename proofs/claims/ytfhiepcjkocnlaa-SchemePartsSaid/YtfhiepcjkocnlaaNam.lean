/- Names: the reference's IsName and scheme.isName; texts among texts. -/
import Derived.Test.YtfhiepcjkocnlaaChk
import Derived.WalkLawsBesides
import Derived.WalkSpells
import Derived.Lib.Hide
namespace Go.Proofs.Ytfhiepcjkocnlaa
set_option linter.unusedVariables false
open Go.RowKit

theorem i64_eq {a b : Int} (h : a = b) : Value.int .i64 a = .int .i64 b := by rw [h]
theorem take_snoc (s : ByteArray) (k : Nat) (h : k < s.size) : s.data.toList.take (k + 1) = s.data.toList.take k ++ [s[k]] := by
  rw [List.take_succ_eq_append_getElem (by simpa using h)]; rfl
theorem take_all (s : ByteArray) : s.data.toList.take s.size = s.data.toList := List.take_of_length_le (by simp)

def letB (c : Nat) : Bool := decide (97 ≤ c ∧ c ≤ 122) || decide (65 ≤ c ∧ c ≤ 90)
def digB (c : Nat) : Bool := decide (48 ≤ c ∧ c ≤ 57)
def wrdB (c : Nat) : Bool := letB c || digB c || c == 95
/-- A name: 1 to 16 letters, digits and underscores, of which the first is a letter. -/
def nameB (l : List UInt8) : Bool := decide (1 ≤ l.length) && decide (l.length ≤ 16) && letB (l.getD 0 0).toNat && l.all (fun b => wrdB b.toNat)
theorem wrd_lt (c : Nat) (h : wrdB c = true) : c < 128 := by
  simp [wrdB, letB, digB] at h
  omega
theorem name_no (l : List UInt8) (k : Nat) (hk : k < l.length) (h : wrdB (l[k]).toNat = false) : nameB l = false := by
  have : (l.all (fun b => wrdB b.toNat)) = false := by
    rw [List.all_eq_false]; exact ⟨l[k], List.getElem_mem hk, by simp [h]⟩
  simp [nameB, this]
theorem name_yes (l : List UInt8) (h1 : 1 ≤ l.length) (h2 : l.length ≤ 16) (h3 : letB (l.getD 0 0).toNat = true) (h4 : ∀ i, (hi : i < l.length) → wrdB (l[i]).toNat = true) : nameB l = true := by
  have : l.all (fun b => wrdB b.toNat) = true := by
    rw [List.all_eq_true]
    intro b hb
    obtain ⟨i, hi, rfl⟩ := List.getElem_of_mem hb
    exact h4 i hi
  unfold nameB; rw [this, h3]; simp [h1, h2]
def beqB (a b : ByteArray) : Bool := decide (a.data = b.data)
theorem beqB_iff (a b : ByteArray) : beqB a b = true ↔ a = b := by
  unfold beqB; rw [decide_eq_true_iff]; exact ⟨ByteArray.ext, fun h => by rw [h]⟩
/-- Is a text among some texts? -/
def hasB (l : List ByteArray) (x : ByteArray) : Bool := l.any (beqB x)
theorem hasB_iff (l : List ByteArray) (x : ByteArray) : hasB l x = true ↔ x ∈ l := by
  unfold hasB; rw [List.any_eq_true]
  exact ⟨fun ⟨y, hy, h⟩ => by rw [(beqB_iff _ _).1 h]; exact hy, fun h => ⟨x, h, (beqB_iff _ _).2 rfl⟩⟩
theorem letB_at (c : Nat) : letB c = (decide (97 ≤ (c : Int)) && decide ((c : Int) ≤ 122) || decide (65 ≤ (c : Int)) && decide ((c : Int) ≤ 90)) := by
  unfold letB; rw [Bool.eq_iff_iff]; simp; omega
set_option maxHeartbeats 400000 in
theorem letter_any (c : UInt8) (w : World) : Calls Try.prog 48 #[.int .u8 c.toNat] w fun e w' => e = .returned (.bool (letB c.toNat)) ∧ w = w' := by
  have hl := Lib.hid (letB_at c.toNat)
  by_cases h1 : (97 : Int) ≤ (c.toNat : Int) <;> by_cases h2 : (c.toNat : Int) ≤ 122 <;> by_cases h3 : (65 : Int) ≤ (c.toNat : Int) <;> by_cases h4 : (c.toNat : Int) ≤ 90
  all_goals first
    | (exfalso; omega)
    | (have k1 := Lib.hid h1
       have k2 := Lib.hid h2
       have k3 := Lib.hid h3
       have k4 := Lib.hid h4
       go_enter Try.func48, Try.ntmps48
       go_wp2_with fail
       go_ret
       exact ⟨by rw [hl.out]; have a := k1.out; have b := k2.out; have c' := k3.out; have d := k4.out; simp [a, b, c', d], rfl⟩)
set_option maxHeartbeats 400000 in
theorem digit_any (c : UInt8) (w : World) : Calls Try.prog 55 #[.int .u8 c.toNat] w fun e w' => e = .returned (.bool (digB c.toNat)) ∧ w = w' := by
  have hl := Lib.hid (show digB c.toNat = (decide (48 ≤ (c.toNat : Int)) && decide ((c.toNat : Int) ≤ 57)) by unfold digB; rw [Bool.eq_iff_iff]; simp; omega)
  by_cases h1 : (48 : Int) ≤ (c.toNat : Int) <;> by_cases h2 : (c.toNat : Int) ≤ 57
  all_goals first
    | (exfalso; omega)
    | (have k1 := Lib.hid h1
       have k2 := Lib.hid h2
       go_enter Try.func55, Try.ntmps55
       go_wp2_with fail
       go_ret
       exact ⟨by rw [hl.out]; have a := k1.out; have b := k2.out; simp [a, b], rfl⟩)
/-- What word returns: the end of the word at the beginning. -/
def WordPost (s : ByteArray) (w : World) (e : Ending) (w' : World) : Prop :=
  w = w' ∧ ∃ n : Nat, n ≤ s.size ∧ e = .returned (.int .i64 n) ∧ (∀ j, (h : j < n) → (h' : j < s.size) → wrdB (s[j]).toNat = true) ∧ ((h : n < s.size) → wrdB (s[n]).toNat = false)
set_option maxHeartbeats 800000 in
theorem word_any (s : ByteArray) (w : World) (hs : s.size ≤ maxLen) : Calls Try.prog 49 #[.string s, .int .i64 0] w (WordPost s w) := by
  unfold maxLen at hs
  go_enter Try.func49, Try.ntmps49
  go_wp2_with fail
  go_loop [1] (fun i => ∃ k : Nat, k ≤ s.size ∧ i = .int .i64 k ∧ Hid (∀ j, (h : j < k) → (h' : j < s.size) → wrdB (s[j]).toNat = true)) (fun i => s.size - (intOf i).toNat)
  case atStart => exact ⟨0, by omega, rfl, Lib.hid (fun j h _ => by omega)⟩
  case round =>
    obtain ⟨k, hk, rfl, hall⟩ := hrel
    by_cases hlt : k < s.size
    · have hl := Lib.hid (letter_any s[k] w)
      have hd := Lib.hid (digit_any s[k] w)
      have hstep := Lib.hid (fun (hw : wrdB (s[k]).toNat = true) j (h : j < k + 1) (h' : j < s.size) => show wrdB (s[j]).toNat = true from by
        rcases Nat.lt_or_ge j k with c | c
        · exact hall.out j c h'
        · obtain rfl : j = k := by omega
          exact hw)
      have hwd := Lib.hid (show wrdB (s[k]).toNat = (letB (s[k]).toNat || digB (s[k]).toNat || (s[k]).toNat == 95) from rfl)
      cases h1 : letB (s[k]).toNat
      · cases h2 : digB (s[k]).toNat
        · cases h3 : ((s[k].toNat : Int) == 95)
          · have hw : Hid (wrdB (s[k]).toNat = false) := Lib.hid (by
              rw [hwd.out, h1, h2]; simp at h3 ⊢; omega)
            have q1 := Lib.hid h1
            have q2 := Lib.hid h2
            clear h1 h2 hstep hwd
            go_wp2_with fail
            refine hl.out.mono ?_
            rintro e w' ⟨rfl, rfl⟩
            rw [q1.out]
            go_wp2_with fail
            refine hd.out.mono ?_
            rintro e w' ⟨rfl, rfl⟩
            rw [q2.out]
            go_wp2_with fail
            go_ret
            exact ⟨rfl, k, hk, rfl, hall.out, fun _ => hw.out⟩
          · have hw : Hid (wrdB (s[k]).toNat = true) := Lib.hid (by
              rw [hwd.out]; simp at h3 ⊢; omega)
            have hN := Lib.hid (hstep.out hw.out)
            have q1 := Lib.hid h1
            have q2 := Lib.hid h2
            clear h1 h2 hstep hwd
            go_wp2_with fail
            refine hl.out.mono ?_
            rintro e w' ⟨rfl, rfl⟩
            rw [q1.out]
            go_wp2_with fail
            refine hd.out.mono ?_
            rintro e w' ⟨rfl, rfl⟩
            rw [q2.out]
            go_wp2_with fail
            go_round
            case rel => exact ⟨k + 1, by omega, by go_num, hN⟩
            case measure => simp [intOf]; omega
        · have hN := Lib.hid (hstep.out (by rw [hwd.out, h2]; simp))
          have q1 := Lib.hid h1
          have q2 := Lib.hid h2
          clear h1 h2 hstep hwd
          go_wp2_with fail
          refine hl.out.mono ?_
          rintro e w' ⟨rfl, rfl⟩
          rw [q1.out]
          go_wp2_with fail
          refine hd.out.mono ?_
          rintro e w' ⟨rfl, rfl⟩
          rw [q2.out]
          go_wp2_with fail
          go_round
          case rel => exact ⟨k + 1, by omega, by go_num, hN⟩
          case measure => simp [intOf]; omega
      · have hN := Lib.hid (hstep.out (by rw [hwd.out, h1]; simp))
        have q1 := Lib.hid h1
        clear h1 hstep hwd
        go_wp2_with fail
        refine hl.out.mono ?_
        rintro e w' ⟨rfl, rfl⟩
        rw [q1.out]
        go_wp2_with fail
        go_round
        case rel => exact ⟨k + 1, by omega, by go_num, hN⟩
        case measure => simp [intOf]; omega
    · obtain rfl : k = s.size := by omega
      go_wp2_with fail
      go_ret
      exact ⟨rfl, s.size, Nat.le_refl _, rfl, hall.out, fun h => by omega⟩
theorem nameB_size (s : ByteArray) (h : ¬ (1 ≤ s.size ∧ s.size ≤ 16)) : nameB s.data.toList = false := by
  unfold nameB
  have hl : s.data.toList.length = s.size := by simp
  rw [hl]
  by_cases a : 1 ≤ s.size
  · have b : ¬ s.size ≤ 16 := fun b => h ⟨a, b⟩
    simp [b]
  · simp [a]
theorem nameB_let (s : ByteArray) (h : 0 < s.size) (hl : letB (s[0]).toNat = false) : nameB s.data.toList = false := by
  have : s.data.toList.getD 0 0 = s[0] := by
    have h' : 0 < s.data.size := h
    simp only [List.getD, Array.getElem?_toList, Array.getElem?_eq_getElem h', Option.getD_some]; rfl
  unfold nameB; rw [this, hl]; simp
theorem nameB_wrd (s : ByteArray) (k : Nat) (h : k < s.size) (hl : wrdB (s[k]).toNat = false) : nameB s.data.toList = false :=
  name_no s.data.toList k (by simpa using h) hl
theorem nameB_yes (s : ByteArray) (h1 : 1 ≤ s.size) (h2 : s.size ≤ 16) (hl : letB (s[0]).toNat = true) (hw : ∀ j, (h : j < s.size) → wrdB (s[j]).toNat = true) : nameB s.data.toList = true := by
  have : s.data.toList.getD 0 0 = s[0] := by
    have h' : 0 < s.data.size := h1
    simp only [List.getD, Array.getElem?_toList, Array.getElem?_eq_getElem h', Option.getD_some]; rfl
  exact name_yes _ (by simpa using h1) (by simpa using h2) (by rw [this]; exact hl) (fun i hi => hw i (by simpa using hi))
set_option maxHeartbeats 800000 in
theorem rname_any (s : ByteArray) (w : World) (hs : s.size ≤ maxLen) : Calls Try.prog 39 #[.string s] w fun e w' => e = .returned (.bool (nameB s.data.toList)) ∧ w = w' := by
  have hwd := Lib.hid (word_any s w hs)
  unfold maxLen at hs
  by_cases h0 : 1 ≤ s.size
  case neg =>
    have hno := Lib.hid (nameB_size s (by omega))
    obtain rfl : s = ⟨#[]⟩ := ByteArray.ext (Array.eq_empty_of_size_eq_zero (by show s.size = 0; omega))
    clear hwd h0
    go_enter Try.func39, Try.ntmps39
    go_wp2_with fail
    go_ret
    exact ⟨by rw [hno.out]; rfl, rfl⟩
  have hne : (s.toList == []) = false := by
    rw [ByteArray.toList_eq, beq_eq_false_iff_ne]
    intro e
    have e1 : s.data.toList.length = 0 := by rw [e]; rfl
    have e2 : s.data.toList.length = s.size := by simp
    omega
  have hne2 : s.toList.isEmpty = false := by simpa using hne
  have hne3 : s.toList ≠ [] := by simpa using hne
  by_cases h16 : s.size ≤ 16
  case neg =>
    have hno := Lib.hid (nameB_size s (by omega))
    go_enter Try.func39, Try.ntmps39
    go_wp2_with fail
    go_ret
    exact ⟨by rw [hno.out]; rfl, rfl⟩
  have hl := Lib.hid (letter_any s[0] w)
  have hy := Lib.hid (nameB_yes s h0 h16)
  have hnw := Lib.hid (nameB_wrd s)
  cases h1 : letB (s[0]).toNat
  · have hno := Lib.hid (nameB_let s h0 h1)
    have q1 := Lib.hid h1
    clear h1
    go_enter Try.func39, Try.ntmps39
    go_wp2_with fail
    refine hl.out.mono ?_
    rintro e w' ⟨rfl, rfl⟩
    rw [q1.out]
    go_wp2_with fail
    go_ret
    exact ⟨by rw [hno.out]; rfl, rfl⟩
  · have q1 := Lib.hid h1
    clear h1
    go_enter Try.func39, Try.ntmps39
    go_wp2_with fail
    refine hl.out.mono ?_
    rintro e w' ⟨rfl, rfl⟩
    rw [q1.out]
    go_wp2_with fail
    refine hwd.out.mono ?_
    rintro e w' ⟨rfl, n, hn, rfl, hall, hend⟩
    rcases Nat.lt_or_eq_of_le hn with c | c
    · have hno := Lib.hid (hnw.out n c (hend c))
      have hq : ((n : Int) == (s.size : Int)) = false := beq_eq_false_iff_ne.2 (by omega)
      clear hall hend
      go_wp2_with fail
      go_ret
      exact ⟨by rw [hno.out]; rfl, rfl⟩
    · have hyy := Lib.hid (hy.out q1.out (fun j hj => hall j (by omega) hj))
      clear hall hend
      subst c
      go_wp2_with fail
      go_ret
      exact ⟨by rw [hyy.out]; simp, rfl⟩
end Go.Proofs.Ytfhiepcjkocnlaa
