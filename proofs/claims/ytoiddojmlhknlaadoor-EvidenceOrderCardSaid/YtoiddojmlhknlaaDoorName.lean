/- The walks of the functions that tell a name. -/
import Derived.Test.YtoiddojmlhknlaaDoorProg
import Derived.Test.YtoiddojmlhknlaaDoorPlain
import Derived.WalkLawsBesides
import Derived.WalkSpells
import Derived.Lib.Hide
namespace Go.Proofs.YtoiddojmlhknlaaDoor
set_option linter.unusedVariables false
open Go.RowKit

theorem letB_at (c : Nat) : letB c = (decide (97 ≤ (c : Int)) && decide ((c : Int) ≤ 122) || decide (65 ≤ (c : Int)) && decide ((c : Int) ≤ 90)) := by
  unfold letB; rw [Bool.eq_iff_iff]; simp; omega
set_option maxHeartbeats 400000 in
theorem letter_any (c : UInt8) (w : World) : Calls Tryd.prog 40 #[.int .u8 c.toNat] w fun e w' => e = .returned (.bool (letB c.toNat)) ∧ w = w' := by
  have hl := Lib.hid (letB_at c.toNat)
  by_cases h1 : (97 : Int) ≤ (c.toNat : Int) <;> by_cases h2 : (c.toNat : Int) ≤ 122 <;> by_cases h3 : (65 : Int) ≤ (c.toNat : Int) <;> by_cases h4 : (c.toNat : Int) ≤ 90
  all_goals first
    | (exfalso; omega)
    | (have k1 := Lib.hid h1
       have k2 := Lib.hid h2
       have k3 := Lib.hid h3
       have k4 := Lib.hid h4
       go_enter Tryd.func40, Tryd.ntmps40
       go_wp2_with fail
       go_ret
       exact ⟨by rw [hl.out]; have a := k1.out; have b := k2.out; have c' := k3.out; have d := k4.out; simp [a, b, c', d], rfl⟩)
set_option maxHeartbeats 400000 in
theorem digit_any (c : UInt8) (w : World) : Calls Tryd.prog 47 #[.int .u8 c.toNat] w fun e w' => e = .returned (.bool (digB c.toNat)) ∧ w = w' := by
  have hl := Lib.hid (show digB c.toNat = (decide (48 ≤ (c.toNat : Int)) && decide ((c.toNat : Int) ≤ 57)) by unfold digB; rw [Bool.eq_iff_iff]; simp; omega)
  by_cases h1 : (48 : Int) ≤ (c.toNat : Int) <;> by_cases h2 : (c.toNat : Int) ≤ 57
  all_goals first
    | (exfalso; omega)
    | (have k1 := Lib.hid h1
       have k2 := Lib.hid h2
       go_enter Tryd.func47, Tryd.ntmps47
       go_wp2_with fail
       go_ret
       exact ⟨by rw [hl.out]; have a := k1.out; have b := k2.out; simp [a, b], rfl⟩)
/-- What word returns: the end of the word at the beginning. -/
def WordPost (s : ByteArray) (w : World) (e : Ending) (w' : World) : Prop :=
  w = w' ∧ ∃ n : Nat, n ≤ s.size ∧ e = .returned (.int .i64 n) ∧ (∀ j, (h : j < n) → (h' : j < s.size) → wrdB (s[j]).toNat = true) ∧ ((h : n < s.size) → wrdB (s[n]).toNat = false)
set_option maxHeartbeats 800000 in
theorem word_any (s : ByteArray) (w : World) (hs : s.size ≤ maxLen) : Calls Tryd.prog 41 #[.string s, .int .i64 0] w (WordPost s w) := by
  unfold maxLen at hs
  go_enter Tryd.func41, Tryd.ntmps41
  go_wp2_with fail
  go_loop [1] (fun i => ∃ k : Nat, k ≤ s.size ∧ i = .int .i64 k ∧ Hid (∀ j, (h : j < k) → (h' : j < s.size) → wrdB (s[j]).toNat = true)) (fun i => s.size - (intOf i).toNat)
  case atStart => exact ⟨0, by omega, rfl, Lib.hid (fun j h _ => by omega)⟩
  case round =>
    obtain ⟨k, hk, rfl, hall⟩ := hrel
    by_cases hlt : k < s.size
    · have hl := Lib.hid (letter_any s[k] w)
      have hd := Lib.hid (digit_any s[k] w)
      have hstep := Lib.hid (fun (hw : wrdB (s[k]).toNat = true) j (h : j < k + 1) (h' : j < s.size) => show wrdB (s[j]).toNat = true from by
        rcases Nat.lt_or_ge j k with c | c
        · exact hall.out j c h'
        · obtain rfl : j = k := by omega
          exact hw)
      have hwd := Lib.hid (show wrdB (s[k]).toNat = (letB (s[k]).toNat || digB (s[k]).toNat || (s[k]).toNat == 95) from rfl)
      cases h1 : letB (s[k]).toNat
      · cases h2 : digB (s[k]).toNat
        · cases h3 : ((s[k].toNat : Int) == 95)
          · have hw : Hid (wrdB (s[k]).toNat = false) := Lib.hid (by
              rw [hwd.out, h1, h2]; simp at h3 ⊢; omega)
            have q1 := Lib.hid h1
            have q2 := Lib.hid h2
            clear h1 h2 hstep hwd
            go_wp2_with fail
            refine hl.out.mono ?_
            rintro e w' ⟨rfl, rfl⟩
            rw [q1.out]
            go_wp2_with fail
            refine hd.out.mono ?_
            rintro e w' ⟨rfl, rfl⟩
            rw [q2.out]
            go_wp2_with fail
            go_ret
            exact ⟨rfl, k, hk, rfl, hall.out, fun _ => hw.out⟩
          · have hw : Hid (wrdB (s[k]).toNat = true) := Lib.hid (by
              rw [hwd.out]; simp at h3 ⊢; omega)
            have hN := Lib.hid (hstep.out hw.out)
            have q1 := Lib.hid h1
            have q2 := Lib.hid h2
            clear h1 h2 hstep hwd
            go_wp2_with fail
            refine hl.out.mono ?_
            rintro e w' ⟨rfl, rfl⟩
            rw [q1.out]
            go_wp2_with fail
            refine hd.out.mono ?_
            rintro e w' ⟨rfl, rfl⟩
            rw [q2.out]
            go_wp2_with fail
            go_round
            case rel => exact ⟨k + 1, by omega, by go_num, hN⟩
            case measure => simp [intOf]; omega
        · have hN := Lib.hid (hstep.out (by rw [hwd.out, h2]; simp))
          have q1 := Lib.hid h1
          have q2 := Lib.hid h2
          clear h1 h2 hstep hwd
          go_wp2_with fail
          refine hl.out.mono ?_
          rintro e w' ⟨rfl, rfl⟩
          rw [q1.out]
          go_wp2_with fail
          refine hd.out.mono ?_
          rintro e w' ⟨rfl, rfl⟩
          rw [q2.out]
          go_wp2_with fail
          go_round
          case rel => exact ⟨k + 1, by omega, by go_num, hN⟩
          case measure => simp [intOf]; omega
      · have hN := Lib.hid (hstep.out (by rw [hwd.out, h1]; simp))
        have q1 := Lib.hid h1
        clear h1 hstep hwd
        go_wp2_with fail
        refine hl.out.mono ?_
        rintro e w' ⟨rfl, rfl⟩
        rw [q1.out]
        go_wp2_with fail
        go_round
        case rel => exact ⟨k + 1, by omega, by go_num, hN⟩
        case measure => simp [intOf]; omega
    · obtain rfl : k = s.size := by omega
      go_wp2_with fail
      go_ret
      exact ⟨rfl, s.size, Nat.le_refl _, rfl, hall.out, fun h => by omega⟩
theorem nameB_size (s : ByteArray) (h : ¬ (1 ≤ s.size ∧ s.size ≤ 16)) : nameB s.data.toList = false := by
  unfold nameB
  have hl : s.data.toList.length = s.size := by simp
  rw [hl]
  by_cases a : 1 ≤ s.size
  · have b : ¬ s.size ≤ 16 := fun b => h ⟨a, b⟩
    simp [b]
  · simp [a]
theorem nameB_let (s : ByteArray) (h : 0 < s.size) (hl : letB (s[0]).toNat = false) : nameB s.data.toList = false := by
  have : s.data.toList.getD 0 0 = s[0] := by
    have h' : 0 < s.data.size := h
    simp only [List.getD, Array.getElem?_toList, Array.getElem?_eq_getElem h', Option.getD_some]; rfl
  unfold nameB; rw [this, hl]; simp
theorem nameB_wrd (s : ByteArray) (k : Nat) (h : k < s.size) (hl : wrdB (s[k]).toNat = false) : nameB s.data.toList = false :=
  name_no s.data.toList k (by simpa using h) hl
theorem nameB_yes (s : ByteArray) (h1 : 1 ≤ s.size) (h2 : s.size ≤ 16) (hl : letB (s[0]).toNat = true) (hw : ∀ j, (h : j < s.size) → wrdB (s[j]).toNat = true) : nameB s.data.toList = true := by
  have : s.data.toList.getD 0 0 = s[0] := by
    have h' : 0 < s.data.size := h1
    simp only [List.getD, Array.getElem?_toList, Array.getElem?_eq_getElem h', Option.getD_some]; rfl
  exact name_yes _ (by simpa using h1) (by simpa using h2) (by rw [this]; exact hl) (fun i hi => hw i (by simpa using hi))
set_option maxHeartbeats 800000 in
theorem rname_any (s : ByteArray) (w : World) (hs : s.size ≤ maxLen) : Calls Tryd.prog 36 #[.string s] w fun e w' => e = .returned (.bool (nameB s.data.toList)) ∧ w = w' := by
  have hwd := Lib.hid (word_any s w hs)
  unfold maxLen at hs
  by_cases h0 : 1 ≤ s.size
  case neg =>
    have hno := Lib.hid (nameB_size s (by omega))
    obtain rfl : s = ⟨#[]⟩ := ByteArray.ext (Array.eq_empty_of_size_eq_zero (by show s.size = 0; omega))
    clear hwd h0
    go_enter Tryd.func36, Tryd.ntmps36
    go_wp2_with fail
    go_ret
    exact ⟨by rw [hno.out]; rfl, rfl⟩
  have hne : (s.toList == []) = false := by
    rw [ByteArray.toList_eq, beq_eq_false_iff_ne]
    intro e
    have e1 : s.data.toList.length = 0 := by rw [e]; rfl
    have e2 : s.data.toList.length = s.size := by simp
    omega
  have hne2 : s.toList.isEmpty = false := by simpa using hne
  have hne3 : s.toList ≠ [] := by simpa using hne
  by_cases h16 : s.size ≤ 16
  case neg =>
    have hno := Lib.hid (nameB_size s (by omega))
    go_enter Tryd.func36, Tryd.ntmps36
    go_wp2_with fail
    go_ret
    exact ⟨by rw [hno.out]; rfl, rfl⟩
  have hl := Lib.hid (letter_any s[0] w)
  have hy := Lib.hid (nameB_yes s h0 h16)
  have hnw := Lib.hid (nameB_wrd s)
  cases h1 : letB (s[0]).toNat
  · have hno := Lib.hid (nameB_let s h0 h1)
    have q1 := Lib.hid h1
    clear h1
    go_enter Tryd.func36, Tryd.ntmps36
    go_wp2_with fail
    refine hl.out.mono ?_
    rintro e w' ⟨rfl, rfl⟩
    rw [q1.out]
    go_wp2_with fail
    go_ret
    exact ⟨by rw [hno.out]; rfl, rfl⟩
  · have q1 := Lib.hid h1
    clear h1
    go_enter Tryd.func36, Tryd.ntmps36
    go_wp2_with fail
    refine hl.out.mono ?_
    rintro e w' ⟨rfl, rfl⟩
    rw [q1.out]
    go_wp2_with fail
    refine hwd.out.mono ?_
    rintro e w' ⟨rfl, n, hn, rfl, hall, hend⟩
    rcases Nat.lt_or_eq_of_le hn with c | c
    · have hno := Lib.hid (hnw.out n c (hend c))
      have hq : ((n : Int) == (s.size : Int)) = false := beq_eq_false_iff_ne.2 (by omega)
      clear hall hend
      go_wp2_with fail
      go_ret
      exact ⟨by rw [hno.out]; rfl, rfl⟩
    · have hyy := Lib.hid (hy.out q1.out (fun j hj => hall j (by omega) hj))
      clear hall hend
      subst c
      go_wp2_with fail
      go_ret
      exact ⟨by rw [hyy.out]; simp, rfl⟩
theorem wrd_let (c : Nat) (h : letB c = true) : wrdB c = true := by unfold wrdB; rw [h]; rfl
/-- The bytes before pos are letters, digits or underscores, the first of them a letter. -/
def NameTo (s : ByteArray) (pos : Nat) : Prop := (∀ j, (h : j < pos) → (h' : j < s.size) → wrdB (s[j]).toNat = true) ∧ (0 < pos → (h' : 0 < s.size) → letB (s[0]).toNat = true)
theorem NameTo.step {s : ByteArray} {pos : Nat} (h : NameTo s pos) (hp : pos < s.size) (hw : wrdB (s[pos]).toNat = true) (hl : pos = 0 → letB (s[pos]).toNat = true) : NameTo s (pos + 1) := by
  refine ⟨fun j hj hj' => ?_, fun _ h0 => ?_⟩
  · rcases Nat.lt_or_ge j pos with c | c
    · exact h.1 j c hj'
    · obtain rfl : j = pos := by omega
      exact hw
  · by_cases hp0 : pos = 0
    · subst hp0; exact hl rfl
    · exact h.2 (by omega) h0
set_option maxHeartbeats 1600000 in
theorem name_any (s : ByteArray) (w : World) (hs : s.size ≤ maxLen) : Calls Tryd.prog 34 #[.string s] w fun e w' => e = .returned (.bool (nameB s.data.toList)) ∧ Below w.heap.size w w' := by
  unfold maxLen at hs
  by_cases h0 : 1 ≤ s.size
  case neg =>
    have hno := Lib.hid (nameB_size s (by omega))
    go_enter Tryd.func34, Tryd.ntmps34
    go_wp2_with fail
    go_ret
    exact ⟨by rw [hno.out]; rfl, Below.refl _ _⟩
  by_cases h16 : s.size ≤ 16
  case neg =>
    have hno := Lib.hid (nameB_size s (by omega))
    go_enter Tryd.func34, Tryd.ntmps34
    go_wp2_with fail
    go_ret
    exact ⟨by rw [hno.out]; rfl, Below.refl _ _⟩
  have hy := Lib.hid (nameB_yes s h0 h16)
  have hnw := Lib.hid (nameB_wrd s)
  have hnl := Lib.hid (nameB_let s h0)
  go_enter Tryd.func34, Tryd.ntmps34
  go_wp2_with fail
  go_loopw [2] (fun v wr => ∃ pos : Nat, pos ≤ s.size ∧ wr = w.iter s pos ∧ v = .bool false ∧ Hid (NameTo s pos)) (fun _ wr => s.size - wr.iterPos w.heap.size)
  case atStart => exact ⟨0, by omega, rfl, rfl, Lib.hid ⟨fun j h _ => by omega, fun h => by omega⟩⟩
  case round =>
    obtain ⟨pos, hpos, rfl, rfl, hn⟩ := hrel
    by_cases hlt : pos < s.size
    · have hb := s[pos].toNat_lt
      have hst := Lib.hid (fun hw hl => hn.out.step hlt hw hl)
      have hno := Lib.hid (hnw.out pos hlt)
      have hno0 := Lib.hid (show pos = 0 → letB (s[pos]).toNat = false → nameB s.data.toList = false from fun h => by subst h; exact hnl.out)
      have hlb := Lib.hid (letB_at (s[pos]).toNat)
      have hwb := Lib.hid (show wrdB (s[pos]).toNat = (letB (s[pos]).toNat || digB (s[pos]).toNat || (s[pos]).toNat == 95) from rfl)
      have hdb := Lib.hid (show digB (s[pos]).toNat = decide (48 ≤ (s[pos]).toNat ∧ (s[pos]).toNat ≤ 57) from rfl)
      have hH := Lib.hid (fun (h : (s[pos]).toNat < 128) ty => run_next_ascii (P := Tryd.prog) w s pos ty hlt h)
      have hG := Lib.hid (fun ty => run_next_any (P := Tryd.prog) w s pos ty hlt)
      have hd := Lib.hid (fun (h : 128 ≤ (s[pos]).toNat) => decode_high s pos hlt h)
      have hwl := Lib.hid (fun (h : 128 ≤ (s[pos]).toNat) => show wrdB (s[pos]).toNat = false from by
        cases hq : wrdB (s[pos]).toNat
        · rfl
        · have := wrd_lt _ hq; omega)
      by_cases ha : (s[pos]).toNat < 128
      · have hnx := hH.out ha
        clear hnw hnl hn hy
        generalize (s[pos]).toNat = c at *
        by_cases p0 : pos = 0
        all_goals
          by_cases p1 : (97 : Int) ≤ (c : Int) <;> by_cases p2 : (c : Int) ≤ 122 <;> by_cases p3 : (65 : Int) ≤ (c : Int) <;> by_cases p4 : (c : Int) ≤ 90 <;> by_cases p5 : c = 95 <;> by_cases p6 : (c : Int) < 48 <;> by_cases p7 : (57 : Int) < (c : Int)
          all_goals first
            | (exfalso; omega)
            | skip
        all_goals
          first
            | have e5 : ((c : Int) != 95) = true := bne_iff_ne.2 (by omega)
            | have e5 : ((c : Int) != 95) = false := by simp only [bne_eq_false_iff_eq]; omega
          first
            | have e0 : ((pos : Int) == 0) = true := beq_iff_eq.2 (by omega)
            | have e0 : ((pos : Int) == 0) = false := beq_eq_false_iff_ne.2 (by omega)
          have P0 := Lib.hid p0
          have P5 := Lib.hid p5
          clear p0 p5
          go_wp2_with fail
          first
            | exact ⟨⟨pos + 1, by omega, rfl, rfl, Lib.hid (hst.out (by have := P5.out; rw [hwb.out, hdb.out, hlb.out]; simp; omega) (fun _ => by rw [hlb.out]; simp; omega))⟩, by simp; omega⟩
            | exact ⟨⟨pos + 1, by omega, rfl, rfl, Lib.hid (hst.out (by have := P5.out; rw [hwb.out, hdb.out, hlb.out]; simp; omega) (fun h => absurd h P0.out))⟩, by simp; omega⟩
            | (go_ret; exact ⟨by rw [hno0.out P0.out (by rw [hlb.out]; simp; omega)]; rfl, (Below.refl _ _).alloc (Nat.le_refl _) _⟩)
            | (go_ret; exact ⟨by rw [hno.out (by have := P5.out; rw [hwb.out, hdb.out, hlb.out]; simp; omega)]; rfl, (Below.refl _ _).alloc (Nat.le_refl _) _⟩)
      · have hnx := hG.out
        have hr := (hd.out (by omega)).1
        have hw := Lib.hid (hwl.out (by omega))
        have hN := Lib.hid (hno.out hw.out)
        clear hnw hnl hn hy
        generalize (Utf8.decode s pos).1 = r at *
        generalize (Utf8.decode s pos).2 = wd at *
        have e5 : ((r : Int) != 95) = true := bne_iff_ne.2 (by omega)
        have p1 : (97 : Int) ≤ (r : Int) := by omega
        have p2 : ¬ (r : Int) ≤ 122 := by omega
        have p3 : (65 : Int) ≤ (r : Int) := by omega
        have p4 : ¬ (r : Int) ≤ 90 := by omega
        have p6 : ¬ (r : Int) < 48 := by omega
        have p7 : (57 : Int) < (r : Int) := by omega
        by_cases p0 : pos = 0
        · have e0 : ((pos : Int) == 0) = true := beq_iff_eq.2 (by omega)
          have P0 := Lib.hid p0
          clear p0
          go_wp2_with fail
          go_ret
          exact ⟨by rw [hN.out]; rfl, (Below.refl _ _).alloc (Nat.le_refl _) _⟩
        · have e0 : ((pos : Int) == 0) = false := beq_eq_false_iff_ne.2 (by omega)
          have P0 := Lib.hid p0
          clear p0
          go_wp2_with fail
          go_ret
          exact ⟨by rw [hN.out]; rfl, (Below.refl _ _).alloc (Nat.le_refl _) _⟩
    · have hnx := fun ty => run_next_end (P := Tryd.prog) w s pos ty hlt
      obtain rfl : pos = s.size := by omega
      have hyy := Lib.hid (hy.out (hn.out.2 (by omega) (by omega)) (fun j hj => hn.out.1 j hj hj))
      go_wp2_with fail
      go_ret
      exact ⟨by rw [hyy.out]; rfl, (Below.refl _ _).alloc (Nat.le_refl _) _⟩
end Go.Proofs.YtoiddojmlhknlaaDoor
