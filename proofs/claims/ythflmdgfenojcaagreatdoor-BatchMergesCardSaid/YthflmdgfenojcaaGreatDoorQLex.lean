/- Part of the proof over this seat. -/
import Derived.WalkLawsBesides
import Derived.WalkSpells
import Derived.Lib.Hide
import Derived.Laws.RangeAny
import Derived.Laws.RangeString
import Derived.Test.YthflmdgfenojcaaGreatDoorQBase
import Derived.Test.YthflmdgfenojcaaGreatDoorQShelf
namespace Go.Proofs.YthflmdgfenojcaaGreatDoor
set_option linter.unusedVariables false
open Go.RowKit
def letB (c : Nat) : Bool := decide (97 ≤ c ∧ c ≤ 122) || decide (65 ≤ c ∧ c ≤ 90)
def digB (c : Nat) : Bool := decide (48 ≤ c ∧ c ≤ 57)
def wrdB (c : Nat) : Bool := letB c || digB c || c == 95
def idnB (c : Nat) : Bool := letB c || digB c || c == 95 || c == 45
theorem letB_iff (c : Nat) : letB c = true ↔ (97 ≤ c ∧ c ≤ 122 ∨ 65 ≤ c ∧ c ≤ 90) := by simp [letB]
theorem wrdB_iff (c : Nat) : wrdB c = true ↔ ((97 ≤ c ∧ c ≤ 122 ∨ 65 ≤ c ∧ c ≤ 90) ∨ (48 ≤ c ∧ c ≤ 57) ∨ c = 95) := by simp [wrdB, letB, digB, or_assoc]
theorem idnB_iff (c : Nat) : idnB c = true ↔ ((97 ≤ c ∧ c ≤ 122) ∨ (65 ≤ c ∧ c ≤ 90) ∨ (48 ≤ c ∧ c ≤ 57) ∨ c = 95 ∨ c = 45) := by simp [idnB, letB, digB, or_assoc]
/-- A name: 1 to 16 letters, digits and underscores, of which the first is a letter. -/
def nameB (l : List UInt8) : Bool := decide (1 ≤ l.length) && decide (l.length ≤ 16) && letB (l.getD 0 0).toNat && l.all (fun b => wrdB b.toNat)
theorem name_no (l : List UInt8) (k : Nat) (hk : k < l.length) (h : wrdB (l[k]).toNat = false) : nameB l = false := by
  have : (l.all (fun b => wrdB b.toNat)) = false := by
    rw [List.all_eq_false]; exact ⟨l[k], List.getElem_mem hk, by simp [h]⟩
  simp [nameB, this]
theorem name_yes (l : List UInt8) (h1 : 1 ≤ l.length) (h2 : l.length ≤ 16) (h3 : letB (l.getD 0 0).toNat = true) (h4 : ∀ i, (hi : i < l.length) → wrdB (l[i]).toNat = true) : nameB l = true := by
  have : l.all (fun b => wrdB b.toNat) = true := by
    rw [List.all_eq_true]
    intro b hb
    obtain ⟨i, hi, rfl⟩ := List.getElem_of_mem hb
    exact h4 i hi
  unfold nameB; rw [this, h3]; simp [h1, h2]
theorem nameB_size (s : ByteArray) (h : ¬ (1 ≤ s.size ∧ s.size ≤ 16)) : nameB s.data.toList = false := by
  unfold nameB
  have hl : s.data.toList.length = s.size := by simp
  rw [hl]
  by_cases a : 1 ≤ s.size
  · have b : ¬ s.size ≤ 16 := fun b => h ⟨a, b⟩
    simp [b]
  · simp [a]
theorem nameB_let (s : ByteArray) (h : 0 < s.size) (hl : letB (s[0]).toNat = false) : nameB s.data.toList = false := by
  have : s.data.toList.getD 0 0 = s[0] := by
    have h' : 0 < s.data.size := h
    simp only [List.getD, Array.getElem?_toList, Array.getElem?_eq_getElem h', Option.getD_some]; rfl
  unfold nameB; rw [this, hl]; simp
theorem nameB_wrd (s : ByteArray) (k : Nat) (h : k < s.size) (hl : wrdB (s[k]).toNat = false) : nameB s.data.toList = false :=
  name_no s.data.toList k (by simpa using h) hl
theorem nameB_yes (s : ByteArray) (h1 : 1 ≤ s.size) (h2 : s.size ≤ 16) (hl : letB (s[0]).toNat = true) (hw : ∀ j, (h : j < s.size) → wrdB (s[j]).toNat = true) : nameB s.data.toList = true := by
  have : s.data.toList.getD 0 0 = s[0] := by
    have h' : 0 < s.data.size := h1
    simp only [List.getD, Array.getElem?_toList, Array.getElem?_eq_getElem h', Option.getD_some]; rfl
  exact name_yes _ (by simpa using h1) (by simpa using h2) (by rw [this]; exact hl) (fun i hi => hw i (by simpa using hi))
/-- An identification: 1 to 16 letters, digits, underscores and hyphens. -/
def idB (s : ByteArray) : Bool := decide (1 ≤ s.size) && decide (s.size ≤ 16) && s.data.toList.all (fun b => idnB b.toNat)
theorem idB_size (s : ByteArray) (h : ¬ (1 ≤ s.size ∧ s.size ≤ 16)) : idB s = false := by
  unfold idB
  by_cases a : 1 ≤ s.size
  · have b : ¬ s.size ≤ 16 := fun b => h ⟨a, b⟩
    simp [b]
  · simp [a]
theorem idB_no (s : ByteArray) (k : Nat) (h : k < s.size) (hl : idnB (s[k]).toNat = false) : idB s = false := by
  have : (s.data.toList.all (fun b => idnB b.toNat)) = false := by
    rw [List.all_eq_false]; exact ⟨s[k], Array.getElem_mem_toList h, by rw [hl]; simp⟩
  unfold idB; rw [this]; simp
theorem idB_yes (s : ByteArray) (h1 : 1 ≤ s.size) (h2 : s.size ≤ 16) (hw : ∀ j, (h : j < s.size) → idnB (s[j]).toNat = true) : idB s = true := by
  have : s.data.toList.all (fun b => idnB b.toNat) = true := by
    rw [List.all_eq_true]
    intro b hb
    obtain ⟨i, hi, rfl⟩ := List.getElem_of_mem hb
    exact hw i (by simpa using hi)
  unfold idB; rw [this]; simp [h1, h2]
set_option maxHeartbeats 1600000 in
theorem ident_any (s : ByteArray) (w : World) (hs : s.size ≤ maxLen) : Calls Tryz.prog 134 #[.string s] w fun e w' => e = .returned (.bool (idB s)) ∧ w = w' := by
  by_cases h : 1 ≤ s.size ∧ s.size ≤ 16
  · obtain ⟨h1, h2⟩ := h
    have z1 : ¬ (s.size : Int) < 1 := by omega
    have z2 : ¬ (16 : Int) < (s.size : Int) := by omega
    have hno := Lib.hid (idB_no s)
    have hy := Lib.hid (idB_yes s h1 h2)
    unfold maxLen at hs
    go_enter Tryz.func134, Tryz.ntmps134
    go_wp2_with fail
    clear z1 z2
    go_loop [15] (fun i => ∃ k : Nat, k ≤ s.size ∧ i = .int .i64 k ∧ Hid (∀ j, j < k → (h' : j < s.size) → idnB (s[j]).toNat = true)) (fun i => s.size - (intOf i).toNat)
    case atStart => exact ⟨0, by omega, rfl, Lib.hid (fun j h _ => by omega)⟩
    case round =>
      obtain ⟨k, hk, rfl, hall⟩ := hrel
      by_cases hlt : k < s.size
      · have hstep := Lib.hid (fun (hw : idnB (s[k]).toNat = true) j (h : j < k + 1) (h' : j < s.size) => show idnB (s[j]).toNat = true from by
          rcases Nat.lt_or_ge j k with c | c
          · exact hall.out j c h'
          · obtain rfl : j = k := by omega
            exact hw)
        have hN := Lib.hid (fun h => hno.out k hlt h)
        have hI := Lib.hid (idnB_iff (s[k]).toNat)
        go_wp2_with fail
        all_goals first
          | (refine ⟨⟨k + 1, by omega, by go_num, Lib.hid (hstep.out (hI.out.2 (by simp at *; omega)))⟩, by simp [intOf]; omega⟩)
          | (go_ret
             refine ⟨?_, rfl⟩
             rw [hN.out (by cases hc : idnB (s[k]).toNat; rfl; exfalso; have := hI.out.1 hc; simp at *; omega)]; try rfl)
      · obtain rfl : k = s.size := by omega
        have hY := Lib.hid (hy.out (fun j h => hall.out j h h))
        go_wp2_with fail
        go_ret
        exact ⟨by rw [hY.out]; rfl, rfl⟩
  · have hno := Lib.hid (idB_size s h)
    have hc : (s.size : Int) < 1 ∨ (¬ (s.size : Int) < 1 ∧ (16 : Int) < (s.size : Int)) := by omega
    clear h hs
    rcases hc with q | ⟨q, q'⟩
    all_goals
      go_enter Tryz.func134, Tryz.ntmps134
      go_wp2_with fail
      go_ret
      exact ⟨by rw [hno.out]; rfl, rfl⟩
/-- The class of a byte. -/
def ClsPost (x : Nat) (w : World) (e : Ending) (w' : World) : Prop :=
  ∃ k : Int, e = .returned (.int .i64 k) ∧ w = w' ∧ (k = 2 ↔ (97 ≤ x ∧ x ≤ 122 ∨ 65 ≤ x ∧ x ≤ 90)) ∧ (k = 3 ↔ (48 ≤ x ∧ x ≤ 57)) ∧ (k = 4 ↔ x = 95)
set_option maxHeartbeats 3200000 in
theorem cls_any (x : Nat) (hx : x < 256) (w : World) : Calls Tryz.prog 108 #[.int .i32 x] w (ClsPost x w) := by
  by_cases hb : x < 128
  · have HC := Lib.hid (fun s W => Tryz.strings_ContainsRune_ascii s (x : Int) W (by omega) (by omega))
    go_enter Tryz.func108, Tryz.ntmps108
    go_wp2_with fail
    all_goals first
      | (go_ret
         exact ⟨_, rfl, rfl, by simp at *; omega, by simp at *; omega, by simp at *; omega⟩)
      | (refine (HC.out _ _).mono ?_
         rintro e w1 ⟨rfl, rfl⟩
         go_wp2_with fail
         all_goals
           go_ret
           exact ⟨_, rfl, rfl, by simp at *; omega, by simp at *; omega, by simp at *; omega⟩)
  · go_enter Tryz.func108, Tryz.ntmps108
    go_wp2_with fail
    all_goals
      go_ret
      exact ⟨_, rfl, rfl, by simp at *; omega, by simp at *; omega, by simp at *; omega⟩
set_option maxHeartbeats 800000 in
theorem wordB_any (c : UInt8) (w : World) : Calls Tryz.prog 152 #[.int .u8 c.toNat] w fun e w' => e = .returned (.bool (wrdB c.toNat)) ∧ w = w' := by
  have hx : c.toNat < 256 := c.toNat_lt
  have HI := Lib.hid (wrdB_iff c.toNat)
  generalize c.toNat = x at *
  have HC := Lib.hid (fun W => cls_any x hx W)
  have hc : IntKind.i32.wrap (x : Int) = (x : Int) := IntWalk.i32_in _ (by omega)
  clear hx
  go_enter Tryz.func152, Tryz.ntmps152
  go_wp2_with fail
  refine (HC.out _).mono ?_
  rintro e w1 ⟨k, rfl, rfl, h2, h3, h4⟩
  have H2 := Lib.hid h2
  have H3 := Lib.hid h3
  have H4 := Lib.hid h4
  clear h2 h3 h4
  cases q2 : (k == 2)
  · cases q3 : (k == 3)
    · cases q4 : (k == 4)
      · have HF := Lib.hid (show wrdB x = false by
          cases hw : wrdB x
          · rfl
          · exfalso
            have := HI.out.1 hw
            have a := H2.out
            have b := H3.out
            have c := H4.out
            simp at q2 q3 q4
            omega)
        go_wp2_with fail
        go_ret
        exact ⟨by rw [HF.out]; rfl, rfl⟩
      · have HF := Lib.hid (show wrdB x = true from HI.out.2 (.inr (.inr (H4.out.1 (by simpa using q4)))))
        go_wp2_with fail
        go_ret
        exact ⟨by rw [HF.out]; rfl, rfl⟩
    · have HF := Lib.hid (show wrdB x = true from HI.out.2 (.inr (.inl (H3.out.1 (by simpa using q3)))))
      go_wp2_with fail
      go_ret
      exact ⟨by rw [HF.out]; rfl, rfl⟩
  · have HF := Lib.hid (show wrdB x = true from HI.out.2 (.inl (H2.out.1 (by simpa using q2))))
    go_wp2_with fail
    go_ret
    exact ⟨by rw [HF.out]; rfl, rfl⟩
/-- What wordAt returns at 0: the word at the beginning. -/
def WordPost (s : ByteArray) (w : World) (e : Ending) (w' : World) : Prop :=
  w = w' ∧ ∃ n : Nat, n ≤ s.size ∧ e = .returned (.string (s.extract 0 n)) ∧ (∀ j, (h : j < n) → (h' : j < s.size) → wrdB (s[j]).toNat = true) ∧ ((h : n < s.size) → wrdB (s[n]).toNat = false)
set_option maxHeartbeats 800000 in
theorem word_any (s : ByteArray) (w : World) (hs : s.size ≤ maxLen) : Calls Tryz.prog 109 #[.string s, .int .i64 0] w (WordPost s w) := by
  unfold maxLen at hs
  go_enter Tryz.func109, Tryz.ntmps109
  go_wp2_with fail
  go_loop [5] (fun i => ∃ k : Nat, k ≤ s.size ∧ i = .int .i64 k ∧ Hid (∀ j, (h : j < k) → (h' : j < s.size) → wrdB (s[j]).toNat = true)) (fun i => s.size - (intOf i).toNat)
  case atStart => exact ⟨0, by omega, rfl, Lib.hid (fun j h _ => by omega)⟩
  case round =>
    obtain ⟨k, hk, rfl, hall⟩ := hrel
    by_cases hlt : k < s.size
    · have hl := Lib.hid (wordB_any s[k] w)
      have hstep := Lib.hid (fun (hw : wrdB (s[k]).toNat = true) j (h : j < k + 1) (h' : j < s.size) => show wrdB (s[j]).toNat = true from by
        rcases Nat.lt_or_ge j k with c | c
        · exact hall.out j c h'
        · obtain rfl : j = k := by omega
          exact hw)
      cases h1 : wrdB (s[k]).toNat
      · have q1 := Lib.hid h1
        clear h1 hstep
        go_wp2_with fail
        refine hl.out.mono ?_
        rintro e w' ⟨rfl, rfl⟩
        rw [q1.out]
        have k0 : (0 : Int) ≤ (k : Int) := by omega
        go_wp2_with fail
        go_ret
        exact ⟨rfl, k, hk, by simp, hall.out, fun _ => q1.out⟩
      · have hN := Lib.hid (hstep.out h1)
        have q1 := Lib.hid h1
        clear h1 hstep
        go_wp2_with fail
        refine hl.out.mono ?_
        rintro e w' ⟨rfl, rfl⟩
        rw [q1.out]
        go_wp2_with fail
        go_round
        case rel => exact ⟨k + 1, by omega, by go_num, hN⟩
        case measure => simp [intOf]; omega
    · obtain rfl : k = s.size := by omega
      go_wp2_with fail
      go_ret
      exact ⟨rfl, s.size, Nat.le_refl _, by simp, hall.out, fun h => by omega⟩
set_option maxHeartbeats 800000 in
theorem lname_any (s : ByteArray) (w : World) (hs : s.size ≤ maxLen) : Calls Tryz.prog 55 #[.string s] w fun e w' => e = .returned (.bool (nameB s.data.toList)) ∧ w = w' := by
  have hwd := Lib.hid (word_any s w hs)
  unfold maxLen at hs
  by_cases h0 : 1 ≤ s.size
  case neg =>
    have hno := Lib.hid (nameB_size s (by omega))
    obtain rfl : s = ⟨#[]⟩ := ByteArray.ext (Array.eq_empty_of_size_eq_zero (by show s.size = 0; omega))
    clear hwd h0
    go_enter Tryz.func55, Tryz.ntmps55
    go_wp2_with fail
    go_ret
    exact ⟨by rw [hno.out]; rfl, rfl⟩
  have hne : (s.toList == []) = false := by
    rw [ByteArray.toList_eq, beq_eq_false_iff_ne]
    intro e
    have e1 : s.data.toList.length = 0 := by rw [e]; rfl
    have e2 : s.data.toList.length = s.size := by simp
    omega
  have hne2 : s.toList.isEmpty = false := by simpa using hne
  have hne3 : s.toList ≠ [] := by simpa using hne
  by_cases h16 : s.size ≤ 16
  case neg =>
    have hno := Lib.hid (nameB_size s (by omega))
    go_enter Tryz.func55, Tryz.ntmps55
    go_wp2_with fail
    go_ret
    exact ⟨by rw [hno.out]; rfl, rfl⟩
  have hx : (s[0]).toNat < 256 := (s[0]).toNat_lt
  have hc : IntKind.i32.wrap (((s[0]).toNat : Nat) : Int) = (((s[0]).toNat : Nat) : Int) := IntWalk.i32_in _ (by omega)
  have hl := Lib.hid (cls_any (s[0]).toNat hx w)
  have hy := Lib.hid (nameB_yes s h0 h16)
  have hnw := Lib.hid (nameB_wrd s)
  have HL := Lib.hid (letB_iff (s[0]).toNat)
  clear hx
  go_enter Tryz.func55, Tryz.ntmps55
  go_wp2_with fail
  refine hl.out.mono ?_
  rintro e w' ⟨k, rfl, rfl, h2, -, -⟩
  have H2 := Lib.hid h2
  clear h2
  cases q2 : (k != 2)
  · have q1 := Lib.hid (show letB (s[0]).toNat = true from HL.out.2 (H2.out.1 (by simpa using q2)))
    go_wp2_with fail
    refine hwd.out.mono ?_
    rintro e w' ⟨rfl, n, hn, rfl, hall, hend⟩
    have hsz : (s.extract 0 n).size = n := by simp [ByteArray.size_extract]; omega
    rcases Nat.lt_or_eq_of_le hn with c | c
    · have hno := Lib.hid (hnw.out n c (hend c))
      have hq : ((n : Int) == (s.size : Int)) = false := beq_eq_false_iff_ne.2 (by omega)
      clear hall hend
      go_wp2_with fail
      go_ret
      exact ⟨by rw [hno.out]; first | rfl | simp [hq], rfl⟩
    · have hyy := Lib.hid (hy.out q1.out (fun j hj => hall j (by omega) hj))
      clear hall hend
      subst c
      have hq : ((s.size : Int) == (s.size : Int)) = true := by simp
      go_wp2_with fail
      go_ret
      exact ⟨by rw [hyy.out]; first | rfl | simp, rfl⟩
  · have hno := Lib.hid (nameB_let s h0 (by
      cases hw : letB (s[0]).toNat
      · rfl
      · exfalso
        have := H2.out.2 (HL.out.1 hw)
        subst this
        simp at q2))
    go_wp2_with fail
    go_ret
    exact ⟨by rw [hno.out]; rfl, rfl⟩
end Go.Proofs.YthflmdgfenojcaaGreatDoor
