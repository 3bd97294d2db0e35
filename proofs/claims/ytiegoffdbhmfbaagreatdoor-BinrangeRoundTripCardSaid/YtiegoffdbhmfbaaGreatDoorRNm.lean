/- The walks of the reference's digits and names. -/
import Derived.Test.YtiegoffdbhmfbaaGreatDoorRng
namespace Go.Proofs.YtiegoffdbhmfbaaGreatDoor
set_option linter.unusedVariables false
open Go.RowKit

theorem rdg_any (c : UInt8) (w : World) : Calls Tryz.prog 88 #[.int .u8 c.toNat] w fun e w' => e = .returned (.bool (isDg c)) ∧ w = w' := by
  have HD : Hid (isDg c = (decide (48 ≤ c.toNat) && decide (c.toNat ≤ 57))) := Lib.hid rfl
  generalize isDg c = D at *
  generalize c.toNat = x at *
  have hc : ¬ 48 ≤ x ∨ (48 ≤ x ∧ ¬ x ≤ 57) ∨ (48 ≤ x ∧ x ≤ 57) := by omega
  rcases hc with q | ⟨q, q'⟩ | ⟨q, q'⟩
  · have HF : Hid (D = false) := Lib.hid (by rw [HD.out, decide_eq_false q]; rfl)
    have d1 : decide ((48 : Int) ≤ (x : Int)) = false := decide_eq_false (by omega)
    clear HD
    go_enter Tryz.func88, Tryz.ntmps88
    go_wp2_with fail
    go_ret
    exact ⟨by rw [HF.out]; rfl, rfl⟩
  · have HF : Hid (D = false) := Lib.hid (by rw [HD.out, decide_eq_false q']; simp)
    have d1 : decide ((48 : Int) ≤ (x : Int)) = true := decide_eq_true (by omega)
    have d2 : decide ((x : Int) ≤ 57) = false := decide_eq_false (by omega)
    clear HD
    go_enter Tryz.func88, Tryz.ntmps88
    go_wp2_with fail
    go_ret
    exact ⟨by rw [HF.out]; rfl, rfl⟩
  · have HF : Hid (D = true) := Lib.hid (by rw [HD.out, decide_eq_true q', decide_eq_true q]; rfl)
    have d1 : decide ((48 : Int) ≤ (x : Int)) = true := decide_eq_true (by omega)
    have d2 : decide ((x : Int) ≤ 57) = true := decide_eq_true (by omega)
    clear HD
    go_enter Tryz.func88, Tryz.ntmps88
    go_wp2_with fail
    go_ret
    exact ⟨by rw [HF.out]; rfl, rfl⟩
set_option maxHeartbeats 1600000 in
theorem r6_any (s : ByteArray) (w : World) (hs : s.size ≤ maxLen) : Calls Tryz.prog 75 #[.string s] w fun e w' => e = .returned (.bool (digsB s)) ∧ w = w' := by
  have HDG := Lib.hid (fun c W => rdg_any c W)
  have hno := Lib.hid (fun k h hl => all_no (D := s) k h hl)
  have hy := Lib.hid (fun hw => all_yes (D := s) hw)
  unfold maxLen at hs
  go_enter Tryz.func75, Tryz.ntmps75
  go_wp2_with fail
  go_loop [3] (fun i => ∃ k : Nat, k ≤ s.size ∧ i = .int .i64 k ∧ Hid (∀ j, j < k → (h' : j < s.size) → isDg s[j] = true)) (fun i => s.size - (intOf i).toNat)
  case atStart => exact ⟨0, by omega, rfl, Lib.hid (fun j h _ => by omega)⟩
  case round =>
    obtain ⟨k, hk, rfl, hall⟩ := hrel
    by_cases hlt : k < s.size
    · have hstep := Lib.hid (fun (hw : isDg s[k] = true) j (h : j < k + 1) (h' : j < s.size) => show isDg s[j] = true from by
        rcases Nat.lt_or_ge j k with c | c
        · exact hall.out j c h'
        · obtain rfl : j = k := by omega
          exact hw)
      have hN := Lib.hid (fun h => hno.out k hlt h)
      have HD := Lib.hid (fun W => HDG.out s[k] W)
      cases hd : isDg s[k]
      · rw [hd] at HD
        have hF := Lib.hid (hN.out hd)
        clear hd
        go_wp2_with fail
        refine (HD.out _).mono ?_
        rintro e w2 ⟨rfl, rfl⟩
        go_wp2_with fail
        go_ret
        exact ⟨by rw [hF.out]; rfl, rfl⟩
      · rw [hd] at HD
        have hS := Lib.hid (hstep.out hd)
        clear hd
        go_wp2_with fail
        refine (HD.out _).mono ?_
        rintro e w2 ⟨rfl, rfl⟩
        go_wp2_with fail
        go_round
        case rel => exact ⟨k + 1, by omega, by go_num, hS⟩
        case measure => simp [intOf]; omega
    · obtain rfl : k = s.size := by omega
      have hY := Lib.hid (hy.out (fun j h => hall.out j h h))
      go_wp2_with fail
      go_ret
      exact ⟨by rw [hY.out]; rfl, rfl⟩
/-! ### Identifications -/
theorem idB_at {s : ByteArray} (h : idB s = true) : 1 ≤ s.size ∧ s.size ≤ 16 ∧ ∀ j, (h : j < s.size) → idnB (s[j]).toNat = true := by
  unfold idB at h
  simp only [Bool.and_eq_true, decide_eq_true_eq, List.all_eq_true] at h
  exact ⟨h.1.1, h.1.2, fun j hj => h.2 _ (Array.getElem_mem_toList hj)⟩
/-- A name is an identification that begins with a letter and has no hyphen. -/
theorem name_of_id (s : ByteArray) (h : idB s = true) (h0 : 0 < s.size) (hl : letB (s[0]).toNat = true) (hh : ∀ j, (h : j < s.size) → (s[j]).toNat ≠ 45) : nameB s.data.toList = true := by
  obtain ⟨h1, h2, h3⟩ := idB_at h
  refine nameB_yes s h1 h2 hl fun j hj => ?_
  have q := (idnB_iff _).1 (h3 j hj)
  rw [wrdB_iff]
  have := hh j hj
  omega
theorem name_no_id (s : ByteArray) (h : idB s = false) : nameB s.data.toList = false := by
  by_cases hz : 1 ≤ s.size ∧ s.size ≤ 16
  · cases hn : nameB s.data.toList
    · rfl
    · exfalso
      have : idB s = true := idB_yes s hz.1 hz.2 fun j hj => by
        rw [idnB_iff]
        cases hw : wrdB (s[j]).toNat
        · rw [nameB_wrd s j hj hw] at hn; cases hn
        · have := (wrdB_iff _).1 hw; omega
      rw [h] at this; cases this
  · exact nameB_size s hz
theorem name_no_hyp (s : ByteArray) (k : Nat) (h : k < s.size) (hk : (s[k]).toNat = 45) : nameB s.data.toList = false := by
  refine nameB_wrd s k h ?_
  cases hw : wrdB (s[k]).toNat
  · rfl
  · have := (wrdB_iff _).1 hw; omega
set_option maxHeartbeats 3200000 in
theorem rid_any (s : ByteArray) (w : World) (hs : s.size ≤ maxLen) : Calls Tryz.prog 76 #[.string s] w fun e w' => e = .returned (.bool (idB s)) ∧ w = w' := by
  have hno := Lib.hid (idB_no s)
  have hsz := Lib.hid (idB_size s)
  have hyes := Lib.hid (idB_yes s)
  unfold maxLen at hs
  go_enter Tryz.func76, Tryz.ntmps76
  go_wp2_with fail
  go_loop [3] (fun i => ∃ k : Nat, k ≤ s.size ∧ i = .int .i64 k ∧ Hid (∀ j, j < k → (h' : j < s.size) → idnB (s[j]).toNat = true)) (fun i => s.size - (intOf i).toNat)
  case atStart => exact ⟨0, by omega, rfl, Lib.hid (fun j h _ => by omega)⟩
  case round =>
    obtain ⟨k, hk, rfl, hall⟩ := hrel
    by_cases hlt : k < s.size
    · have hstep := Lib.hid (fun (hw : idnB (s[k]).toNat = true) j (h : j < k + 1) (h' : j < s.size) => show idnB (s[j]).toNat = true from by
        rcases Nat.lt_or_ge j k with c | c
        · exact hall.out j c h'
        · obtain rfl : j = k := by omega
          exact hw)
      have hN := Lib.hid (fun h => hno.out k hlt h)
      have hI := Lib.hid (idnB_iff (s[k]).toNat)
      go_wp2_with fail
      all_goals first
        | (refine ⟨⟨k + 1, by omega, by go_num, Lib.hid (hstep.out (hI.out.2 (by simp at *; omega)))⟩, by simp [intOf]; omega⟩)
        | (go_ret
           refine ⟨?_, rfl⟩
           rw [hN.out (by cases hc : idnB (s[k]).toNat; rfl; exfalso; have := hI.out.1 hc; simp at *; omega)]; try rfl)
    · obtain rfl : k = s.size := by omega
      have hA := Lib.hid (fun j (h : j < s.size) => hall.out j h h)
      have hc : (¬ 1 ≤ s.size) ∨ (1 ≤ s.size ∧ ¬ s.size ≤ 16) ∨ (1 ≤ s.size ∧ s.size ≤ 16) := by omega
      rcases hc with q | ⟨q, q'⟩ | ⟨q, q'⟩
      · have hF := Lib.hid (hsz.out (fun h => q h.1))
        have d1 : decide ((1 : Int) ≤ (s.size : Int)) = false := decide_eq_false (by omega)
        go_wp2_with fail
        go_ret
        exact ⟨by rw [hF.out]; rfl, rfl⟩
      · have hF := Lib.hid (hsz.out (fun h => q' h.2))
        have d1 : decide ((1 : Int) ≤ (s.size : Int)) = true := decide_eq_true (by omega)
        have d2 : decide ((s.size : Int) ≤ 16) = false := decide_eq_false (by omega)
        go_wp2_with fail
        go_ret
        exact ⟨by rw [hF.out]; rfl, rfl⟩
      · have hF := Lib.hid (hyes.out q q' (fun j h => hA.out j h))
        have d1 : decide ((1 : Int) ≤ (s.size : Int)) = true := decide_eq_true (by omega)
        have d2 : decide ((s.size : Int) ≤ 16) = true := decide_eq_true (by omega)
        go_wp2_with fail
        go_ret
        exact ⟨by rw [hF.out]; rfl, rfl⟩
set_option maxHeartbeats 6400000 in
theorem rname_any (s : ByteArray) (w : World) (hs : s.size ≤ maxLen) : Calls Tryz.prog 68 #[.string s] w fun e w' => e = .returned (.bool (nameB s.data.toList)) ∧ w = w' := by
  have HI := Lib.hid (fun W => rid_any s W hs)
  unfold maxLen at hs
  cases hid : idB s
  · rw [hid] at HI
    have HF := Lib.hid (name_no_id s hid)
    clear hid
    go_enter Tryz.func68, Tryz.ntmps68
    go_wp2_with fail
    refine (HI.out _).mono ?_
    rintro e w2 ⟨rfl, rfl⟩
    go_wp2_with fail
    go_ret
    exact ⟨by rw [HF.out]; rfl, rfl⟩
  · rw [hid] at HI
    obtain ⟨h1, h2, -⟩ := idB_at hid
    have h0 : 0 < s.size := h1
    have h0I : (0 : Int) < (s.size : Int) := by omega
    have HYES := Lib.hid (fun hl hh => name_of_id s hid h0 hl hh)
    have HHY := Lib.hid (fun k h hk => name_no_hyp s k h hk)
    have HLN := Lib.hid (fun hl => nameB_let s h0 hl)
    have HL := Lib.hid (letB_iff (s[0]).toNat)
    clear hid
    cases hl : letB (s[0]).toNat
    · have HF := Lib.hid (HLN.out hl)
      have hnl : ¬ (97 ≤ (s[0]).toNat ∧ (s[0]).toNat ≤ 122 ∨ 65 ≤ (s[0]).toNat ∧ (s[0]).toNat ≤ 90) := fun h => by rw [HL.out.2 h] at hl; cases hl
      clear hl
      obtain ⟨x, hx⟩ : ∃ x, (s[0]).toNat = x := ⟨_, rfl⟩
      rw [hx] at hnl
      have hw : (97 ≤ x ∧ ¬ x ≤ 122 ∧ 65 ≤ x ∧ ¬ x ≤ 90) ∨ (¬ 97 ≤ x ∧ 65 ≤ x ∧ ¬ x ≤ 90) ∨ (¬ 97 ≤ x ∧ ¬ 65 ≤ x) := by omega
      clear hnl
      rcases hw with ⟨q1, q2, q3, q4⟩ | ⟨q1, q3, q4⟩ | ⟨q1, q3⟩
      · have d1 : decide ((97 : Int) ≤ ((s[0]).toNat : Int)) = true := decide_eq_true (by omega)
        have d2 : decide (((s[0]).toNat : Int) ≤ 122) = false := decide_eq_false (by omega)
        have d3 : decide ((65 : Int) ≤ ((s[0]).toNat : Int)) = true := decide_eq_true (by omega)
        have d4 : decide (((s[0]).toNat : Int) ≤ 90) = false := decide_eq_false (by omega)
        clear hx
        go_enter Tryz.func68, Tryz.ntmps68
        go_wp2_with fail
        refine (HI.out _).mono ?_
        rintro e w2 ⟨rfl, rfl⟩
        go_wp2_with fail
        go_ret
        exact ⟨by rw [HF.out]; rfl, rfl⟩
      · have d1 : decide ((97 : Int) ≤ ((s[0]).toNat : Int)) = false := decide_eq_false (by omega)
        have d3 : decide ((65 : Int) ≤ ((s[0]).toNat : Int)) = true := decide_eq_true (by omega)
        have d4 : decide (((s[0]).toNat : Int) ≤ 90) = false := decide_eq_false (by omega)
        clear hx
        go_enter Tryz.func68, Tryz.ntmps68
        go_wp2_with fail
        refine (HI.out _).mono ?_
        rintro e w2 ⟨rfl, rfl⟩
        go_wp2_with fail
        go_ret
        exact ⟨by rw [HF.out]; rfl, rfl⟩
      · have d1 : decide ((97 : Int) ≤ ((s[0]).toNat : Int)) = false := decide_eq_false (by omega)
        have d3 : decide ((65 : Int) ≤ ((s[0]).toNat : Int)) = false := decide_eq_false (by omega)
        clear hx
        go_enter Tryz.func68, Tryz.ntmps68
        go_wp2_with fail
        refine (HI.out _).mono ?_
        rintro e w2 ⟨rfl, rfl⟩
        go_wp2_with fail
        go_ret
        exact ⟨by rw [HF.out]; rfl, rfl⟩
    · have HYL := Lib.hid (HYES.out hl)
      have hll := HL.out.1 hl
      clear hl HYES HLN
      obtain ⟨x, hx⟩ : ∃ x, (s[0]).toNat = x := ⟨_, rfl⟩
      rw [hx] at hll
      have hw : (97 ≤ x ∧ x ≤ 122) ∨ (¬ 97 ≤ x ∧ 65 ≤ x ∧ x ≤ 90) := by omega
      clear hll
      have HWALK : ∀ (D : Prop), (decide ((97 : Int) ≤ ((s[0]).toNat : Int)) = true ∧ decide (((s[0]).toNat : Int) ≤ 122) = true ∨ decide ((97 : Int) ≤ ((s[0]).toNat : Int)) = false ∧ decide ((65 : Int) ≤ ((s[0]).toNat : Int)) = true ∧ decide (((s[0]).toNat : Int) ≤ 90) = true) → Calls Tryz.prog 68 #[.string s] w fun e w' => e = .returned (.bool (nameB s.data.toList)) ∧ w = w' := by
        intro _ hd
        clear hx hw
        rcases hd with ⟨d1, d2⟩ | ⟨d1, d3, d4⟩
        all_goals
          go_enter Tryz.func68, Tryz.ntmps68
          go_wp2_with fail
          refine (HI.out _).mono ?_
          rintro e w2 ⟨rfl, rfl⟩
          go_wp2_with fail
          go_loop [3] (fun i => ∃ k : Nat, k ≤ s.size ∧ i = .int .i64 k ∧ Hid (∀ j, j < k → (h' : j < s.size) → (s[j]).toNat ≠ 45)) (fun i => s.size - (intOf i).toNat)
          case atStart => exact ⟨0, by omega, rfl, Lib.hid (fun j h _ => by omega)⟩
          case round =>
            obtain ⟨k, hk, rfl, hall⟩ := hrel
            by_cases hlt : k < s.size
            · have hkI : (k : Int) < (s.size : Int) := by omega
              have hstep := Lib.hid (fun (hw : (s[k]).toNat ≠ 45) j (h : j < k + 1) (h' : j < s.size) => show (s[j]).toNat ≠ 45 from by
                rcases Nat.lt_or_ge j k with c | c
                · exact hall.out j c h'
                · obtain rfl : j = k := by omega
                  exact hw)
              by_cases h45 : (s[k]).toNat = 45
              · have HF := Lib.hid (HHY.out k hlt h45)
                have dq : (((s[k]).toNat : Int) == 45) = true := by rw [h45]; rfl
                clear h45
                go_wp2_with fail
                go_ret
                exact ⟨by rw [HF.out]; rfl, rfl⟩
              · have HS := Lib.hid (hstep.out h45)
                have dq : (((s[k]).toNat : Int) == 45) = false := beq_eq_false_iff_ne.2 (by omega)
                clear h45
                go_wp2_with fail
                go_round
                case rel => exact ⟨k + 1, by omega, by go_num, HS⟩
                case measure => simp [intOf]; omega
            · obtain rfl : k = s.size := by omega
              have HF := Lib.hid (HYL.out (fun j h => hall.out j h h))
              go_wp2_with fail
              go_ret
              exact ⟨by rw [HF.out]; rfl, rfl⟩
      rcases hw with ⟨q1, q2⟩ | ⟨q1, q3, q4⟩
      · exact HWALK True (.inl ⟨decide_eq_true (by omega), decide_eq_true (by omega)⟩)
      · exact HWALK True (.inr ⟨decide_eq_false (by omega), decide_eq_true (by omega), decide_eq_true (by omega)⟩)
end Go.Proofs.YtiegoffdbhmfbaaGreatDoor
