/- The walk of digitsOf. -/
import Derived.Test.YtadehobimlpmcaaDoorExp
namespace Go.Proofs.YtadehobimlpmcaaDoor
set_option linter.unusedVariables false
open Go.RowKit

theorem all_no {D : ByteArray} (k : Nat) (h : k < D.size) (hl : digB D[k] = false) : D.data.toList.all digB = false := by
  rw [List.all_eq_false]
  exact ⟨D[k], Array.getElem_mem_toList h, by rw [hl]; simp⟩
theorem all_yes {D : ByteArray} (hw : ∀ j, (h : j < D.size) → digB D[j] = true) : D.data.toList.all digB = true := by
  rw [List.all_eq_true]
  intro b hb
  obtain ⟨i, hi, rfl⟩ := List.mem_iff_getElem.1 hb
  exact hw i (by simpa using hi)
/-- What digitsOf hands back. -/
def digV (o : Option (List UInt8)) : Value := match o with | none => .tuple #[.string ⟨#[]⟩, .bool false] | some d => .tuple #[.string ⟨d.toArray⟩, .bool true]
def DigPost (o : Option (List UInt8)) (w : World) (e : Ending) (w' : World) : Prop := e = .returned (digV o) ∧ ∃ n, w' = w.drewN n
theorem first_of {U : ByteArray} (h : 0 < U.size) : U.data.toList.head? = some U[0] := by
  have hl : 0 < U.data.toList.length := by simpa using h
  rw [List.head?_eq_getElem?, List.getElem?_eq_getElem hl]; rfl
theorem ba_nil {U : ByteArray} (h : U.size = 0) : U = ⟨#[]⟩ := ByteArray.ext (Array.eq_empty_of_size_eq_zero h)
theorem ba_app_nil (U : ByteArray) : U ++ (ByteArray.mk #[]) = U := by apply ByteArray.ext; simp
theorem ba_lst (U : ByteArray) : (⟨U.data.toList.toArray⟩ : ByteArray) = U := rfl
set_option maxHeartbeats 3200000 in
theorem dig_zero (s : ByteArray) (w : World) (hs : s.size ≤ maxLen) : Calls Tryd.prog 45 #[.string s, .int .i64 0] w (DigPost (digsOf s.data.toList 0) w) := by
  unfold maxLen at hs
  have hsl : s.data.toList.length = s.size := by simp
  by_cases h0 : s.size = 0
  · obtain rfl := ba_nil h0
    have HF := Lib.hid (show digsOf (ByteArray.mk #[]).data.toList 0 = none from rfl)
    clear h0 hsl
    go_enter Tryd.func45, Tryd.ntmps45
    go_wp2_with fail
    go_ret2
    exact ⟨by rw [HF.out]; rfl, 0, rfl⟩
  · have hne : s.data.toList ≠ [] := fun e => by rw [e] at hsl; exact h0 hsl.symm
    have hem : s.toList.isEmpty = false := by rw [ByteArray.toList_eq]; simpa using hne
    have hfs := first_of (U := s) (by omega)
    have HB0 : 1 < s.size → s[0]'(by omega) = 48 → digsOf s.data.toList 0 = none := fun h1 h2 => by
      unfold digsOf; rw [if_pos rfl, if_pos]; exact .inr (.inl ⟨by omega, by rw [hfs, h2]⟩)
    have HBAD := Lib.hid (show s.data.toList.all digB = false → digsOf s.data.toList 0 = none from fun h => by
      unfold digsOf; rw [if_pos rfl, if_pos (.inr (.inr h))])
    have HOK' : (1 < s.size → s[0]'(by omega) ≠ 48) → s.data.toList.all digB = true → digsOf s.data.toList 0 = some s.data.toList := fun h1 h2 => by
      unfold digsOf; rw [if_pos rfl, if_neg]
      rintro (q | ⟨q1, q2⟩ | q)
      · exact hne q
      · rw [hfs] at q2; exact h1 (by omega) (Option.some.inj q2)
      · rw [h2] at q; cases q
    have h0' : 0 < s.size := by omega
    obtain ⟨c0, hc0⟩ : ∃ c0 : Nat, (s[0]'h0').toNat = c0 := ⟨_, rfl⟩
    by_cases hz : 1 < s.size ∧ c0 = 48
    · obtain ⟨z1, rfl⟩ := hz
      have HF := Lib.hid (HB0 z1 (UInt8.toNat_inj.1 hc0))
      clear HB0 HOK' hfs hsl hne h0
      have h48 : (((s[0]'h0').toNat : Int) == 48) = true := by rw [hc0]; rfl
      clear hc0
      go_enter Tryd.func45, Tryd.ntmps45
      go_wp2_with fail
      go_ret2
      exact ⟨by rw [HF.out]; rfl, 0, rfl⟩
    · have HOK := Lib.hid (HOK' (fun q1 q2 => hz ⟨q1, by rw [← hc0, q2]; rfl⟩))
      have hz' : s.size ≤ 1 ∨ (1 < s.size ∧ ((c0 : Int) == 48) = false) := by
        by_cases q : s.size ≤ 1
        · exact .inl q
        · exact .inr ⟨by omega, by rw [beq_eq_false_iff_ne]; intro q2; exact hz ⟨by omega, by omega⟩⟩
      rw [← hc0] at hz'
      clear HB0 HOK' hfs hsl hne h0 hc0 hz
      have hcat : s ++ (ByteArray.mk #[]) = s := ba_app_nil s
      rcases hz' with z | ⟨z, z2⟩
      all_goals
        go_enter Tryd.func45, Tryd.ntmps45
        go_wp2_with fail
        go_loop [51, 10] (fun i _ => ∃ k : Nat, k ≤ s.size ∧ i = .int .i64 k ∧ Hid (∀ j, (h : j < k) → (h' : j < s.size) → digB s[j] = true)) (fun i _ => s.size - (intOf i).toNat)
        case atStart => exact ⟨0, Nat.zero_le _, rfl, Lib.hid (fun j h _ => by omega)⟩
        case round =>
          obtain ⟨k, hk, rfl, hall⟩ := hrel
          by_cases hlt : k < s.size
          · obtain ⟨c, hc⟩ : ∃ c, (s[k]).toNat = c := ⟨_, rfl⟩
            have hc8 : c < 256 := by rw [← hc]; exact UInt8.toNat_lt _
            have HC := Lib.hid hc
            by_cases h1 : c < 48
            · have HF := Lib.hid (HBAD.out (all_no k hlt (by unfold digB; rw [hc, decide_eq_false (by omega)]; rfl)))
              have h1' : (c : Int) < 48 := by omega
              go_wp2_with fail
              go_ret2
              exact ⟨by rw [HF.out]; rfl, 0, rfl⟩
            · by_cases h2 : 57 < c
              · have HF := Lib.hid (HBAD.out (all_no k hlt (by unfold digB; rw [hc, decide_eq_false (show ¬ c ≤ 57 by omega), Bool.and_false])))
                have h1' : ¬ (c : Int) < 48 := by omega
                have h2' : (57 : Int) < (c : Int) := by omega
                go_wp2_with fail
                go_ret2
                exact ⟨by rw [HF.out]; rfl, 0, rfl⟩
              · have hN := Lib.hid (show ∀ j, (h : j < k + 1) → (h' : j < s.size) → digB s[j] = true from fun j hj hj' => by
                  rcases Nat.lt_or_ge j k with q | q
                  · exact hall.out j q hj'
                  · obtain rfl : j = k := by omega
                    unfold digB; rw [hc, decide_eq_true (by omega), decide_eq_true (by omega)]; rfl)
                have h1' : ¬ (c : Int) < 48 := by omega
                have h2' : ¬ (57 : Int) < (c : Int) := by omega
                go_wp2_with fail
                go_round
                case rel => exact ⟨k + 1, by omega, by go_num, hN⟩
                case measure => simp [intOf]; omega
          · obtain rfl : k = s.size := by omega
            have HT := Lib.hid (HOK.out (all_yes (fun j h => hall.out j h h)))
            go_wp2_with fail
            go_ret2
            exact ⟨by rw [HT.out]; rfl, 0, rfl⟩
theorem digs_pos {s : List UInt8} {k : Nat} (h : 0 < k) : digsOf s k = if s.length < k + 1 then none
  else if s[s.length - k - 1]? ≠ some 46 then none
  else if s.take (s.length - k - 1) = [] ∨ (1 < (s.take (s.length - k - 1)).length ∧ (s.take (s.length - k - 1)).head? = some 48) ∨ (s.take (s.length - k - 1) ++ s.drop (s.length - k)).all digB = false then none
  else some (s.take (s.length - k - 1) ++ s.drop (s.length - k)) := by
  unfold digsOf; rw [if_neg (by omega)]
theorem ext_take (s : ByteArray) (p : Nat) : (s.extract 0 p).data.toList = s.data.toList.take p := by simp
theorem ext_drop (s : ByteArray) (p : Nat) : (s.extract p s.size).data.toList = s.data.toList.drop p := by
  rw [ByteArray.data_extract, Array.toList_extract]
  simp only [List.extract]
  apply List.take_of_length_le
  simp
set_option maxHeartbeats 6400000 in
theorem dig_pos (s : ByteArray) (k : Nat) (w : World) (hs : s.size ≤ 1000000) (hk0 : 0 < k) (hk9 : k ≤ 100) : Calls Tryd.prog 45 #[.string s, .int .i64 k] w (DigPost (digsOf s.data.toList k) w) := by
  have hsl : s.data.toList.length = s.size := by simp
  have hdg := digs_pos (s := s.data.toList) hk0
  rw [hsl] at hdg
  have kpos : (0 : Int) < (k : Int) := by omega
  by_cases hlen : s.size < k + 1
  · rw [if_pos hlen] at hdg
    have HF := Lib.hid hdg
    have hn : decide ((s.size : Int) - (k : Int) - 1 < 0) = true := decide_eq_true (by omega)
    have hn' : (s.size : Int) - (k : Int) - 1 < 0 := by omega
    clear hdg hsl
    go_enter Tryd.func45, Tryd.ntmps45
    go_wp2_with fail
    go_ret2
    exact ⟨by rw [HF.out]; rfl, 0, rfl⟩
  · rw [if_neg hlen] at hdg
    obtain ⟨p, hp⟩ : ∃ p, s.size = p + k + 1 := ⟨s.size - k - 1, by omega⟩
    have hps : p < s.size := by omega
    have e1 : s.size - k - 1 = p := by omega
    have e2 : s.size - k = p + 1 := by omega
    rw [e1, e2] at hdg
    have hpt : s.data.toList[p]? = some (s[p]'hps) := by rw [List.getElem?_eq_getElem (by omega)]; rfl
    rw [hpt] at hdg
    have ep : (s.size : Int) - (k : Int) - 1 = (p : Int) := by omega
    have wp1 : IntKind.i64.wrap ((p : Int) + 1) = (p : Int) + 1 := IntWalk.i64_in _ (by omega)
    have p0 : (0 : Int) ≤ (p : Int) + 1 := by omega
    have p1 : ((p : Int) + 1).toNat = p + 1 := by omega
    by_cases hdot : (s[p]'hps) = 46
    · rw [hdot, if_neg (by simp)] at hdg
      have hdot' : (((s[p]'hps).toNat : Int) != 46) = false := by rw [hdot]; rfl
      obtain ⟨U, hU⟩ : ∃ U, s.extract 0 p = U := ⟨_, rfl⟩
      obtain ⟨F, hF⟩ : ∃ F, s.extract (p + 1) s.size = F := ⟨_, rfl⟩
      have hUd : U.data.toList = s.data.toList.take p := by rw [← hU]; exact ext_take s p
      have hFd : F.data.toList = s.data.toList.drop (p + 1) := by rw [← hF]; exact ext_drop s (p + 1)
      rw [← hUd, ← hFd] at hdg
      have hUz : U.size = p := by rw [← hU]; simp; omega
      have hFz : F.size = k := by rw [← hF]; simp; omega
      obtain ⟨D, hD⟩ : ∃ D, U ++ F = D := ⟨_, rfl⟩
      have hDd : D.data.toList = U.data.toList ++ F.data.toList := by rw [← hD]; simp
      have hDz : D.size = p + k := by rw [← hD, ByteArray.size_append, hUz, hFz]
      rw [← hDd] at hdg
      have hUl : U.data.toList.length = U.size := by simp
      have HDZ := Lib.hid hDz
      have hDle : D.size ≤ 1000000 := by omega
      have hUle : U.size ≤ 1000000 := by omega
      have hFle : F.size ≤ 1000000 := by omega
      by_cases h0 : U.size = 0
      · have HF := Lib.hid (hdg.trans (if_pos (.inl (List.eq_nil_of_length_eq_zero (by rw [hUl, h0])))))
        obtain rfl := ba_nil h0
        have hp0 : p = 0 := by rw [← hUz]; rfl
        clear hdg hUd hFd hUz hFz hDd hDz hUl hdot hpt hlen hsl h0 e1 e2 hD hUle hFle hDle
        subst hp0
        go_enter Tryd.func45, Tryd.ntmps45
        go_wp2_with fail
        go_quiet (fail)
        go_wp2_with fail
        go_ret2
        exact ⟨by rw [HF.out]; rfl, _, rfl⟩
      · have hne : U.data.toList ≠ [] := fun e => by rw [e] at hUl; exact h0 hUl.symm
        have hem : U.toList.isEmpty = false := by rw [ByteArray.toList_eq]; simpa using hne
        have hfs := first_of (U := U) (by omega)
        have hB0 : 1 < U.size → U[0]'(by omega) = 48 → digsOf s.data.toList k = none := fun h1 h2 => hdg.trans (if_pos (.inr (.inl ⟨by omega, by rw [hfs, h2]⟩)))
        have HBAD := Lib.hid (show D.data.toList.all digB = false → digsOf s.data.toList k = none from fun h => hdg.trans (if_pos (.inr (.inr h))))
        have hOK' : (1 < U.size → U[0]'(by omega) ≠ 48) → D.data.toList.all digB = true → digsOf s.data.toList k = some D.data.toList := fun h1 h2 => hdg.trans (if_neg (by
          rintro (q | ⟨q1, q2⟩ | q)
          · exact hne q
          · rw [hfs] at q2; exact h1 (by omega) (Option.some.inj q2)
          · rw [h2] at q; cases q))
        have h0' : 0 < U.size := by omega
        obtain ⟨c0, hc0⟩ : ∃ c0 : Nat, (U[0]'h0').toNat = c0 := ⟨_, rfl⟩
        by_cases hz : 1 < U.size ∧ c0 = 48
        · obtain ⟨z1, rfl⟩ := hz
          have HF := Lib.hid (hB0 z1 (UInt8.toNat_inj.1 hc0))
          clear hdg hB0 hOK' hfs hUl hne h0 hUd hFd hUz hFz hDd hDz hdot hpt hlen hsl e1 e2 hp
          have h48 : (((U[0]'h0').toNat : Int) == 48) = true := by rw [hc0]; rfl
          clear hc0
          go_enter Tryd.func45, Tryd.ntmps45
          go_wp2_with fail
          go_quiet (fail)
          go_wp2_with fail
          go_ret2
          exact ⟨by rw [HF.out]; rfl, _, rfl⟩
        · have HOK := Lib.hid (hOK' (fun q1 q2 => hz ⟨q1, by rw [← hc0, q2]; rfl⟩))
          have hz' : U.size ≤ 1 ∨ (1 < U.size ∧ ((c0 : Int) == 48) = false) := by
            by_cases q : U.size ≤ 1
            · exact .inl q
            · exact .inr ⟨by omega, by rw [beq_eq_false_iff_ne]; intro q2; exact hz ⟨by omega, by omega⟩⟩
          rw [← hc0] at hz'
          clear hdg hB0 hOK' hfs hUl hne h0 hUd hFd hUz hFz hDd hDz hdot hpt hlen hsl e1 e2 hp hc0 hz
          rcases hz' with z | ⟨z, z2⟩
          all_goals
            go_enter Tryd.func45, Tryd.ntmps45
            go_wp2_with fail
            go_quiet (fail)
            go_wp2_with fail
            go_loop [51, 10] (fun i _ => ∃ k : Nat, k ≤ D.size ∧ i = .int .i64 k ∧ Hid (∀ j, (h : j < k) → (h' : j < D.size) → digB D[j] = true)) (fun i _ => D.size - (intOf i).toNat)
            case atStart => exact ⟨0, Nat.zero_le _, rfl, Lib.hid (fun j h _ => by omega)⟩
            case round =>
              obtain ⟨k, hk, rfl, hall⟩ := hrel
              by_cases hlt : k < D.size
              · obtain ⟨c, hc⟩ : ∃ c, (D[k]).toNat = c := ⟨_, rfl⟩
                have hc8 : c < 256 := by rw [← hc]; exact UInt8.toNat_lt _
                have HC := Lib.hid hc
                by_cases h1 : c < 48
                · have HF := Lib.hid (HBAD.out (all_no k hlt (by unfold digB; rw [hc, decide_eq_false (by omega)]; rfl)))
                  have h1' : (c : Int) < 48 := by omega
                  go_wp2_with fail
                  go_ret2
                  exact ⟨by rw [HF.out]; rfl, _, rfl⟩
                · by_cases h2 : 57 < c
                  · have HF := Lib.hid (HBAD.out (all_no k hlt (by unfold digB; rw [hc, decide_eq_false (show ¬ c ≤ 57 by omega), Bool.and_false])))
                    have h1' : ¬ (c : Int) < 48 := by omega
                    have h2' : (57 : Int) < (c : Int) := by omega
                    go_wp2_with fail
                    go_ret2
                    exact ⟨by rw [HF.out]; rfl, _, rfl⟩
                  · have hN := Lib.hid (show ∀ j, (h : j < k + 1) → (h' : j < D.size) → digB D[j] = true from fun j hj hj' => by
                      rcases Nat.lt_or_ge j k with q | q
                      · exact hall.out j q hj'
                      · obtain rfl : j = k := by omega
                        unfold digB; rw [hc, decide_eq_true (by omega), decide_eq_true (by omega)]; rfl)
                    have h1' : ¬ (c : Int) < 48 := by omega
                    have h2' : ¬ (57 : Int) < (c : Int) := by omega
                    go_wp2_with fail
                    go_round
                    case rel => exact ⟨k + 1, by omega, by go_num, hN⟩
                    case measure => simp [intOf]; omega
              · obtain rfl : k = D.size := by omega
                have HT := Lib.hid (HOK.out (all_yes (fun j h => hall.out j h h)))
                go_wp2_with fail
                go_ret2
                exact ⟨by rw [HT.out]; rfl, _, rfl⟩
    · rw [if_pos (by simpa using hdot)] at hdg
      have HF := Lib.hid hdg
      have hdot' : (((s[p]'hps).toNat : Int) != 46) = true := by
        rw [bne_iff_ne]; intro q; apply hdot; apply UInt8.toNat_inj.1; show _ = 46; omega
      clear hdg hpt hdot hlen hsl e1 e2 hp
      go_enter Tryd.func45, Tryd.ntmps45
      go_wp2_with fail
      go_ret2
      exact ⟨by rw [HF.out]; rfl, 0, rfl⟩
end Go.Proofs.YtadehobimlpmcaaDoor
