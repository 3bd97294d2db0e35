/- The walks of the totals. -/
import Derived.Test.YtimjohcflclpmaaWalk1
import Derived.Test.YtimjohcflclpmaaPlain2
namespace Go.Proofs.Ytimjohcflclpmaa
set_option linter.unusedVariables false
open Go.RowKit

theorem i64_eq {a b : Int} (h : a = b) : Value.int .i64 a = .int .i64 b := by rw [h]
set_option maxHeartbeats 800000 in
theorem valueOf_any (s : ByteArray) (w : World) (hs : s.size ≤ maxLen) :
    Calls Try.prog 23 #[.string s] w fun e w' => e = .returned (.int .i64 (valOf s.data.toList)) ∧ w = w' := by
  unfold maxLen at hs
  go_enter Try.func23, Try.ntmps23
  go_wp2
  all_goals
    go_loop [3, 4] (fun n i => ∃ k : Nat, s.size - 8 ≤ k ∧ k ≤ s.size ∧ i = .int .i64 k ∧ n = .int .i64 (valTo s.data.toList (s.size - 8) k)) (fun _ i => s.size - (intOf i).toNat)
    case atStart => exact ⟨s.size - 8, Nat.le_refl _, by omega, i64_eq (by omega), by rw [valTo_start]; rfl⟩
    case round =>
      obtain ⟨k, hm, hk, rfl, rfl⟩ := hrel
      by_cases hlt : k < s.size
      · have hv := valTo_lt s.data.toList (s.size - 8) k (by omega)
        have hsu := Lib.hid (valTo_succ s (s.size - 8) k hm hlt)
        generalize valTo s.data.toList (s.size - 8) k = v at hv hsu
        have hb := s[k].toNat_lt
        go_wp2
        all_goals exact ⟨⟨k + 1, by omega, by omega, by go_num, i64_eq (by rw [hsu.out]; first | exact (valStep_dig _ _ (by omega) (by omega)).symm | exact (valStep_other _ _ (by omega)).symm)⟩, by simp [intOf]; omega⟩
      · obtain rfl : k = s.size := by omega
        go_wp2
        go_ret
        exact ⟨ret_int (by rw [valTo_end]), rfl⟩

set_option maxHeartbeats 800000 in
theorem total_any (a : Option Addr) (cap : Nat) (l : List ByteArray) (w : World) (hl : l.length ≤ maxLen) (hr : IsStrs w a l) (hb : ∀ i, i < l.length → (l.getD i ByteArray.empty).size ≤ maxLen) :
    Calls Try.prog 11 #[.slice a l.length cap] w fun e w' => e = .returned (.int .i64 (totB l)) ∧ w = w' := by
  have hbh := Lib.hid hb
  clear hb
  unfold maxLen at hl
  rcases hr with h0 | ⟨b, off, rfl, hc⟩
  · obtain rfl : l = [] := List.length_eq_zero_iff.1 h0
    go_enter Try.func11, Try.ntmps11
    go_wp2
    refine wp_loop_rounds 1 ?_
    rw [rounds_succ]
    go_wp2
    go_ret
    exact ⟨rfl, rfl⟩
  · have hch := Lib.hid hc
    clear hc
    go_enter Try.func11, Try.ntmps11
    go_wp2
    go_loop [3, 8] (fun n i => ∃ k : Nat, k ≤ l.length ∧ i = .int .i64 k ∧ n = .int .i64 (totB (l.take k))) (fun _ i => l.length - (intOf i).toNat)
    case atStart => exact ⟨0, Nat.zero_le _, rfl, rfl⟩
    case round =>
      obtain ⟨k, hk, rfl, rfl⟩ := hrel
      by_cases hlt : k < l.length
      · have hcell := hch.out k hlt
        have hbs := hbh.out k hlt
        have hn := Lib.hid (congrArg totB (takeB_snoc l k hlt))
        have ht := totB_lt (l.take k)
        have hv := valOf_lt (l.getD k ByteArray.empty).data.toList
        have hsn := Lib.hid (totB_snoc (l.take k) (l.getD k ByteArray.empty))
        generalize totB (l.take k) = t at ht hsn
        generalize l.getD k ByteArray.empty = s at hcell hbs hn hv hsn
        go_wp2_with fail
        refine (valueOf_any _ _ hbs).mono ?_
        rintro e w' ⟨rfl, rfl⟩
        go_wp2_with fail
        go_round
        case rel => exact ⟨k + 1, by omega, by go_num, i64_eq (by rw [hn.out, hsn.out]; omega)⟩
        case measure => simp [intOf]; omega
      · obtain rfl : k = l.length := by omega
        go_wp2
        go_ret
        exact ⟨ret_int (by simp), rfl⟩
set_option maxHeartbeats 800000 in
theorem rtotal_any (a : Option Addr) (cap : Nat) (l : List ByteArray) (w : World) (hl : l.length ≤ maxLen) (hr : IsStrs w a l) (hb : ∀ i, i < l.length → (l.getD i ByteArray.empty).size ≤ maxLen) :
    Calls Try.prog 12 #[.slice a l.length cap] w fun e w' => e = .returned (.int .i64 (totB l)) ∧ w = w' := by
  have hbh := Lib.hid hb
  clear hb
  unfold maxLen at hl
  rcases hr with h0 | ⟨b, off, rfl, hc⟩
  · obtain rfl : l = [] := List.length_eq_zero_iff.1 h0
    go_enter Try.func12, Try.ntmps12
    go_wp2
    refine wp_loop_rounds 1 ?_
    rw [rounds_succ]
    go_wp2
    go_ret
    exact ⟨rfl, rfl⟩
  · have hch := Lib.hid hc
    clear hc
    go_enter Try.func12, Try.ntmps12
    go_wp2
    go_loop [3, 4] (fun n i => ∃ k : Nat, k ≤ l.length ∧ i = .int .i64 k ∧ n = .int .i64 (totB (l.take k))) (fun _ i => l.length - (intOf i).toNat)
    case atStart => exact ⟨0, Nat.zero_le _, rfl, rfl⟩
    case round =>
      obtain ⟨k, hk, rfl, rfl⟩ := hrel
      by_cases hlt : k < l.length
      · have hcell := hch.out k hlt
        have hbs := hbh.out k hlt
        have hn := Lib.hid (congrArg totB (takeB_snoc l k hlt))
        have ht := totB_lt (l.take k)
        have hv := valOf_lt (l.getD k ByteArray.empty).data.toList
        have hsn := Lib.hid (totB_snoc (l.take k) (l.getD k ByteArray.empty))
        generalize totB (l.take k) = t at ht hsn
        generalize l.getD k ByteArray.empty = s at hcell hbs hn hv hsn
        unfold maxLen at hbs
        go_wp2
        all_goals
          go_loop [5, 6] (fun n i => ∃ j : Nat, s.size - 8 ≤ j ∧ j ≤ s.size ∧ i = .int .i64 j ∧ n = .int .i64 (valTo s.data.toList (s.size - 8) j)) (fun _ i => s.size - (intOf i).toNat)
          case atStart => exact ⟨s.size - 8, Nat.le_refl _, by omega, i64_eq (by omega), by rw [valTo_start]; rfl⟩
          case round =>
            obtain ⟨j, hm, hj, rfl, rfl⟩ := hrel
            by_cases hjt : j < s.size
            · have hvv := valTo_lt s.data.toList (s.size - 8) j (by omega)
              have hsu := Lib.hid (valTo_succ s (s.size - 8) j hm hjt)
              generalize valTo s.data.toList (s.size - 8) j = v at hvv hsu
              have hbb := s[j].toNat_lt
              go_wp2
              all_goals exact ⟨⟨j + 1, by omega, by omega, by go_num, i64_eq (by rw [hsu.out]; first | (have := valStep_dig v s[j] (by omega) (by omega); omega) | (have := valStep_other v s[j] (by omega); omega))⟩, by simp [intOf]; omega⟩
            · obtain rfl : j = s.size := by omega
              rw [valTo_end]
              go_wp2
              go_round
              case rel => exact ⟨k + 1, by omega, by go_num, i64_eq (by rw [hn.out, hsn.out]; omega)⟩
              case measure => simp [intOf]; omega
      · obtain rfl : k = l.length := by omega
        go_wp2
        go_ret
        exact ⟨ret_int (by simp), rfl⟩
/-- At most 100 strings of at most 100 bytes. -/
def fewB (l : List ByteArray) : Bool := decide (l.length ≤ 100 ∧ ∀ i, i < l.length → (l.getD i ByteArray.empty).size ≤ 100)
set_option maxHeartbeats 800000 in
theorem few_any (a : Option Addr) (cap : Nat) (l : List ByteArray) (w : World) (hl : l.length ≤ maxLen) (hr : IsStrs w a l) (hb : ∀ i, i < l.length → (l.getD i ByteArray.empty).size ≤ maxLen) :
    Calls Try.prog 9 #[.slice a l.length cap] w fun e w' => e = .returned (.bool (fewB l)) ∧ w = w' := by
  have hbh := Lib.hid hb
  clear hb
  unfold maxLen at hl
  rcases hr with h0 | ⟨b, off, rfl, hc⟩
  · obtain rfl : l = [] := List.length_eq_zero_iff.1 h0
    go_enter Try.func9, Try.ntmps9
    go_wp2
    refine wp_loop_rounds 1 ?_
    rw [rounds_succ]
    go_wp2
    go_ret
    exact ⟨rfl, rfl⟩
  · have hch := Lib.hid hc
    clear hc
    go_enter Try.func9, Try.ntmps9
    go_wp2
    go_loop [3] (fun i => ∃ k : Nat, k ≤ l.length ∧ k ≤ 101 ∧ i = .int .i64 k ∧ ∀ j, j < k → (l.getD j ByteArray.empty).size ≤ 100) (fun i => l.length - (intOf i).toNat)
    case atStart => exact ⟨0, Nat.zero_le _, by omega, rfl, by omega⟩
    case round =>
      obtain ⟨k, hk, hk1, rfl, hall⟩ := hrel
      have hal := Lib.hid hall
      clear hall
      by_cases hlt : k < l.length
      · have hcell := hch.out k hlt
        have hbs := hbh.out k hlt
        unfold maxLen at hbs
        by_cases hk2 : k < 101
        · by_cases hsz : (l.getD k ByteArray.empty).size ≤ 100
          · generalize hge : l.getD k ByteArray.empty = s at hcell hbs hsz
            have hgh := Lib.hid hge
            clear hge
            go_wp2
            go_round
            case rel => exact ⟨k + 1, by omega, by omega, by go_num, fun j hj => by
              rcases Nat.lt_or_ge j k with h | h
              · exact hal.out j h
              · obtain rfl : j = k := by omega
                rw [hgh.out]; exact hsz⟩
            case measure => simp [intOf]; omega
          · have hno : fewB l = false := by
              unfold fewB; simp only [decide_eq_false_iff_not]; intro h; exact hsz (h.2 k hlt)
            have hnoh := Lib.hid hno
            clear hno
            generalize hge : l.getD k ByteArray.empty = s at hcell hbs hsz
            clear hge
            go_wp2
            go_ret
            exact ⟨by rw [hnoh.out]; rfl, rfl⟩
        · have hno : fewB l = false := by
            unfold fewB; simp only [decide_eq_false_iff_not]; intro h; omega
          have hnoh := Lib.hid hno
          clear hno hcell hbs
          go_wp2
          go_ret
          exact ⟨by rw [hnoh.out]; simp; omega, rfl⟩
      · obtain rfl : k = l.length := by omega
        have hno : fewB l = decide (l.length ≤ 100) := by
          unfold fewB; rw [Bool.eq_iff_iff]; simp only [decide_eq_true_eq]; exact ⟨fun h => h.1, fun h => ⟨h, hal.out⟩⟩
        have hnoh := Lib.hid hno
        clear hno
        go_wp2
        go_ret
        exact ⟨by rw [hnoh.out]; simp; omega, rfl⟩
end Go.Proofs.Ytimjohcflclpmaa
