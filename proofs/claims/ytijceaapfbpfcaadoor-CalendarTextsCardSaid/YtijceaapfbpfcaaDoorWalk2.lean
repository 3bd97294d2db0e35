/- The walks of Of and Split. -/
import Derived.Test.YtijceaapfbpfcaaDoorWalk1
namespace Go.Proofs.YtijceaapfbpfcaaDoor
set_option linter.unusedVariables false
open Go.RowKit

/-- What Of returns. -/
def okDate (y m d : Int) : Bool := decide (1970 ≤ y ∧ y ≤ 2243 ∧ 1 ≤ m ∧ m ≤ 12 ∧ 1 ≤ d ∧ d ≤ ml y m ∧ dby y + cum y m + (d - 1) ≤ 99999)
def ofN (y m d : Int) : Int := if okDate y m d then dby y + cum y m + (d - 1) else 0
def ofE (y m d : Int) : Int := if okDate y m d then 0 else 4
theorem ofNo (y m d : Int) (h : ¬ (1970 ≤ y ∧ y ≤ 2243 ∧ 1 ≤ m ∧ m ≤ 12 ∧ 1 ≤ d ∧ d ≤ ml y m ∧ dby y + cum y m + (d - 1) ≤ 99999)) : Value.tuple #[.int .i64 (ofN y m d), .int .i64 (ofE y m d)] = .tuple #[.int .i64 0, .int .i64 4] := by
  have : okDate y m d = false := decide_eq_false h
  unfold ofN ofE; rw [this]; rfl
theorem ofYes (y m d : Int) (h : 1970 ≤ y ∧ y ≤ 2243 ∧ 1 ≤ m ∧ m ≤ 12 ∧ 1 ≤ d ∧ d ≤ ml y m ∧ dby y + cum y m + (d - 1) ≤ 99999) : Value.tuple #[.int .i64 (ofN y m d), .int .i64 (ofE y m d)] = .tuple #[.int .i64 (dby y + cum y m + (d - 1)), .int .i64 0] := by
  have : okDate y m d = true := decide_eq_true h
  unfold ofN ofE; rw [this]; rfl

set_option maxHeartbeats 1000000 in
theorem of_any (y m d : Int) (w : World) (hm : MD w) :
    Calls Tryd.prog 9 #[.int .i64 y, .int .i64 m, .int .i64 d] w fun e w' => e = .returned (.tuple #[.int .i64 (ofN y m d), .int .i64 (ofE y m d)]) ∧ w = w' := by
  by_cases h1 : 1970 ≤ y
  case neg =>
    have hv := Lib.hid (ofNo y m d (fun h => h1 h.1))
    go_enter Tryd.func9, Tryd.ntmps9
    go_wp2_with fail
    go_ret2
    exact ⟨by rw [hv.out]; rfl, rfl⟩
  by_cases h2 : y ≤ 2243
  case neg =>
    have hv := Lib.hid (ofNo y m d (fun h => h2 h.2.1))
    go_enter Tryd.func9, Tryd.ntmps9
    go_wp2_with fail
    go_ret2
    exact ⟨by rw [hv.out]; rfl, rfl⟩
  by_cases h3 : 1 ≤ m
  case neg =>
    have hv := Lib.hid (ofNo y m d (fun h => h3 h.2.2.1))
    go_enter Tryd.func9, Tryd.ntmps9
    go_wp2_with fail
    go_ret2
    exact ⟨by rw [hv.out]; rfl, rfl⟩
  by_cases h4 : m ≤ 12
  case neg =>
    have hv := Lib.hid (ofNo y m d (fun h => h4 h.2.2.2.1))
    go_enter Tryd.func9, Tryd.ntmps9
    go_wp2_with fail
    go_ret2
    exact ⟨by rw [hv.out]; rfl, rfl⟩
  by_cases h5 : 1 ≤ d
  case neg =>
    have hv := Lib.hid (ofNo y m d (fun h => h5 h.2.2.2.2.1))
    go_enter Tryd.func9, Tryd.ntmps9
    go_wp2_with fail
    go_ret2
    exact ⟨by rw [hv.out]; rfl, rfl⟩
  have hln := Lib.hid (lengthOf_any y m w (by omega) h3 h4 hm)
  by_cases h6 : d ≤ ml y m
  case neg =>
    have hv := Lib.hid (ofNo y m d (fun h => h6 h.2.2.2.2.2.1))
    go_enter Tryd.func9, Tryd.ntmps9
    go_wp2_with fail
    refine hln.out.mono ?_
    rintro e w' ⟨rfl, rfl⟩
    go_wp2_with fail
    go_ret2
    exact ⟨by rw [hv.out]; rfl, rfl⟩
  have hmb := ml_bd y m
  have hyes := Lib.hid (ofYes y m d)
  have hno := Lib.hid (ofNo y m d)
  have hmh := Lib.hid hm
  clear hm
  go_enter Tryd.func9, Tryd.ntmps9
  go_wp2_with fail
  refine hln.out.mono ?_
  rintro e w' ⟨rfl, rfl⟩
  go_wp2_with fail
  go_loop [8, 9] (fun n i => ∃ x : Int, 1970 ≤ x ∧ x ≤ y ∧ i = .int .i64 x ∧ n = .int .i64 (dby x + (d - 1))) (fun _ i => (y - intOf i).toNat)
  case atStart => exact ⟨1970, by omega, h1, rfl, i64_eq (by rw [dby_0]; omega)⟩
  case round =>
    obtain ⟨x, hx1, hx2, rfl, rfl⟩ := hrel
    have hb := dby_bd x hx1
    have hs := Lib.hid (dby_succ x hx1)
    have hle := Lib.hid (yearLength_any x w (by omega))
    have hyb := yl_bd x
    rcases Int.lt_or_eq_of_le hx2 with hlt | rfl
    · generalize dby x = t at hb hs
      go_wp2_with fail
      refine hle.out.mono ?_
      rintro e w' ⟨rfl, rfl⟩
      go_wp2_with fail
      go_round
      case rel => exact ⟨x + 1, by omega, by omega, rfl, i64_eq (by rw [hs.out]; omega)⟩
      case measure => simp [intOf]; omega
    · clear hle hyb hs
      go_wp2_with fail
      go_loop [8, 10] (fun n i => ∃ k : Int, 1 ≤ k ∧ k ≤ m ∧ i = .int .i64 k ∧ n = .int .i64 (dby x + cum x k + (d - 1))) (fun _ i => (m - intOf i).toNat)
      case atStart => exact ⟨1, by omega, h3, rfl, i64_eq (by rw [cum_1]; omega)⟩
      case round =>
        obtain ⟨k, hk1, hk2, rfl, rfl⟩ := hrel
        have hcb := cum_bd x k hk1
        have hcs := Lib.hid (cum_succ x k hk1)
        have hle := Lib.hid (lengthOf_any x k w (by omega) hk1 (by omega) hmh.out)
        have hyb := ml_bd x k
        rcases Int.lt_or_eq_of_le hk2 with hkt | rfl
        · generalize cum x k = c at hcb hcs
          go_wp2_with fail
          refine hle.out.mono ?_
          rintro e w' ⟨rfl, rfl⟩
          go_wp2_with fail
          go_round
          case rel => exact ⟨k + 1, by omega, by omega, rfl, i64_eq (by rw [hcs.out]; omega)⟩
          case measure => simp [intOf]; omega
        · clear hcs hle hyb hln
          have hid := Lib.hid (isDate_any (dby x + cum x k + (d - 1)) w)
          by_cases hf : dby x + cum x k + (d - 1) ≤ 99999
          · have hvv := Lib.hid (hyes.out ⟨h1, h2, h3, h4, h5, h6, hf⟩)
            have hdd := Lib.hid (show decide (0 ≤ dby x + cum x k + (d - 1) ∧ dby x + cum x k + (d - 1) ≤ 99999) = true by simp; omega)
            go_wp2_with fail
            refine hid.out.mono ?_
            rintro e w' ⟨rfl, rfl⟩
            rw [hdd.out]
            go_wp2_with fail
            go_ret2
            exact ⟨by rw [hvv.out]; rfl, rfl⟩
          · have hvv := Lib.hid (hno.out (fun h => hf h.2.2.2.2.2.2))
            have hdd := Lib.hid (show decide (0 ≤ dby x + cum x k + (d - 1) ∧ dby x + cum x k + (d - 1) ≤ 99999) = false by simp; omega)
            go_wp2_with fail
            refine hid.out.mono ?_
            rintro e w' ⟨rfl, rfl⟩
            rw [hdd.out]
            go_wp2_with fail
            go_ret2
            exact ⟨by rw [hvv.out]; rfl, rfl⟩
set_option maxHeartbeats 1000000 in
theorem rof_any (y m d : Int) (w : World) :
    Calls Tryd.prog 10 #[.int .i64 y, .int .i64 m, .int .i64 d] w fun e w' => e = .returned (.tuple #[.int .i64 (ofN y m d), .int .i64 (ofE y m d)]) ∧ Below w.heap.size w w' := by
  by_cases h1 : 1970 ≤ y
  case neg =>
    have hv := Lib.hid (ofNo y m d (fun h => h1 h.1))
    go_enter Tryd.func10, Tryd.ntmps10
    go_wp2_with fail
    go_ret2
    exact ⟨by rw [hv.out]; rfl, Below.refl _ _⟩
  by_cases h2 : y ≤ 2243
  case neg =>
    have hv := Lib.hid (ofNo y m d (fun h => h2 h.2.1))
    go_enter Tryd.func10, Tryd.ntmps10
    go_wp2_with fail
    go_ret2
    exact ⟨by rw [hv.out]; rfl, Below.refl _ _⟩
  by_cases h3 : 1 ≤ m
  case neg =>
    have hv := Lib.hid (ofNo y m d (fun h => h3 h.2.2.1))
    go_enter Tryd.func10, Tryd.ntmps10
    go_wp2_with fail
    go_ret2
    exact ⟨by rw [hv.out]; rfl, Below.refl _ _⟩
  by_cases h4 : m ≤ 12
  case neg =>
    have hv := Lib.hid (ofNo y m d (fun h => h4 h.2.2.2.1))
    go_enter Tryd.func10, Tryd.ntmps10
    go_wp2_with fail
    go_ret2
    exact ⟨by rw [hv.out]; rfl, Below.refl _ _⟩
  by_cases h5 : 1 ≤ d
  case neg =>
    have hv := Lib.hid (ofNo y m d (fun h => h5 h.2.2.2.2.1))
    go_enter Tryd.func10, Tryd.ntmps10
    go_wp2_with fail
    go_ret2
    exact ⟨by rw [hv.out]; rfl, Below.refl _ _⟩
  have hln := Lib.hid (days_any y m w (by omega) h3 h4)
  by_cases h6 : d ≤ ml y m
  case neg =>
    have hv := Lib.hid (ofNo y m d (fun h => h6 h.2.2.2.2.2.1))
    go_enter Tryd.func10, Tryd.ntmps10
    go_wp2_with fail
    refine hln.out.mono ?_
    rintro e w' ⟨rfl, hb⟩
    go_wp2_with fail
    go_ret2
    exact ⟨by rw [hv.out]; rfl, hb⟩
  have hmb := ml_bd y m
  have hyes := Lib.hid (ofYes y m d)
  have hno := Lib.hid (ofNo y m d)
  have hdb := dby_bd y h1
  go_enter Tryd.func10, Tryd.ntmps10
  go_wp2_with fail
  refine hln.out.mono ?_
  rintro e w1 ⟨rfl, hb1⟩
  go_wp2_with fail
  refine (before_any y w1 h1 (by omega)).mono ?_
  rintro e w' ⟨rfl, rfl⟩
  go_wp2_with fail
  go_loopw [8, 9] (fun n i wr => ∃ k : Int, 1 ≤ k ∧ k ≤ m ∧ i = .int .i64 k ∧ n = .int .i64 (dby y + cum y k) ∧ Below w.heap.size w wr) (fun _ i _ => (m - intOf i).toNat)
  case atStart => exact ⟨1, by omega, h3, rfl, i64_eq (by rw [cum_1]; omega), hb1⟩
  case round =>
    obtain ⟨k, hk1, hk2, rfl, rfl, hbw⟩ := hrel
    have hcb := cum_bd y k hk1
    have hcs := Lib.hid (cum_succ y k hk1)
    have hle := Lib.hid (days_any y k wr (by omega) hk1 (by omega))
    have hyb := ml_bd y k
    have HBW := Lib.hid hbw
    clear hbw hb1 hln
    rcases Int.lt_or_eq_of_le hk2 with hkt | rfl
    · generalize cum y k = c at hcb hcs
      go_wp2_with fail
      refine hle.out.mono ?_
      rintro e w2 ⟨rfl, hb2⟩
      go_wp2_with fail
      go_roundw
      case rel => exact ⟨k + 1, by omega, by omega, rfl, i64_eq (by rw [hcs.out]; omega), below2 HBW.out hb2⟩
      case measure => simp [intOf]; omega
    · clear hcs hle hyb
      by_cases hf : dby y + cum y k + (d - 1) ≤ 99999
      · have hvv := Lib.hid (hyes.out ⟨h1, h2, h3, h4, h5, h6, hf⟩)
        go_wp2_with fail
        go_ret2
        exact ⟨by rw [hvv.out]; rfl, HBW.out⟩
      · have hvv := Lib.hid (hno.out (fun h => hf h.2.2.2.2.2.2))
        go_wp2_with fail
        go_ret2
        exact ⟨by rw [hvv.out]; rfl, HBW.out⟩
end Go.Proofs.YtijceaapfbpfcaaDoor
