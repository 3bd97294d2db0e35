/- The walks of Scale and what it calls, of the program and of the reference. -/
import Derived.Test.YtadehobimlpmcaaDoorCmp
import Derived.Test.YtadehobimlpmcaaDoorSpt
import Derived.Test.YtadehobimlpmcaaDoorRdiv
namespace Go.Proofs.YtadehobimlpmcaaDoor
set_option linter.unusedVariables false
open Go.RowKit

def upQ (q r d m : Nat) : Bool := (decide (m = 2) && decide (0 < r)) || (decide (m = 3) && decide (d ≤ 2 * r)) || (decide (m = 4) && (decide (d < 2 * r) || (decide (2 * r = d) && decide (q % 2 = 1))))
def rndQ (q r d m : Nat) : Nat := if upQ q r d m = true then q + 1 else q
theorem rnd_up {q r d m : Nat} (h : upQ q r d m = true) : rndQ q r d m = q + 1 := by unfold rndQ; rw [if_pos h]
theorem rnd_no {q r d m : Nat} (h : upQ q r d m = false) : rndQ q r d m = q := by unfold rndQ; rw [h]; rfl
theorem rnd_le (q r d m : Nat) : q ≤ rndQ q r d m ∧ rndQ q r d m ≤ q + 1 := by unfold rndQ; split <;> omega
set_option maxHeartbeats 3200000 in
theorem rnd_any (q r d m : Nat) (w : World) (hr : r < d) (hd : d ≤ 1099511627776) (hq : q ≤ 4503599627370497) (h1 : 1 ≤ m) (h4 : m ≤ 4) :
    Calls Tryd.prog 32 #[.int .u64 q, .int .u64 r, .int .u64 d, .int .i64 m] w fun e w' => e = .returned (.int .u64 (rndQ q r d m)) ∧ w = w' := by
  have hm : m = 1 ∨ m = 2 ∨ m = 3 ∨ m = 4 := by omega
  have e2 : IntKind.u64.wrap (2 * (r : Int)) = 2 * (r : Int) := wrapU_in _ (by omega) (by omega)
  have e3 : IntKind.u64.wrap ((q : Int) + 1) = (q : Int) + 1 := wrapU_in _ (by omega) (by omega)
  rcases hm with rfl | rfl | rfl | rfl
  · have hu := Lib.hid (rnd_no (q := q) (r := r) (d := d) (m := 1) (by simp [upQ]))
    generalize rndQ q r d 1 = N at *
    clear hr hd hq h1 h4
    go_enter Tryd.func32, Tryd.ntmps32
    go_wp2_with fail
    go_ret
    exact ⟨by rw [hu.out]; rfl, rfl⟩
  · by_cases hr0 : 0 < r
    · have hu := Lib.hid (rnd_up (q := q) (r := r) (d := d) (m := 2) (by simp [upQ]; omega))
      generalize rndQ q r d 2 = N at *
      have hr1 : (0 : Int) < (r : Int) := by omega
      clear hr hd hq h1 h4 e2
      go_enter Tryd.func32, Tryd.ntmps32
      go_wp2_with fail
      go_ret
      exact ⟨by rw [hu.out]; rfl, rfl⟩
    · have hu := Lib.hid (rnd_no (q := q) (r := r) (d := d) (m := 2) (by simp [upQ]; omega))
      generalize rndQ q r d 2 = N at *
      have hr1 : ¬ (0 : Int) < (r : Int) := by omega
      clear hr hd hq h1 h4 e2
      go_enter Tryd.func32, Tryd.ntmps32
      go_wp2_with fail
      go_ret
      exact ⟨by rw [hu.out]; rfl, rfl⟩
  · by_cases hr0 : d ≤ 2 * r
    · have hu := Lib.hid (rnd_up (q := q) (r := r) (d := d) (m := 3) (by simp [upQ]; omega))
      generalize rndQ q r d 3 = N at *
      have hr1 : (d : Int) ≤ 2 * (r : Int) := by omega
      clear hr hd hq h1 h4 hr0
      go_enter Tryd.func32, Tryd.ntmps32
      go_wp2_with fail
      go_ret
      exact ⟨by rw [hu.out]; rfl, rfl⟩
    · have hu := Lib.hid (rnd_no (q := q) (r := r) (d := d) (m := 3) (by simp [upQ]; omega))
      generalize rndQ q r d 3 = N at *
      have hr1 : ¬ (d : Int) ≤ 2 * (r : Int) := by omega
      clear hr hd hq h1 h4 hr0
      go_enter Tryd.func32, Tryd.ntmps32
      go_wp2_with fail
      go_ret
      exact ⟨by rw [hu.out]; rfl, rfl⟩
  · by_cases hr0 : d < 2 * r
    · have hu := Lib.hid (rnd_up (q := q) (r := r) (d := d) (m := 4) (by simp [upQ]; omega))
      generalize rndQ q r d 4 = N at *
      have hr1 : decide ((d : Int) < 2 * (r : Int)) = true := decide_eq_true (by omega)
      clear hr hd hq h1 h4 hr0
      go_enter Tryd.func32, Tryd.ntmps32
      go_wp2_with fail
      go_ret
      exact ⟨by rw [hu.out]; rfl, rfl⟩
    · have hr1 : decide ((d : Int) < 2 * (r : Int)) = false := decide_eq_false (by omega)
      by_cases hre : 2 * r = d
      · have hr2 : (2 * (r : Int) == (d : Int)) = true := beq_iff_eq.2 (by omega)
        by_cases hq1 : q % 2 = 1
        · have hu := Lib.hid (rnd_up (q := q) (r := r) (d := d) (m := 4) (by simp [upQ]; omega))
          generalize rndQ q r d 4 = N at *
          have hr3 : ((q : Int) % 2 == 1) = true := beq_iff_eq.2 (by omega)
          clear hr hd hq h1 h4 hr0 hre hq1
          go_enter Tryd.func32, Tryd.ntmps32
          go_wp2_with fail
          go_ret
          exact ⟨by rw [hu.out]; rfl, rfl⟩
        · have hu := Lib.hid (rnd_no (q := q) (r := r) (d := d) (m := 4) (by simp [upQ]; omega))
          generalize rndQ q r d 4 = N at *
          have hr3 : ((q : Int) % 2 == 1) = false := beq_eq_false_iff_ne.2 (by omega)
          clear hr hd hq h1 h4 hr0 hre hq1
          go_enter Tryd.func32, Tryd.ntmps32
          go_wp2_with fail
          go_ret
          exact ⟨by rw [hu.out]; rfl, rfl⟩
      · have hr2 : (2 * (r : Int) == (d : Int)) = false := beq_eq_false_iff_ne.2 (by omega)
        have hu := Lib.hid (rnd_no (q := q) (r := r) (d := d) (m := 4) (by simp [upQ]; omega))
        generalize rndQ q r d 4 = N at *
        clear hr hd hq h1 h4 hr0 hre
        go_enter Tryd.func32, Tryd.ntmps32
        go_wp2_with fail
        go_ret
        exact ⟨by rw [hu.out]; rfl, rfl⟩
set_option maxHeartbeats 3200000 in
theorem rrnd_any (q r d m : Nat) (w : World) (hr : r < d) (hd : d ≤ 1099511627776) (hq : q ≤ 4503599627370497) (h1 : 1 ≤ m) (h4 : m ≤ 4) :
    Calls Tryd.prog 35 #[.int .i64 q, .int .i64 r, .int .i64 d, .int .i64 m] w fun e w' => e = .returned (.int .i64 (rndQ q r d m)) ∧ w = w' := by
  have hm : m = 1 ∨ m = 2 ∨ m = 3 ∨ m = 4 := by omega
  have e2 : IntKind.i64.wrap (2 * (r : Int)) = 2 * (r : Int) := IntWalk.i64_in _ (by omega)
  have e3 : IntKind.i64.wrap ((q : Int) + 1) = (q : Int) + 1 := IntWalk.i64_in _ (by omega)
  rcases hm with rfl | rfl | rfl | rfl
  · have hu := Lib.hid (rnd_no (q := q) (r := r) (d := d) (m := 1) (by simp [upQ]))
    generalize rndQ q r d 1 = N at *
    clear hr hd hq h1 h4
    go_enter Tryd.func35, Tryd.ntmps35
    go_wp2_with fail
    go_ret
    exact ⟨by rw [hu.out]; rfl, rfl⟩
  · by_cases hr0 : 0 < r
    · have hu := Lib.hid (rnd_up (q := q) (r := r) (d := d) (m := 2) (by simp [upQ]; omega))
      generalize rndQ q r d 2 = N at *
      have hr1 : (0 : Int) < (r : Int) := by omega
      clear hr hd hq h1 h4 e2
      go_enter Tryd.func35, Tryd.ntmps35
      go_wp2_with fail
      go_ret
      exact ⟨by rw [hu.out]; rfl, rfl⟩
    · have hu := Lib.hid (rnd_no (q := q) (r := r) (d := d) (m := 2) (by simp [upQ]; omega))
      generalize rndQ q r d 2 = N at *
      have hr1 : ¬ (0 : Int) < (r : Int) := by omega
      clear hr hd hq h1 h4 e2
      go_enter Tryd.func35, Tryd.ntmps35
      go_wp2_with fail
      go_ret
      exact ⟨by rw [hu.out]; rfl, rfl⟩
  · by_cases hr0 : d ≤ 2 * r
    · have hu := Lib.hid (rnd_up (q := q) (r := r) (d := d) (m := 3) (by simp [upQ]; omega))
      generalize rndQ q r d 3 = N at *
      have hr1 : (d : Int) ≤ 2 * (r : Int) := by omega
      clear hr hd hq h1 h4 hr0
      go_enter Tryd.func35, Tryd.ntmps35
      go_wp2_with fail
      go_ret
      exact ⟨by rw [hu.out]; rfl, rfl⟩
    · have hu := Lib.hid (rnd_no (q := q) (r := r) (d := d) (m := 3) (by simp [upQ]; omega))
      generalize rndQ q r d 3 = N at *
      have hr1 : ¬ (d : Int) ≤ 2 * (r : Int) := by omega
      clear hr hd hq h1 h4 hr0
      go_enter Tryd.func35, Tryd.ntmps35
      go_wp2_with fail
      go_ret
      exact ⟨by rw [hu.out]; rfl, rfl⟩
  · by_cases hr0 : d < 2 * r
    · have hu := Lib.hid (rnd_up (q := q) (r := r) (d := d) (m := 4) (by simp [upQ]; omega))
      generalize rndQ q r d 4 = N at *
      have hr1 : decide ((d : Int) < 2 * (r : Int)) = true := decide_eq_true (by omega)
      clear hr hd hq h1 h4 hr0
      go_enter Tryd.func35, Tryd.ntmps35
      go_wp2_with fail
      go_ret
      exact ⟨by rw [hu.out]; rfl, rfl⟩
    · have hr1 : decide ((d : Int) < 2 * (r : Int)) = false := decide_eq_false (by omega)
      by_cases hre : 2 * r = d
      · have hr2 : (2 * (r : Int) == (d : Int)) = true := beq_iff_eq.2 (by omega)
        by_cases hq1 : q % 2 = 1
        · have hu := Lib.hid (rnd_up (q := q) (r := r) (d := d) (m := 4) (by simp [upQ]; omega))
          generalize rndQ q r d 4 = N at *
          have hr3 : ((q : Int) % 2 == 1) = true := beq_iff_eq.2 (by omega)
          clear hr hd hq h1 h4 hr0 hre hq1
          go_enter Tryd.func35, Tryd.ntmps35
          go_wp2_with fail
          go_ret
          exact ⟨by rw [hu.out]; rfl, rfl⟩
        · have hu := Lib.hid (rnd_no (q := q) (r := r) (d := d) (m := 4) (by simp [upQ]; omega))
          generalize rndQ q r d 4 = N at *
          have hr3 : ((q : Int) % 2 == 1) = false := beq_eq_false_iff_ne.2 (by omega)
          clear hr hd hq h1 h4 hr0 hre hq1
          go_enter Tryd.func35, Tryd.ntmps35
          go_wp2_with fail
          go_ret
          exact ⟨by rw [hu.out]; rfl, rfl⟩
      · have hr2 : (2 * (r : Int) == (d : Int)) = false := beq_eq_false_iff_ne.2 (by omega)
        have hu := Lib.hid (rnd_no (q := q) (r := r) (d := d) (m := 4) (by simp [upQ]; omega))
        generalize rndQ q r d 4 = N at *
        clear hr hd hq h1 h4 hr0 hre
        go_enter Tryd.func35, Tryd.ntmps35
        go_wp2_with fail
        go_ret
        exact ⟨by rw [hu.out]; rfl, rfl⟩
def M52 : Nat := 4503599627370496
/-- The parameters of Scale are permitted. -/
def parB (num den mode : Int) : Bool := decide (1 ≤ den) && decide (den ≤ 1099511627776) && decide (-1099511627776 ≤ num) && decide (num ≤ 1099511627776) && decide (1 ≤ mode) && decide (mode ≤ 4)
theorem parB_iff (num den mode : Int) : parB num den mode = true ↔ 1 ≤ den ∧ den ≤ 1099511627776 ∧ -1099511627776 ≤ num ∧ num ≤ 1099511627776 ∧ 1 ≤ mode ∧ mode ≤ 4 := by
  unfold parB; simp only [Bool.and_eq_true, decide_eq_true_eq]; omega
/-- The magnitude of what Scale returns. -/
def sclQ (a num den mode : Int) : Nat := rndQ (a.natAbs * num.natAbs / den.toNat) (a.natAbs * num.natAbs % den.toNat) den.toNat mode.toNat
def sclN (a num den mode : Int) : Int := if decide (a < 0) = decide (num < 0) then (sclQ a num den mode : Int) else -(sclQ a num den mode : Int)
def sclE (a : Int) (cur : ByteArray) (num den mode : Int) : Int := if monE a cur ≠ 0 then monE a cur else if parB num den mode = false then 4 else if sclQ a num den mode ≤ M52 then 0 else 4
def sclV (a : Int) (cur : ByteArray) (num den mode : Int) : Value := if sclE a cur num den mode = 0 then monV (sclN a num den mode) cur else zeroM
def SclPost (a : Int) (cur : ByteArray) (num den mode : Int) (w : World) (e : Ending) (w' : World) : Prop := e = .returned (.tuple #[sclV a cur num den mode, .int .i64 (sclE a cur num den mode)]) ∧ Below w.heap.size w w'
theorem scl_bad {a : Int} {cur : ByteArray} {num den mode : Int} {me : Int} (h : monE a cur = me) (h0 : me ≠ 0) : sclE a cur num den mode = me ∧ sclV a cur num den mode = zeroM := by
  have : sclE a cur num den mode = me := by unfold sclE; rw [if_pos (by rw [h]; exact h0)]; exact h
  exact ⟨this, by unfold sclV; rw [this, if_neg h0]⟩
theorem scl_par {a : Int} {cur : ByteArray} {num den mode : Int} (h : monE a cur = 0) (h0 : parB num den mode = false) : sclE a cur num den mode = 4 ∧ sclV a cur num den mode = zeroM := by
  have : sclE a cur num den mode = 4 := by unfold sclE; rw [if_neg (by rw [h]; simp), if_pos h0]
  exact ⟨this, by unfold sclV; rw [this]; rfl⟩
theorem scl_out {a : Int} {cur : ByteArray} {num den mode : Int} (h : monE a cur = 0) (h0 : parB num den mode = true) (hq : M52 < sclQ a num den mode) : sclE a cur num den mode = 4 ∧ sclV a cur num den mode = zeroM := by
  have : sclE a cur num den mode = 4 := by unfold sclE; rw [if_neg (by rw [h]; simp), if_neg (by rw [h0]; simp), if_neg (by omega)]
  exact ⟨this, by unfold sclV; rw [this]; rfl⟩
theorem scl_in {a : Int} {cur : ByteArray} {num den mode : Int} (h : monE a cur = 0) (h0 : parB num den mode = true) (hq : sclQ a num den mode ≤ M52) : sclE a cur num den mode = 0 ∧ sclV a cur num den mode = monV (sclN a num den mode) cur := by
  have : sclE a cur num den mode = 0 := by unfold sclE; rw [if_neg (by rw [h]; simp), if_neg (by rw [h0]; simp), if_pos hq]
  exact ⟨this, by unfold sclV; rw [this]; rfl⟩
set_option maxHeartbeats 1600000 in
theorem scale_bad (a : Int) (cur : ByteArray) (num den mode : Int) (w : World) (hs : cur.size ≤ maxLen) (hbad : monE a cur ≠ 0 ∨ parB num den mode = false) :
    Calls Tryd.prog 10 #[.agg #[.int .i64 a, .string cur], .int .i64 num, .int .i64 den, .int .i64 mode] w (SclPost a cur num den mode w) := by
  have HP := Lib.hid (fun W => mon_any a cur W hs)
  obtain ⟨ME, hme⟩ : ∃ ME, monE a cur = ME := ⟨_, rfl⟩
  rw [hme] at HP
  clear hs
  by_cases h1 : ME = 0
  · subst h1
    have hp : parB num den mode = false := by rcases hbad with h | h; exact absurd hme h; exact h
    have HV := Lib.hid (scl_par (a := a) (cur := cur) hme hp)
    have hcase : den < 1 ∨ (¬ den < 1 ∧ 1099511627776 < den) ∨ (¬ den < 1 ∧ ¬ 1099511627776 < den ∧ num < -1099511627776) ∨ (¬ den < 1 ∧ ¬ 1099511627776 < den ∧ ¬ num < -1099511627776 ∧ 1099511627776 < num) ∨ (¬ den < 1 ∧ ¬ 1099511627776 < den ∧ ¬ num < -1099511627776 ∧ ¬ 1099511627776 < num ∧ mode < 1) ∨ (¬ den < 1 ∧ ¬ 1099511627776 < den ∧ ¬ num < -1099511627776 ∧ ¬ 1099511627776 < num ∧ ¬ mode < 1 ∧ 4 < mode) := by
      have : ¬ (1 ≤ den ∧ den ≤ 1099511627776 ∧ -1099511627776 ≤ num ∧ num ≤ 1099511627776 ∧ 1 ≤ mode ∧ mode ≤ 4) := by rw [← parB_iff, hp]; simp
      omega
    clear hbad hme hp
    rcases hcase with q1 | ⟨q1, q2⟩ | ⟨q1, q2, q3⟩ | ⟨q1, q2, q3, q4⟩ | ⟨q1, q2, q3, q4, q5⟩ | ⟨q1, q2, q3, q4, q5, q6⟩
    all_goals
      go_enter Tryd.func10, Tryd.ntmps10
      go_wp2_with fail
      refine (HP.out _).mono ?_
      rintro e w1 ⟨rfl, hb⟩
      obtain ⟨k1, k2, hz, hb1⟩ := box2 hb
      have d0 := cell_c k2 0
      have d1 := cell_c k2 1
      have f0 := cell_f k2 0
      have f1 := cell_f k2 1
      have HB1 := Lib.hid hb1
      clear hb k1 k2 hb1
      go_wp2_with fail
      refine bodyPost_ret (v := .tuple #[zeroM, .int .i64 4]) ?_ rfl ?_
      · have hres : Tryd.f10.results = #[.cell 8 23, .tmp 9] := by kernel_rfl
        simp only [results, hres]
        go_simp
        rfl
      · exact ⟨by rw [HV.out.1, HV.out.2], (HB1.out.setCell (p := ⟨w.heap.size + 1, 0, none⟩) (by simp) _).setCell (p := ⟨w.heap.size + 1, 1, none⟩) (by simp) _⟩
  · have h1' : (ME != 0) = true := bne_iff_ne.2 h1
    have HV := Lib.hid (scl_bad (num := num) (den := den) (mode := mode) hme h1)
    clear h1 hbad hme
    go_enter Tryd.func10, Tryd.ntmps10
    go_wp2_with fail
    refine (HP.out _).mono ?_
    rintro e w1 ⟨rfl, hb⟩
    obtain ⟨k1, k2, hz, hb1⟩ := box2 hb
    have d0 := cell_c k2 0
    have d1 := cell_c k2 1
    have f0 := cell_f k2 0
    have f1 := cell_f k2 1
    have HB1 := Lib.hid hb1
    clear hb k1 k2 hb1
    go_wp2_with fail
    refine bodyPost_ret (v := .tuple #[zeroM, .int .i64 ME]) ?_ rfl ?_
    · have hres : Tryd.f10.results = #[.cell 8 23, .tmp 9] := by kernel_rfl
      simp only [results, hres]
      go_simp
      rfl
    · exact ⟨by rw [HV.out.1, HV.out.2], (HB1.out.setCell (p := ⟨w.heap.size + 1, 0, none⟩) (by simp) _).setCell (p := ⟨w.heap.size + 1, 1, none⟩) (by simp) _⟩
end Go.Proofs.YtadehobimlpmcaaDoor
