/- The walk of SchemeSaves, where the two numbers are passed over. -/
import Derived.Test.YtfhiepcjkocnlaaSav
namespace Go.Proofs.Ytfhiepcjkocnlaa
set_option linter.unusedVariables false
open Go.RowKit

set_option maxRecDepth 100000 in
set_option maxHeartbeats 12800000 in
theorem saves_a (w : World) (A : Option Addr) (c : Nat) (l : List Tr) (B : Option Addr) (d : Nat) (v : List Vol) (cnt more : Int) (hr : IsRow w A (cellsT l)) (hup : upT l) (hlm : l.length ≤ maxLen) (hv : IsRow w B (cellsV v)) (hvm : v.length ≤ maxLen) (hns : ∀ x ∈ v, x.s.size ≤ maxLen) (hf : fewB l v = true) (h1 : cnt < 0) :
    Calls Try.prog 7 #[.agg #[.slice A l.length c, .slice B v.length d, .int .i64 cnt, .int .i64 more]] w fun e w' => e = .returned (.bool true) ∧ Below w.heap.size w w' := by
  obtain ⟨f1, f2⟩ := fewB_facts hf
  have HFW := Lib.hid (fun W h => few_any A c l B d v W hlm h hvm hns)
  rw [hf] at HFW
  have HR := Lib.hid hr
  have HV := Lib.hid hv
  have HUP := Lib.hid hup
  have HNS := Lib.hid hns
  have q1 : decide (0 ≤ cnt) = false := decide_eq_false (by omega)
  have q2 : ¬ 0 ≤ cnt := by omega
  clear hr hup hlm hv hvm hns hf
  go_enter Try.func7, Try.ntmps7
  go_wp2_with fail
  have hbw := (Below.refl w.heap.size w).alloc (Nat.le_refl _) (.cells #[.slice A l.length c, .slice B v.length d, .int .i64 cnt, .int .i64 more] 49)
  generalize hW : w.alloc (Obj.cells #[.slice A l.length c, .slice B v.length d, .int .i64 cnt, .int .i64 more] 49) = W1 at hbw ⊢
  have x0 : W1.cell? ⟨w.heap.size, 0, none⟩ = some (.slice A l.length c) := by rw [← hW]; simp
  have x1 : W1.cell? ⟨w.heap.size, 1, none⟩ = some (.slice B v.length d) := by rw [← hW]; simp
  have x2 : W1.cell? ⟨w.heap.size, 2, none⟩ = some (.int .i64 cnt) := by rw [← hW]; simp
  have x3 : W1.cell? ⟨w.heap.size, 3, none⟩ = some (.int .i64 more) := by rw [← hW]; simp
  have HBW := Lib.hid hbw
  clear hW hbw
  go_quiet (fail)
  clear x0 x1 x2 x3
  have HB8 := Lib.hid (dNb HBW.out nq)
  have HV8 := Lib.hid (HV.out.below HB8.out)
  have HR8 := Lib.hid (HR.out.below HB8.out)
  generalize W1.drewN nq = w9 at HB8 HV8 HR8 ⊢
  go_wp2_with fail
  refine (HFW.out _ HV8.out).mono ?_
  rintro e w7 ⟨rfl, rfl⟩
  go_wp2_with fail
  have HB9 := HB8
  have HR9 := HR8
  have HV9 := HV8
  go_loopw [11] (fun i wr => ∃ k m : Nat, i = .int .i64 ((k : Int) + 1) ∧ k ≤ l.length ∧ Hid (∀ j, 0 < j → j < k + 1 → j < l.length → (l.getD j default).p ≤ (l.getD (j - 1) default).p) ∧ wr = w9.drewN m) (fun i _ => l.length - (intOf i).toNat)
  case atStart => exact ⟨0, 0, rfl, by omega, Lib.hid (fun j h1 h2 => by omega), rfl⟩
  case round =>
    obtain ⟨k, m, rfl, hkl, hall, rfl⟩ := hrel
    by_cases hlt : k + 1 < l.length
    · rcases HR9.out with h0 | ⟨b, off, rfl, hc⟩
      · rw [cellsT_length] at h0; omega
      have c1 := (row_tier hc (k + 1) hlt).2
      have c0 := (row_tier hc k (by omega)).2
      rw [← getD_at l (k + 1) hlt] at c1
      rw [← getD_at l k (by omega)] at c0
      have hst := Lib.hid (show (l.getD (k + 1) default).p ≤ (l.getD k default).p → ∀ j, 0 < j → j < k + 1 + 1 → j < l.length → (l.getD j default).p ≤ (l.getD (j - 1) default).p from fun h j h1 h2 h3 => by
        rcases Nat.lt_or_ge j (k + 1) with q | q
        · exact hall.out j h1 q h3
        · obtain rfl : j = k + 1 := by omega
          rw [Nat.add_sub_cancel]; exact h)
      obtain ⟨p1, hp1⟩ : ∃ p1, (l.getD (k + 1) default).p = p1 := ⟨_, rfl⟩
      obtain ⟨p0, hp0⟩ : ∃ p0, (l.getD k default).p = p0 := ⟨_, rfl⟩
      rw [hp1] at c1 hst
      rw [hp0] at c0 hst
      have hwp : IntKind.i64.wrap (k : Int) = (k : Int) := IntWalk.i64_in _ (by omega)
      have i0 : (0 : Int) ≤ (k : Int) + 1 := by omega
      have i1 : (k : Int) + 1 < (l.length : Int) := by omega
      have i2 : (k : Int) < (l.length : Int) := by omega
      have i3 : ((k : Int) + 1).toNat = k + 1 := by omega
      clear hc hp1 hp0
      by_cases hgt : p0 < p1
      · go_wp2_with fail
        go_quiet (fail)
        clear hwp i3
        go_wp2_with fail
        refine (awake_any _).mono ?_
        rintro e w4 ⟨rfl, hb⟩
        go_wp2_with fail
        go_ret
        exact ⟨rfl, HB9.out.trans (((below_drewN w9 _).trans (hb.mono (Nat.le_refl _))).mono HB9.out.size)⟩
      · have HALL := Lib.hid (hst.out (by omega))
        go_wp2_with fail
        go_quiet (fail)
        clear hwp i3
        go_wp2_with fail
        go_roundw
        case rel => exact ⟨k + 1, _, by go_num, by omega, HALL, rfl⟩
        case measure => simp [intOf]; omega
    · have hdes := des_of l (fun i h1 h2 => hall.out i h1 (by omega) h2)
      have HS := Lib.hid (saved_any A c l B d v (w9.drewN m) (HR9.out.below (below_drewN w9 m)) (by omega) HUP.out (HV9.out.below (below_drewN w9 m)) (by omega) HNS.out)
      have hnv : -9223372036854775807 ≤ -(v.length : Int) := by omega
      by_cases hz : wholeE l v = 0
      · have hge := saved_ge hz hdes
        have hsv : savV l v = sepF l v v.length - wholeV l v := by unfold savV; rw [if_pos hz]
        rw [hz] at HS
        rw [← hsv] at hge
        obtain ⟨sv, hsve⟩ : ∃ sv, savV l v = sv := ⟨_, rfl⟩
        rw [hsve] at HS hge
        clear hdes hz hsv hsve
        go_wp2_with fail
        refine HS.out.mono ?_
        rintro e w5 ⟨rfl, hb⟩
        have HB5 := Lib.hid (HB9.out.trans (((below_drewN w9 m).trans (hb.mono (Nat.le_refl _))).mono HB9.out.size))
        clear hb
        go_wp2_with fail
        refine (awake_any _).mono ?_
        rintro e w6 ⟨rfl, hb⟩
        go_wp2_with fail
        go_ret
        exact ⟨rfl, HB5.out.trans (hb.mono HB5.out.size)⟩
      · have hsv : savV l v = 0 := by unfold savV; rw [if_neg hz]
        rw [hsv] at HS
        obtain ⟨e0, he0⟩ : ∃ e0, wholeE l v = e0 := ⟨_, rfl⟩
        rw [he0] at HS hz
        have hzb : (e0 != 0) = true := bne_iff_ne.2 hz
        clear hdes hz hsv he0
        go_wp2_with fail
        refine HS.out.mono ?_
        rintro e w5 ⟨rfl, hb⟩
        have HB5 := Lib.hid (HB9.out.trans (((below_drewN w9 m).trans (hb.mono (Nat.le_refl _))).mono HB9.out.size))
        clear hb
        go_wp2_with fail
        refine (awake_any _).mono ?_
        rintro e w6 ⟨rfl, hb⟩
        go_wp2_with fail
        go_ret
        exact ⟨rfl, HB5.out.trans (hb.mono HB5.out.size)⟩
set_option maxRecDepth 100000 in
set_option maxHeartbeats 12800000 in
theorem saves_b (w : World) (A : Option Addr) (c : Nat) (l : List Tr) (B : Option Addr) (d : Nat) (v : List Vol) (cnt more : Int) (hr : IsRow w A (cellsT l)) (hup : upT l) (hlm : l.length ≤ maxLen) (hv : IsRow w B (cellsV v)) (hvm : v.length ≤ maxLen) (hns : ∀ x ∈ v, x.s.size ≤ maxLen) (hf : fewB l v = true) (h1 : 0 ≤ cnt) (h2 : 1000000000 < cnt) :
    Calls Try.prog 7 #[.agg #[.slice A l.length c, .slice B v.length d, .int .i64 cnt, .int .i64 more]] w fun e w' => e = .returned (.bool true) ∧ Below w.heap.size w w' := by
  obtain ⟨f1, f2⟩ := fewB_facts hf
  have HFW := Lib.hid (fun W h => few_any A c l B d v W hlm h hvm hns)
  rw [hf] at HFW
  have HR := Lib.hid hr
  have HV := Lib.hid hv
  have HUP := Lib.hid hup
  have HNS := Lib.hid hns
  have q1 : decide (cnt ≤ 1000000000) = false := decide_eq_false (by omega)
  have q2 : ¬ cnt ≤ 1000000000 := by omega
  clear hr hup hlm hv hvm hns hf
  go_enter Try.func7, Try.ntmps7
  go_wp2_with fail
  have hbw := (Below.refl w.heap.size w).alloc (Nat.le_refl _) (.cells #[.slice A l.length c, .slice B v.length d, .int .i64 cnt, .int .i64 more] 49)
  generalize hW : w.alloc (Obj.cells #[.slice A l.length c, .slice B v.length d, .int .i64 cnt, .int .i64 more] 49) = W1 at hbw ⊢
  have x0 : W1.cell? ⟨w.heap.size, 0, none⟩ = some (.slice A l.length c) := by rw [← hW]; simp
  have x1 : W1.cell? ⟨w.heap.size, 1, none⟩ = some (.slice B v.length d) := by rw [← hW]; simp
  have x2 : W1.cell? ⟨w.heap.size, 2, none⟩ = some (.int .i64 cnt) := by rw [← hW]; simp
  have x3 : W1.cell? ⟨w.heap.size, 3, none⟩ = some (.int .i64 more) := by rw [← hW]; simp
  have HBW := Lib.hid hbw
  clear hW hbw
  go_quiet (fail)
  clear x0 x1 x2 x3
  have HB8 := Lib.hid (dNb HBW.out nq)
  have HV8 := Lib.hid (HV.out.below HB8.out)
  have HR8 := Lib.hid (HR.out.below HB8.out)
  generalize W1.drewN nq = w9 at HB8 HV8 HR8 ⊢
  go_wp2_with fail
  refine (HFW.out _ HV8.out).mono ?_
  rintro e w7 ⟨rfl, rfl⟩
  go_wp2_with fail
  have HB9 := HB8
  have HR9 := HR8
  have HV9 := HV8
  go_loopw [11] (fun i wr => ∃ k m : Nat, i = .int .i64 ((k : Int) + 1) ∧ k ≤ l.length ∧ Hid (∀ j, 0 < j → j < k + 1 → j < l.length → (l.getD j default).p ≤ (l.getD (j - 1) default).p) ∧ wr = w9.drewN m) (fun i _ => l.length - (intOf i).toNat)
  case atStart => exact ⟨0, 0, rfl, by omega, Lib.hid (fun j h1 h2 => by omega), rfl⟩
  case round =>
    obtain ⟨k, m, rfl, hkl, hall, rfl⟩ := hrel
    by_cases hlt : k + 1 < l.length
    · rcases HR9.out with h0 | ⟨b, off, rfl, hc⟩
      · rw [cellsT_length] at h0; omega
      have c1 := (row_tier hc (k + 1) hlt).2
      have c0 := (row_tier hc k (by omega)).2
      rw [← getD_at l (k + 1) hlt] at c1
      rw [← getD_at l k (by omega)] at c0
      have hst := Lib.hid (show (l.getD (k + 1) default).p ≤ (l.getD k default).p → ∀ j, 0 < j → j < k + 1 + 1 → j < l.length → (l.getD j default).p ≤ (l.getD (j - 1) default).p from fun h j h1 h2 h3 => by
        rcases Nat.lt_or_ge j (k + 1) with q | q
        · exact hall.out j h1 q h3
        · obtain rfl : j = k + 1 := by omega
          rw [Nat.add_sub_cancel]; exact h)
      obtain ⟨p1, hp1⟩ : ∃ p1, (l.getD (k + 1) default).p = p1 := ⟨_, rfl⟩
      obtain ⟨p0, hp0⟩ : ∃ p0, (l.getD k default).p = p0 := ⟨_, rfl⟩
      rw [hp1] at c1 hst
      rw [hp0] at c0 hst
      have hwp : IntKind.i64.wrap (k : Int) = (k : Int) := IntWalk.i64_in _ (by omega)
      have i0 : (0 : Int) ≤ (k : Int) + 1 := by omega
      have i1 : (k : Int) + 1 < (l.length : Int) := by omega
      have i2 : (k : Int) < (l.length : Int) := by omega
      have i3 : ((k : Int) + 1).toNat = k + 1 := by omega
      clear hc hp1 hp0
      by_cases hgt : p0 < p1
      · go_wp2_with fail
        go_quiet (fail)
        clear hwp i3
        go_wp2_with fail
        refine (awake_any _).mono ?_
        rintro e w4 ⟨rfl, hb⟩
        go_wp2_with fail
        go_ret
        exact ⟨rfl, HB9.out.trans (((below_drewN w9 _).trans (hb.mono (Nat.le_refl _))).mono HB9.out.size)⟩
      · have HALL := Lib.hid (hst.out (by omega))
        go_wp2_with fail
        go_quiet (fail)
        clear hwp i3
        go_wp2_with fail
        go_roundw
        case rel => exact ⟨k + 1, _, by go_num, by omega, HALL, rfl⟩
        case measure => simp [intOf]; omega
    · have hdes := des_of l (fun i h1 h2 => hall.out i h1 (by omega) h2)
      have HS := Lib.hid (saved_any A c l B d v (w9.drewN m) (HR9.out.below (below_drewN w9 m)) (by omega) HUP.out (HV9.out.below (below_drewN w9 m)) (by omega) HNS.out)
      have hnv : -9223372036854775807 ≤ -(v.length : Int) := by omega
      by_cases hz : wholeE l v = 0
      · have hge := saved_ge hz hdes
        have hsv : savV l v = sepF l v v.length - wholeV l v := by unfold savV; rw [if_pos hz]
        rw [hz] at HS
        rw [← hsv] at hge
        obtain ⟨sv, hsve⟩ : ∃ sv, savV l v = sv := ⟨_, rfl⟩
        rw [hsve] at HS hge
        clear hdes hz hsv hsve
        go_wp2_with fail
        refine HS.out.mono ?_
        rintro e w5 ⟨rfl, hb⟩
        have HB5 := Lib.hid (HB9.out.trans (((below_drewN w9 m).trans (hb.mono (Nat.le_refl _))).mono HB9.out.size))
        clear hb
        go_wp2_with fail
        refine (awake_any _).mono ?_
        rintro e w6 ⟨rfl, hb⟩
        go_wp2_with fail
        go_ret
        exact ⟨rfl, HB5.out.trans (hb.mono HB5.out.size)⟩
      · have hsv : savV l v = 0 := by unfold savV; rw [if_neg hz]
        rw [hsv] at HS
        obtain ⟨e0, he0⟩ : ∃ e0, wholeE l v = e0 := ⟨_, rfl⟩
        rw [he0] at HS hz
        have hzb : (e0 != 0) = true := bne_iff_ne.2 hz
        clear hdes hz hsv he0
        go_wp2_with fail
        refine HS.out.mono ?_
        rintro e w5 ⟨rfl, hb⟩
        have HB5 := Lib.hid (HB9.out.trans (((below_drewN w9 m).trans (hb.mono (Nat.le_refl _))).mono HB9.out.size))
        clear hb
        go_wp2_with fail
        refine (awake_any _).mono ?_
        rintro e w6 ⟨rfl, hb⟩
        go_wp2_with fail
        go_ret
        exact ⟨rfl, HB5.out.trans (hb.mono HB5.out.size)⟩
set_option maxRecDepth 100000 in
set_option maxHeartbeats 12800000 in
theorem saves_c (w : World) (A : Option Addr) (c : Nat) (l : List Tr) (B : Option Addr) (d : Nat) (v : List Vol) (cnt more : Int) (hr : IsRow w A (cellsT l)) (hup : upT l) (hlm : l.length ≤ maxLen) (hv : IsRow w B (cellsV v)) (hvm : v.length ≤ maxLen) (hns : ∀ x ∈ v, x.s.size ≤ maxLen) (hf : fewB l v = true) (h1 : 0 ≤ cnt) (h2 : cnt ≤ 1000000000) (h3 : more < cnt) :
    Calls Try.prog 7 #[.agg #[.slice A l.length c, .slice B v.length d, .int .i64 cnt, .int .i64 more]] w fun e w' => e = .returned (.bool true) ∧ Below w.heap.size w w' := by
  obtain ⟨f1, f2⟩ := fewB_facts hf
  have HFW := Lib.hid (fun W h => few_any A c l B d v W hlm h hvm hns)
  rw [hf] at HFW
  have HR := Lib.hid hr
  have HV := Lib.hid hv
  have HUP := Lib.hid hup
  have HNS := Lib.hid hns
  have q1 : decide (cnt ≤ more) = false := decide_eq_false (by omega)
  have q2 : ¬ cnt ≤ more := by omega
  clear hr hup hlm hv hvm hns hf
  go_enter Try.func7, Try.ntmps7
  go_wp2_with fail
  have hbw := (Below.refl w.heap.size w).alloc (Nat.le_refl _) (.cells #[.slice A l.length c, .slice B v.length d, .int .i64 cnt, .int .i64 more] 49)
  generalize hW : w.alloc (Obj.cells #[.slice A l.length c, .slice B v.length d, .int .i64 cnt, .int .i64 more] 49) = W1 at hbw ⊢
  have x0 : W1.cell? ⟨w.heap.size, 0, none⟩ = some (.slice A l.length c) := by rw [← hW]; simp
  have x1 : W1.cell? ⟨w.heap.size, 1, none⟩ = some (.slice B v.length d) := by rw [← hW]; simp
  have x2 : W1.cell? ⟨w.heap.size, 2, none⟩ = some (.int .i64 cnt) := by rw [← hW]; simp
  have x3 : W1.cell? ⟨w.heap.size, 3, none⟩ = some (.int .i64 more) := by rw [← hW]; simp
  have HBW := Lib.hid hbw
  clear hW hbw
  go_quiet (fail)
  clear x0 x1 x2 x3
  have HB8 := Lib.hid (dNb HBW.out nq)
  have HV8 := Lib.hid (HV.out.below HB8.out)
  have HR8 := Lib.hid (HR.out.below HB8.out)
  generalize W1.drewN nq = w9 at HB8 HV8 HR8 ⊢
  go_wp2_with fail
  refine (HFW.out _ HV8.out).mono ?_
  rintro e w7 ⟨rfl, rfl⟩
  go_wp2_with fail
  have HB9 := HB8
  have HR9 := HR8
  have HV9 := HV8
  go_loopw [11] (fun i wr => ∃ k m : Nat, i = .int .i64 ((k : Int) + 1) ∧ k ≤ l.length ∧ Hid (∀ j, 0 < j → j < k + 1 → j < l.length → (l.getD j default).p ≤ (l.getD (j - 1) default).p) ∧ wr = w9.drewN m) (fun i _ => l.length - (intOf i).toNat)
  case atStart => exact ⟨0, 0, rfl, by omega, Lib.hid (fun j h1 h2 => by omega), rfl⟩
  case round =>
    obtain ⟨k, m, rfl, hkl, hall, rfl⟩ := hrel
    by_cases hlt : k + 1 < l.length
    · rcases HR9.out with h0 | ⟨b, off, rfl, hc⟩
      · rw [cellsT_length] at h0; omega
      have c1 := (row_tier hc (k + 1) hlt).2
      have c0 := (row_tier hc k (by omega)).2
      rw [← getD_at l (k + 1) hlt] at c1
      rw [← getD_at l k (by omega)] at c0
      have hst := Lib.hid (show (l.getD (k + 1) default).p ≤ (l.getD k default).p → ∀ j, 0 < j → j < k + 1 + 1 → j < l.length → (l.getD j default).p ≤ (l.getD (j - 1) default).p from fun h j h1 h2 h3 => by
        rcases Nat.lt_or_ge j (k + 1) with q | q
        · exact hall.out j h1 q h3
        · obtain rfl : j = k + 1 := by omega
          rw [Nat.add_sub_cancel]; exact h)
      obtain ⟨p1, hp1⟩ : ∃ p1, (l.getD (k + 1) default).p = p1 := ⟨_, rfl⟩
      obtain ⟨p0, hp0⟩ : ∃ p0, (l.getD k default).p = p0 := ⟨_, rfl⟩
      rw [hp1] at c1 hst
      rw [hp0] at c0 hst
      have hwp : IntKind.i64.wrap (k : Int) = (k : Int) := IntWalk.i64_in _ (by omega)
      have i0 : (0 : Int) ≤ (k : Int) + 1 := by omega
      have i1 : (k : Int) + 1 < (l.length : Int) := by omega
      have i2 : (k : Int) < (l.length : Int) := by omega
      have i3 : ((k : Int) + 1).toNat = k + 1 := by omega
      clear hc hp1 hp0
      by_cases hgt : p0 < p1
      · go_wp2_with fail
        go_quiet (fail)
        clear hwp i3
        go_wp2_with fail
        refine (awake_any _).mono ?_
        rintro e w4 ⟨rfl, hb⟩
        go_wp2_with fail
        go_ret
        exact ⟨rfl, HB9.out.trans (((below_drewN w9 _).trans (hb.mono (Nat.le_refl _))).mono HB9.out.size)⟩
      · have HALL := Lib.hid (hst.out (by omega))
        go_wp2_with fail
        go_quiet (fail)
        clear hwp i3
        go_wp2_with fail
        go_roundw
        case rel => exact ⟨k + 1, _, by go_num, by omega, HALL, rfl⟩
        case measure => simp [intOf]; omega
    · have hdes := des_of l (fun i h1 h2 => hall.out i h1 (by omega) h2)
      have HS := Lib.hid (saved_any A c l B d v (w9.drewN m) (HR9.out.below (below_drewN w9 m)) (by omega) HUP.out (HV9.out.below (below_drewN w9 m)) (by omega) HNS.out)
      have hnv : -9223372036854775807 ≤ -(v.length : Int) := by omega
      by_cases hz : wholeE l v = 0
      · have hge := saved_ge hz hdes
        have hsv : savV l v = sepF l v v.length - wholeV l v := by unfold savV; rw [if_pos hz]
        rw [hz] at HS
        rw [← hsv] at hge
        obtain ⟨sv, hsve⟩ : ∃ sv, savV l v = sv := ⟨_, rfl⟩
        rw [hsve] at HS hge
        clear hdes hz hsv hsve
        go_wp2_with fail
        refine HS.out.mono ?_
        rintro e w5 ⟨rfl, hb⟩
        have HB5 := Lib.hid (HB9.out.trans (((below_drewN w9 m).trans (hb.mono (Nat.le_refl _))).mono HB9.out.size))
        clear hb
        go_wp2_with fail
        refine (awake_any _).mono ?_
        rintro e w6 ⟨rfl, hb⟩
        go_wp2_with fail
        go_ret
        exact ⟨rfl, HB5.out.trans (hb.mono HB5.out.size)⟩
      · have hsv : savV l v = 0 := by unfold savV; rw [if_neg hz]
        rw [hsv] at HS
        obtain ⟨e0, he0⟩ : ∃ e0, wholeE l v = e0 := ⟨_, rfl⟩
        rw [he0] at HS hz
        have hzb : (e0 != 0) = true := bne_iff_ne.2 hz
        clear hdes hz hsv he0
        go_wp2_with fail
        refine HS.out.mono ?_
        rintro e w5 ⟨rfl, hb⟩
        have HB5 := Lib.hid (HB9.out.trans (((below_drewN w9 m).trans (hb.mono (Nat.le_refl _))).mono HB9.out.size))
        clear hb
        go_wp2_with fail
        refine (awake_any _).mono ?_
        rintro e w6 ⟨rfl, hb⟩
        go_wp2_with fail
        go_ret
        exact ⟨rfl, HB5.out.trans (hb.mono HB5.out.size)⟩
set_option maxRecDepth 100000 in
set_option maxHeartbeats 12800000 in
theorem saves_d (w : World) (A : Option Addr) (c : Nat) (l : List Tr) (B : Option Addr) (d : Nat) (v : List Vol) (cnt more : Int) (hr : IsRow w A (cellsT l)) (hup : upT l) (hlm : l.length ≤ maxLen) (hv : IsRow w B (cellsV v)) (hvm : v.length ≤ maxLen) (hns : ∀ x ∈ v, x.s.size ≤ maxLen) (hf : fewB l v = true) (h1 : 0 ≤ cnt) (h2 : cnt ≤ 1000000000) (h3 : cnt ≤ more) (h4 : 1000000000 < more) :
    Calls Try.prog 7 #[.agg #[.slice A l.length c, .slice B v.length d, .int .i64 cnt, .int .i64 more]] w fun e w' => e = .returned (.bool true) ∧ Below w.heap.size w w' := by
  obtain ⟨f1, f2⟩ := fewB_facts hf
  have HFW := Lib.hid (fun W h => few_any A c l B d v W hlm h hvm hns)
  rw [hf] at HFW
  have HR := Lib.hid hr
  have HV := Lib.hid hv
  have HUP := Lib.hid hup
  have HNS := Lib.hid hns
  have q1 : decide (more ≤ 1000000000) = false := decide_eq_false (by omega)
  have q2 : ¬ more ≤ 1000000000 := by omega
  clear hr hup hlm hv hvm hns hf
  go_enter Try.func7, Try.ntmps7
  go_wp2_with fail
  have hbw := (Below.refl w.heap.size w).alloc (Nat.le_refl _) (.cells #[.slice A l.length c, .slice B v.length d, .int .i64 cnt, .int .i64 more] 49)
  generalize hW : w.alloc (Obj.cells #[.slice A l.length c, .slice B v.length d, .int .i64 cnt, .int .i64 more] 49) = W1 at hbw ⊢
  have x0 : W1.cell? ⟨w.heap.size, 0, none⟩ = some (.slice A l.length c) := by rw [← hW]; simp
  have x1 : W1.cell? ⟨w.heap.size, 1, none⟩ = some (.slice B v.length d) := by rw [← hW]; simp
  have x2 : W1.cell? ⟨w.heap.size, 2, none⟩ = some (.int .i64 cnt) := by rw [← hW]; simp
  have x3 : W1.cell? ⟨w.heap.size, 3, none⟩ = some (.int .i64 more) := by rw [← hW]; simp
  have HBW := Lib.hid hbw
  clear hW hbw
  go_quiet (fail)
  clear x0 x1 x2 x3
  have HB8 := Lib.hid (dNb HBW.out nq)
  have HV8 := Lib.hid (HV.out.below HB8.out)
  have HR8 := Lib.hid (HR.out.below HB8.out)
  generalize W1.drewN nq = w9 at HB8 HV8 HR8 ⊢
  go_wp2_with fail
  refine (HFW.out _ HV8.out).mono ?_
  rintro e w7 ⟨rfl, rfl⟩
  go_wp2_with fail
  have HB9 := HB8
  have HR9 := HR8
  have HV9 := HV8
  go_loopw [11] (fun i wr => ∃ k m : Nat, i = .int .i64 ((k : Int) + 1) ∧ k ≤ l.length ∧ Hid (∀ j, 0 < j → j < k + 1 → j < l.length → (l.getD j default).p ≤ (l.getD (j - 1) default).p) ∧ wr = w9.drewN m) (fun i _ => l.length - (intOf i).toNat)
  case atStart => exact ⟨0, 0, rfl, by omega, Lib.hid (fun j h1 h2 => by omega), rfl⟩
  case round =>
    obtain ⟨k, m, rfl, hkl, hall, rfl⟩ := hrel
    by_cases hlt : k + 1 < l.length
    · rcases HR9.out with h0 | ⟨b, off, rfl, hc⟩
      · rw [cellsT_length] at h0; omega
      have c1 := (row_tier hc (k + 1) hlt).2
      have c0 := (row_tier hc k (by omega)).2
      rw [← getD_at l (k + 1) hlt] at c1
      rw [← getD_at l k (by omega)] at c0
      have hst := Lib.hid (show (l.getD (k + 1) default).p ≤ (l.getD k default).p → ∀ j, 0 < j → j < k + 1 + 1 → j < l.length → (l.getD j default).p ≤ (l.getD (j - 1) default).p from fun h j h1 h2 h3 => by
        rcases Nat.lt_or_ge j (k + 1) with q | q
        · exact hall.out j h1 q h3
        · obtain rfl : j = k + 1 := by omega
          rw [Nat.add_sub_cancel]; exact h)
      obtain ⟨p1, hp1⟩ : ∃ p1, (l.getD (k + 1) default).p = p1 := ⟨_, rfl⟩
      obtain ⟨p0, hp0⟩ : ∃ p0, (l.getD k default).p = p0 := ⟨_, rfl⟩
      rw [hp1] at c1 hst
      rw [hp0] at c0 hst
      have hwp : IntKind.i64.wrap (k : Int) = (k : Int) := IntWalk.i64_in _ (by omega)
      have i0 : (0 : Int) ≤ (k : Int) + 1 := by omega
      have i1 : (k : Int) + 1 < (l.length : Int) := by omega
      have i2 : (k : Int) < (l.length : Int) := by omega
      have i3 : ((k : Int) + 1).toNat = k + 1 := by omega
      clear hc hp1 hp0
      by_cases hgt : p0 < p1
      · go_wp2_with fail
        go_quiet (fail)
        clear hwp i3
        go_wp2_with fail
        refine (awake_any _).mono ?_
        rintro e w4 ⟨rfl, hb⟩
        go_wp2_with fail
        go_ret
        exact ⟨rfl, HB9.out.trans (((below_drewN w9 _).trans (hb.mono (Nat.le_refl _))).mono HB9.out.size)⟩
      · have HALL := Lib.hid (hst.out (by omega))
        go_wp2_with fail
        go_quiet (fail)
        clear hwp i3
        go_wp2_with fail
        go_roundw
        case rel => exact ⟨k + 1, _, by go_num, by omega, HALL, rfl⟩
        case measure => simp [intOf]; omega
    · have hdes := des_of l (fun i h1 h2 => hall.out i h1 (by omega) h2)
      have HS := Lib.hid (saved_any A c l B d v (w9.drewN m) (HR9.out.below (below_drewN w9 m)) (by omega) HUP.out (HV9.out.below (below_drewN w9 m)) (by omega) HNS.out)
      have hnv : -9223372036854775807 ≤ -(v.length : Int) := by omega
      by_cases hz : wholeE l v = 0
      · have hge := saved_ge hz hdes
        have hsv : savV l v = sepF l v v.length - wholeV l v := by unfold savV; rw [if_pos hz]
        rw [hz] at HS
        rw [← hsv] at hge
        obtain ⟨sv, hsve⟩ : ∃ sv, savV l v = sv := ⟨_, rfl⟩
        rw [hsve] at HS hge
        clear hdes hz hsv hsve
        go_wp2_with fail
        refine HS.out.mono ?_
        rintro e w5 ⟨rfl, hb⟩
        have HB5 := Lib.hid (HB9.out.trans (((below_drewN w9 m).trans (hb.mono (Nat.le_refl _))).mono HB9.out.size))
        clear hb
        go_wp2_with fail
        refine (awake_any _).mono ?_
        rintro e w6 ⟨rfl, hb⟩
        go_wp2_with fail
        go_ret
        exact ⟨rfl, HB5.out.trans (hb.mono HB5.out.size)⟩
      · have hsv : savV l v = 0 := by unfold savV; rw [if_neg hz]
        rw [hsv] at HS
        obtain ⟨e0, he0⟩ : ∃ e0, wholeE l v = e0 := ⟨_, rfl⟩
        rw [he0] at HS hz
        have hzb : (e0 != 0) = true := bne_iff_ne.2 hz
        clear hdes hz hsv he0
        go_wp2_with fail
        refine HS.out.mono ?_
        rintro e w5 ⟨rfl, hb⟩
        have HB5 := Lib.hid (HB9.out.trans (((below_drewN w9 m).trans (hb.mono (Nat.le_refl _))).mono HB9.out.size))
        clear hb
        go_wp2_with fail
        refine (awake_any _).mono ?_
        rintro e w6 ⟨rfl, hb⟩
        go_wp2_with fail
        go_ret
        exact ⟨rfl, HB5.out.trans (hb.mono HB5.out.size)⟩
end Go.Proofs.Ytfhiepcjkocnlaa
