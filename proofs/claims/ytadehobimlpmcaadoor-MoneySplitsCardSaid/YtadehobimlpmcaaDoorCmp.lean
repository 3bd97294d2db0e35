/- The walks of Cmp, of the program and of the reference, and of usd. -/
import Derived.Test.YtadehobimlpmcaaDoorAdd2
namespace Go.Proofs.YtadehobimlpmcaaDoor
set_option linter.unusedVariables false
open Go.RowKit

set_option maxHeartbeats 400000 in
theorem nani_any (n : Int) (w : World) : Calls Tryd.prog 66 #[.int .i64 n] w fun e w' => e = .returned (.bool false) ∧ w = w' := by
  have hb : (n != n) = false := by simp
  go_enter Tryd.func66, Tryd.ntmps66
  go_wp2_with fail
  go_ret
  exact ⟨rfl, rfl⟩
set_option maxHeartbeats 800000 in
theorem cmpi_any (a b : Int) (w : World) : Calls Tryd.prog 52 #[.int .i64 a, .int .i64 b] w fun e w' => e = .returned (.int .i64 (cmpI a b)) ∧ w = w' := by
  have hcase : a < b ∨ (¬ a < b ∧ b < a) ∨ (¬ a < b ∧ ¬ b < a) := by omega
  rcases hcase with h1 | ⟨h1, h2⟩ | ⟨h1, h2⟩
  all_goals
    have he := Lib.hid (show cmpI a b = _ by unfold cmpI; first | rw [if_pos h1] | rw [if_neg h1, if_pos h2] | rw [if_neg h1, if_neg h2])
    go_enter Tryd.func52, Tryd.ntmps52
    go_wp2_with fail
    refine (nani_any _ _).mono ?_
    rintro e w1 ⟨rfl, rfl⟩
    go_wp2_with fail
    refine (nani_any _ _).mono ?_
    rintro e w1 ⟨rfl, rfl⟩
    go_wp2_with fail
    go_ret
    exact ⟨by rw [he.out]; rfl, rfl⟩
def cmpV (p a b : Int) : Int := if p = 0 then cmpI a b else 0
theorem cmp_bad {p a b : Int} (h : p ≠ 0) : cmpV p a b = 0 := by unfold cmpV; rw [if_neg h]
def CmpPost (p a b : Int) (w : World) (e : Ending) (w' : World) : Prop := e = .returned (.tuple #[.int .i64 (cmpV p a b), .int .i64 p]) ∧ Below w.heap.size w w'
set_option maxHeartbeats 1600000 in
theorem mcmp_any (a : Int) (s : ByteArray) (b : Int) (t : ByteArray) (w : World) (hs : s.size ≤ maxLen) (ht : t.size ≤ maxLen) :
    Calls Tryd.prog 24 #[.agg #[.int .i64 a, .string s], .agg #[.int .i64 b, .string t]] w (CmpPost (pairE a s b t) a b w) := by
  have HP := Lib.hid (fun W => pair_any a s b t W hs ht)
  generalize pairE a s b t = PE at *
  clear hs ht
  by_cases h1 : PE = 0
  · subst h1
    have HV := Lib.hid (show cmpV 0 a b = cmpI a b by unfold cmpV; rw [if_pos rfl])
    have HC := Lib.hid (fun W => cmpi_any a b W)
    generalize cmpI a b = C at *
    go_enter Tryd.func24, Tryd.ntmps24
    go_wp2_with fail
    refine (HP.out _).mono ?_
    rintro e w1 ⟨rfl, hb⟩
    obtain ⟨k1, k2, hz, hb1⟩ := box2 hb
    have a0 := cell_c k1 0
    have b0 := cell_c k2 0
    have HB1 := Lib.hid hb1
    clear hb k1 k2 hb1
    go_wp2_with fail
    refine (HC.out _).mono ?_
    rintro e w2 ⟨rfl, rfl⟩
    go_wp2_with fail
    go_ret2
    exact ⟨by rw [HV.out]; rfl, HB1.out⟩
  · have h1' : (PE != 0) = true := bne_iff_ne.2 h1
    have HV := Lib.hid (cmp_bad (a := a) (b := b) h1)
    clear h1
    go_enter Tryd.func24, Tryd.ntmps24
    go_wp2_with fail
    refine (HP.out _).mono ?_
    rintro e w1 ⟨rfl, hb⟩
    obtain ⟨k1, k2, hz, hb1⟩ := box2 hb
    have HB1 := Lib.hid hb1
    clear hb k1 k2 hb1
    go_wp2_with fail
    go_ret2
    exact ⟨by rw [HV.out]; rfl, HB1.out⟩
set_option maxHeartbeats 1600000 in
theorem rcmp_any (a : Int) (s : ByteArray) (b : Int) (t : ByteArray) (w : World) (hs : s.size ≤ maxLen) (ht : t.size ≤ maxLen) :
    Calls Tryd.prog 25 #[.agg #[.int .i64 a, .string s], .agg #[.int .i64 b, .string t]] w (CmpPost (pairE a s b t) a b w) := by
  have HP := Lib.hid (fun W => both_any a s b t W hs ht)
  generalize pairE a s b t = PE at *
  clear hs ht
  by_cases h1 : PE = 0
  · subst h1
    have hcase : (a < b ∧ cmpI a b = -1) ∨ (¬ a < b ∧ b < a ∧ cmpI a b = 1) ∨ (¬ a < b ∧ ¬ b < a ∧ cmpI a b = 0) := by unfold cmpI; split <;> first | omega | (split <;> omega)
    have HV := Lib.hid (show cmpV 0 a b = cmpI a b by unfold cmpV; rw [if_pos rfl])
    generalize cmpI a b = C at *
    rcases hcase with ⟨h1, rfl⟩ | ⟨h1, h2, rfl⟩ | ⟨h1, h2, rfl⟩
    all_goals
      go_enter Tryd.func25, Tryd.ntmps25
      go_wp2_with fail
      refine (HP.out _).mono ?_
      rintro e w1 ⟨rfl, hb⟩
      obtain ⟨k1, k2, hz, hb1⟩ := box2 hb
      have a0 := cell_c k1 0
      have b0 := cell_c k2 0
      have HB1 := Lib.hid hb1
      clear hb k1 k2 hb1
      go_wp2_with fail
      go_ret2
      exact ⟨by rw [HV.out]; rfl, HB1.out⟩
  · have h1' : (PE != 0) = true := bne_iff_ne.2 h1
    have HV := Lib.hid (cmp_bad (a := a) (b := b) h1)
    clear h1
    go_enter Tryd.func25, Tryd.ntmps25
    go_wp2_with fail
    refine (HP.out _).mono ?_
    rintro e w1 ⟨rfl, hb⟩
    obtain ⟨k1, k2, hz, hb1⟩ := box2 hb
    have HB1 := Lib.hid hb1
    clear hb k1 k2 hb1
    go_wp2_with fail
    go_ret2
    exact ⟨by rw [HV.out]; rfl, HB1.out⟩
def usdS : ByteArray := ⟨#[85, 83, 68]⟩
set_option maxHeartbeats 400000 in
theorem usd_any (n : Int) (w : World) : Calls Tryd.prog 16 #[.int .i64 n] w fun e w' => e = .returned (.agg #[.int .i64 n, .string usdS]) ∧ Below w.heap.size w w' := by
  go_enter Tryd.func16, Tryd.ntmps16
  go_wp2_with fail
  refine bodyPost_ret (v := .agg #[.int .i64 n, .string usdS]) ?_ rfl ?_
  · have hres : Tryd.f16.results = #[.cell 2 23] := by kernel_rfl
    simp only [results, hres]
    go_simp
    rfl
  · exact ⟨rfl, (Below.refl _ _).alloc (Nat.le_refl _) _⟩
end Go.Proofs.YtadehobimlpmcaaDoor
