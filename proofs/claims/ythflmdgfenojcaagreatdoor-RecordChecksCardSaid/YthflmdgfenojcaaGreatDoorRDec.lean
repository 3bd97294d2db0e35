/- The reference's Decimal at a number that is not negative. -/
import Derived.Test.YthflmdgfenojcaaGreatDoorNbr
import Derived.Laws.Concat
import Derived.Deep.LoopGhost
import Derived.Lib.ItoaWalk
namespace Go.Proofs.YthflmdgfenojcaaGreatDoor
set_option linter.unusedVariables false
open Go.RowKit Go.Sort

def decLit : ByteArray := ⟨#[48, 49, 50, 51, 52, 53, 54, 55, 56, 57]⟩
theorem decLit_size : decLit.size = 10 := rfl
theorem decLit_fin : ∀ x : Fin 10, (decLit.extract x.val (x.val + 1)).data.toList = [UInt8.ofNat (48 + x.val)] := by decide +kernel
theorem decLit_piece (x : Nat) (h : x < 10) : decLit.extract x (x + 1) = ⟨#[UInt8.ofNat (48 + x)]⟩ := ByteArray.ext (Array.ext' (decLit_fin ⟨x, h⟩))
/-- What is left of the number, and what is written already. -/
def DecI (n m : Nat) (s : ByteArray) : Prop := Lib.decDigits n = Lib.decDigits m ++ s.data.toList
theorem decI_step {n m : Nat} {s t : ByteArray} (h : DecI n m s) (hm : 10 ≤ m) (ht : (ByteArray.mk #[UInt8.ofNat (48 + m % 10)]) ++ s = t) : DecI n (m / 10) t := by
  have htd : t.data.toList = UInt8.ofNat (48 + m % 10) :: s.data.toList := by rw [← ht]; simp
  unfold DecI at *
  rw [htd, h, show Lib.decDigits m = Lib.decDigits (m / 10) ++ [UInt8.ofNat (48 + m % 10)] by rw [Lib.decDigits, dif_neg (by omega)]]
  simp
theorem decI_end {n m : Nat} {s t : ByteArray} (h : DecI n m s) (hm : m < 10) (ht : (ByteArray.mk #[UInt8.ofNat (48 + m % 10)]) ++ s = t) : t = itoS n := by
  have htd : t.data.toList = UInt8.ofNat (48 + m % 10) :: s.data.toList := by rw [← ht]; simp
  unfold DecI at h
  apply ByteArray.ext
  apply Array.ext'
  rw [htd]
  show _ = (Lib.itoa (n : Int)).toArray.toList
  unfold Lib.itoa
  rw [if_neg (by omega), Int.toNat_natCast, h, Lib.decDigits_one hm, Nat.mod_eq_of_lt hm]; rfl
theorem decI_size {n m : Nat} {s : ByteArray} (h : DecI n m s) : s.size ≤ Lib.nDigits n := by
  have hl : s.data.toList.length = s.size := by simp
  have := congrArg List.length h
  rw [List.length_append, Lib.decDigits_length, hl] at this
  omega
theorem nd20 (u : Nat) (hu : u < 18446744073709551616) : Lib.nDigits u ≤ 20 := by
  rcases Nat.eq_zero_or_pos u with h | h
  · subst h; rw [Lib.nDigits_small (by omega)]; omega
  · have := Lib.numDigits_eq u h hu; split at this <;> omega
set_option maxRecDepth 100000 in
set_option maxHeartbeats 1600000 in
theorem rdec_any (n : Nat) (w : World) (hn : n ≤ 9223372036854775807) : Calls Tryz.prog 82 #[.int .i64 n] w fun e w' => e = .returned (.string (itoS n)) ∧ w = w' := by
  have HST : Hid (DecI n n ⟨#[]⟩) := Lib.hid (by unfold DecI; simp)
  have H20 := Lib.hid (nd20 n (by omega))
  have n0 : ¬ (n : Int) < 0 := by omega
  go_enter Tryz.func82, Tryz.ntmps82
  go_name_bytes_deep 10 HL hHL
  have eHL : HL = decLit := by rw [← hHL]; decide +kernel
  subst eHL
  clear hHL
  go_wp2_with fail
  clear n0
  go_loopw [0, 4] (fun vn vs wr => ∃ (m : Nat) (s : ByteArray), vn = .int .i64 m ∧ vs = .string s ∧ m ≤ n ∧ s.size ≤ 20 ∧ wr = w ∧ Hid (DecI n m s)) (fun vn _ _ => (intOf vn).toNat)
  case atStart => exact ⟨n, ⟨#[]⟩, rfl, rfl, Nat.le_refl _, by show 0 ≤ 20; omega, rfl, HST⟩
  case round =>
    obtain ⟨m, s, rfl, rfl, hmn, hsz, rfl, hI⟩ := hrel
    obtain ⟨t, ht⟩ : ∃ t, (ByteArray.mk #[UInt8.ofNat (48 + m % 10)]) ++ s = t := ⟨_, rfl⟩
    have hsl : ∀ W, (Instr.slice 9 (.string decLit) (some (.int .i64 ((m : Int) % 10))) (some (.int .i64 ((m : Int) % 10 + 1))) none).run Tryz.prog W = .ok (.string ⟨#[UInt8.ofNat (48 + m % 10)]⟩) W := fun W => by
      rw [run_slice_string W 9 decLit .i64 .i64 _ _ Tryz.underlying9 (by omega) (by omega) (by rw [decLit_size]; omega), show ((m : Int) % 10).toNat = m % 10 by omega, show ((m : Int) % 10 + 1).toNat = m % 10 + 1 by omega, decLit_piece (m % 10) (by omega)]
    have h1sz : (ByteArray.mk #[UInt8.ofNat (48 + m % 10)]).size = 1 := rfl
    have d0 : ¬ (m : Int) % 10 < 0 := by omega
    have hm9 : m ≤ 9223372036854775807 := by omega
    by_cases hm : m < 10
    · have HE := Lib.hid (decI_end hI.out hm ht)
      have q : ((m : Int) / 10 == 0) = true := by rw [show (m : Int) / 10 = 0 by omega]; rfl
      clear hI hm hmn
      generalize UInt8.ofNat (48 + m % 10) = b at *
      go_wp2_with fail
      go_ret
      exact ⟨by rw [← HE.out]; rfl, rfl⟩
    · have HI2 := Lib.hid (decI_step hI.out (by omega) ht)
      have HT20 := Lib.hid (Nat.le_trans (decI_size HI2.out) H20.out)
      have q : ((m : Int) / 10 == 0) = false := by simp; omega
      have HM := Lib.hid hm
      clear hI hm
      generalize UInt8.ofNat (48 + m % 10) = b at *
      go_wp2_with fail
      go_roundw
      case rel => exact ⟨m / 10, t, by go_num, rfl, by omega, HT20.out, by first | rfl | trivial, HI2⟩
      case measure => have := HM.out; simp [intOf]; omega
theorem rnumber_any (n : Nat) (w : World) (hn : n ≤ 9223372036854775807) : Calls Tryz.prog 81 #[.int .i64 n] w fun e w' => e = .returned (.string (itoS n)) ∧ w = w' := by
  have HD := Lib.hid (fun W => rdec_any n W hn)
  go_enter Tryz.func81, Tryz.ntmps81
  go_wp2_with fail
  refine (HD.out _).mono ?_
  rintro e w' ⟨rfl, rfl⟩
  go_wp2_with fail
  go_ret
  exact ⟨rfl, rfl⟩
end Go.Proofs.YthflmdgfenojcaaGreatDoor
