/- Numbers in decimal: strconv.Itoa, strconv.FormatInt, the reference's Decimal and decimal; isNonce. -/
import Derived.Test.YtodlholfhgicoaaDoorTxt
import Derived.Test.YtodlholfhgicoaaDoorPan
import Derived.Laws.Concat
import Derived.Deep.LoopGhost
namespace Go.Proofs.YtodlholfhgicoaaDoor
set_option linter.unusedVariables false
open Go.RowKit Go.Sort

def itoaS (n : Int) : ByteArray := ⟨(Lib.itoa n).toArray⟩
theorem itoa_any (n : Int) (w : World) (ht : TabW w) (h0 : -9223372036854775808 ≤ n) (h1 : n ≤ 9223372036854775807) : Calls Tryd.prog 26 #[.int .i64 n] w fun e w' => e = .returned (.string (itoaS n)) ∧ Below w.heap.size w w' :=
  (Tryd.strconv_Itoa n h0 h1 w ht.2).mono fun e w' ⟨he, k, os, hw⟩ => ⟨he, by rw [hw]; exact below_grow w k os⟩
theorem fint_any (n : Int) (w : World) (ht : TabW w) (h0 : -9223372036854775808 ≤ n) (h1 : n ≤ 9223372036854775807) : Calls Tryd.prog 27 #[.int .i64 n, .int .i64 10] w fun e w' => e = .returned (.string (itoaS n)) ∧ Below w.heap.size w w' := by
  have h := Lib.hid (Tryd.internal_strconv_FormatInt_10 n h0 h1 w ht.2)
  clear ht h0 h1
  go_enter Tryd.func27, Tryd.ntmps27
  go_wp2_with fail
  refine h.out.mono ?_
  rintro e w' ⟨rfl, k, os, hw⟩
  have HB : Hid (Below w.heap.size w w') := Lib.hid (by rw [hw]; exact below_grow w k os)
  clear hw
  go_wp2_with fail
  go_ret
  exact ⟨rfl, HB.out⟩
def decLit : ByteArray := ⟨#[48, 49, 50, 51, 52, 53, 54, 55, 56, 57]⟩
theorem decLit_size : decLit.size = 10 := rfl
theorem decLit_fin : ∀ x : Fin 10, (decLit.extract x.val (x.val + 1)).data.toList = [UInt8.ofNat (48 + x.val)] := by decide +kernel
theorem decLit_piece (x : Nat) (h : x < 10) : decLit.extract x (x + 1) = ⟨#[UInt8.ofNat (48 + x)]⟩ := ByteArray.ext (Array.ext' (decLit_fin ⟨x, h⟩))
/-- What is left of the number, and what is written already. -/
def DecInv (n m : Nat) (s : ByteArray) : Prop := (m = 0 ∧ s.size ≠ 0 ∧ s.data.toList = Lib.decDigits n) ∨ ((m ≠ 0 ∨ s.size = 0) ∧ Lib.decDigits n = Lib.decDigits m ++ s.data.toList)
theorem decInv_step {n m : Nat} {s t : ByteArray} (h : DecInv n m s) (hc : m ≠ 0 ∨ s.size = 0) (ht : (ByteArray.mk #[UInt8.ofNat (48 + m % 10)]) ++ s = t) : DecInv n (m / 10) t := by
  have hd : Lib.decDigits n = Lib.decDigits m ++ s.data.toList := by
    rcases h with ⟨h1, h2, _⟩ | ⟨_, h⟩
    · rcases hc with c | c
      · exact absurd h1 c
      · exact absurd c h2
    · exact h
  have htd : t.data.toList = UInt8.ofNat (48 + m % 10) :: s.data.toList := by rw [← ht]; simp
  have htz : t.size ≠ 0 := by rw [← ht, ByteArray.size_append]; show 1 + _ ≠ 0; omega
  by_cases hm : m < 10
  · left
    refine ⟨by omega, htz, ?_⟩
    rw [htd, hd, Lib.decDigits_one hm, Nat.mod_eq_of_lt hm]; rfl
  · right
    refine ⟨.inl (by omega), ?_⟩
    rw [htd, hd]
    rw [show Lib.decDigits m = Lib.decDigits (m / 10) ++ [UInt8.ofNat (48 + m % 10)] by rw [Lib.decDigits, dif_neg hm]]
    simp
theorem decInv_end {n m : Nat} {s : ByteArray} (h : DecInv n m s) (hc : m = 0) (hs : s.size ≠ 0) : s = ⟨(Lib.decDigits n).toArray⟩ := by
  apply ByteArray.ext
  apply Array.ext'
  rcases h with ⟨_, _, h⟩ | ⟨h1, _⟩
  · exact h
  · rcases h1 with c | c
    · exact absurd hc c
    · exact absurd c hs
theorem decInv_size {n m : Nat} {s : ByteArray} (h : DecInv n m s) : s.size ≤ Lib.nDigits n := by
  have hl : s.data.toList.length = s.size := by simp
  rcases h with ⟨_, _, h⟩ | ⟨_, h⟩
  · rw [← hl, h, Lib.decDigits_length]; exact Nat.le_refl _
  · have := congrArg List.length h
    rw [List.length_append, Lib.decDigits_length, hl] at this
    omega
theorem nd20 (u : Nat) (hu : u < 18446744073709551616) : Lib.nDigits u ≤ 20 := by
  rcases Nat.eq_zero_or_pos u with h | h
  · subst h; rw [Lib.nDigits_small (by omega)]; omega
  · have := Lib.numDigits_eq u h hu; split at this <;> omega
theorem nd_next {m : Nat} (h : m / 10 ≠ 0) : Lib.nDigits (m / 10) < Lib.nDigits m := by
  rw [Lib.nDigits_big (u := m) (by omega)]; omega
set_option maxRecDepth 100000 in
set_option maxHeartbeats 1600000 in
theorem rdec_any (n : Nat) (w : World) (hn : n ≤ 9223372036854775807) : Calls Tryd.prog 73 #[.int .i64 n, .int .i64 1] w fun e w' => e = .returned (.string ⟨(Lib.decDigits n).toArray⟩) ∧ w = w' := by
  have HST : Hid (DecInv n n ⟨#[]⟩) := Lib.hid (.inr ⟨.inr rfl, by simp⟩)
  have H20 := Lib.hid (nd20 n (by omega))
  have HPOS := Lib.hid (Lib.nDigits_pos n)
  go_enter Tryd.func73, Tryd.ntmps73
  go_name_bytes_deep 10 HL hHL
  have eHL : HL = decLit := by rw [← hHL]; decide +kernel
  subst eHL
  clear hHL
  go_wp2_with fail
  go_loopg [0, 5] (Lib.nDigits n + 1) (fun g vn vs wr => ∃ (m : Nat) (s : ByteArray), vn = .int .i64 m ∧ vs = .string s ∧ m ≤ n ∧ s.size ≤ 20 ∧ wr = w ∧ Hid ((m ≠ 0 ∨ s.size = 0) → Lib.nDigits m < g + 1) ∧ Hid (DecInv n m s))
  case atStart => exact ⟨n, ⟨#[]⟩, rfl, rfl, Nat.le_refl _, by show 0 ≤ 20; omega, rfl, Lib.hid (fun _ => by omega), HST⟩
  case round =>
    obtain ⟨m, s, rfl, rfl, hmn, hsz, rfl, hg, hI⟩ := hrel
    by_cases hc : m ≠ 0 ∨ s.size = 0
    · obtain ⟨t, ht⟩ : ∃ t, (ByteArray.mk #[UInt8.ofNat (48 + m % 10)]) ++ s = t := ⟨_, rfl⟩
      have hI2 := decInv_step hI.out hc ht
      have HI2 := Lib.hid hI2
      have ht20 : t.size ≤ 20 := Nat.le_trans (decInv_size hI2) H20.out
      have hgm := hg.out hc
      have hnext : (m / 10 ≠ 0 ∨ t.size = 0) → Lib.nDigits (m / 10) < Lib.nDigits m := by
        rintro (q | q)
        · exact nd_next q
        · exfalso
          rw [← ht, ByteArray.size_append] at q
          have : (ByteArray.mk #[UInt8.ofNat (48 + m % 10)]).size = 1 := rfl
          omega
      have HNX := Lib.hid hnext
      obtain ⟨G, hG⟩ : ∃ G, Lib.nDigits m = G + 1 := ⟨Lib.nDigits m - 1, by have := Lib.nDigits_pos m; omega⟩
      have HG1 : Hid ((m / 10 ≠ 0 ∨ t.size = 0) → Lib.nDigits (m / 10) < G + 1) := Lib.hid (fun q => by have := hnext q; omega)
      obtain ⟨b, hb⟩ : ∃ b, UInt8.ofNat (48 + m % 10) = b := ⟨_, rfl⟩
      rw [hb] at ht
      have hpc := decLit_piece (m % 10) (by omega)
      rw [hb] at hpc
      have h1sz : (ByteArray.mk #[b]).size = 1 := rfl
      clear hI hI2 hg hnext hb
      by_cases hm0 : m = 0
      · subst hm0
        have hs0 : s.size = 0 := by omega
        have hpc' : decLit.extract 0 1 = ⟨#[b]⟩ := hpc
        have q2 : (s.size : Int) < 1 := by omega
        have hdl := decLit_size
        clear hc hs0 hpc
        go_wp2_with fail
        go_roundg G
        case measure => omega
        case rel => exact ⟨0, t, by go_num, rfl, by omega, ht20, rfl, HG1, HI2⟩
      · have q : 0 < (m : Int) := by omega
        have hsl : ∀ W, (Instr.slice 9 (.string decLit) (some (.int .i64 ((m : Int) % 10))) (some (.int .i64 ((m : Int) % 10 + 1))) none).run Tryd.prog W = .ok (.string ⟨#[b]⟩) W := fun W => by
          rw [run_slice_string W 9 decLit .i64 .i64 _ _ Tryd.underlying9 (by omega) (by omega) (by rw [decLit_size]; omega), show ((m : Int) % 10).toNat = m % 10 by omega, show ((m : Int) % 10 + 1).toNat = m % 10 + 1 by omega, hpc]
        clear hc hm0 hpc
        go_wp2_with fail
        go_roundg G
        case measure => omega
        case rel => exact ⟨m / 10, t, by go_num, rfl, by omega, ht20, rfl, HG1, HI2⟩
    · have hm0 : m = 0 := by omega
      have hs0 : s.size ≠ 0 := by omega
      have HE := Lib.hid (decInv_end hI.out hm0 hs0)
      have q : ¬ 0 < (m : Int) := by omega
      have q2 : ¬ (s.size : Int) < 1 := by omega
      clear hc hm0 hs0 hI hg
      go_wp2_with fail
      go_ret
      exact ⟨by rw [← HE.out]; rfl, rfl⟩
end Go.Proofs.YtodlholfhgicoaaDoor
