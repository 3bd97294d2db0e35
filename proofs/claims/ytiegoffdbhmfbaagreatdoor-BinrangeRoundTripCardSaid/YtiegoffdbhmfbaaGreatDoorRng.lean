/- Ranges: isPrefix, formed, filled. -/
import Derived.Test.YtiegoffdbhmfbaaGreatDoorLex
import Derived.Test.YtiegoffdbhmfbaaGreatDoorPan
import Derived.Outline
namespace Go.Proofs.YtiegoffdbhmfbaaGreatDoor
set_option linter.unusedVariables false
open Go.RowKit

theorem box1 {w w1 : World} {C1 : Array Value} {T1 : TypeId} (hb : Below (w.alloc (.cells C1 T1)).heap.size (w.alloc (.cells C1 T1)) w1) :
    w1.heap[w.heap.size]? = some (.cells C1 T1) ∧ w.heap.size < w1.heap.size ∧ Below w.heap.size w w1 := by
  have hz := hb.size
  simp only [World.alloc, Array.size_push] at hz
  refine ⟨?_, by omega, ((Below.refl _ _).alloc (Nat.le_refl _) _).trans (hb.mono (by simp))⟩
  rw [hb.block _ (by simp)]; exact (MapKept.heap_alloc w _).1
theorem blk_later {w w1 : World} {b : Nat} {o : Obj} (h : w.heap[b]? = some o) (hb : Below w.heap.size w w1) : w1.heap[b]? = some o := by
  rw [hb.block _ (by rcases Nat.lt_or_ge b w.heap.size with q | q; exact q; rw [Array.getElem?_eq_none (by omega)] at h; cases h)]; exact h
theorem cell_c {w : World} {b : Nat} {C : Array Value} {T : TypeId} (h : w.heap[b]? = some (.cells C T)) (o : Nat) : w.cell? ⟨b, o, none⟩ = C[o]? := by simp [World.cell?, h]
theorem cell_f {w : World} {b : Nat} {C : Array Value} {T : TypeId} (h : w.heap[b]? = some (.cells C T)) (o : Nat) : w.frozen? ⟨b, o, none⟩ = false := by simp [World.frozen?, h]
theorem alloc_lt (w : World) (o : Obj) : Below w.heap.size w (w.alloc o) := (Below.refl _ _).alloc (Nat.le_refl _) _
structure Rg where
  lo : ByteArray
  hi : ByteArray
  is : ByteArray
  pr : ByteArray
def rgC (r : Rg) : Array Value := #[.string r.lo, .string r.hi, .string r.is, .string r.pr]
def pfxB (s : ByteArray) : Bool := decide (1 ≤ s.size) && decide (s.size ≤ 10) && digsB s
def formB (lo hi : ByteArray) : Bool := pfxB lo && pfxB hi && decide (lo.size = hi.size)
theorem dg_any (c : UInt8) (w : World) : Calls Tryz.prog 59 #[.int .u8 c.toNat] w fun e w' => e = .returned (.bool (isDg c)) ∧ w = w' := by
  have hc : c.toNat < 48 ∨ (¬ c.toNat < 48 ∧ 57 < c.toNat) ∨ (¬ c.toNat < 48 ∧ ¬ 57 < c.toNat) := by omega
  rcases hc with h | ⟨h, h'⟩ | ⟨h, h'⟩
  all_goals
    have h1 : isDg c = isDg c := rfl
    go_enter Tryz.func59, Tryz.ntmps59
    go_wp2_with fail
    go_ret
    refine ⟨?_, rfl⟩
    unfold isDg
    first
      | (rw [decide_eq_false (by omega : ¬ 48 ≤ c.toNat)]; simp; try omega)
      | (rw [decide_eq_false (by omega : ¬ c.toNat ≤ 57)]; simp; try omega)
      | (rw [decide_eq_true (by omega : 48 ≤ c.toNat), decide_eq_true (by omega : c.toNat ≤ 57)]; simp; try omega)
theorem pfx_size (s : ByteArray) (h : ¬ (1 ≤ s.size ∧ s.size ≤ 10)) : pfxB s = false := by
  unfold pfxB
  by_cases h1 : 1 ≤ s.size
  · have : ¬ s.size ≤ 10 := fun q => h ⟨h1, q⟩
    simp [this]
  · simp [h1]
theorem pfx_no (s : ByteArray) (k : Nat) (h : k < s.size) (hl : isDg s[k] = false) : pfxB s = false := by
  unfold pfxB
  rw [all_no k h hl]; simp
theorem pfx_yes (s : ByteArray) (h1 : 1 ≤ s.size) (h2 : s.size ≤ 10) (hw : ∀ j, (h : j < s.size) → isDg s[j] = true) : pfxB s = true := by
  unfold pfxB
  rw [all_yes hw]; simp [h1, h2]
set_option maxHeartbeats 1600000 in
theorem pfx_any (s : ByteArray) (w : World) (hs : s.size ≤ maxLen) : Calls Tryz.prog 54 #[.string s] w fun e w' => e = .returned (.bool (pfxB s)) ∧ w = w' := by
  have HDG := Lib.hid (fun c W => dg_any c W)
  by_cases h : 1 ≤ s.size ∧ s.size ≤ 10
  · obtain ⟨h1, h2⟩ := h
    have z1 : ¬ (s.size : Int) < 1 := by omega
    have z2 : ¬ (10 : Int) < (s.size : Int) := by omega
    have hno := Lib.hid (pfx_no s)
    have hy := Lib.hid (pfx_yes s h1 h2)
    unfold maxLen at hs
    go_enter Tryz.func54, Tryz.ntmps54
    go_wp2_with fail
    clear z1 z2
    go_loop [14] (fun i => ∃ k : Nat, k ≤ s.size ∧ i = .int .i64 k ∧ Hid (∀ j, j < k → (h' : j < s.size) → isDg s[j] = true)) (fun i => s.size - (intOf i).toNat)
    case atStart => exact ⟨0, by omega, rfl, Lib.hid (fun j h _ => by omega)⟩
    case round =>
      obtain ⟨k, hk, rfl, hall⟩ := hrel
      by_cases hlt : k < s.size
      · have hstep := Lib.hid (fun (hw : isDg s[k] = true) j (h : j < k + 1) (h' : j < s.size) => show isDg s[j] = true from by
          rcases Nat.lt_or_ge j k with c | c
          · exact hall.out j c h'
          · obtain rfl : j = k := by omega
            exact hw)
        have hN := Lib.hid (fun h => hno.out k hlt h)
        have HD := Lib.hid (fun W => HDG.out s[k] W)
        cases hd : isDg s[k]
        · rw [hd] at HD
          have hF := Lib.hid (hN.out hd)
          clear hd
          go_wp2_with fail
          refine (HD.out _).mono ?_
          rintro e w2 ⟨rfl, rfl⟩
          go_wp2_with fail
          go_ret
          exact ⟨by rw [hF.out]; rfl, rfl⟩
        · rw [hd] at HD
          have hS := Lib.hid (hstep.out hd)
          clear hd
          go_wp2_with fail
          refine (HD.out _).mono ?_
          rintro e w2 ⟨rfl, rfl⟩
          go_wp2_with fail
          go_round
          case rel => exact ⟨k + 1, by omega, by go_num, hS⟩
          case measure => simp [intOf]; omega
      · obtain rfl : k = s.size := by omega
        have hY := Lib.hid (hy.out (fun j h => hall.out j h h))
        go_wp2_with fail
        go_ret
        exact ⟨by rw [hY.out]; rfl, rfl⟩
  · have hno := Lib.hid (pfx_size s h)
    have hc : (s.size : Int) < 1 ∨ (¬ (s.size : Int) < 1 ∧ (10 : Int) < (s.size : Int)) := by omega
    clear h hs
    rcases hc with q | ⟨q, q'⟩
    all_goals
      go_enter Tryz.func54, Tryz.ntmps54
      go_wp2_with fail
      go_ret
      exact ⟨by rw [hno.out]; rfl, rfl⟩
set_option maxHeartbeats 1600000 in
theorem form_any (r : Rg) (w : World) (h1 : r.lo.size ≤ maxLen) (h2 : r.hi.size ≤ maxLen) : Calls Tryz.prog 39 #[.agg (rgC r)] w fun e w' => e = .returned (.bool (formB r.lo r.hi)) ∧ Below w.heap.size w w' := by
  obtain ⟨lo, hi, is, pr⟩ := r
  unfold rgC
  simp only at h1 h2 ⊢
  have HL := Lib.hid (fun W => pfx_any lo W h1)
  have HH := Lib.hid (fun W => pfx_any hi W h2)
  have HF : Hid (formB lo hi = (pfxB lo && pfxB hi && decide (lo.size = hi.size))) := Lib.hid rfl
  have HB := Lib.hid (alloc_lt w (.cells #[.string lo, .string hi, .string is, .string pr] 26))
  cases ha : pfxB lo
  · rw [ha] at HL HF
    have HF2 : Hid (formB lo hi = false) := Lib.hid (by rw [HF.out]; rfl)
    clear ha HF
    go_enter Tryz.func39, Tryz.ntmps39
    go_wp2_with fail
    refine (HL.out _).mono ?_
    rintro e w2 ⟨rfl, rfl⟩
    go_wp2_with fail
    go_ret
    exact ⟨by rw [HF2.out]; rfl, HB.out⟩
  · rw [ha] at HL HF
    cases hb : pfxB hi
    · rw [hb] at HH HF
      have HF2 : Hid (formB lo hi = false) := Lib.hid (by rw [HF.out]; rfl)
      clear ha hb HF
      go_enter Tryz.func39, Tryz.ntmps39
      go_wp2_with fail
      refine (HL.out _).mono ?_
      rintro e w2 ⟨rfl, rfl⟩
      go_wp2_with fail
      refine (HH.out _).mono ?_
      rintro e w2 ⟨rfl, rfl⟩
      go_wp2_with fail
      go_ret
      exact ⟨by rw [HF2.out]; rfl, HB.out⟩
    · rw [hb] at HH HF
      have HF2 : Hid (formB lo hi = decide (lo.size = hi.size)) := Lib.hid (by rw [HF.out]; rfl)
      have hq : (decide (lo.size = hi.size)) = ((lo.size : Int) == (hi.size : Int)) := by
        show decide (lo.size = hi.size) = decide ((lo.size : Int) = (hi.size : Int))
        rw [decide_eq_decide]; omega
      have HQ := Lib.hid hq
      clear ha hb HF hq
      go_enter Tryz.func39, Tryz.ntmps39
      go_wp2_with fail
      refine (HL.out _).mono ?_
      rintro e w2 ⟨rfl, rfl⟩
      go_wp2_with fail
      refine (HH.out _).mono ?_
      rintro e w2 ⟨rfl, rfl⟩
      go_wp2_with fail
      go_ret
      exact ⟨by rw [HF2.out, HQ.out]; rfl, HB.out⟩
end Go.Proofs.YtiegoffdbhmfbaaGreatDoor
