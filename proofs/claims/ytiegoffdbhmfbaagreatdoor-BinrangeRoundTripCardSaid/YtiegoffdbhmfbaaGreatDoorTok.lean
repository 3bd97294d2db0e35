/- Reading a table's text: skip, run. -/
import Derived.Test.YtiegoffdbhmfbaaGreatDoorRng
import Derived.Test.YtiegoffdbhmfbaaGreatDoorOrd
import Derived.Test.YtiegoffdbhmfbaaGreatDoorCmp
import Derived.Deep.LoopGhost
namespace Go.Proofs.YtiegoffdbhmfbaaGreatDoor
set_option linter.unusedVariables false
open Go.RowKit

/-- What lies outside of the blocks xs is as it was. -/
structure KeepL (xs : List Nat) (w w' : World) : Prop where
  os : w'.os = w.os
  tape : w'.tape = w.tape
  output : w'.output = w.output
  size : w.heap.size ≤ w'.heap.size
  block : ∀ k, k < w.heap.size → k ∉ xs → w'.heap[k]? = w.heap[k]?
theorem KeepL.refl (xs : List Nat) (w : World) : KeepL xs w w := ⟨rfl, rfl, rfl, Nat.le_refl _, fun _ _ _ => rfl⟩
theorem KeepL.trans {xs : List Nat} {a b c : World} (h : KeepL xs a b) (k : KeepL xs b c) : KeepL xs a c :=
  ⟨k.os.trans h.os, k.tape.trans h.tape, k.output.trans h.output, Nat.le_trans h.size k.size, fun i hi hx => (k.block i (Nat.lt_of_lt_of_le hi h.size) hx).trans (h.block i hi hx)⟩
theorem KeepL.of {xs : List Nat} {w w' : World} (h : Below w.heap.size w w') : KeepL xs w w' := ⟨h.os, h.tape, h.output, h.size, fun k hk _ => h.block k hk⟩
theorem KeepL.more {xs ys : List Nat} {w w' : World} (h : KeepL xs w w') (hs : ∀ k ∈ xs, k ∈ ys) : KeepL ys w w' := ⟨h.os, h.tape, h.output, h.size, fun k hk hx => h.block k hk (fun q => hx (hs k q))⟩
theorem KeepL.set {xs : List Nat} {w w' : World} (h : KeepL xs w w') {b : Nat} (hb : b ∈ xs) (o : Nat) (v : Value) : KeepL xs w (w'.setCell ⟨b, o, none⟩ v) :=
  h.trans ⟨rfl, rfl, rfl, by simp [World.setCell], fun k _ hk => Below.heap_setCell _ _ _ _ (fun e => hk (by rw [show k = b from e]; exact hb))⟩
theorem KeepL.draws {xs : List Nat} {w w' : World} (h : KeepL xs w w') (n : Nat) : KeepL xs w (w'.drewN n) := h.trans (KeepL.of (below_drewN w' n))
theorem KeepL.below {xs : List Nat} {B : Nat} {w0 w w' : World} (h : KeepL xs w w') (h0 : Below B w0 w) (hx : ∀ k ∈ xs, B ≤ k) (hB : B ≤ w.heap.size) : Below B w0 w' :=
  h0.trans ⟨h.os, h.tape, h.output, h.size, fun k hk => h.block k (by omega) (fun q => by have := hx k q; omega)⟩
theorem KeepL.blk {xs : List Nat} {w w' : World} (h : KeepL xs w w') {b : Nat} {o : Obj} (hb : w.heap[b]? = some o) (hx : b ∉ xs) : w'.heap[b]? = some o := by
  rw [h.block b (Array.getElem?_eq_some_iff.1 hb).1 hx]; exact hb
/-- A text and its place. -/
def TxW (P : Nat) (s : ByteArray) (at0 : Nat) (w : World) : Prop := w.heap[P]? = some (.cells #[.string s, .int .i64 at0] 57)
theorem TxW.draws {P : Nat} {s : ByteArray} {a : Nat} {w : World} (h : TxW P s a w) (n : Nat) : TxW P s a (w.drewN n) := h
theorem TxW.move {P : Nat} {s : ByteArray} {a : Nat} {w : World} (h : TxW P s a w) (b : Nat) : TxW P s b (w.setCell ⟨P, 1, none⟩ (.int .i64 b)) := heap_set1 h 1 _
/-- How many bytes are skipped. -/
def skL : Bool → List UInt8 → Nat
  | _, [] => 0
  | rem, b :: r => if b.toNat = 10 then 1 + skL false r else if rem = true ∨ b.toNat = 32 ∨ b.toNat = 9 then 1 + skL rem r else if b.toNat = 35 then 1 + skL true r else 0
theorem skL_le : ∀ (l : List UInt8) (rem : Bool), skL rem l ≤ l.length
  | [], _ => Nat.le_refl _
  | b :: r, rem => by
    unfold skL
    have h1 := skL_le r false
    have h2 := skL_le r rem
    have h3 := skL_le r true
    simp only [List.length_cons]
    split
    · omega
    · split
      · omega
      · split <;> omega
def skipP (s : ByteArray) (a : Nat) : Nat := a + skL false (s.data.toList.drop a)
theorem skipP_le {s : ByteArray} {a : Nat} (h : a ≤ s.size) : a ≤ skipP s a ∧ skipP s a ≤ s.size := by
  unfold skipP
  have := skL_le (s.data.toList.drop a) false
  rw [List.length_drop] at this
  have e : s.data.toList.length = s.size := rfl
  omega
theorem skL_at (s : ByteArray) (k : Nat) (h : k < s.size) (rem : Bool) : skL rem (s.data.toList.drop k) = if (s[k]).toNat = 10 then 1 + skL false (s.data.toList.drop (k + 1)) else if rem = true ∨ (s[k]).toNat = 32 ∨ (s[k]).toNat = 9 then 1 + skL rem (s.data.toList.drop (k + 1)) else if (s[k]).toNat = 35 then 1 + skL true (s.data.toList.drop (k + 1)) else 0 := by
  rw [drop_cons s k h, skL]
theorem skL_end (s : ByteArray) (rem : Bool) : skL rem (s.data.toList.drop s.size) = 0 := by
  have : s.data.toList.drop s.size = [] := List.drop_eq_nil_of_le (Nat.le_refl _)
  rw [this]; rfl
def SkPost (P : Nat) (s : ByteArray) (b : Nat) (w : World) (e : Ending) (w' : World) : Prop := e = .returned (.tuple #[]) ∧ TxW P s b w' ∧ KeepL [P] w w'
set_option maxRecDepth 1000000 in
set_option maxHeartbeats 12800000 in
theorem skip_any (P : Nat) (s : ByteArray) (a : Nat) (w : World) (ht : TxW P s a w) (ha : a ≤ s.size) (hs : s.size ≤ 100000) : Calls Tryz.prog 24 #[.pointer (some ⟨P, 0, none⟩)] w (SkPost P s (skipP s a) w) := by
  have HT := Lib.hid ht
  have HSK : Hid (skL false (s.data.toList.drop a) + a = skipP s a) := Lib.hid (Nat.add_comm _ _)

  clear ht
  go_enter Tryz.func24, Tryz.ntmps24
  go_wp2_with fail
  go_loopg [2] (s.size - a) (fun g v2 wr => ∃ (k : Nat) (rem : Bool), v2 = .bool rem ∧ k ≤ s.size ∧ s.size - k ≤ g ∧ Hid (TxW P s k wr ∧ KeepL [P] w wr) ∧ Hid (skL rem (s.data.toList.drop k) + k = skipP s a))
  case atStart => exact ⟨a, false, rfl, ha, Nat.le_refl _, Lib.hid ⟨HT.out, KeepL.refl _ _⟩, HSK⟩
  case round =>
    clear HSK
    obtain ⟨k, rem, rfl, hk, hg, HW, HQ⟩ := hrel
    have HGK := Lib.hid hg
    clear hg
    have t0 := cell_c (show wr.heap[P]? = some (.cells #[.string s, .int .i64 k] 57) from HW.out.1) 0
    have t1 := cell_c (show wr.heap[P]? = some (.cells #[.string s, .int .i64 k] 57) from HW.out.1) 1
    have ft := cell_f (show wr.heap[P]? = some (.cells #[.string s, .int .i64 k] 57) from HW.out.1) 1
    have hP : P < wr.heap.size := (Array.getElem?_eq_some_iff.1 HW.out.1).1
    by_cases hlt : k < s.size
    · have kI : (k : Int) < (s.size : Int) := by omega
      have k0 : (0 : Int) ≤ (k : Int) := by omega
      have wk : IntKind.i64.wrap ((k : Int) + 1) = (k : Int) + 1 := IntWalk.i64_in _ (by omega)
      have hst := skL_at s k hlt rem
      rw [Nat.add_comm] at HQ
      have hq := HQ.out
      rw [hst] at hq
      have hk1 : k + 1 ≤ s.size := hlt
      have hNX : ∀ (m : Nat) (b : Bool), k + (1 + skL b (s.data.toList.drop (k + 1))) = skipP s a → Hid (skL b (s.data.toList.drop (k + 1)) + (k + 1) = skipP s a) ∧ Hid (TxW P s (k + 1) ((wr.drewN m).setCell ⟨P, 1, none⟩ (.int .i64 ((k : Int) + 1))) ∧ KeepL [P] w ((wr.drewN m).setCell ⟨P, 1, none⟩ (.int .i64 ((k : Int) + 1)))) := fun m b h => ⟨Lib.hid (by omega), Lib.hid ⟨(HW.out.1.draws m).move (k + 1), (HW.out.2.draws m).set (by simp) _ _⟩⟩
      have HNX := Lib.hid hNX
      clear hNX hst
      have hxs : (s[k]).toNat < 256 := (s[k]).toNat_lt
      obtain ⟨x, hx⟩ : ∃ x, (s[k]).toNat = x := ⟨_, rfl⟩
      rw [hx] at hq
      have HX := Lib.hid hx
      have hways : (x = 10) ∨ (¬ x = 10 ∧ rem = true) ∨ (¬ x = 10 ∧ rem = false ∧ x = 32) ∨ (¬ x = 10 ∧ rem = false ∧ ¬ x = 32 ∧ x = 9) ∨ (¬ x = 10 ∧ rem = false ∧ ¬ x = 32 ∧ ¬ x = 9 ∧ x = 35) ∨ (¬ x = 10 ∧ rem = false ∧ ¬ x = 32 ∧ ¬ x = 9 ∧ ¬ x = 35) := by cases rem <;> simp <;> omega
      rcases hways with h10 | ⟨h10, rfl⟩ | ⟨h10, rfl, h32⟩ | ⟨h10, rfl, h32, h9⟩ | ⟨h10, rfl, h32, h9, h35⟩ | ⟨h10, rfl, h32, h9, h35⟩
      · have e10 : (((s[k]).toNat : Int) == 10) = true := by rw [HX.out]; simp; omega
        rw [if_pos h10] at hq
        have HR := Lib.hid (fun m => HNX.out m _ hq)
        clear hq hx h10
        go_wp2_with fail
        go_quiet (fail)
        go_wp2_with fail
        go_quiet (fail)
        go_wp2_with fail
        go_roundg (s.size - (k + 1))
        case measure => have := HGK.out; omega
        case rel => exact ⟨k + 1, _, rfl, hk1, Nat.le_refl _, (HR.out _).2, (HR.out 0).1⟩
      · have e10 : (((s[k]).toNat : Int) == 10) = false := by rw [HX.out]; simp; omega
        rw [if_neg h10, if_pos (.inl rfl)] at hq
        have HR := Lib.hid (fun m => HNX.out m _ hq)
        clear hq hx h10
        go_wp2_with fail
        go_quiet (fail)
        go_wp2_with fail
        go_quiet (fail)
        go_wp2_with fail
        go_roundg (s.size - (k + 1))
        case measure => have := HGK.out; omega
        case rel => exact ⟨k + 1, _, rfl, hk1, Nat.le_refl _, (HR.out _).2, (HR.out 0).1⟩
      · have e10 : (((s[k]).toNat : Int) == 10) = false := by rw [HX.out]; simp; omega
        have e32 : (((s[k]).toNat : Int) == 32) = true := by rw [HX.out]; simp; omega
        rw [if_neg h10, if_pos (.inr (.inl h32))] at hq
        have HR := Lib.hid (fun m => HNX.out m _ hq)
        clear hq hx h10 h32
        go_wp2_with fail
        go_quiet (fail)
        go_wp2_with fail
        go_quiet (fail)
        go_wp2_with fail
        go_roundg (s.size - (k + 1))
        case measure => have := HGK.out; omega
        case rel => exact ⟨k + 1, _, rfl, hk1, Nat.le_refl _, (HR.out _).2, (HR.out 0).1⟩
      · have e10 : (((s[k]).toNat : Int) == 10) = false := by rw [HX.out]; simp; omega
        have e32 : (((s[k]).toNat : Int) == 32) = false := by rw [HX.out]; simp; omega
        have e9 : (((s[k]).toNat : Int) == 9) = true := by rw [HX.out]; simp; omega
        rw [if_neg h10, if_pos (.inr (.inr h9))] at hq
        have HR := Lib.hid (fun m => HNX.out m _ hq)
        clear hq hx h10 h32 h9
        go_wp2_with fail
        go_quiet (fail)
        go_wp2_with fail
        go_quiet (fail)
        go_wp2_with fail
        go_roundg (s.size - (k + 1))
        case measure => have := HGK.out; omega
        case rel => exact ⟨k + 1, _, rfl, hk1, Nat.le_refl _, (HR.out _).2, (HR.out 0).1⟩
      · have e10 : (((s[k]).toNat : Int) == 10) = false := by rw [HX.out]; simp; omega
        have e32 : (((s[k]).toNat : Int) == 32) = false := by rw [HX.out]; simp; omega
        have e9 : (((s[k]).toNat : Int) == 9) = false := by rw [HX.out]; simp; omega
        have e35 : (((s[k]).toNat : Int) == 35) = true := by rw [HX.out]; simp; omega
        rw [if_neg h10, if_neg (by simp [h32, h9]), if_pos h35] at hq
        have HR := Lib.hid (fun m => HNX.out m _ hq)
        clear hq hx h10 h32 h9 h35
        go_wp2_with fail
        go_quiet (fail)
        go_wp2_with fail
        go_quiet (fail)
        go_wp2_with fail
        go_roundg (s.size - (k + 1))
        case measure => have := HGK.out; omega
        case rel => exact ⟨k + 1, _, rfl, hk1, Nat.le_refl _, (HR.out _).2, (HR.out 0).1⟩
      · have e10 : (((s[k]).toNat : Int) == 10) = false := by rw [HX.out]; simp; omega
        have e32 : (((s[k]).toNat : Int) == 32) = false := by rw [HX.out]; simp; omega
        have e9 : (((s[k]).toNat : Int) == 9) = false := by rw [HX.out]; simp; omega
        have e35 : (((s[k]).toNat : Int) == 35) = false := by rw [HX.out]; simp; omega
        rw [if_neg h10, if_neg (by simp [h32, h9]), if_neg h35] at hq
        have HE := Lib.hid (show k = skipP s a by omega)
        clear hq hx h10 h32 h9 h35
        go_wp2_with fail
        go_quiet (fail)
        go_wp2_with fail
        go_quiet (fail)
        go_wp2_with fail
        go_end0
        exact ⟨rfl, by rw [← HE.out]; exact HW.out.1.draws _, HW.out.2.draws _⟩
    · obtain rfl : k = s.size := by omega
      have HE := Lib.hid (show s.size = skipP s a by have := HQ.out; rw [skL_end] at this; omega)
      go_wp2_with fail
      go_quiet (fail)
      go_wp2_with fail
      go_end0
      exact ⟨rfl, by rw [← HE.out]; exact HW.out.1.draws _, HW.out.2.draws _⟩
end Go.Proofs.YtiegoffdbhmfbaaGreatDoor
