/- The walks of Parse. -/
import Derived.Test.YtijceaapfbpfcaaDoorWalk2
import Derived.Handy
namespace Go.Proofs.YtijceaapfbpfcaaDoor
set_option linter.unusedVariables false
open Go.RowKit

def chr (s : ByteArray) (i : Nat) : Int := ((s.data.toList.getD i 0).toNat : Int)
def isD (x : Int) : Prop := 48 ≤ x ∧ x ≤ 57
instance (x : Int) : Decidable (isD x) := inferInstanceAs (Decidable (48 ≤ x ∧ x ≤ 57))
/-- Ten bytes that look like a date. -/
def parOK (s : ByteArray) : Prop := (isD (chr s 0) ∧ isD (chr s 1) ∧ isD (chr s 2) ∧ isD (chr s 3)) ∧ chr s 4 = 45 ∧ (isD (chr s 5) ∧ isD (chr s 6)) ∧ chr s 7 = 45 ∧ (isD (chr s 8) ∧ isD (chr s 9))
instance (s : ByteArray) : Decidable (parOK s) := by unfold parOK; exact inferInstance
def n4 (a b c d : Int) : Int := 10 * (10 * (10 * (a - 48) + (b - 48)) + (c - 48)) + (d - 48)
def n2 (a b : Int) : Int := 10 * (a - 48) + (b - 48)
def parY (s : ByteArray) : Int := n4 (chr s 0) (chr s 1) (chr s 2) (chr s 3)
def parM (s : ByteArray) : Int := n2 (chr s 5) (chr s 6)
def parD (s : ByteArray) : Int := n2 (chr s 8) (chr s 9)
def parV (s : ByteArray) : Value :=
  if s.size < 10 then .tuple #[.int .i64 0, .int .i64 1] else if 10 < s.size then .tuple #[.int .i64 0, .int .i64 3]
  else if parOK s then .tuple #[.int .i64 (ofN (parY s) (parM s) (parD s)), .int .i64 (ofE (parY s) (parM s) (parD s))] else .tuple #[.int .i64 0, .int .i64 2]
theorem chr_at (s : ByteArray) (i : Nat) (h : i < s.size) : chr s i = (s[i].toNat : Int) := by
  unfold chr
  have h' : i < s.data.size := h
  simp only [List.getD, Array.getElem?_toList, Array.getElem?_eq_getElem h', Option.getD_some]; rfl
theorem parV_short (s : ByteArray) (h : s.size < 10) : parV s = .tuple #[.int .i64 0, .int .i64 1] := if_pos h
theorem parV_long (s : ByteArray) (h : 10 < s.size) : parV s = .tuple #[.int .i64 0, .int .i64 3] := by unfold parV; rw [if_neg (by omega), if_pos h]
theorem parV_bad (s : ByteArray) (h : s.size = 10) (hb : ¬ parOK s) : parV s = .tuple #[.int .i64 0, .int .i64 2] := by unfold parV; rw [if_neg (by omega), if_neg (by omega), if_neg hb]
theorem parV_ok (s : ByteArray) (h : s.size = 10) (hb : parOK s) : parV s = .tuple #[.int .i64 (ofN (parY s) (parM s) (parD s)), .int .i64 (ofE (parY s) (parM s) (parD s))] := by unfold parV; rw [if_neg (by omega), if_neg (by omega), if_pos hb]
theorem par_bytes (s : ByteArray) (h : s.size = 10) : ∃ c0 c1 c2 c3 c4 c5 c6 c7 c8 c9 : UInt8,
    ((∀ h, s[0]'h = c0) ∧ (∀ h, s[1]'h = c1) ∧ (∀ h, s[2]'h = c2) ∧ (∀ h, s[3]'h = c3) ∧ (∀ h, s[4]'h = c4) ∧ (∀ h, s[5]'h = c5) ∧ (∀ h, s[6]'h = c6) ∧ (∀ h, s[7]'h = c7) ∧ (∀ h, s[8]'h = c8) ∧ (∀ h, s[9]'h = c9)) ∧
    (chr s 0 = c0.toNat ∧ chr s 1 = c1.toNat ∧ chr s 2 = c2.toNat ∧ chr s 3 = c3.toNat ∧ chr s 4 = c4.toNat ∧ chr s 5 = c5.toNat ∧ chr s 6 = c6.toNat ∧ chr s 7 = c7.toNat ∧ chr s 8 = c8.toNat ∧ chr s 9 = c9.toNat) :=
  ⟨s[0], s[1], s[2], s[3], s[4], s[5], s[6], s[7], s[8], s[9], ⟨fun _ => rfl, fun _ => rfl, fun _ => rfl, fun _ => rfl, fun _ => rfl, fun _ => rfl, fun _ => rfl, fun _ => rfl, fun _ => rfl, fun _ => rfl⟩,
    chr_at s 0 (by omega), chr_at s 1 (by omega), chr_at s 2 (by omega), chr_at s 3 (by omega), chr_at s 4 (by omega), chr_at s 5 (by omega), chr_at s 6 (by omega), chr_at s 7 (by omega), chr_at s 8 (by omega), chr_at s 9 (by omega)⟩
set_option maxHeartbeats 1600000 in
theorem parse_any (s : ByteArray) (w : World) (hs : s.size ≤ 1000) (hm : MD w) :
    Calls Tryd.prog 29 #[.string s] w fun e w' => e = .returned (parV s) ∧ Below w.heap.size w w' := by
  rcases Nat.lt_trichotomy s.size 10 with h | h | h
  · have hv := Lib.hid (parV_short s h)
    go_enter Tryd.func29, Tryd.ntmps29
    go_wp2_with fail
    go_ret2
    exact ⟨by rw [hv.out]; rfl, Below.refl _ _⟩
  case inr.inr =>
    have hv := Lib.hid (parV_long s h)
    go_enter Tryd.func29, Tryd.ntmps29
    go_wp2_with fail
    go_ret2
    exact ⟨by rw [hv.out]; rfl, Below.refl _ _⟩
  have hbad := Lib.hid (parV_bad s h)
  have hok := Lib.hid (parV_ok s h)
  have hmh := Lib.hid hm
  obtain ⟨c0, c1, c2, c3, c4, c5, c6, c7, c8, c9, ⟨g0, g1, g2, g3, g4, g5, g6, g7, g8, g9⟩, hch⟩ := par_bytes s h
  have HCH := Lib.hid hch
  have b0 := c0.toNat_lt
  have b1 := c1.toNat_lt
  have b2 := c2.toNat_lt
  have b3 := c3.toNat_lt
  have b5 := c5.toNat_lt
  have b6 := c6.toNat_lt
  have b8 := c8.toNat_lt
  have b9 := c9.toNat_lt
  clear hch hm
  go_enter Tryd.func29, Tryd.ntmps29
  go_wp2_with fail
  refine wp_loop_rounds 11 ?_
  repeat any_goals (rw [rounds_succ]; go_wp2_with fail)
  all_goals first
    | (go_ret2; exact ⟨by rw [hbad.out (by intro hp; unfold parOK isD at hp; have hq := HCH.out; first | omega | (rename_i hx; simp only [bne_iff_ne, ne_eq] at hx; omega))]; rfl, by go_grown⟩)
    | skip
  have x4 : ((c4.toNat : Int) != 45) = false := by assumption
  have x7 : ((c7.toNat : Int) != 45) = false := by assumption
  have y4 : (c4.toNat : Int) = 45 := by simpa using x4
  have y7 : (c7.toNat : Int) = 45 := by simpa using x7
  have hgood := Lib.hid (hok.out (by have hq := HCH.out; unfold parOK isD; omega))
  have hnum : Hid (n4 c0.toNat c1.toNat c2.toNat c3.toNat = parY s ∧ n2 c5.toNat c6.toNat = parM s ∧ n2 c8.toNat c9.toNat = parD s) := by
    have hq := HCH.out
    unfold parY parM parD
    rw [hq.1, hq.2.1, hq.2.2.1, hq.2.2.2.1, hq.2.2.2.2.2.1, hq.2.2.2.2.2.2.1, hq.2.2.2.2.2.2.2.2.1, hq.2.2.2.2.2.2.2.2.2]
    exact Lib.hid ⟨rfl, rfl, rfl⟩
  clear y4 y7 x4 x7
  refine (of_any _ _ _ _ (hmh.out.below ((Below.refl _ _).alloc (Nat.le_refl _) _))).mono ?_
  rintro e w' ⟨rfl, rfl⟩
  go_wp2_with fail
  go_ret2
  exact ⟨by rw [hgood.out, ← hnum.out.1, ← hnum.out.2.1, ← hnum.out.2.2]; rfl, by go_grown⟩
end Go.Proofs.YtijceaapfbpfcaaDoor
