/- The walks of Digest, of the program and of the reference. -/
import Derived.Test.YtoiddojmlhknlaaDoorNum
import Derived.Deep.RegionHeld3
import Derived.Deep.DrawnRows
namespace Go.Proofs.YtoiddojmlhknlaaDoor
set_option linter.unusedVariables false
open Go.RowKit Go.Maps
attribute [local go_sem ↓] Go.wp_at_zero Go.wp_at_succ

def bNum (n : Int) : ByteArray := ⟨(Lib.itoa n).toArray⟩
def bDec (n : Nat) : ByteArray := ⟨(Lib.decDigits n).toArray⟩
/-- The text of an item, of which the digest takes the hash. -/
def itmText (k : ByteArray) (n : Int) (h : Nat) : ByteArray := (((k ++ ⟨#[47]⟩) ++ bNum n) ++ ⟨#[47]⟩) ++ bDec h
def itmHash (x : Itm) : Nat := fnv H0 (itmText x.k x.n x.h.toNat).data.toList
def digStep (s : Nat) (x : Itm) : Nat := (s + itmHash x) % M64
/-- The digest of some items. -/
def digOf (l : List Itm) : Nat := l.foldl digStep 0
theorem digOf_snoc (l : List Itm) (x : Itm) : digOf (l ++ [x]) = digStep (digOf l) x := by simp [digOf]
theorem digOf_lt (l : List Itm) : digOf l < M64 := by
  have key : ∀ (l : List Itm) (s : Nat), s < M64 → l.foldl digStep s < M64 := by
    intro l
    induction l with
    | nil => intro s h; exact h
    | cons x l ih => intro s h; exact ih _ (Nat.mod_lt _ M64_pos)
  exact key l 0 M64_pos
/-- An item as it may come in. -/
def okI (x : Itm) : Prop := x.k.size ≤ 100 ∧ -9223372036854775808 ≤ x.n ∧ x.n ≤ 9223372036854775807 ∧ 0 ≤ x.h ∧ x.h < 18446744073709551616
theorem nDigits_le (u : Nat) (h : u < 18446744073709551616) : (Lib.decDigits u).length ≤ 20 := by
  rw [Lib.decDigits_length]
  rcases Nat.eq_zero_or_pos u with h0 | h0
  · subst h0; decide +kernel
  · have := Lib.numDigits_eq u h0 h; split at this <;> omega
theorem bDec_size (u : Nat) (h : u < 18446744073709551616) : (bDec u).size ≤ 20 := by
  have := nDigits_le u h
  unfold bDec
  show (Lib.decDigits u).toArray.size ≤ 20
  simpa using this
theorem bNum_size (n : Int) (h0 : -9223372036854775808 ≤ n) (h1 : n ≤ 9223372036854775807) : (bNum n).size ≤ 21 := by
  unfold bNum
  show (Lib.itoa n).toArray.size ≤ 21
  unfold Lib.itoa
  split
  · have := nDigits_le n.natAbs (by omega)
    simp
    first
      | omega
      | (have e : (-n).toNat = n.natAbs := by omega
         rw [e]; omega)
  · have := nDigits_le n.toNat (by omega)
    simpa using (by omega : (Lib.decDigits n.toNat).length ≤ 21)
theorem keepD {w3 w' : World} {m0 : Nat} {u0 u1 u2 : Value} (h : Below w3.heap.size w3 w') (l0 : m0 < w3.heap.size)
    (a0 : w3.cell? ⟨m0, 0, none⟩ = some u0) (a1 : w3.cell? ⟨m0, 1, none⟩ = some u1) (a2 : w3.cell? ⟨m0, 2, none⟩ = some u2) :
    Below w3.heap.size w3 w' ∧ w'.cell? ⟨m0, 0, none⟩ = some u0 ∧ w'.cell? ⟨m0, 1, none⟩ = some u1 ∧ w'.cell? ⟨m0, 2, none⟩ = some u2 :=
  ⟨h, (h.cell (p := ⟨m0, 0, none⟩) l0).trans a0, (h.cell (p := ⟨m0, 1, none⟩) l0).trans a1, (h.cell (p := ⟨m0, 2, none⟩) l0).trans a2⟩
theorem dig_wrap (a b : Nat) : IntKind.u64.wrap ((a : Int) + (b : Int)) = (((a + b) % M64 : Nat) : Int) := by
  rw [IntKind.wrap_u64]; unfold M64; omega
theorem itmText_list (k : ByteArray) (n : Int) (h : Nat) : (itmText k n h).data.toList = k.data.toList ++ 47 :: ((bNum n).data.toList ++ 47 :: (bDec h).data.toList) := by
  unfold itmText; simp
set_option maxHeartbeats 3200000 in
theorem digest_any (B bf : Nat) (ob : Option Nat) (l : List Itm) (w : World) (hf : FolderW w B bf ob l) (hl : l.length ≤ 1000) (hok : ∀ x ∈ l, okI x) (ht : TabW w) :
    Calls Tryd.prog 15 #[.pointer (some ⟨bf, 0, none⟩)] w fun e w' => e = .returned (.int .u64 (digOf l)) ∧ Below w.heap.size w w' := by
  obtain ⟨A, c, hblk, hob, hrow, hlc, hown⟩ := hf.open_
  have HROW := Lib.hid hrow
  have HOK := Lib.hid hok
  have HT := Lib.hid ht
  have c0 := (cell_blk hblk).1
  clear hblk hob hrow hown hf hok ht
  go_enter Tryd.func15, Tryd.ntmps15
  go_wp2_with fail
  go_loopw [3, 13] (fun t i wr => ∃ k : Nat, k ≤ l.length ∧ i = .int .i64 k ∧ t = .int .u64 (digOf (l.take k)) ∧ Below w.heap.size w wr) (fun _ i _ => l.length - (intOf i).toNat)
  case atStart => exact ⟨0, Nat.zero_le _, rfl, rfl, Below.refl _ _⟩
  case round =>
    obtain ⟨k, hk, rfl, rfl, hb⟩ := hrel
    have HB := Lib.hid hb
    clear hb
    by_cases hlt : k < l.length
    · rcases HROW.out.below HB.out with h0 | ⟨b, off, ha, hc⟩
      · rw [cellsOf_length] at h0; omega
      subst ha
      obtain ⟨d0, d1, d2⟩ := row_item hc k hlt
      have hx := Lib.hid (HOK.out l[k] (List.getElem_mem hlt))
      have hst := Lib.hid (show digOf (l.take (k + 1)) = digStep (digOf (l.take k)) l[k] by rw [List.take_succ_eq_append_getElem hlt, digOf_snoc])
      clear hc c0
      generalize l[k] = x at *
      obtain ⟨hu, hhu⟩ : ∃ u : Nat, x.h = u := ⟨x.h.toNat, by have := hx.out.2.2.2.1; omega⟩
      have HHU := Lib.hid hhu
      rw [hhu] at d2
      clear hhu
      have s1 := hx.out.1
      have s2 := bNum_size x.n hx.out.2.1 hx.out.2.2.1
      have hulim : hu < 18446744073709551616 := by have := hx.out.2.2.2.2; have := HHU.out; omega
      have s3 := bDec_size hu hulim
      have hitoa := Lib.hid (fun W h => itoa_any x.n W h hx.out.2.1 hx.out.2.2.1)
      have hfu := Lib.hid (fun W h => fuint_any hu W h hulim)
      rw [show (⟨(Lib.itoa x.n).toArray⟩ : ByteArray) = bNum x.n from rfl] at hitoa
      rw [show (⟨(Lib.decDigits hu).toArray⟩ : ByteArray) = bDec hu from rfl] at hfu
      have hih : Hid (itmHash x = fnv H0 (itmText x.k x.n hu).data.toList) := Lib.hid (by unfold itmHash; rw [HHU.out, Int.toNat_natCast])
      have hhash := Lib.hid (fun W => hash_any (itmText x.k x.n hu) W (by unfold itmText maxLen; simp only [ByteArray.size_append]; show x.k.size + 1 + _ + 1 + _ ≤ _; omega))
      unfold itmText at hhash
      have cat1 := fun W => run_string_add_sum (P := Tryd.prog) W x.k ⟨#[47]⟩ (by show x.k.size + 1 ≤ _; omega)
      have cat2 := fun W => run_string_add_sum (P := Tryd.prog) W (x.k ++ ⟨#[47]⟩) (bNum x.n) (by rw [ByteArray.size_append]; show x.k.size + 1 + _ ≤ _; omega)
      have cat3 := fun W => run_string_add_sum (P := Tryd.prog) W ((x.k ++ ⟨#[47]⟩) ++ bNum x.n) ⟨#[47]⟩ (by rw [ByteArray.size_append, ByteArray.size_append]; show x.k.size + 1 + _ + 1 ≤ _; omega)
      have cat4 := fun W => run_string_add_sum (P := Tryd.prog) W (((x.k ++ ⟨#[47]⟩) ++ bNum x.n) ++ ⟨#[47]⟩) (bDec hu) (by rw [ByteArray.size_append, ByteArray.size_append, ByteArray.size_append]; show x.k.size + 1 + _ + 1 + _ ≤ _; omega)
      go_wp2_with fail
      have e0 : (wr.alloc (Obj.cells #[.string x.k, .int .i64 x.n, .int .u64 hu] 35)).cell? ⟨wr.heap.size, 0, none⟩ = some (.string x.k) := by simp
      have e1 : (wr.alloc (Obj.cells #[.string x.k, .int .i64 x.n, .int .u64 hu] 35)).cell? ⟨wr.heap.size, 1, none⟩ = some (.int .i64 x.n) := by simp
      have e2 : (wr.alloc (Obj.cells #[.string x.k, .int .i64 x.n, .int .u64 hu] 35)).cell? ⟨wr.heap.size, 2, none⟩ = some (.int .u64 hu) := by simp
      have HB2 : Hid (Below w.heap.size w (wr.alloc (Obj.cells #[.string x.k, .int .i64 x.n, .int .u64 hu] 35))) := Lib.hid (HB.out.alloc HB.out.size _)
      generalize (wr.alloc (Obj.cells #[.string x.k, .int .i64 x.n, .int .u64 hu] 35)) = W at *
      have hltW : wr.heap.size < W.heap.size := World.block_lt_of_cell? W _ e0
      have HTW := Lib.hid (HT.out.below HB2.out)
      go_region_held3 (fun w' => Below W.heap.size W w' ∧ w'.cell? ⟨wr.heap.size, 0, none⟩ = some (.string x.k) ∧ w'.cell? ⟨wr.heap.size, 1, none⟩ = some (.int .i64 x.n) ∧ w'.cell? ⟨wr.heap.size, 2, none⟩ = some (.int .u64 hu))
        (first
          | exact keepD (Below.drew (Below.refl _ _)) hltW e0 e1 e2
          | (go_split_ands; exact keepD (below2 (by assumption) hb) hltW e0 e1 e2)
          | (go_split_ands; exact keepD (by assumption) hltW e0 e1 e2))
        (first
          | (go_at_call 29; refine (hitoa.out _ ?_).mono ?_; (go_split_ands; exact HTW.out.below (by assumption)); rintro e w' ⟨rfl, hb⟩)
          | (go_at_call 30; refine (hfu.out _ ?_).mono ?_; (go_split_ands; exact HTW.out.below (by assumption)); rintro e w' ⟨rfl, hb⟩)
          | (go_at_call 28; refine (hhash.out _).mono ?_; rintro e w' ⟨rfl, rfl⟩))
      all_goals
        rename_i hh
        have HH := Lib.hid hh.1
        have HHB : Hid (Below w.heap.size w w') := Lib.hid (HB2.out.trans (HH.out.mono HB2.out.size))
        clear hh
        go_wp2_with fail
        go_roundw
        case rel => exact ⟨k + 1, by omega, by go_num, by rw [hst.out, dig_wrap]; unfold digStep; rw [hih.out, itmText_list], HHB.out⟩
        case measure => simp [intOf]; omega
    · obtain rfl : k = l.length := by omega
      go_wp2_with fail
      go_ret
      exact ⟨by rw [List.take_length]; rfl, HB.out⟩
end Go.Proofs.YtoiddojmlhknlaaDoor
