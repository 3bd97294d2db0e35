/- The walks of the keyed digests: bytes of a key, mixing, Mac, Derive; the reference's. -/
import Derived.Test.YtodlholfhgicoaaDoorHash
import Derived.Test.YtodlholfhgicoaaDoorNum
import Derived.Handy
import Derived.Lib.Join
namespace Go.Proofs.YtodlholfhgicoaaDoor
set_option linter.unusedVariables false
open Go.RowKit

/-- The eight bytes of a number, the most significant one first. -/
def be8 (h : Nat) : List UInt8 := [h / 72057594037927936 % 256, h / 281474976710656 % 256, h / 1099511627776 % 256, h / 4294967296 % 256, h / 16777216 % 256, h / 65536 % 256, h / 256 % 256, h % 256].map UInt8.ofNat
def be8i (h : Nat) : List Int := [(h : Int) / 72057594037927936 % 256, (h : Int) / 281474976710656 % 256, (h : Int) / 1099511627776 % 256, (h : Int) / 4294967296 % 256, (h : Int) / 16777216 % 256, (h : Int) / 65536 % 256, (h : Int) / 256 % 256, (h : Int) % 256]
theorem be8_i (h : Nat) : (strOfNums (be8i h)).data.toList = be8 h := by
  rw [strOfNums_data]
  simp only [be8i, be8, List.map_cons, List.map_nil]
  congr 1
theorem strOfNums_append (xs ys : List Int) : strOfNums xs ++ strOfNums ys = strOfNums (xs ++ ys) := by
  simp [strOfNums, ByteArray.mk_append_mk]
theorem empty_append (xs : List Int) : (ByteArray.mk #[]) ++ strOfNums xs = strOfNums xs := by
  have := strOfNums_append [] xs
  simpa [strOfNums] using this
theorem append_empty (xs : List Int) : strOfNums xs ++ (ByteArray.mk #[]) = strOfNums xs := by
  have := strOfNums_append xs []
  simpa [strOfNums] using this
theorem make8 (w : World) : (Instr.makeSlice 87 (.int .i64 8) (.int .i64 8)).run Tryd.prog w = .ok (.slice (some ⟨w.heap.size, 0, none⟩) 8 8) (w.alloc (.cells #[.int .u8 0, .int .u8 0, .int .u8 0, .int .u8 0, .int .u8 0, .int .u8 0, .int .u8 0, .int .u8 0] 5)) := by kernel_rfl
set_option maxRecDepth 100000 in
theorem back8 (w : World) (x0 x1 x2 x3 x4 x5 x6 x7 : Int) : (convert 87 9 (.slice (some ⟨w.heap.size, 0, none⟩) 8 8)).run Tryd.prog (w.alloc (.cells #[.int .u8 x0, .int .u8 x1, .int .u8 x2, .int .u8 x3, .int .u8 x4, .int .u8 x5, .int .u8 x6, .int .u8 x7] 5)) = .ok (.string (strOfNums [x0, x1, x2, x3, x4, x5, x6, x7])) (w.alloc (.cells #[.int .u8 x0, .int .u8 x1, .int .u8 x2, .int .u8 x3, .int .u8 x4, .int .u8 x5, .int .u8 x6, .int .u8 x7] 5)) := by
  refine run_convert_bytes_arg _ 87 5 Tryd.underlying87 Tryd.underlying5 _ 0 8 8 [x0, x1, x2, x3, x4, x5, x6, x7] rfl ?_ 9 Tryd.underlying9
  intro i hi
  rw [World.cell?_alloc_mark]
  match i, hi with
  | 0, _ => rfl
  | 1, _ => rfl
  | 2, _ => rfl
  | 3, _ => rfl
  | 4, _ => rfl
  | 5, _ => rfl
  | 6, _ => rfl
  | 7, _ => rfl
set_option maxRecDepth 100000 in
theorem back1 (w : World) (x0 : Int) : (convert 87 9 (.slice (some ⟨w.heap.size, 0, none⟩) 1 1)).run Tryd.prog (w.alloc (.cells #[.int .u8 x0] 5)) = .ok (.string (strOfNums [x0])) (w.alloc (.cells #[.int .u8 x0] 5)) := by
  refine run_convert_bytes_arg _ 87 5 Tryd.underlying87 Tryd.underlying5 _ 0 1 1 [x0] rfl ?_ 9 Tryd.underlying9
  intro i hi
  rw [World.cell?_alloc_mark]
  match i, hi with
  | 0, _ => rfl
theorem back1' (w : World) (b : Nat) (x0 : Int) (hb : b = w.heap.size) : (convert 87 9 (.slice (some ⟨b, 0, none⟩) 1 1)).run Tryd.prog (w.alloc (.cells #[.int .u8 x0] 5)) = .ok (.string (strOfNums [x0])) (w.alloc (.cells #[.int .u8 x0] 5)) := by
  subst hb; exact back1 w x0
/-- The eight bytes as a string. -/
def keyS (h : Nat) : ByteArray := strOfNums (be8i h)
theorem keyS_list (h : Nat) : (keyS h).data.toList = be8 h := be8_i h
theorem be8_length (h : Nat) : (be8 h).length = 8 := rfl
theorem keyS_size (h : Nat) : (keyS h).size = 8 := by unfold keyS; rw [strOfNums_size]; rfl
theorem keyS_nested (h : Nat) : keyS h = strOfNums [(h : Int) / 256 / 256 / 256 / 256 / 256 / 256 / 256 % 256, (h : Int) / 256 / 256 / 256 / 256 / 256 / 256 % 256, (h : Int) / 256 / 256 / 256 / 256 / 256 % 256, (h : Int) / 256 / 256 / 256 / 256 % 256, (h : Int) / 256 / 256 / 256 % 256, (h : Int) / 256 / 256 % 256, (h : Int) / 256 % 256, (h : Int) % 256] := by
  unfold keyS be8i
  congr 1
  simp only [List.cons.injEq]
  refine ⟨by omega, by omega, by omega, by omega, by omega, by omega, trivial⟩
set_option maxRecDepth 100000 in
set_option maxHeartbeats 400000 in
theorem keyBytes_any (h : Nat) (w : World) (hh : h < M64) :
    Calls Tryd.prog 48 #[.int .u64 h] w fun e w' => e = .returned (.string (keyS h)) ∧ Below w.heap.size w w' := by
  have hmk := make8
  have hbk := back8
  clear hh
  unfold keyS be8i
  go_enter Tryd.func48, Tryd.ntmps48
  go_wp2_with fail
  refine wp_loop_rounds 9 ?_
  repeat any_goals (rw [rounds_succ]; go_wp2_with fail)
  go_ret
  exact ⟨rfl, (Below.refl _ _).alloc (Nat.le_refl _) _⟩
set_option maxRecDepth 100000 in
set_option maxHeartbeats 400000 in
theorem eight_any (h : Nat) (w : World) (hh : h < M64) :
    Calls Tryd.prog 56 #[.int .u64 h] w fun e w' => e = .returned (.string (keyS h)) ∧ Below w.heap.size w w' := by
  have hbk := back1'
  have hap := strOfNums_append
  have hem := append_empty
  unfold M64 at hh
  have hk8 := Lib.hid (keyS_nested h)
  go_enter Tryd.func56, Tryd.ntmps56
  go_wp2_with fail
  refine wp_loop_rounds 9 ?_
  repeat any_goals (rw [rounds_succ]; go_wp2_with fail)
  go_ret
  exact ⟨by rw [hk8.out]; rfl, by go_grown⟩
/-- The mixing of a number. -/
def mixY (x : Nat) : Nat := x ^^^ (x / 536870912)
def mixZ (y : Nat) : Nat := (13787848793156543929 * y) % M64
def mixN (x : Nat) : Nat := mixZ (mixY x) ^^^ (mixZ (mixY x) / 4294967296)
theorem mixZ_lt (y : Nat) : mixZ y < M64 := Nat.mod_lt _ M64_pos
theorem mixN_lt (x : Nat) : mixN x < M64 := by
  have := mixZ_lt (mixY x)
  unfold mixN M64 at *
  exact Nat.xor_lt_two_pow (n := 64) (by omega) (by omega)
theorem mix1 (x : Nat) (hx : x < M64) : bits .xor .u64 (x : Int) ((x : Int) / 536870912) = ((mixY x : Nat) : Int) := by
  unfold M64 at hx
  rw [show (x : Int) / 536870912 = ((x / 536870912 : Nat) : Int) by omega]
  exact u64_xor_nat x (x / 536870912) hx (by omega)
theorem mix2 (y : Nat) : IntKind.u64.wrap ((y : Int) * 13787848793156543929) = ((mixZ y : Nat) : Int) := by
  rw [IntKind.wrap_u64]; unfold mixZ M64; omega
theorem mix3 (x : Nat) : bits .xor .u64 ((mixZ (mixY x) : Nat) : Int) (((mixZ (mixY x) : Nat) : Int) / 4294967296) = ((mixN x : Nat) : Int) := by
  have h := mixZ_lt (mixY x)
  unfold mixN
  generalize mixZ (mixY x) = z at *
  unfold M64 at h
  rw [show (z : Int) / 4294967296 = ((z / 4294967296 : Nat) : Int) by omega]
  exact u64_xor_nat z (z / 4294967296) h (by omega)
set_option maxRecDepth 100000 in
set_option maxHeartbeats 400000 in
theorem rmix_any (x : Nat) (w : World) (hx : x < M64) :
    Calls Tryd.prog 54 #[.int .u64 x] w fun e w' => e = .returned (.int .u64 (mixN x)) ∧ w = w' := by
  have h1 := mix1 x hx
  have h2 := mix2 (mixY x)
  have h3 := mix3 x
  clear hx
  go_enter Tryd.func54, Tryd.ntmps54
  go_wp2_with fail
  go_ret
  exact ⟨rfl, rfl⟩
/-- The digest of data under a key. -/
def macOf (k : Nat) (d : List UInt8) : Nat := mixN (fnv H0 (be8 k ++ d ++ be8 k))
theorem macOf_lt (k : Nat) (d : List UInt8) : macOf k d < M64 := mixN_lt _
theorem join3 (a b c : List UInt8) : Lib.join [a, b, c] [] = a ++ b ++ c := by simp [Lib.join, List.intercalate]
set_option maxRecDepth 100000 in
set_option maxHeartbeats 400000 in
theorem mixed_any (bk : Nat) (k : Nat) (d : ByteArray) (w : World) (hk : k < M64) (hd : d.size ≤ 100000)
    (h0 : w.cell? ⟨bk, 0, none⟩ = some (.string (keyS k))) (h1 : w.cell? ⟨bk, 1, none⟩ = some (.string d)) (h2 : w.cell? ⟨bk, 2, none⟩ = some (.string (keyS k))) :
    Calls Tryd.prog 49 #[.slice (some ⟨bk, 0, none⟩) 3 3] w fun e w' => e = .returned (.int .u64 (macOf k d.data.toList)) ∧ Below w.heap.size w w' := by
  have hj := Tryd.strings_Join bk 0 3 [keyS k, d, keyS k] ⟨#[]⟩ w (fun j x hx => by
    match j, hx with
    | 0, hx => simp at hx; subst hx; exact h0
    | 1, hx => simp at hx; subst hx; exact h1
    | 2, hx => simp at hx; subst hx; exact h2
    | n + 3, hx => simp at hx) (World.block_lt_of_cell? w _ h0) (by simp) (by simp) (by
      simp only [List.map_cons, List.map_nil, join3, List.length_append]
      have := keyS_size k; simp at *; omega)
  have ej : Lib.join ([keyS k, d, keyS k].map (·.data.toList)) (ByteArray.mk #[]).data.toList = be8 k ++ d.data.toList ++ be8 k := by
    simp only [List.map_cons, List.map_nil, keyS_list]; exact join3 _ _ _
  rw [ej] at hj
  obtain ⟨S, hS⟩ : ∃ S : ByteArray, S = ⟨(be8 k ++ d.data.toList ++ be8 k).toArray⟩ := ⟨_, rfl⟩
  rw [← hS] at hj
  have hSd : S.data.toList = be8 k ++ d.data.toList ++ be8 k := by rw [hS]
  have hm : macOf k d.data.toList = mixN (fnv H0 S.data.toList) := by unfold macOf; rw [hSd]
  rw [hm]
  have HJ := Lib.hid hj
  have hl := Lib.hid (show S.size ≤ maxLen by
    have h1 : S.size = S.data.toList.length := Lib.size_eq S
    have h2 : d.size = d.data.toList.length := Lib.size_eq d
    rw [h1, hSd, List.length_append, List.length_append, be8_length, ← h2]; unfold maxLen; omega)
  have e1 := mix1 (fnv H0 S.data.toList) (fnv_lt _ _ H0_lt)
  have e2 := mix2 (mixY (fnv H0 S.data.toList))
  have e3 := mix3 (fnv H0 S.data.toList)
  clear h0 h1 h2 hj ej hS hSd hm hk hd
  go_enter Tryd.func49, Tryd.ntmps49
  go_wp2_with fail
  refine HJ.out.mono ?_
  rintro e w1 ⟨rfl, hb⟩
  have HB := Lib.hid hb
  clear hb
  go_wp2_with fail
  refine (hash_any _ _ hl.out).mono ?_
  rintro e w2 ⟨rfl, rfl⟩
  go_wp2_with fail
  go_ret
  exact ⟨rfl, HB.out⟩
set_option maxRecDepth 100000 in
set_option maxHeartbeats 400000 in
theorem mac_any (k : Nat) (d : ByteArray) (w : World) (hk : k < M64) (hd : d.size ≤ 100000) :
    Calls Tryd.prog 29 #[.int .u64 k, .string d] w fun e w' => e = .returned (.int .u64 (macOf k d.data.toList)) ∧ Below w.heap.size w w' := by
  have hkb := Lib.hid (keyBytes_any k w hk)
  go_enter Tryd.func29, Tryd.ntmps29
  go_wp2_with fail
  refine hkb.out.mono ?_
  rintro e w1 ⟨rfl, hb⟩
  have HB := Lib.hid hb
  clear hb
  go_wp2_with fail
  refine (mixed_any _ k d _ hk hd ?_ ?_ ?_).mono ?_
  · rw [World.cell?_alloc_new]; rfl
  · rw [World.cell?_alloc_new]; rfl
  · rw [World.cell?_alloc_new]; rfl
  rintro e w2 ⟨rfl, hb2⟩
  have HB2 := Lib.hid hb2
  clear hb2
  go_wp2_with fail
  go_ret
  exact ⟨rfl, (HB.out.alloc HB.out.size _).trans (HB2.out.mono (by simp; exact Nat.le_succ_of_le HB.out.size))⟩
set_option maxRecDepth 100000 in
set_option maxHeartbeats 400000 in
theorem rmac_any (k : Nat) (d : ByteArray) (w : World) (hk : k < M64) (hd : d.size ≤ 100000) :
    Calls Tryd.prog 34 #[.int .u64 k, .string d] w fun e w' => e = .returned (.int .u64 (macOf k d.data.toList)) ∧ Below w.heap.size w w' := by
  have h8 := Lib.hid (fun w => eight_any k w hk)
  have hm := Lib.hid (show macOf k d.data.toList = mixN (fnv H0 ((keyS k).data.toList ++ (d.data.toList ++ (keyS k).data.toList))) by
    unfold macOf; rw [← keyS_list, List.append_assoc])
  have hl := Lib.hid (show (keyS k ++ d ++ keyS k).size ≤ maxLen by
    rw [ByteArray.size_append, ByteArray.size_append, keyS_size]; unfold maxLen; omega)
  have hks := keyS_size k
  clear hk
  go_enter Tryd.func34, Tryd.ntmps34
  go_wp2_with fail
  refine (h8.out _).mono ?_
  rintro e w1 ⟨rfl, hb⟩
  have HB := Lib.hid hb
  clear hb
  go_wp2_with fail
  refine (h8.out _).mono ?_
  rintro e w2 ⟨rfl, hb⟩
  have HB2 := Lib.hid (HB.out.trans (hb.mono HB.out.size))
  clear hb
  go_wp2_with fail
  refine (rhash_any _ _ hl.out).mono ?_
  rintro e w3 ⟨rfl, rfl⟩
  go_wp2_with fail
  refine (rmix_any _ _ (fnv_lt _ _ H0_lt)).mono ?_
  rintro e w3 ⟨rfl, rfl⟩
  go_wp2_with fail
  go_ret
  exact ⟨by rw [hm.out]; rfl, HB2.out⟩
def lab : ByteArray := ⟨#[100, 101, 114, 105, 118, 101, 58]⟩
theorem lab_size (d : ByteArray) (h : d.size ≤ 1000) : (lab ++ d).size ≤ 100000 := by
  rw [ByteArray.size_append]; have : lab.size = 7 := rfl
  omega
set_option maxRecDepth 100000 in
set_option maxHeartbeats 400000 in
theorem derive_any (k : Nat) (d : ByteArray) (w : World) (hk : k < M64) (hd : d.size ≤ 1000) :
    Calls Tryd.prog 30 #[.int .u64 k, .string d] w fun e w' => e = .returned (.int .u64 (macOf k (lab ++ d).data.toList)) ∧ Below w.heap.size w w' := by
  have hm := Lib.hid (mac_any k (lab ++ d) w hk (lab_size d hd))
  clear hk
  go_enter Tryd.func30, Tryd.ntmps30
  go_wp2_with fail
  refine hm.out.mono ?_
  rintro e w1 ⟨rfl, hb⟩
  have HB := Lib.hid hb
  clear hb
  go_wp2_with fail
  go_ret
  exact ⟨rfl, HB.out⟩
set_option maxRecDepth 100000 in
set_option maxHeartbeats 400000 in
theorem rderive_any (k : Nat) (d : ByteArray) (w : World) (hk : k < M64) (hd : d.size ≤ 1000) :
    Calls Tryd.prog 35 #[.int .u64 k, .string d] w fun e w' => e = .returned (.int .u64 (macOf k (lab ++ d).data.toList)) ∧ Below w.heap.size w w' := by
  have hm := Lib.hid (rmac_any k (lab ++ d) w hk (lab_size d hd))
  clear hk
  go_enter Tryd.func35, Tryd.ntmps35
  go_wp2_with fail
  refine hm.out.mono ?_
  rintro e w1 ⟨rfl, hb⟩
  have HB := Lib.hid hb
  clear hb
  go_wp2_with fail
  go_ret
  exact ⟨rfl, HB.out⟩
end Go.Proofs.YtodlholfhgicoaaDoor
