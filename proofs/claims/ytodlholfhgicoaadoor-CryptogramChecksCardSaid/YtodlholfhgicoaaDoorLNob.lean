/- The law Nobody. -/
import Derived.Test.YtodlholfhgicoaaDoorAwk
namespace Go.Proofs.YtodlholfhgicoaaDoor
set_option linter.unusedVariables false
open Go.RowKit Go.Sort Go.Maps

/-- A payment. -/
def payC (t : ByteArray) (c a : Int) (cur nonce code : ByteArray) (r : Bool) : Array Value := #[.string t, .int .i64 c, .int .i64 a, .string cur, .string nonce, .string code, .bool r]
def PayOk (x : ByteArray × Int × Int × ByteArray × ByteArray × ByteArray × Bool) : Prop := x.1.size ≤ maxLen ∧ x.2.2.2.1.size ≤ maxLen ∧ x.2.2.2.2.1.size ≤ maxLen ∧ x.2.2.2.2.2.1.size ≤ maxLen ∧ (-9223372036854775808 ≤ x.2.1 ∧ x.2.1 < 9223372036854775808)
set_option maxRecDepth 100000 in
set_option maxHeartbeats 1600000 in
theorem nobody_any (t : ByteArray) (c a : Int) (cur nonce code : ByteArray) (r : Bool) (w : World) (hw : KW w) : Calls Tryd.prog 7 #[.agg (payC t c a cur nonce code r)] w fun e w' => e = .returned (.bool true) ∧ Below w.heap.size w w' := by
  have HKW := Lib.hid hw
  have HCN := Lib.hid (fun W => check_nil t c a cur nonce code W)
  have HLN := Lib.hid (fun W => last_nil t W)
  have HUN := Lib.hid (fun W => used_nil t c W)
  have HAW := Lib.hid (fun W h => awake_any W h)
  have HB1 := Lib.hid (alloc_lt w (.cells (payC t c a cur nonce code r) 26))
  have K1 := Lib.hid (heap_alloc_new w (.cells (payC t c a cur nonce code r) 26))
  clear hw
  unfold payC at *
  go_enter Tryd.func7, Tryd.ntmps7
  go_wp2_with fail
  refine (HCN.out _).mono ?_
  rintro e w2 ⟨rfl, hb⟩
  obtain ⟨kk, z1, hb1⟩ := box1 hb
  have HB2 := Lib.hid hb1
  have k0 := cell_c kk 0
  have k1 := cell_c kk 1
  clear hb hb1 kk
  go_wp2_with fail
  refine (HLN.out _).mono ?_
  rintro e w3 ⟨rfl, rfl⟩
  go_wp2_with fail
  refine (HUN.out _).mono ?_
  rintro e w3 ⟨rfl, rfl⟩
  go_wp2_with fail
  refine (HAW.out _ (HKW.out.below HB2.out)).mono ?_
  rintro e w4 ⟨rfl, hb⟩
  have HB3 := Lib.hid (HB2.out.trans (hb.mono HB2.out.size))
  clear hb
  go_wp2_with fail
  go_ret
  exact ⟨rfl, HB3.out⟩
theorem cryptogramNobody_walk (w : World) (hw : KW w) (_ : True) (x : ByteArray × Int × Int × ByteArray × ByteArray × ByteArray × Bool) (_ : PayOk x) : Calls Tryd.prog 7 #[.agg (payC x.1 x.2.1 x.2.2.1 x.2.2.2.1 x.2.2.2.2.1 x.2.2.2.2.2.1 x.2.2.2.2.2.2)] w fun e w' => e = .returned (.bool true) ∧ Below w.heap.size w w' := nobody_any _ _ _ _ _ _ _ w hw
end Go.Proofs.YtodlholfhgicoaaDoor
