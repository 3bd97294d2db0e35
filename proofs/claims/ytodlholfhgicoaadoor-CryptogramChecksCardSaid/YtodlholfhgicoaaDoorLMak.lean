/- The law Makes. -/
import Derived.Test.YtodlholfhgicoaaDoorSma
namespace Go.Proofs.YtodlholfhgicoaaDoor
set_option linter.unusedVariables false
open Go.RowKit Go.Sort Go.Maps

theorem below_blk1 {w w' : World} {o : Obj} {b : Nat} (h : w.heap[b]? = some o) (hb : Below w.heap.size w w') : w'.heap[b]? = some o := blk_later h hb
set_option maxRecDepth 100000 in
set_option maxHeartbeats 3200000 in
theorem makes_any (k : Nat) (t : ByteArray) (c a : Int) (cur nonce code : ByteArray) (r : Bool) (win : Int) (w : World) (hw : KW w) (hk : k < M64) (h1 : t.size ≤ maxLen) (h2 : cur.size ≤ maxLen) (h3 : nonce.size ≤ maxLen) :
    Calls Tryd.prog 3 #[.int .u64 k, .agg (payC t c a cur nonce code r), .int .i64 win] w fun e w' => e = .returned (.bool true) ∧ Below w.heap.size w w' := by
  have HKW := Lib.hid hw
  have HS := Lib.hid (fun W => small_any t c a cur nonce code r W)
  have HM := Lib.hid (fun W hW => make_any k t c a cur nonce W hW hk h1 h2 h3)
  have HR := Lib.hid (fun W hW => rmake_any k t c a cur nonce W hW hk h1 h2 h3)
  have HAW := Lib.hid (fun W h => awake_any W h)
  have HN1 := Lib.hid (fun W => new_ok k win W)
  have HN2 := Lib.hid (fun W => new_bad k win W)
  have HN3 := Lib.hid (fun W => rnew_ok k win W)
  have HN4 := Lib.hid (fun W => rnew_bad k win W)
  have hl := run_loadVar_row (P := Tryd.prog) w
  clear hl
  have HB1 := Lib.hid (alloc_lt w (.cells (payC t c a cur nonce code r) 26))
  have K1 := Lib.hid (heap_alloc_new w (.cells (payC t c a cur nonce code r) 26))
  unfold MkPost at HM HR
  generalize mkV k t c a cur nonce = V at *
  generalize mkE t c a cur nonce = E at *
  have hq := ba_same V V rfl
  unfold payC at *
  clear hw
  cases hs : smallB t cur nonce code
  · rw [hs] at HS
    clear hs
    go_enter Tryd.func3, Tryd.ntmps3
    go_wp2_with fail
    refine (HS.out _).mono ?_
    rintro e w2 ⟨rfl, hb⟩
    obtain ⟨kk, z1, hb1⟩ := box1 hb
    have HB2 := Lib.hid hb1
    clear hb hb1 kk
    go_wp2_with fail
    refine (HAW.out _ (HKW.out.below HB2.out)).mono ?_
    rintro e w3 ⟨rfl, hb⟩
    have HB3 := Lib.hid (HB2.out.trans (hb.mono HB2.out.size))
    clear hb
    go_wp2_with fail
    go_ret
    exact ⟨rfl, HB3.out⟩
  · rw [hs] at HS
    clear hs
    have hwin : (0 ≤ win ∧ win ≤ 63) ∨ (win < 0 ∨ 63 < win) := by omega
    rcases hwin with ⟨q1, q2⟩ | q
    all_goals
      go_enter Tryd.func3, Tryd.ntmps3
      go_wp2_with fail
      refine (HS.out _).mono ?_
      rintro e w2 ⟨rfl, hb⟩
      obtain ⟨kk, z1, hb1⟩ := box1 hb
      have HB2 := Lib.hid hb1
      have KK := Lib.hid kk
      have k0 := cell_c kk 0
      have k1 := cell_c kk 1
      have k2 := cell_c kk 2
      have k3 := cell_c kk 3
      have k4 := cell_c kk 4
      clear hb hb1 kk
      go_wp2_with fail
      refine (HM.out _ (HKW.out.below HB2.out)).mono ?_
      rintro e w3 ⟨rfl, hb⟩
      have HB3 := Lib.hid (HB2.out.trans (hb.mono HB2.out.size))
      have KK := Lib.hid (blk_later KK.out hb)
      have k0 := cell_c KK.out 0
      have k1 := cell_c KK.out 1
      have k2 := cell_c KK.out 2
      have k3 := cell_c KK.out 3
      have k4 := cell_c KK.out 4
      clear hb
      go_wp2_with fail
      refine (HR.out _ (HKW.out.below HB3.out)).mono ?_
      rintro e w4 ⟨rfl, hb⟩
      have HB4 := Lib.hid (HB3.out.trans (hb.mono HB3.out.size))
      clear hb
      go_wp2_with fail
    · refine (HN1.out _ q1 q2).mono ?_
      rintro e w5 ⟨bc, rfl, _, hb⟩
      have HB5 := Lib.hid (HB4.out.trans (hb.mono HB4.out.size))
      clear hb
      go_wp2_with fail
      refine (HN3.out _ q1 q2).mono ?_
      rintro e w6 ⟨rfl, hb⟩
      have HB6 := Lib.hid (HB5.out.trans (hb.mono HB5.out.size))
      clear hb
      go_wp2_with fail
      refine (HAW.out _ (HKW.out.below HB6.out)).mono ?_
      rintro e w7 ⟨rfl, hb⟩
      have HB7 := Lib.hid (HB6.out.trans (hb.mono HB6.out.size))
      clear hb
      go_wp2_with fail
      go_ret
      exact ⟨rfl, HB7.out⟩
    · refine (HN2.out _ q).mono ?_
      rintro e w5 ⟨rfl, rfl⟩
      go_wp2_with fail
      refine (HN4.out _ q).mono ?_
      rintro e w6 ⟨rfl, rfl⟩
      go_wp2_with fail
      refine (HAW.out _ (HKW.out.below HB4.out)).mono ?_
      rintro e w7 ⟨rfl, hb⟩
      have HB7 := Lib.hid (HB4.out.trans (hb.mono HB4.out.size))
      clear hb
      go_wp2_with fail
      go_ret
      exact ⟨rfl, HB7.out⟩
theorem u64_nat {k : Int} (h : (Lit.int .u64 k).wf = true) : ∃ n : Nat, k = n ∧ n < M64 := by
  simp [Lit.wf] at h
  have e : IntKind.u64.min = 0 := by decide
  have e2 : M64 = 18446744073709551616 := by decide
  have e3 : IntKind.u64.max = 18446744073709551615 := by decide
  rw [e, e3] at h
  exact ⟨k.toNat, by omega, by omega⟩
theorem cryptogramMakes_walk (w : World) (hw : KW w) (_ : True) (k : Int) (hk : (Lit.int .u64 k).wf = true) (x : ByteArray × Int × Int × ByteArray × ByteArray × ByteArray × Bool) (hx : PayOk x) (n : Int) :
    Calls Tryd.prog 3 #[.int .u64 k, .agg (payC x.1 x.2.1 x.2.2.1 x.2.2.2.1 x.2.2.2.2.1 x.2.2.2.2.2.1 x.2.2.2.2.2.2), .int .i64 n] w fun e w' => e = .returned (.bool true) ∧ Below w.heap.size w w' := by
  obtain ⟨m, rfl, hm⟩ := u64_nat hk
  exact makes_any m _ _ _ _ _ _ _ n w hw hm hx.1 hx.2.1 hx.2.2.1
end Go.Proofs.YtodlholfhgicoaaDoor
