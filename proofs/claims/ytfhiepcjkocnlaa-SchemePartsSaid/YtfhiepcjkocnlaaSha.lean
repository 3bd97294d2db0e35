/- The walk of Share. -/
import Derived.Test.YtfhiepcjkocnlaaSpt
import Derived.Test.YtfhiepcjkocnlaaWhl
namespace Go.Proofs.Ytfhiepcjkocnlaa
set_option linter.unusedVariables false
open Go.RowKit

def countsV (v : List Vol) : List Int := v.map Vol.c
theorem countsV_at (v : List Vol) (k : Nat) : (countsV v).getD k 0 = (v.getD k default).c := by
  unfold countsV
  rw [List.getD_eq_getElem?_getD, List.getD_eq_getElem?_getD, List.getElem?_map]
  cases v[k]? <;> rfl
theorem volE_all {l : List Vol} (h : volE l = 0) : ∀ j, j < l.length → badV l j = 0 := by
  unfold volE at h
  cases hf : (List.range l.length).find? (fun i => badV l i != 0) with
  | some i =>
    rw [hf] at h
    have := List.find?_some hf
    simp at this
    exact absurd h this
  | none =>
    rw [List.find?_eq_none] at hf
    intro j hj
    have := hf j (List.mem_range.2 hj)
    simpa using this
theorem tot_sum {v : List Vol} : ∀ k, (∀ j, j < k → badV v j = 0) → (totW (countsV v) k : Int) = sumC v k
  | 0, _ => rfl
  | k + 1, h => by
    have ih := tot_sum k (fun j hj => h j (by omega))
    have := badV_ok (h k (by omega))
    unfold totW at *
    rw [sumTo, sumC, natsOf_at, countsV_at]
    omega
/-- What is known when whole gives a fee. -/
structure WholeOK (t : List Tr) (v : List Vol) : Prop where
  len : v.length ≤ 16
  all : ∀ j, j < v.length → badV v j = 0
  fee : feeE t (sumC v v.length) = 0
  val : wholeV t v = feeV t (sumC v v.length)
  lo : 0 ≤ wholeV t v
  hi : wholeV t v ≤ 4503599627370496
  chk : chkE t = 0
  cnt : 0 ≤ sumC v v.length ∧ sumC v v.length ≤ 1000000000
theorem whole_ok {t : List Tr} {v : List Vol} (h : wholeE t v = 0) : WholeOK t v := by
  have h' := h
  unfold wholeE at h'
  split at h'
  · rename_i hc
    split at h'
    · omega
    · rename_i h16
      split at h'
      · rename_i hv
        have hcnt : 0 ≤ sumC v v.length ∧ sumC v v.length ≤ 1000000000 := by
          have h2 := h'
          unfold feeE at h2
          rw [if_pos hc] at h2
          split at h2
          · omega
          · omega
        have hval : wholeV t v = feeV t (sumC v v.length) := by unfold wholeV; rw [if_pos h]
        have hok := okT_of_chk hc
        have hb : 0 ≤ feeS t (sumC v v.length) 0 := by
          obtain ⟨n, hn⟩ := Int.eq_ofNat_of_zero_le hcnt.1
          rw [hn]
          exact (feeS_bd hok (by intro e; rw [e] at hc; exact absurd hc (by decide)) n).1
        have hfv := fee_val hc hcnt.1 hcnt.2 rfl hb
        have hle : (feeS t (sumC v v.length) 0 + 50) / 100 ≤ 4503599627370496 := by
          rcases Int.lt_or_le 4503599627370496 ((feeS t (sumC v v.length) 0 + 50) / 100) with q | q
          · have := (hfv.1 q).1; omega
          · exact q
        have hv2 := (hfv.2 hle).2
        exact ⟨by omega, volE_all hv, h', hval, by rw [hval, hv2]; omega, by rw [hval, hv2]; exact hle, hc, hcnt⟩
      · rename_i hv; exact absurd h' hv
  · rename_i hc; exact absurd h' hc
/-- The share of the i-th party. -/
def shareF (t : List Tr) (v : List Vol) (i : Nat) : Int := if sumC v v.length = 0 then 0 else amtF (wholeV t v) (wholeV t v).natAbs (totW (countsV v) v.length) (natsOf (countsV v)) i
def SharePost (n : Nat) (f : Nat → Int) (w : World) (e : Ending) (w' : World) : Prop :=
  ∃ L, e = .returned (.tuple #[.slice (some ⟨L, 0, none⟩) n n, .int .i64 0]) ∧ w'.rowIs L 2 n (fun i => .int .i64 (f i)) ∧ w.heap.size ≤ L ∧ Below w.heap.size w w'
set_option maxHeartbeats 1600000 in
theorem share_bad (A : Option Addr) (c : Nat) (t : List Tr) (B : Option Addr) (d : Nat) (v : List Vol) (w : World) (hr : IsRow w A (cellsT t)) (hl : t.length ≤ 1000000) (hup : upT t) (hv : IsRow w B (cellsV v)) (hvl : v.length ≤ 1000000) (hns : ∀ x ∈ v, x.s.size ≤ maxLen) (hbad : wholeE t v ≠ 0) :
    Calls Try.prog 10 #[.slice A t.length c, .slice B v.length d] w fun e w' => e = .returned (.tuple #[.slice none 0 0, .int .i64 (wholeE t v)]) ∧ Below w.heap.size w w' := by
  have hw := whole_any A c t B d v w hr hl hup hv hvl hns
  obtain ⟨e0, he0⟩ : ∃ e0, wholeE t v = e0 := ⟨_, rfl⟩
  obtain ⟨v0, hv0⟩ : ∃ v0, wholeV t v = v0 := ⟨_, rfl⟩
  rw [he0, hv0] at hw
  rw [he0] at hbad ⊢
  have HW := Lib.hid hw
  have hzb : (e0 != 0) = true := bne_iff_ne.2 hbad
  clear hw hr hv hns hup hbad he0 hv0
  go_enter Try.func10, Try.ntmps10
  go_wp2_with fail
  refine HW.out.mono ?_
  rintro e w1 ⟨rfl, hb⟩
  have HB := Lib.hid hb
  clear hb
  go_wp2_with fail
  go_ret2
  exact ⟨rfl, HB.out⟩
set_option maxRecDepth 100000 in
set_option maxHeartbeats 6400000 in
theorem share_ok (A : Option Addr) (c : Nat) (t : List Tr) (B : Option Addr) (d : Nat) (v : List Vol) (w : World) (hr : IsRow w A (cellsT t)) (hl : t.length ≤ 1000000) (hup : upT t) (hv : IsRow w B (cellsV v)) (hvl : v.length ≤ 1000000) (hns : ∀ x ∈ v, x.s.size ≤ maxLen) (hok : wholeE t v = 0) :
    Calls Try.prog 10 #[.slice A t.length c, .slice B v.length d] w (SharePost v.length (shareF t v) w) := by
  have hw := whole_any A c t B d v w hr hl hup hv hvl hns
  have hwo := whole_ok hok
  have HW16 := hwo.len
  have HWO := Lib.hid hwo
  obtain ⟨fee, hfee⟩ : ∃ fee, wholeV t v = fee := ⟨_, rfl⟩
  rw [hok, hfee] at hw
  have HF := Lib.hid (show 0 ≤ fee ∧ fee ≤ 4503599627370496 by rw [← hfee]; exact ⟨hwo.lo, hwo.hi⟩)
  have HFEE := Lib.hid hfee
  have HV := Lib.hid hv
  have hk1 := fun W => make_one (t := 26) (e := 2) (k := .i64) Try.underlying26 mk2 v.length (by omega) W
  clear hr hv hns hup hfee hwo hok
  obtain ⟨n, hn⟩ : ∃ n, v.length = n := ⟨_, rfl⟩
  rw [hn] at hk1 HW16 hw ⊢
  have HN := Lib.hid hn
  have HW := Lib.hid hw
  clear hn hw
  go_enter Try.func10, Try.ntmps10
  go_wp2_with fail
  refine HW.out.mono ?_
  rintro e w1 ⟨rfl, hb⟩
  have HB := Lib.hid hb
  clear hb
  have hwsz := HB.out.size
  go_upto_region 4 with (fail)
  go_cut [8, 9] (fun s u wx => ∃ x y : Nat, s = .slice (some ⟨x, 0, none⟩) n n ∧ u = .slice (some ⟨y, 0, none⟩) n n ∧ x ≠ y ∧ w.heap.size ≤ x ∧ w.heap.size ≤ y ∧ Hid (wx.rowIs x 2 n (fun _ => .int .i64 0)) ∧ Hid (wx.rowIs y 2 n (fun _ => .int .i64 0)) ∧ Hid (Below w.heap.size w wx))
  case first =>
    have r1 := World.rowIs_made w1 (.int .i64 0) n 2
    have r2 := World.rowIs_made (w1.alloc (.cells (madeCells #[.int .i64 0] n) 2)) (.int .i64 0) n 2
    rw [World.size_alloc] at r2
    have R1 := Lib.hid (r1.alloc (.cells (madeCells #[.int .i64 0] n) 2))
    have R2 := Lib.hid r2
    have hbb := ((Below.refl w1.heap.size w1).alloc (Nat.le_refl _) (.cells (madeCells #[.int .i64 0] n) 2)).alloc (by simp) (.cells (madeCells #[.int .i64 0] n) 2)
    have HBB := Lib.hid (HB.out.trans (hbb.mono HB.out.size))
    clear r1 r2 hbb
    go_region
    all_goals
      go_wp2_with fail
      go_meet
    · exact ⟨_, _, rfl, rfl, by omega, by omega, by omega, R1, R2, Lib.hid (HBB.out.trans ⟨rfl, rfl, rfl, Nat.le_refl _, fun _ _ => rfl⟩)⟩
    · exact ⟨_, _, rfl, rfl, by omega, by omega, by omega, R2, R1, Lib.hid (HBB.out.trans ⟨rfl, rfl, rfl, Nat.le_refl _, fun _ _ => rfl⟩)⟩
  case rest =>
    obtain ⟨x, y, rfl, rfl, hxy, hx, hy, hrx, hry, hbl⟩ := hcut
    clear hk1
    go_wp2_with fail
    go_loopw [10, 33] (fun sm i wr => ∃ k : Nat, k ≤ n ∧ i = .int .i64 k ∧ sm = .int .i64 (sumC v k) ∧ Hid (wr.rowIs x 2 n (fun _ => .int .i64 0)) ∧ Hid (wr.rowIs y 2 n (fun i => .int .i64 (if i < k then (v.getD i default).c else 0))) ∧ Hid (Below w.heap.size w wr)) (fun _ i _ => n - (intOf i).toNat)
    case atStart => exact ⟨0, Nat.zero_le _, rfl, rfl, hrx, Lib.hid (hry.out.congr (fun i hi => by rw [if_neg (by omega)])), hbl⟩
    case round =>
      obtain ⟨k, hk, rfl, rfl, hrx, hry, hbl⟩ := hrel
      by_cases hlt : k < n
      · rcases HV.out.below hbl.out with h0 | ⟨b, off, ha, hc⟩
        · rw [cellsV_length, HN.out] at h0; omega
        obtain ⟨d0, d1⟩ := row_vol hc k (by rw [HN.out]; exact hlt)
        have hgood := badV_ok (HWO.out.all k (by rw [HN.out]; exact hlt))
        have hsb := sumC_bd k (fun j hj => HWO.out.all j (by rw [HN.out]; omega))
        have hsm := Lib.hid (show sumC v (k + 1) = sumC v k + (v.getD k default).c from rfl)
        obtain ⟨xs, hxs⟩ : ∃ xs, (v.getD k default).s = xs := ⟨_, rfl⟩
        obtain ⟨xc, hxc⟩ : ∃ xc, (v.getD k default).c = xc := ⟨_, rfl⟩
        rw [hxs] at d0
        rw [hxc] at d1 hsm hgood
        obtain ⟨_, _, g1, g2⟩ := hgood
        have z0 := (hry.out.alloc (.cells #[.string xs, .int .i64 xc] 31)).cell hlt
        have z1 := (hry.out.alloc (.cells #[.string xs, .int .i64 xc] 31)).frozen k
        rw [if_neg (by omega)] at z0
        have HRX := Lib.hid ((hrx.out.setOther (a := ⟨y, k, none⟩) hxy (.int .i64 xc)).alloc (.cells #[.string xs, .int .i64 xc] 31))
        have HRY := Lib.hid (((hry.out.set k (.int .i64 xc)).alloc (.cells #[.string xs, .int .i64 xc] 31)).congr (g := fun i => .int .i64 (if i < k + 1 then (v.getD i default).c else 0)) (fun i hi => by
          by_cases e : i = k
          · rw [if_pos e, e, if_pos (show k < k + 1 by omega), hxc]
          · rw [if_neg e]
            by_cases l : i < k
            · rw [if_pos l, if_pos (show i < k + 1 by omega)]
            · rw [if_neg l, if_neg (show ¬ i < k + 1 by omega)]))
        have HBL := Lib.hid ((hbl.out.setCell (p := ⟨y, k, none⟩) hy (.int .i64 xc)).alloc (by simpa using hbl.out.size) (.cells #[.string xs, .int .i64 xc] 31))
        obtain ⟨sk, hsk⟩ : ∃ sk, sumC v k = sk := ⟨_, rfl⟩
        rw [hsk] at hsb hsm ⊢
        subst ha
        have hyl := hry.out.lt
        have hyn : ¬ y = wr.heap.size := by omega
        clear hc hxs hxc hsk hrx hry hbl
        go_wp2_with fail
        go_roundw
        case rel => exact ⟨k + 1, by omega, by go_num, by rw [hsm.out], HRX, HRY, HBL⟩
        case measure => simp [intOf]; omega
      · obtain rfl : k = n := by omega
        have hcnt := HWO.out.cnt
        have htot := tot_sum v.length HWO.out.all
        rw [HN.out] at hcnt htot
        by_cases hs0 : sumC v k = 0
        · have hz : (sumC v k == 0) = true := beq_iff_eq.2 hs0
          have HSF := Lib.hid (show ∀ i, shareF t v i = 0 from fun i => by unfold shareF; rw [HN.out, if_pos hs0])
          clear hs0 hcnt htot
          generalize sumC v k = sk at *
          go_wp2_with fail
          go_ret2
          exact ⟨x, rfl, hrx.out.congr (fun i hi => by rw [HSF.out]), hx, hbl.out⟩
        · have hz : (sumC v k == 0) = false := beq_eq_false_iff_ne.2 hs0
          have hlen : (countsV v).length = k := by simp [countsV]; exact HN.out
          have hrow : IsRow wr (some ⟨y, 0, none⟩) (cellsI (countsV v)) := by
            refine .inr ⟨y, 0, rfl, fun j u hj => ?_⟩
            have hjk : j < k := by
              have := (List.getElem?_eq_some_iff.1 hj).1
              simpa [cellsI, hlen] using this
            rw [Nat.zero_add, hry.out.cell hjk, if_pos hjk]
            have : (cellsI (countsV v))[j]? = some (.int .i64 ((countsV v).getD j 0)) := by simp [cellsI, hlen, hjk]
            rw [this, countsV_at] at hj
            exact hj
          have hEUR : curB ⟨#[69, 85, 82]⟩ = true := by decide
          have hmon : monE fee ⟨#[69, 85, 82]⟩ = 0 := by
            unfold monE
            rw [if_pos hEUR, if_pos (by unfold inT; have := HF.out; rw [decide_eq_true (by omega), decide_eq_true (by omega)]; rfl)]
          have hallw : allW (countsV v) = true := allW_yes (by omega) (fun j hj => by
            rw [countsV_at, okW_iff]
            have := badV_ok (HWO.out.all j (by rw [HN.out]; omega))
            omega)
          have hspl := split_ok fee ⟨#[69, 85, 82]⟩ (some ⟨y, 0, none⟩) k (countsV v) wr hrow (by decide) hmon hallw (by rw [hlen]; omega) (by rw [hlen]; exact sortOK_small (by omega))
          rw [hlen] at hspl
          have HSF := Lib.hid (show ∀ i, shareF t v i = amtF fee fee.natAbs (totW (countsV v) k) (natsOf (countsV v)) i from fun i => by unfold shareF; rw [HN.out, if_neg hs0, HFEE.out])
          generalize amtF fee fee.natAbs (totW (countsV v) k) (natsOf (countsV v)) = f at hspl HSF
          have HSPL := Lib.hid hspl
          clear hs0 hcnt htot hlen hrow hEUR hmon hallw hspl
          generalize sumC v k = sk at *
          go_wp2_with fail
          refine HSPL.out.mono ?_
          rintro e w2 ⟨L, rfl, hrl, hL, hb2⟩
          have HRX := Lib.hid (hrx.out.of_block (hb2.block _ hrx.out.lt))
          have HRL := Lib.hid hrl
          have HB2 := Lib.hid (hbl.out.trans (hb2.mono hbl.out.size))
          have hxL : x < L := Nat.lt_of_lt_of_le hrx.out.lt hL
          have hLw := hrl.lt
          clear hrl hb2 hrx hry hbl hL
          go_wp2_with fail
          go_loopw [63] (fun i wr => ∃ j : Nat, j ≤ k ∧ i = .int .i64 j ∧ Hid (wr.rowIs x 2 k (fun i => .int .i64 (if i < j then f i else 0))) ∧ Hid (wr.rowIs L 58 (k * 2) (fun j => if j % 2 = 0 then .int .i64 (f (j / 2)) else .string ⟨#[69, 85, 82]⟩)) ∧ Hid (Below w.heap.size w wr)) (fun i _ => k - (intOf i).toNat)
          case atStart => exact ⟨0, Nat.zero_le _, rfl, Lib.hid (HRX.out.congr (fun i hi => by rw [if_neg (by omega)])), HRL, HB2⟩
          case round =>
            obtain ⟨j, hj, rfl, hrx, hrl, hbl⟩ := hrel
            by_cases hlt : j < k
            · have l0 := hrl.out.cell (i := j * 2) (by omega)
              have l1 := hrl.out.cell (i := j * 2 + 1) (by omega)
              rw [if_pos (by omega), show j * 2 / 2 = j by omega] at l0
              rw [if_neg (by omega)] at l1
              obtain ⟨fj, hfj⟩ : ∃ fj, f j = fj := ⟨_, rfl⟩
              rw [hfj] at l0
              have z0 := (hrx.out.alloc (.cells #[.int .i64 fj, .string ⟨#[69, 85, 82]⟩] 58)).cell hlt
              have z1 := (hrx.out.alloc (.cells #[.int .i64 fj, .string ⟨#[69, 85, 82]⟩] 58)).frozen j
              rw [if_neg (by omega)] at z0
              have HRY := Lib.hid ((hrl.out.alloc (.cells #[.int .i64 fj, .string ⟨#[69, 85, 82]⟩] 58)).setOther (a := ⟨x, j, none⟩) (by dsimp only; omega) (.int .i64 fj))
              have HRZ := Lib.hid (((hrx.out.alloc (.cells #[.int .i64 fj, .string ⟨#[69, 85, 82]⟩] 58)).set j (.int .i64 fj)).congr (g := fun i => .int .i64 (if i < j + 1 then f i else 0)) (fun i hi => by
                by_cases e : i = j
                · rw [if_pos e, e, if_pos (show j < j + 1 by omega), hfj]
                · rw [if_neg e]
                  by_cases l : i < j
                  · rw [if_pos l, if_pos (show i < j + 1 by omega)]
                  · rw [if_neg l, if_neg (show ¬ i < j + 1 by omega)]))
              have HBL := Lib.hid ((hbl.out.alloc hbl.out.size (.cells #[.int .i64 fj, .string ⟨#[69, 85, 82]⟩] 58)).setCell (p := ⟨x, j, none⟩) hx (.int .i64 fj))
              clear hfj hrx hrl hbl
              go_wp2_with fail
              go_roundw
              case rel => exact ⟨j + 1, by omega, by go_num, HRZ, HRY, HBL⟩
              case measure => simp [intOf]; omega
            · obtain rfl : j = k := by omega
              go_wp2_with fail
              go_ret2
              exact ⟨x, rfl, hrx.out.congr (fun i hi => by rw [if_pos hi, HSF.out]), hx, hbl.out⟩
end Go.Proofs.Ytfhiepcjkocnlaa
