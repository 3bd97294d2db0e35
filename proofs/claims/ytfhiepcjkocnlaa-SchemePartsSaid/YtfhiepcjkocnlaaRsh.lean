/- The walk of the reference's Share. -/
import Derived.Test.YtfhiepcjkocnlaaRsp
import Derived.Test.YtfhiepcjkocnlaaRtot
import Derived.Test.YtfhiepcjkocnlaaVls
import Derived.Test.YtfhiepcjkocnlaaSha
import Derived.Test.YtfhiepcjkocnlaaRfee
namespace Go.Proofs.Ytfhiepcjkocnlaa
set_option linter.unusedVariables false
open Go.RowKit

theorem whole_chk {t : List Tr} {v : List Vol} (h : chkE t ≠ 0) : wholeE t v = chkE t := by unfold wholeE; rw [if_neg h]
theorem whole_tot {t : List Tr} {v : List Vol} (h : chkE t = 0) (h2 : totE v ≠ 0) : wholeE t v = totE v := by
  unfold wholeE
  rw [if_pos h]
  unfold totE at *
  split
  · rfl
  · rename_i h16
    rw [if_neg h16] at h2
    rw [if_neg h2]
theorem whole_fee {t : List Tr} {v : List Vol} (h : chkE t = 0) (h2 : totE v = 0) : wholeE t v = feeE t (sumC v v.length) ∧ totV v = sumC v v.length := by
  have h3 : totV v = sumC v v.length := by unfold totV; rw [if_pos h2]
  refine ⟨?_, h3⟩
  unfold wholeE
  rw [if_pos h]
  unfold totE at h2
  split at h2
  · omega
  · rename_i h16
    rw [if_neg h16, if_pos h2]
set_option maxHeartbeats 3200000 in
theorem rshare_bad (A : Option Addr) (c : Nat) (t : List Tr) (B : Option Addr) (d : Nat) (v : List Vol) (w : World) (hr : IsRow w A (cellsT t)) (hl : t.length ≤ 1000000) (hup : upT t) (hv : IsRow w B (cellsV v)) (hvl : v.length ≤ 1000000) (hns : ∀ x ∈ v, x.s.size ≤ maxLen) (hbad : wholeE t v ≠ 0) :
    Calls Try.prog 18 #[.slice A t.length c, .slice B v.length d] w fun e w' => e = .returned (.tuple #[.slice none 0 0, .int .i64 (wholeE t v)]) ∧ Below w.heap.size w w' := by
  have HC := Lib.hid (rcheck_any A c t w hr hl)
  have HR := Lib.hid hr
  have HV := Lib.hid hv
  have HT := Lib.hid (fun W h => rtotal_any B d v W h hvl hns)
  have HF := Lib.hid (fun n W h => rfee_any A c t n W h hl hup)
  by_cases h1 : chkE t = 0
  · rw [h1] at HC
    by_cases h2 : totE v = 0
    · obtain ⟨h3, h4⟩ := whole_fee h1 h2
      rw [h2, h4] at HT
      rw [h3] at hbad ⊢
      obtain ⟨s, hs⟩ : ∃ s, sumC v v.length = s := ⟨_, rfl⟩
      rw [hs] at HT hbad ⊢
      have HFF := Lib.hid (HF.out s)
      obtain ⟨e0, he0⟩ : ∃ e0, feeE t s = e0 := ⟨_, rfl⟩
      rw [he0] at HFF hbad ⊢
      generalize feeV t s = v0 at HFF
      have hzb : (e0 != 0) = true := bne_iff_ne.2 hbad
      clear HF hr hv hns hup hbad he0 h1 h2 h3 h4 hs
      go_enter Try.func18, Try.ntmps18
      go_wp2_with fail
      refine HC.out.mono ?_
      rintro e w1 ⟨rfl, hb⟩
      have HB := Lib.hid hb
      clear hb
      go_wp2_with fail
      refine (HT.out _ (HV.out.below HB.out)).mono ?_
      rintro e w2 ⟨rfl, hb⟩
      have HB2 := Lib.hid (HB.out.trans (hb.mono HB.out.size))
      clear hb
      go_wp2_with fail
      refine (HFF.out _ (HR.out.below HB2.out)).mono ?_
      rintro e w3 ⟨rfl, hb⟩
      have HB3 := Lib.hid (HB2.out.trans (hb.mono HB2.out.size))
      clear hb
      go_wp2_with fail
      go_ret2
      exact ⟨rfl, HB3.out⟩
    · have h3 := whole_tot h1 h2
      rw [h3]
      obtain ⟨e0, he0⟩ : ∃ e0, totE v = e0 := ⟨_, rfl⟩
      rw [he0] at HT h2 ⊢
      generalize totV v = v0 at HT
      have hzb : (e0 != 0) = true := bne_iff_ne.2 h2
      clear HF hr hv hns hup hbad he0 h1 h2 h3
      go_enter Try.func18, Try.ntmps18
      go_wp2_with fail
      refine HC.out.mono ?_
      rintro e w1 ⟨rfl, hb⟩
      have HB := Lib.hid hb
      clear hb
      go_wp2_with fail
      refine (HT.out _ (HV.out.below HB.out)).mono ?_
      rintro e w2 ⟨rfl, hb⟩
      have HB2 := Lib.hid (HB.out.trans (hb.mono HB.out.size))
      clear hb
      go_wp2_with fail
      go_ret2
      exact ⟨rfl, HB2.out⟩
  · have h3 := whole_chk (v := v) h1
    rw [h3]
    obtain ⟨e0, he0⟩ : ∃ e0, chkE t = e0 := ⟨_, rfl⟩
    rw [he0] at HC h1 ⊢
    have hzb : (e0 != 0) = true := bne_iff_ne.2 h1
    clear HF HT hr hv hns hup hbad he0 h1 h3
    go_enter Try.func18, Try.ntmps18
    go_wp2_with fail
    refine HC.out.mono ?_
    rintro e w1 ⟨rfl, hb⟩
    have HB := Lib.hid hb
    clear hb
    go_wp2_with fail
    go_ret2
    exact ⟨rfl, HB.out⟩
theorem countsV_take (v : List Vol) (k : Nat) (hk : k < v.length) : cellsI ((countsV v).take (k + 1)) = cellsI ((countsV v).take k) ++ [.int .i64 (v.getD k default).c] := by
  have hl : k < (countsV v).length := by simpa [countsV] using hk
  rw [List.take_succ_eq_append_getElem hl, cellsI, List.map_append, getV_at v k hk]
  simp [cellsI, countsV]
set_option maxRecDepth 100000 in
set_option maxHeartbeats 6400000 in
theorem rshare_ok (A : Option Addr) (c : Nat) (t : List Tr) (B : Option Addr) (d : Nat) (v : List Vol) (w : World) (hr : IsRow w A (cellsT t)) (hl : t.length ≤ 1000000) (hup : upT t) (hv : IsRow w B (cellsV v)) (hvl : v.length ≤ 1000000) (hns : ∀ x ∈ v, x.s.size ≤ maxLen) (hok : wholeE t v = 0) :
    Calls Try.prog 18 #[.slice A t.length c, .slice B v.length d] w (SharePost v.length (shareF t v) w) := by
  have hwo := whole_ok hok
  have HC := Lib.hid (rcheck_any A c t w hr hl)
  have HR := Lib.hid hr
  have HV := Lib.hid hv
  have HT := Lib.hid (fun W h => rtotal_any B d v W h hvl hns)
  have HF := Lib.hid (fun n W h => rfee_any A c t n W h hl hup)
  have h1 := hwo.chk
  have h2 : totE v = 0 := by unfold totE; rw [if_neg (by have := hwo.len; omega)]; exact volE_ok hwo.all
  have h4 := (whole_fee h1 h2).2
  rw [h1] at HC
  rw [h2, h4] at HT
  have HFF := Lib.hid (HF.out (sumC v v.length))
  rw [hwo.fee, ← hwo.val] at HFF
  have HW16 := hwo.len
  have HWO := Lib.hid hwo
  obtain ⟨fee, hfee⟩ : ∃ fee, wholeV t v = fee := ⟨_, rfl⟩
  rw [hfee] at HFF
  have HFB := Lib.hid (show 0 ≤ fee ∧ fee ≤ 4503599627370496 by rw [← hfee]; exact ⟨hwo.lo, hwo.hi⟩)
  have HFEE := Lib.hid hfee
  have hk1 := fun W => make_one (t := 26) (e := 2) (k := .i64) Try.underlying26 mk2 v.length (by omega) W
  have HTS := Lib.hid (tot_sum v.length hwo.all)
  obtain ⟨i0, hi, hz0, hz1, hz2⟩ := info_parts mk2
  clear HF hr hv hns hup hfee hwo hok h1 h2 h4
  obtain ⟨n, hn⟩ : ∃ n, v.length = n := ⟨_, rfl⟩
  rw [hn] at hk1 HW16 HT HFF HTS ⊢
  have HN := Lib.hid hn
  clear hn
  obtain ⟨s, hs⟩ : ∃ s, sumC v n = s := ⟨_, rfl⟩
  rw [hs] at HT HFF HTS
  have HS := Lib.hid hs
  clear hs
  by_cases hs0 : s = 0
  · have hz : (s == 0) = true := beq_iff_eq.2 hs0
    have HSF := Lib.hid (show ∀ i, shareF t v i = 0 from fun i => by unfold shareF; rw [HN.out, HS.out, if_pos hs0])
    clear hs0
    go_enter Try.func18, Try.ntmps18
    go_wp2_with fail
    refine HC.out.mono ?_
    rintro e w1 ⟨rfl, hb⟩
    have HB := Lib.hid hb
    clear hb
    go_wp2_with fail
    refine (HT.out _ (HV.out.below HB.out)).mono ?_
    rintro e w2 ⟨rfl, hb⟩
    have HB2 := Lib.hid (HB.out.trans (hb.mono HB.out.size))
    clear hb
    go_wp2_with fail
    refine (HFF.out _ (HR.out.below HB2.out)).mono ?_
    rintro e w3 ⟨rfl, hb⟩
    have HB3 := Lib.hid (HB2.out.trans (hb.mono HB2.out.size))
    clear hb
    go_wp2_with fail
    go_ret2
    exact ⟨w3.heap.size, rfl, (World.rowIs_made w3 (.int .i64 0) n 2).congr (fun i hi => by rw [HSF.out]), HB3.out.size, HB3.out.alloc HB3.out.size _⟩
  · have hz : (s == 0) = false := beq_eq_false_iff_ne.2 hs0
    have HSF := Lib.hid (show ∀ i, shareF t v i = amtF fee fee.natAbs (totW (countsV v) n) (natsOf (countsV v)) i from fun i => by unfold shareF; rw [HN.out, HS.out, if_neg hs0, HFEE.out])
    have hlen : (countsV v).length = n := by simp [countsV]; exact HN.out
    have hUSD : curB ⟨#[85, 83, 68]⟩ = true := by decide
    have hmon : monE fee ⟨#[85, 83, 68]⟩ = 0 := by
      unfold monE
      rw [if_pos hUSD, if_pos (by unfold inT; have := HFB.out; rw [decide_eq_true (by omega), decide_eq_true (by omega)]; rfl)]
    have hallw : allW (countsV v) = true := allW_yes (by omega) (fun j hj => by
      rw [countsV_at, okW_iff]
      have := badV_ok (HWO.out.all j (by rw [HN.out]; omega))
      omega)
    have hcnt := HWO.out.cnt
    rw [HN.out, HS.out] at hcnt
    have htot := HTS.out
    have hspl := fun AA cc W (h : IsRow W AA (cellsI (countsV v))) => rsplit_ok fee ⟨#[85, 83, 68]⟩ AA cc (countsV v) W h (by decide) hmon hallw (by rw [hlen]; omega)
    rw [hlen] at hspl
    generalize amtF fee fee.natAbs (totW (countsV v) n) (natsOf (countsV v)) = f at hspl HSF
    have HSPL := Lib.hid hspl
    have HLEN := Lib.hid hlen
    clear hs0 hcnt htot hlen hUSD hmon hallw hspl
    go_enter Try.func18, Try.ntmps18
    go_wp2_with fail
    refine HC.out.mono ?_
    rintro e w1 ⟨rfl, hb⟩
    have HB := Lib.hid hb
    clear hb
    go_wp2_with fail
    refine (HT.out _ (HV.out.below HB.out)).mono ?_
    rintro e w2 ⟨rfl, hb⟩
    have HB2 := Lib.hid (HB.out.trans (hb.mono HB.out.size))
    clear hb
    go_wp2_with fail
    refine (HFF.out _ (HR.out.below HB2.out)).mono ?_
    rintro e w3 ⟨rfl, hb⟩
    have HB3 := Lib.hid (HB2.out.trans (hb.mono HB2.out.size))
    clear hb
    have hx0 := HB3.out.size
    go_wp2_with fail
    have HRX := Lib.hid (World.rowIs_made w3 (.int .i64 0) n 2)
    have HB4 := Lib.hid (HB3.out.alloc HB3.out.size (.cells (madeCells #[.int .i64 0] n) 2))
    obtain ⟨x, hx⟩ : ∃ x, w3.heap.size = x := ⟨_, rfl⟩
    rw [hx] at HRX hx0 ⊢
    generalize w3.alloc (.cells (madeCells #[.int .i64 0] n) 2) = w4 at HRX HB4 ⊢
    have HREF := Lib.hid (Below.refl w4.heap.size w4)
    clear hk1 hx
    go_loopw [11, 12] (fun wv i wr => ∃ k : Nat, k ≤ n ∧ i = .int .i64 k ∧ wr.ownsRow w4.heap.size 2 1 wv k (cellsI ((countsV v).take k)) ∧ Hid (Below w4.heap.size w4 wr)) (fun _ i _ => n - (intOf i).toNat)
    case atStart => exact ⟨0, Nat.zero_le _, rfl, World.ownsRow_nil _ _ _ _, HREF⟩
    case round =>
      obtain ⟨k, hk, rfl, hown, hbel⟩ := hrel
      by_cases hlt : k < n
      · rcases HV.out.below (HB4.out.trans (hbel.out.mono HB4.out.size)) with h0 | ⟨b, off, ha, hc⟩
        · rw [cellsV_length, HN.out] at h0; omega
        subst ha
        obtain ⟨c0, c1⟩ := row_vol hc k (by rw [HN.out]; exact hlt)
        clear hc c0
        have HST := Lib.hid (countsV_take v k (by rw [HN.out]; exact hlt))
        have HSZ := Lib.hid hbel.out.size
        obtain ⟨pk, hpk⟩ : ∃ pk, (v.getD k default).c = pk := ⟨_, rfl⟩
        rw [hpk] at c1 HST
        clear hpk
        go_wp2_with (at_builtin; refine wpList_append_own _ rfl (.tmp 49) (.tmp 55) _ rfl w4.heap.size 2 i0 _ 1 8 Try.underlying26 hi hz0 hz1 hz2 rfl (by decide) _ _ _ rfl (hown.alloc _) ⟨wr.heap.size, 0, none⟩ 1 1 [.int .i64 pk] rfl rfl (World.news_of_block (cs := #[.int .i64 pk]) (t := 2) (fr := (0, 0)) (heap_alloc_new wr _)) (by simp [Value.oneCell']) (by unfold maxLen; omega) (by omega) (by have := HSZ.out; simp; omega) ?_; intro v' w5 hown' hgrow _)
        exact ⟨⟨k + 1, by omega, by go_num, by rw [HST.out]; exact hown', Lib.hid ((hbel.out.alloc HSZ.out _).grown hgrow (by have := HSZ.out; simp; omega) (fun q hq => (hown.lt q hq).1))⟩, by simp [intOf]; omega⟩
      · obtain rfl : k = n := by omega
        rw [List.take_of_length_le (by rw [HLEN.out]; omega)] at hown
        obtain ⟨A', c', rfl, hrow, _⟩ := own_form hown
        have HSP := Lib.hid (HSPL.out A' c' wr hrow)
        have HRX2 := Lib.hid (HRX.out.of_block (hbel.out.block _ HRX.out.lt))
        have HB5 := Lib.hid (HB4.out.trans (hbel.out.mono HB4.out.size))
        have hxl := HRX2.out.lt
        clear hown hrow
        go_wp2_with fail
        refine HSP.out.mono ?_
        rintro e w6 ⟨L, cp, rfl, hce, hL, hb⟩
        have HRX3 := Lib.hid (HRX2.out.of_block (hb.block _ HRX2.out.lt))
        have HB6 := Lib.hid (HB5.out.trans (hb.mono HB5.out.size))
        have HCE := Lib.hid (show ∀ k', k' < k → w6.cell? ⟨L, k' * 2, none⟩ = some (.int .i64 (f k')) from fun k' h => (hce k' h).1)
        have hxL : x ≠ L := by omega
        clear hce hb
        go_wp2_with fail
        go_loopw [14] (fun i wr => ∃ j : Nat, j ≤ k ∧ i = .int .i64 j ∧ Hid (wr.rowIs x 2 k (fun i => .int .i64 (if i < j then f i else 0))) ∧ Hid (∀ k', k' < k → wr.cell? ⟨L, k' * 2, none⟩ = some (.int .i64 (f k'))) ∧ Hid (Below w.heap.size w wr)) (fun i _ => k - (intOf i).toNat)
        case atStart => exact ⟨0, Nat.zero_le _, rfl, Lib.hid (HRX3.out.congr (fun i hi => by rw [if_neg (by omega)])), HCE, HB6⟩
        case round =>
          obtain ⟨j, hj, rfl, hrx, hce, hbl⟩ := hrel
          by_cases hlt : j < k
          · have l0 := hce.out j hlt
            obtain ⟨fj, hfj⟩ : ∃ fj, f j = fj := ⟨_, rfl⟩
            rw [hfj] at l0
            have z0 := hrx.out.cell hlt
            have z1 := hrx.out.frozen j
            rw [if_neg (by omega)] at z0
            have HCN := Lib.hid (show ∀ k', k' < k → (wr.setCell ⟨x, j, none⟩ (.int .i64 fj)).cell? ⟨L, k' * 2, none⟩ = some (.int .i64 (f k')) from fun k' h => by
              rw [World.cell?_of_block (Below.heap_setCell wr ⟨x, j, none⟩ (.int .i64 fj) L (fun e => hxL e.symm))]; exact hce.out k' h)
            have HRZ := Lib.hid ((hrx.out.set j (.int .i64 fj)).congr (g := fun i => .int .i64 (if i < j + 1 then f i else 0)) (fun i hi => by
              by_cases e : i = j
              · rw [if_pos e, e, if_pos (show j < j + 1 by omega), hfj]
              · rw [if_neg e]
                by_cases l : i < j
                · rw [if_pos l, if_pos (show i < j + 1 by omega)]
                · rw [if_neg l, if_neg (show ¬ i < j + 1 by omega)]))
            have HBL := Lib.hid (hbl.out.setCell (p := ⟨x, j, none⟩) hx0 (.int .i64 fj))
            clear hfj hrx hce hbl
            go_wp2_with fail
            exact ⟨⟨j + 1, by omega, by go_num, HRZ, HCN, HBL⟩, by simp [intOf]; omega⟩
          · obtain rfl : j = k := by omega
            go_wp2_with fail
            go_ret2
            exact ⟨x, rfl, hrx.out.congr (fun i hi => by rw [if_pos hi, HSF.out]), hx0, hbl.out⟩
end Go.Proofs.Ytfhiepcjkocnlaa
