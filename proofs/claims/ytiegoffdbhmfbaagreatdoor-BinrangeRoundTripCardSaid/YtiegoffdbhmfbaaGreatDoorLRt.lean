/- The walk of the law RoundTrip. -/
import Derived.Test.YtiegoffdbhmfbaaGreatDoorRtp
import Derived.Test.YtiegoffdbhmfbaaGreatDoorLFnd
import Derived.Test.YtiegoffdbhmfbaaGreatDoorMrg
import Derived.Test.YtiegoffdbhmfbaaGreatDoorSam
namespace Go.Proofs.YtiegoffdbhmfbaaGreatDoor
set_option linter.unusedVariables false
open Go.RowKit

theorem ck_sl {v : Value} {l : List Rg} {w : World} (hv : SlR w v l) (hok : ∀ x ∈ l, RgOk x) : Calls Tryz.prog 10 #[v] w fun e w' => e = .returned (.int .i64 (ckR l)) ∧ Below w.heap.size w w' := by
  obtain ⟨A, c, rfl, h1, h2, h3, _⟩ := hv.form
  exact ckl_any A c l w h1 hok h2 h3
theorem fmt_size (l : List Rg) : (fmtS l).size ≤ 4000 := by
  unfold fmtS
  split
  · rename_i h
    have ht := (ck_iff l).1 h
    have h1 := textL_len ht.good
    have h2 := ht.len
    show (textL l).toArray.size ≤ 4000
    rw [List.size_toArray]
    omega
  · exact Nat.zero_le _
def cntR (l : List Rg) (y : Rg) (k : Nat) : Nat := ((l.take k).filter fun x => rgE x y).length
theorem cnt_zero (l : List Rg) (y : Rg) : cntR l y 0 = 0 := rfl
theorem cnt_le (l : List Rg) (y : Rg) (k : Nat) : cntR l y k ≤ k := by
  unfold cntR
  exact Nat.le_trans (List.length_filter_le _ _) (by rw [List.length_take]; omega)
theorem cnt_succ (l : List Rg) (y : Rg) (k : Nat) (h : k < l.length) : cntR l y (k + 1) = cntR l y k + if rgE (rgAt l k) y = true then 1 else 0 := by
  unfold cntR
  rw [List.take_succ_eq_append_getElem h, List.filter_append, List.length_append, rgAt_get l k h]
  congr 1
  cases hc : rgE l[k] y <;> simp [hc]
theorem cnt_perm {l m : List Rg} (h : m.Perm l) (y : Rg) : cntR l y l.length = cntR m y l.length := by
  unfold cntR
  rw [← h.length_eq]
  conv => lhs; rw [h.length_eq, List.take_length]
  rw [List.take_length]
  exact ((h.filter _).length_eq).symm
set_option maxRecDepth 1000000 in
set_option maxHeartbeats 25600000 in
theorem law_round (v : Value) (l : List Rg) (s : ByteArray) (w : World) (hv : SlR w v l) (hok : ∀ x ∈ l, RgOk x) (hs : s.size ≤ maxLen) :
    Calls Tryz.prog 4 #[v, .string s] w fun e w' => e = .returned (.bool true) ∧ Below w.heap.size w w' := by
  have HAW := Lib.hid (fun W => awake_any W)
  have HSM := Lib.hid (sm_sl hv)
  have HFM := Lib.hid (fun W (h : SlR W v l) => fmt_any v l W h hok)
  have HCK := Lib.hid (fun W (h : SlR W v l) => ck_sl h hok)
  have HSA := Lib.hid (fun W (x y : Value) (m : List Rg) hx hy => same_any x y m W hx hy)
  have HPT := Lib.hid (fun W => parse_any (fmtS l) W (Nat.le_trans (fmt_size l) (by decide)))
  have HPS := Lib.hid (fun W => parse_any s W hs)
  have HSO := Lib.hid (fun W (h : SlR W v l) hm => sort_any v l W h hok hm)
  have HBK := Lib.hid (fun h => parP_fmt (l := l) h)
  have HFS := Lib.hid (fmt_size l)
  have HOK := Lib.hid hok
  have HV := Lib.hid hv
  unfold SmPost at HSM
  unfold FmtPost at HFM
  unfold PsPost at HPT HPS
  unfold SrtPost at HSO
  unfold maxLen at hs
  have HCI := Lib.hid (ck_iff l)
  obtain ⟨t, ht⟩ : ∃ t, fmtS l = t := ⟨_, rfl⟩
  rw [ht] at HFM HPT HBK HFS
  obtain ⟨A, cp, rfl, -, -, -, -⟩ := hv.form
  clear ht hv hok
  go_enter Tryz.func4, Tryz.ntmps4
  go_wp2_with fail
  refine HSM.out.mono ?_
  rintro e w1 ⟨b, rfl, hb80, hb⟩
  have HB := Lib.hid hb
  have HV1 := Lib.hid (HV.out.below hb)
  clear hb
  cases b
  · clear hb80
    go_wp2_with fail
    refine (HAW.out _).mono ?_
    rintro e w2 ⟨rfl, hb⟩
    have HB2 := Lib.hid (HB.out.trans (hb.mono HB.out.size))
    clear hb
    go_wp2_with fail
    go_ret
    exact ⟨rfl, HB2.out⟩
  have h80 := hb80 rfl
  clear hb80 HSM HV
  by_cases h4 : 4000 < s.size
  · have hz : (4000 : Int) < (s.size : Int) := by omega
    go_wp2_with fail
    refine (HAW.out _).mono ?_
    rintro e w2 ⟨rfl, hb⟩
    have HB2 := Lib.hid (HB.out.trans (hb.mono HB.out.size))
    clear hb
    go_wp2_with fail
    go_ret
    exact ⟨rfl, HB2.out⟩
  have hz : ¬ (4000 : Int) < (s.size : Int) := by omega
  have ht4 : ((t.size : Int) ≤ 4000) := by have := HFS.out; omega
  go_wp2_with fail
  refine (HFM.out _ HV1.out).mono ?_
  rintro e w2 ⟨rfl, hb⟩
  have HB := Lib.hid (HB.out.trans (hb.mono HB.out.size))
  have HV1 := Lib.hid (HV1.out.below hb)
  clear hb HFM
  go_wp2_with fail
  refine (HCK.out _ HV1.out).mono ?_
  rintro e w3 ⟨rfl, hb⟩
  have HB := Lib.hid (HB.out.trans (hb.mono HB.out.size))
  have HV1 := Lib.hid (HV1.out.below hb)
  clear hb HCK
  by_cases hck : ckR l = 0
  · have hbk := HBK.out (HCI.out.1 hck)
    have hTT := HCI.out.1 hck
    rw [hck]
    go_wp2_with fail
    refine (HPT.out _).mono ?_
    rintro e w4 ⟨v6, er6, at6, l6, rfl, hsl, hb, hps⟩
    obtain ⟨rfl, hl6⟩ := hps.back l hbk hTT HFS.out
    obtain ⟨rfl, -⟩ := hps.fwd rfl
    rw [hl6] at hsl
    clear hl6
    have HB := Lib.hid (HB.out.trans (hb.mono HB.out.size))
    have HV1 := Lib.hid (HV1.out.below hb)
    have HS6 := Lib.hid hsl
    clear hb hsl hps hbk hTT hck
    go_wp2_with fail
    refine (HSA.out _ _ _ _ HS6.out HV1.out).mono ?_
    rintro e w5 ⟨rfl, hb⟩
    have HB := Lib.hid (HB.out.trans (hb.mono HB.out.size))
    have HV1 := Lib.hid (HV1.out.below hb)
    clear hb
    go_wp2_with fail

    refine (HPS.out _).mono ?_
    rintro e w6 ⟨v9, er9, at9, l9, rfl, hsl, hb, hps⟩
    have HB := Lib.hid (HB.out.trans (hb.mono HB.out.size))
    have HV1 := Lib.hid (HV1.out.below hb)
    have HS9 := Lib.hid hsl
    have HP9 := Lib.hid hps
    clear hb hsl hps
    go_wp2_with fail
    have hfm := Lib.hid (fmt_any v9 l9 _ HS9.out HP9.out.ok)
    unfold FmtPost at hfm
    refine hfm.out.mono ?_
    rintro e w7 ⟨rfl, hb⟩
    have HB := Lib.hid (HB.out.trans (hb.mono HB.out.size))
    have HV1 := Lib.hid (HV1.out.below hb)
    have HS9 := Lib.hid (HS9.out.below hb)
    have HPU := Lib.hid (fun W => parse_any (fmtS l9) W (Nat.le_trans (fmt_size l9) (by decide)))
    unfold PsPost at HPU
    have HF9 := Lib.hid (fmt_size l9)
    have HBU := Lib.hid (fun h => parP_fmt (l := l9) h)
    obtain ⟨u, hu⟩ : ∃ u, fmtS l9 = u := ⟨_, rfl⟩
    rw [hu] at HPU HF9 HBU ⊢
    clear hb hfm hu
    by_cases he9 : er9 = 0
    · subst he9
      obtain ⟨-, hT9⟩ := HP9.out.fwd rfl
      have hu4 : ((u.size : Int) ≤ 4000) := by have := HF9.out; omega
      have hbk := HBU.out hT9
      go_wp2_with fail
      refine (HPU.out _).mono ?_
      rintro e w8 ⟨v13, er13, at13, l13, rfl, hsl, hb, hps⟩
      obtain ⟨rfl, hl6⟩ := hps.back l9 hbk hT9 HF9.out
      obtain ⟨rfl, -⟩ := hps.fwd rfl
      rw [hl6] at hsl
      clear hl6
      have HB := Lib.hid (HB.out.trans (hb.mono HB.out.size))
      have HV1 := Lib.hid (HV1.out.below hb)
      have HS9 := Lib.hid (HS9.out.below hb)
      have HS13 := Lib.hid hsl
      clear hb hsl hps hbk hT9
      go_wp2_with fail
      refine (HSA.out _ _ _ _ HS13.out HS9.out).mono ?_
      rintro e w9 ⟨rfl, hb⟩
      have HB := Lib.hid (HB.out.trans (hb.mono HB.out.size))
      have HV1 := Lib.hid (HV1.out.below hb)
      clear hb
      go_wp2_with fail

      refine (HSO.out _ HV1.out (by omega)).mono ?_
      rintro e wa ⟨v16, m, rfl, hso, hsl, hb⟩
      have HB := Lib.hid (HB.out.trans (hb.mono HB.out.size))
      have HV1 := Lib.hid (HV1.out.below hb)
      have HSX := Lib.hid hso
      have HLN := Lib.hid hso.length
      have HMK : Hid (∀ x ∈ m, RgOk x) := Lib.hid (fun x hx => HOK.out x (hso.perm.mem_iff.1 hx))
      have HS16 := Lib.hid hsl
      obtain ⟨A16, cp16, rfl, -, -, -, -⟩ := hsl.form
      clear hb hsl hso
      have hml : m.length = l.length := HLN.out
      rw [hml] at HS16 ⊢
      go_wp2_with fail
      have HS2 := Lib.hid (sort_any _ m _ HS16.out HMK.out (by rw [HLN.out]; omega))
      unfold SrtPost at HS2
      refine HS2.out.mono ?_
      rintro e wb ⟨vy, m2, rfl, hso2, hsl2, hb⟩
      have hm2 : m2 = m := SrtOf.again HSX.out hso2
      rw [hm2] at hsl2
      have HB := Lib.hid (HB.out.trans (hb.mono HB.out.size))
      have HV1 := Lib.hid (HV1.out.below hb)
      have HS16 := Lib.hid (HS16.out.below hb)
      have HSY := Lib.hid hsl2
      clear hb hsl2 hso2 HS2 hm2
      go_wp2_with fail
      refine (HSA.out _ _ _ _ HSY.out HS16.out).mono ?_
      rintro e wc ⟨rfl, hb⟩
      have HB := Lib.hid (HB.out.trans (hb.mono HB.out.size))
      have HV1 := Lib.hid (HV1.out.below hb)
      have HS16 := Lib.hid (HS16.out.below hb)
      clear hb
      have HPM := Lib.hid HSX.out.perm
      clear HSY HSX HMK hml
      go_wp2_with fail
      have HHB := Lib.hid (Nat.le_refl wc.heap.size)
      have HR1 := Lib.hid (show IsRow wc A (l.flatMap rgF) from by obtain ⟨A', c', e', h', -⟩ := HV1.out.form; injection e' with e1 e2 e3; rw [e1]; exact h')
      have HR2 := Lib.hid (show IsRow wc A16 (m.flatMap rgF) from by obtain ⟨A', c', e', h', -⟩ := HS16.out.form; injection e' with e1 e2 e3; rw [e1]; exact h')
      clear HHB
      go_loopw [17] (fun i wr => ∃ k : Nat, k ≤ l.length ∧ i = .int .i64 k ∧ Hid (Below wc.heap.size wc wr)) (fun i _ => l.length - (intOf i).toNat)
      case atStart => exact ⟨0, Nat.zero_le _, rfl, Lib.hid (Below.refl _ _)⟩
      case round =>
        obtain ⟨i, hi, rfl, HW⟩ := hrel
        by_cases hlt : i < l.length
        · have iI : (i : Int) < (l.length : Int) := by omega
          have i0 : (0 : Int) ≤ (i : Int) := by omega
          obtain ⟨yl, yh, yi, yp, hY⟩ : ∃ yl yh yi yp, rgAt l i = ⟨yl, yh, yi, yp⟩ := ⟨_, _, _, _, rfl⟩
          have HYI := Lib.hid hY
          clear hY
          go_wp2_with fail
          go_loopw [18, 19] (fun n j wq => ∃ (k : Nat) (z : Int), k ≤ l.length ∧ n = .int .i64 z ∧ j = .int .i64 k ∧ -80 ≤ z ∧ z ≤ 80 ∧ Hid (z = (cntR l ⟨yl, yh, yi, yp⟩ k : Int) - (cntR m ⟨yl, yh, yi, yp⟩ k : Int)) ∧ Hid (Below wc.heap.size wc wq)) (fun _ j _ => l.length - (intOf j).toNat)
          case atStart => exact ⟨0, 0, Nat.zero_le _, rfl, rfl, by omega, by omega, Lib.hid (by rw [cnt_zero, cnt_zero]; rfl), HW⟩
          case round =>
            obtain ⟨k, z, hk, rfl, rfl, hz1, hz2, HZ, HQ⟩ := hrel
            by_cases hkt : k < l.length
            · rcases row_rg HR1.out i hlt with ⟨b, off, rfl, hcell⟩
              rcases row_rg HR2.out k (by rw [HLN.out]; exact hkt) with ⟨b', off', rfl, hcell'⟩
              obtain ⟨d0, d1, d2, d3⟩ := hcell k hkt
              obtain ⟨g0, g1, g2, g3⟩ := hcell i hlt
              obtain ⟨e0, e1, e2, e3⟩ := hcell' k (by rw [HLN.out]; exact hkt)
              have hnl := cnt_succ l ⟨yl, yh, yi, yp⟩ k hkt
              have hnm := cnt_succ m ⟨yl, yh, yi, yp⟩ k (by rw [HLN.out]; exact hkt)
              have hbl : b < wr.heap.size := World.block_lt_of_cell? wr _ (cell_later HQ.out d0)
              have hbl' : b' < wr.heap.size := World.block_lt_of_cell? wr _ (cell_later HQ.out e0)
              rw [HYI.out] at g0 g1 g2 g3
              simp only at g0 g1 g2 g3
              have HD := Lib.hid (And.intro d0 (And.intro d1 (And.intro d2 d3)))
              have HG := Lib.hid (And.intro g0 (And.intro g1 (And.intro g2 g3)))
              have HE := Lib.hid (And.intro e0 (And.intro e1 (And.intro e2 e3)))
              have q1 := cnt_le l ⟨yl, yh, yi, yp⟩ (k + 1)
              have q2 := cnt_le m ⟨yl, yh, yi, yp⟩ (k + 1)
              have HQB := Lib.hid (And.intro q1 q2)
              clear d0 d1 d2 d3 g0 g1 g2 g3 e0 e1 e2 e3 hcell hcell' q1 q2
              generalize rgAt l k = r at *
              generalize rgAt m k = x at *
              obtain ⟨rl, rh, ri, rp⟩ := r
              obtain ⟨xl, xh, xi, xp⟩ := x
              have heq1 := eq_rg ⟨rl, rh, ri, rp⟩ ⟨yl, yh, yi, yp⟩
              have heq2 := eq_rg ⟨xl, xh, xi, xp⟩ ⟨yl, yh, yi, yp⟩
              obtain ⟨b1, hb1⟩ : ∃ b1, rgE ⟨rl, rh, ri, rp⟩ ⟨yl, yh, yi, yp⟩ = b1 := ⟨_, rfl⟩
              obtain ⟨b2, hb2⟩ : ∃ b2, rgE ⟨xl, xh, xi, xp⟩ ⟨yl, yh, yi, yp⟩ = b2 := ⟨_, rfl⟩
              rw [hb1] at heq1 hnl
              rw [hb2] at heq2 hnm
              unfold rgC at heq1 heq2
              have HNL := Lib.hid hnl
              have HNM := Lib.hid hnm
              simp only at HD HE heq1 heq2
              have kI : (k : Int) < (l.length : Int) := by omega
              have k0 : (0 : Int) ≤ (k : Int) := by omega
              obtain ⟨c0, c1, c2, c3⟩ := HD.out
              obtain ⟨g0, g1, g2, g3⟩ := HG.out
              obtain ⟨f0, f1, f2, f3⟩ := HE.out
              have c0 := cell_later HQ.out c0
              have c1 := cell_later HQ.out c1
              have c2 := cell_later HQ.out c2
              have c3 := cell_later HQ.out c3
              have g0 := cell_later HQ.out g0
              have g1 := cell_later HQ.out g1
              have g2 := cell_later HQ.out g2
              have g3 := cell_later HQ.out g3
              have f0 := cell_later HQ.out f0
              have f1 := cell_later HQ.out f1
              have f2 := cell_later HQ.out f2
              have f3 := cell_later HQ.out f3
              have wz1 : IntKind.i64.wrap (z + 1) = z + 1 := IntWalk.i64_in _ (by omega)
              have wz2 : IntKind.i64.wrap (z - 1) = z - 1 := IntWalk.i64_in _ (by omega)
              have wz3 : IntKind.i64.wrap (z + 1 - 1) = z + 1 - 1 := IntWalk.i64_in _ (by omega)
              clear hnl hnm hb1 hb2
              cases b1 <;> cases b2
              all_goals
                go_wp2_with fail
                go_quiet (fail)
                go_wp2_with fail
                go_quiet (fail)
                go_wp2_with fail
                go_roundw
                case rel =>
                  have n1 := HNL.out
                  have n2 := HNM.out
                  have n3 := HZ.out
                  have n4 := HQB.out
                  simp at n1 n2
                  exact ⟨k + 1, _, by omega, rfl, by go_num, by omega, by omega, Lib.hid (by omega), Lib.hid (dNb HQ.out _)⟩
                case measure => simp [intOf]; omega
            · obtain rfl : k = l.length := by omega
              obtain rfl : z = 0 := by have := HZ.out; rw [cnt_perm HPM.out] at this; omega
              go_wp2_with fail
              go_roundw
              case rel => exact ⟨i + 1, by omega, by go_num, HQ⟩
              case measure => simp [intOf]; omega
        · obtain rfl : i = l.length := by omega
          go_wp2_with fail
          refine (HAW.out _).mono ?_
          rintro e w2 ⟨rfl, hb⟩
          have HB3 := Lib.hid (HB.out.trans ((HW.out.trans (hb.mono HW.out.size)).mono HB.out.size))
          clear hb
          go_wp2_with fail
          go_ret
          exact ⟨rfl, HB3.out⟩
    · have heb : (er9 == 0) = false := by simpa using he9
      clear he9
      go_wp2_with fail

      refine (HSO.out _ HV1.out (by omega)).mono ?_
      rintro e wa ⟨v16, m, rfl, hso, hsl, hb⟩
      have HB := Lib.hid (HB.out.trans (hb.mono HB.out.size))
      have HV1 := Lib.hid (HV1.out.below hb)
      have HSX := Lib.hid hso
      have HLN := Lib.hid hso.length
      have HMK : Hid (∀ x ∈ m, RgOk x) := Lib.hid (fun x hx => HOK.out x (hso.perm.mem_iff.1 hx))
      have HS16 := Lib.hid hsl
      obtain ⟨A16, cp16, rfl, -, -, -, -⟩ := hsl.form
      clear hb hsl hso
      have hml : m.length = l.length := HLN.out
      rw [hml] at HS16 ⊢
      go_wp2_with fail
      have HS2 := Lib.hid (sort_any _ m _ HS16.out HMK.out (by rw [HLN.out]; omega))
      unfold SrtPost at HS2
      refine HS2.out.mono ?_
      rintro e wb ⟨vy, m2, rfl, hso2, hsl2, hb⟩
      have hm2 : m2 = m := SrtOf.again HSX.out hso2
      rw [hm2] at hsl2
      have HB := Lib.hid (HB.out.trans (hb.mono HB.out.size))
      have HV1 := Lib.hid (HV1.out.below hb)
      have HS16 := Lib.hid (HS16.out.below hb)
      have HSY := Lib.hid hsl2
      clear hb hsl2 hso2 HS2 hm2
      go_wp2_with fail
      refine (HSA.out _ _ _ _ HSY.out HS16.out).mono ?_
      rintro e wc ⟨rfl, hb⟩
      have HB := Lib.hid (HB.out.trans (hb.mono HB.out.size))
      have HV1 := Lib.hid (HV1.out.below hb)
      have HS16 := Lib.hid (HS16.out.below hb)
      clear hb
      have HPM := Lib.hid HSX.out.perm
      clear HSY HSX HMK hml
      go_wp2_with fail
      have HHB := Lib.hid (Nat.le_refl wc.heap.size)
      have HR1 := Lib.hid (show IsRow wc A (l.flatMap rgF) from by obtain ⟨A', c', e', h', -⟩ := HV1.out.form; injection e' with e1 e2 e3; rw [e1]; exact h')
      have HR2 := Lib.hid (show IsRow wc A16 (m.flatMap rgF) from by obtain ⟨A', c', e', h', -⟩ := HS16.out.form; injection e' with e1 e2 e3; rw [e1]; exact h')
      clear HHB
      go_loopw [17] (fun i wr => ∃ k : Nat, k ≤ l.length ∧ i = .int .i64 k ∧ Hid (Below wc.heap.size wc wr)) (fun i _ => l.length - (intOf i).toNat)
      case atStart => exact ⟨0, Nat.zero_le _, rfl, Lib.hid (Below.refl _ _)⟩
      case round =>
        obtain ⟨i, hi, rfl, HW⟩ := hrel
        by_cases hlt : i < l.length
        · have iI : (i : Int) < (l.length : Int) := by omega
          have i0 : (0 : Int) ≤ (i : Int) := by omega
          obtain ⟨yl, yh, yi, yp, hY⟩ : ∃ yl yh yi yp, rgAt l i = ⟨yl, yh, yi, yp⟩ := ⟨_, _, _, _, rfl⟩
          have HYI := Lib.hid hY
          clear hY
          go_wp2_with fail
          go_loopw [18, 19] (fun n j wq => ∃ (k : Nat) (z : Int), k ≤ l.length ∧ n = .int .i64 z ∧ j = .int .i64 k ∧ -80 ≤ z ∧ z ≤ 80 ∧ Hid (z = (cntR l ⟨yl, yh, yi, yp⟩ k : Int) - (cntR m ⟨yl, yh, yi, yp⟩ k : Int)) ∧ Hid (Below wc.heap.size wc wq)) (fun _ j _ => l.length - (intOf j).toNat)
          case atStart => exact ⟨0, 0, Nat.zero_le _, rfl, rfl, by omega, by omega, Lib.hid (by rw [cnt_zero, cnt_zero]; rfl), HW⟩
          case round =>
            obtain ⟨k, z, hk, rfl, rfl, hz1, hz2, HZ, HQ⟩ := hrel
            by_cases hkt : k < l.length
            · rcases row_rg HR1.out i hlt with ⟨b, off, rfl, hcell⟩
              rcases row_rg HR2.out k (by rw [HLN.out]; exact hkt) with ⟨b', off', rfl, hcell'⟩
              obtain ⟨d0, d1, d2, d3⟩ := hcell k hkt
              obtain ⟨g0, g1, g2, g3⟩ := hcell i hlt
              obtain ⟨e0, e1, e2, e3⟩ := hcell' k (by rw [HLN.out]; exact hkt)
              have hnl := cnt_succ l ⟨yl, yh, yi, yp⟩ k hkt
              have hnm := cnt_succ m ⟨yl, yh, yi, yp⟩ k (by rw [HLN.out]; exact hkt)
              have hbl : b < wr.heap.size := World.block_lt_of_cell? wr _ (cell_later HQ.out d0)
              have hbl' : b' < wr.heap.size := World.block_lt_of_cell? wr _ (cell_later HQ.out e0)
              rw [HYI.out] at g0 g1 g2 g3
              simp only at g0 g1 g2 g3
              have HD := Lib.hid (And.intro d0 (And.intro d1 (And.intro d2 d3)))
              have HG := Lib.hid (And.intro g0 (And.intro g1 (And.intro g2 g3)))
              have HE := Lib.hid (And.intro e0 (And.intro e1 (And.intro e2 e3)))
              have q1 := cnt_le l ⟨yl, yh, yi, yp⟩ (k + 1)
              have q2 := cnt_le m ⟨yl, yh, yi, yp⟩ (k + 1)
              have HQB := Lib.hid (And.intro q1 q2)
              clear d0 d1 d2 d3 g0 g1 g2 g3 e0 e1 e2 e3 hcell hcell' q1 q2
              generalize rgAt l k = r at *
              generalize rgAt m k = x at *
              obtain ⟨rl, rh, ri, rp⟩ := r
              obtain ⟨xl, xh, xi, xp⟩ := x
              have heq1 := eq_rg ⟨rl, rh, ri, rp⟩ ⟨yl, yh, yi, yp⟩
              have heq2 := eq_rg ⟨xl, xh, xi, xp⟩ ⟨yl, yh, yi, yp⟩
              obtain ⟨b1, hb1⟩ : ∃ b1, rgE ⟨rl, rh, ri, rp⟩ ⟨yl, yh, yi, yp⟩ = b1 := ⟨_, rfl⟩
              obtain ⟨b2, hb2⟩ : ∃ b2, rgE ⟨xl, xh, xi, xp⟩ ⟨yl, yh, yi, yp⟩ = b2 := ⟨_, rfl⟩
              rw [hb1] at heq1 hnl
              rw [hb2] at heq2 hnm
              unfold rgC at heq1 heq2
              have HNL := Lib.hid hnl
              have HNM := Lib.hid hnm
              simp only at HD HE heq1 heq2
              have kI : (k : Int) < (l.length : Int) := by omega
              have k0 : (0 : Int) ≤ (k : Int) := by omega
              obtain ⟨c0, c1, c2, c3⟩ := HD.out
              obtain ⟨g0, g1, g2, g3⟩ := HG.out
              obtain ⟨f0, f1, f2, f3⟩ := HE.out
              have c0 := cell_later HQ.out c0
              have c1 := cell_later HQ.out c1
              have c2 := cell_later HQ.out c2
              have c3 := cell_later HQ.out c3
              have g0 := cell_later HQ.out g0
              have g1 := cell_later HQ.out g1
              have g2 := cell_later HQ.out g2
              have g3 := cell_later HQ.out g3
              have f0 := cell_later HQ.out f0
              have f1 := cell_later HQ.out f1
              have f2 := cell_later HQ.out f2
              have f3 := cell_later HQ.out f3
              have wz1 : IntKind.i64.wrap (z + 1) = z + 1 := IntWalk.i64_in _ (by omega)
              have wz2 : IntKind.i64.wrap (z - 1) = z - 1 := IntWalk.i64_in _ (by omega)
              have wz3 : IntKind.i64.wrap (z + 1 - 1) = z + 1 - 1 := IntWalk.i64_in _ (by omega)
              clear hnl hnm hb1 hb2
              cases b1 <;> cases b2
              all_goals
                go_wp2_with fail
                go_quiet (fail)
                go_wp2_with fail
                go_quiet (fail)
                go_wp2_with fail
                go_roundw
                case rel =>
                  have n1 := HNL.out
                  have n2 := HNM.out
                  have n3 := HZ.out
                  have n4 := HQB.out
                  simp at n1 n2
                  exact ⟨k + 1, _, by omega, rfl, by go_num, by omega, by omega, Lib.hid (by omega), Lib.hid (dNb HQ.out _)⟩
                case measure => simp [intOf]; omega
            · obtain rfl : k = l.length := by omega
              obtain rfl : z = 0 := by have := HZ.out; rw [cnt_perm HPM.out] at this; omega
              go_wp2_with fail
              go_roundw
              case rel => exact ⟨i + 1, by omega, by go_num, HQ⟩
              case measure => simp [intOf]; omega
        · obtain rfl : i = l.length := by omega
          go_wp2_with fail
          refine (HAW.out _).mono ?_
          rintro e w2 ⟨rfl, hb⟩
          have HB3 := Lib.hid (HB.out.trans ((HW.out.trans (hb.mono HW.out.size)).mono HB.out.size))
          clear hb
          go_wp2_with fail
          go_ret
          exact ⟨rfl, HB3.out⟩
  · have hckb : (ckR l == 0) = false := by simpa using hck
    clear hck
    go_wp2_with fail

    refine (HPS.out _).mono ?_
    rintro e w6 ⟨v9, er9, at9, l9, rfl, hsl, hb, hps⟩
    have HB := Lib.hid (HB.out.trans (hb.mono HB.out.size))
    have HV1 := Lib.hid (HV1.out.below hb)
    have HS9 := Lib.hid hsl
    have HP9 := Lib.hid hps
    clear hb hsl hps
    go_wp2_with fail
    have hfm := Lib.hid (fmt_any v9 l9 _ HS9.out HP9.out.ok)
    unfold FmtPost at hfm
    refine hfm.out.mono ?_
    rintro e w7 ⟨rfl, hb⟩
    have HB := Lib.hid (HB.out.trans (hb.mono HB.out.size))
    have HV1 := Lib.hid (HV1.out.below hb)
    have HS9 := Lib.hid (HS9.out.below hb)
    have HPU := Lib.hid (fun W => parse_any (fmtS l9) W (Nat.le_trans (fmt_size l9) (by decide)))
    unfold PsPost at HPU
    have HF9 := Lib.hid (fmt_size l9)
    have HBU := Lib.hid (fun h => parP_fmt (l := l9) h)
    obtain ⟨u, hu⟩ : ∃ u, fmtS l9 = u := ⟨_, rfl⟩
    rw [hu] at HPU HF9 HBU ⊢
    clear hb hfm hu
    by_cases he9 : er9 = 0
    · subst he9
      obtain ⟨-, hT9⟩ := HP9.out.fwd rfl
      have hu4 : ((u.size : Int) ≤ 4000) := by have := HF9.out; omega
      have hbk := HBU.out hT9
      go_wp2_with fail
      refine (HPU.out _).mono ?_
      rintro e w8 ⟨v13, er13, at13, l13, rfl, hsl, hb, hps⟩
      obtain ⟨rfl, hl6⟩ := hps.back l9 hbk hT9 HF9.out
      obtain ⟨rfl, -⟩ := hps.fwd rfl
      rw [hl6] at hsl
      clear hl6
      have HB := Lib.hid (HB.out.trans (hb.mono HB.out.size))
      have HV1 := Lib.hid (HV1.out.below hb)
      have HS9 := Lib.hid (HS9.out.below hb)
      have HS13 := Lib.hid hsl
      clear hb hsl hps hbk hT9
      go_wp2_with fail
      refine (HSA.out _ _ _ _ HS13.out HS9.out).mono ?_
      rintro e w9 ⟨rfl, hb⟩
      have HB := Lib.hid (HB.out.trans (hb.mono HB.out.size))
      have HV1 := Lib.hid (HV1.out.below hb)
      clear hb
      go_wp2_with fail

      refine (HSO.out _ HV1.out (by omega)).mono ?_
      rintro e wa ⟨v16, m, rfl, hso, hsl, hb⟩
      have HB := Lib.hid (HB.out.trans (hb.mono HB.out.size))
      have HV1 := Lib.hid (HV1.out.below hb)
      have HSX := Lib.hid hso
      have HLN := Lib.hid hso.length
      have HMK : Hid (∀ x ∈ m, RgOk x) := Lib.hid (fun x hx => HOK.out x (hso.perm.mem_iff.1 hx))
      have HS16 := Lib.hid hsl
      obtain ⟨A16, cp16, rfl, -, -, -, -⟩ := hsl.form
      clear hb hsl hso
      have hml : m.length = l.length := HLN.out
      rw [hml] at HS16 ⊢
      go_wp2_with fail
      have HS2 := Lib.hid (sort_any _ m _ HS16.out HMK.out (by rw [HLN.out]; omega))
      unfold SrtPost at HS2
      refine HS2.out.mono ?_
      rintro e wb ⟨vy, m2, rfl, hso2, hsl2, hb⟩
      have hm2 : m2 = m := SrtOf.again HSX.out hso2
      rw [hm2] at hsl2
      have HB := Lib.hid (HB.out.trans (hb.mono HB.out.size))
      have HV1 := Lib.hid (HV1.out.below hb)
      have HS16 := Lib.hid (HS16.out.below hb)
      have HSY := Lib.hid hsl2
      clear hb hsl2 hso2 HS2 hm2
      go_wp2_with fail
      refine (HSA.out _ _ _ _ HSY.out HS16.out).mono ?_
      rintro e wc ⟨rfl, hb⟩
      have HB := Lib.hid (HB.out.trans (hb.mono HB.out.size))
      have HV1 := Lib.hid (HV1.out.below hb)
      have HS16 := Lib.hid (HS16.out.below hb)
      clear hb
      have HPM := Lib.hid HSX.out.perm
      clear HSY HSX HMK hml
      go_wp2_with fail
      have HHB := Lib.hid (Nat.le_refl wc.heap.size)
      have HR1 := Lib.hid (show IsRow wc A (l.flatMap rgF) from by obtain ⟨A', c', e', h', -⟩ := HV1.out.form; injection e' with e1 e2 e3; rw [e1]; exact h')
      have HR2 := Lib.hid (show IsRow wc A16 (m.flatMap rgF) from by obtain ⟨A', c', e', h', -⟩ := HS16.out.form; injection e' with e1 e2 e3; rw [e1]; exact h')
      clear HHB
      go_loopw [17] (fun i wr => ∃ k : Nat, k ≤ l.length ∧ i = .int .i64 k ∧ Hid (Below wc.heap.size wc wr)) (fun i _ => l.length - (intOf i).toNat)
      case atStart => exact ⟨0, Nat.zero_le _, rfl, Lib.hid (Below.refl _ _)⟩
      case round =>
        obtain ⟨i, hi, rfl, HW⟩ := hrel
        by_cases hlt : i < l.length
        · have iI : (i : Int) < (l.length : Int) := by omega
          have i0 : (0 : Int) ≤ (i : Int) := by omega
          obtain ⟨yl, yh, yi, yp, hY⟩ : ∃ yl yh yi yp, rgAt l i = ⟨yl, yh, yi, yp⟩ := ⟨_, _, _, _, rfl⟩
          have HYI := Lib.hid hY
          clear hY
          go_wp2_with fail
          go_loopw [18, 19] (fun n j wq => ∃ (k : Nat) (z : Int), k ≤ l.length ∧ n = .int .i64 z ∧ j = .int .i64 k ∧ -80 ≤ z ∧ z ≤ 80 ∧ Hid (z = (cntR l ⟨yl, yh, yi, yp⟩ k : Int) - (cntR m ⟨yl, yh, yi, yp⟩ k : Int)) ∧ Hid (Below wc.heap.size wc wq)) (fun _ j _ => l.length - (intOf j).toNat)
          case atStart => exact ⟨0, 0, Nat.zero_le _, rfl, rfl, by omega, by omega, Lib.hid (by rw [cnt_zero, cnt_zero]; rfl), HW⟩
          case round =>
            obtain ⟨k, z, hk, rfl, rfl, hz1, hz2, HZ, HQ⟩ := hrel
            by_cases hkt : k < l.length
            · rcases row_rg HR1.out i hlt with ⟨b, off, rfl, hcell⟩
              rcases row_rg HR2.out k (by rw [HLN.out]; exact hkt) with ⟨b', off', rfl, hcell'⟩
              obtain ⟨d0, d1, d2, d3⟩ := hcell k hkt
              obtain ⟨g0, g1, g2, g3⟩ := hcell i hlt
              obtain ⟨e0, e1, e2, e3⟩ := hcell' k (by rw [HLN.out]; exact hkt)
              have hnl := cnt_succ l ⟨yl, yh, yi, yp⟩ k hkt
              have hnm := cnt_succ m ⟨yl, yh, yi, yp⟩ k (by rw [HLN.out]; exact hkt)
              have hbl : b < wr.heap.size := World.block_lt_of_cell? wr _ (cell_later HQ.out d0)
              have hbl' : b' < wr.heap.size := World.block_lt_of_cell? wr _ (cell_later HQ.out e0)
              rw [HYI.out] at g0 g1 g2 g3
              simp only at g0 g1 g2 g3
              have HD := Lib.hid (And.intro d0 (And.intro d1 (And.intro d2 d3)))
              have HG := Lib.hid (And.intro g0 (And.intro g1 (And.intro g2 g3)))
              have HE := Lib.hid (And.intro e0 (And.intro e1 (And.intro e2 e3)))
              have q1 := cnt_le l ⟨yl, yh, yi, yp⟩ (k + 1)
              have q2 := cnt_le m ⟨yl, yh, yi, yp⟩ (k + 1)
              have HQB := Lib.hid (And.intro q1 q2)
              clear d0 d1 d2 d3 g0 g1 g2 g3 e0 e1 e2 e3 hcell hcell' q1 q2
              generalize rgAt l k = r at *
              generalize rgAt m k = x at *
              obtain ⟨rl, rh, ri, rp⟩ := r
              obtain ⟨xl, xh, xi, xp⟩ := x
              have heq1 := eq_rg ⟨rl, rh, ri, rp⟩ ⟨yl, yh, yi, yp⟩
              have heq2 := eq_rg ⟨xl, xh, xi, xp⟩ ⟨yl, yh, yi, yp⟩
              obtain ⟨b1, hb1⟩ : ∃ b1, rgE ⟨rl, rh, ri, rp⟩ ⟨yl, yh, yi, yp⟩ = b1 := ⟨_, rfl⟩
              obtain ⟨b2, hb2⟩ : ∃ b2, rgE ⟨xl, xh, xi, xp⟩ ⟨yl, yh, yi, yp⟩ = b2 := ⟨_, rfl⟩
              rw [hb1] at heq1 hnl
              rw [hb2] at heq2 hnm
              unfold rgC at heq1 heq2
              have HNL := Lib.hid hnl
              have HNM := Lib.hid hnm
              simp only at HD HE heq1 heq2
              have kI : (k : Int) < (l.length : Int) := by omega
              have k0 : (0 : Int) ≤ (k : Int) := by omega
              obtain ⟨c0, c1, c2, c3⟩ := HD.out
              obtain ⟨g0, g1, g2, g3⟩ := HG.out
              obtain ⟨f0, f1, f2, f3⟩ := HE.out
              have c0 := cell_later HQ.out c0
              have c1 := cell_later HQ.out c1
              have c2 := cell_later HQ.out c2
              have c3 := cell_later HQ.out c3
              have g0 := cell_later HQ.out g0
              have g1 := cell_later HQ.out g1
              have g2 := cell_later HQ.out g2
              have g3 := cell_later HQ.out g3
              have f0 := cell_later HQ.out f0
              have f1 := cell_later HQ.out f1
              have f2 := cell_later HQ.out f2
              have f3 := cell_later HQ.out f3
              have wz1 : IntKind.i64.wrap (z + 1) = z + 1 := IntWalk.i64_in _ (by omega)
              have wz2 : IntKind.i64.wrap (z - 1) = z - 1 := IntWalk.i64_in _ (by omega)
              have wz3 : IntKind.i64.wrap (z + 1 - 1) = z + 1 - 1 := IntWalk.i64_in _ (by omega)
              clear hnl hnm hb1 hb2
              cases b1 <;> cases b2
              all_goals
                go_wp2_with fail
                go_quiet (fail)
                go_wp2_with fail
                go_quiet (fail)
                go_wp2_with fail
                go_roundw
                case rel =>
                  have n1 := HNL.out
                  have n2 := HNM.out
                  have n3 := HZ.out
                  have n4 := HQB.out
                  simp at n1 n2
                  exact ⟨k + 1, _, by omega, rfl, by go_num, by omega, by omega, Lib.hid (by omega), Lib.hid (dNb HQ.out _)⟩
                case measure => simp [intOf]; omega
            · obtain rfl : k = l.length := by omega
              obtain rfl : z = 0 := by have := HZ.out; rw [cnt_perm HPM.out] at this; omega
              go_wp2_with fail
              go_roundw
              case rel => exact ⟨i + 1, by omega, by go_num, HQ⟩
              case measure => simp [intOf]; omega
        · obtain rfl : i = l.length := by omega
          go_wp2_with fail
          refine (HAW.out _).mono ?_
          rintro e w2 ⟨rfl, hb⟩
          have HB3 := Lib.hid (HB.out.trans ((HW.out.trans (hb.mono HW.out.size)).mono HB.out.size))
          clear hb
          go_wp2_with fail
          go_ret
          exact ⟨rfl, HB3.out⟩
    · have heb : (er9 == 0) = false := by simpa using he9
      clear he9
      go_wp2_with fail

      refine (HSO.out _ HV1.out (by omega)).mono ?_
      rintro e wa ⟨v16, m, rfl, hso, hsl, hb⟩
      have HB := Lib.hid (HB.out.trans (hb.mono HB.out.size))
      have HV1 := Lib.hid (HV1.out.below hb)
      have HSX := Lib.hid hso
      have HLN := Lib.hid hso.length
      have HMK : Hid (∀ x ∈ m, RgOk x) := Lib.hid (fun x hx => HOK.out x (hso.perm.mem_iff.1 hx))
      have HS16 := Lib.hid hsl
      obtain ⟨A16, cp16, rfl, -, -, -, -⟩ := hsl.form
      clear hb hsl hso
      have hml : m.length = l.length := HLN.out
      rw [hml] at HS16 ⊢
      go_wp2_with fail
      have HS2 := Lib.hid (sort_any _ m _ HS16.out HMK.out (by rw [HLN.out]; omega))
      unfold SrtPost at HS2
      refine HS2.out.mono ?_
      rintro e wb ⟨vy, m2, rfl, hso2, hsl2, hb⟩
      have hm2 : m2 = m := SrtOf.again HSX.out hso2
      rw [hm2] at hsl2
      have HB := Lib.hid (HB.out.trans (hb.mono HB.out.size))
      have HV1 := Lib.hid (HV1.out.below hb)
      have HS16 := Lib.hid (HS16.out.below hb)
      have HSY := Lib.hid hsl2
      clear hb hsl2 hso2 HS2 hm2
      go_wp2_with fail
      refine (HSA.out _ _ _ _ HSY.out HS16.out).mono ?_
      rintro e wc ⟨rfl, hb⟩
      have HB := Lib.hid (HB.out.trans (hb.mono HB.out.size))
      have HV1 := Lib.hid (HV1.out.below hb)
      have HS16 := Lib.hid (HS16.out.below hb)
      clear hb
      have HPM := Lib.hid HSX.out.perm
      clear HSY HSX HMK hml
      go_wp2_with fail
      have HHB := Lib.hid (Nat.le_refl wc.heap.size)
      have HR1 := Lib.hid (show IsRow wc A (l.flatMap rgF) from by obtain ⟨A', c', e', h', -⟩ := HV1.out.form; injection e' with e1 e2 e3; rw [e1]; exact h')
      have HR2 := Lib.hid (show IsRow wc A16 (m.flatMap rgF) from by obtain ⟨A', c', e', h', -⟩ := HS16.out.form; injection e' with e1 e2 e3; rw [e1]; exact h')
      clear HHB
      go_loopw [17] (fun i wr => ∃ k : Nat, k ≤ l.length ∧ i = .int .i64 k ∧ Hid (Below wc.heap.size wc wr)) (fun i _ => l.length - (intOf i).toNat)
      case atStart => exact ⟨0, Nat.zero_le _, rfl, Lib.hid (Below.refl _ _)⟩
      case round =>
        obtain ⟨i, hi, rfl, HW⟩ := hrel
        by_cases hlt : i < l.length
        · have iI : (i : Int) < (l.length : Int) := by omega
          have i0 : (0 : Int) ≤ (i : Int) := by omega
          obtain ⟨yl, yh, yi, yp, hY⟩ : ∃ yl yh yi yp, rgAt l i = ⟨yl, yh, yi, yp⟩ := ⟨_, _, _, _, rfl⟩
          have HYI := Lib.hid hY
          clear hY
          go_wp2_with fail
          go_loopw [18, 19] (fun n j wq => ∃ (k : Nat) (z : Int), k ≤ l.length ∧ n = .int .i64 z ∧ j = .int .i64 k ∧ -80 ≤ z ∧ z ≤ 80 ∧ Hid (z = (cntR l ⟨yl, yh, yi, yp⟩ k : Int) - (cntR m ⟨yl, yh, yi, yp⟩ k : Int)) ∧ Hid (Below wc.heap.size wc wq)) (fun _ j _ => l.length - (intOf j).toNat)
          case atStart => exact ⟨0, 0, Nat.zero_le _, rfl, rfl, by omega, by omega, Lib.hid (by rw [cnt_zero, cnt_zero]; rfl), HW⟩
          case round =>
            obtain ⟨k, z, hk, rfl, rfl, hz1, hz2, HZ, HQ⟩ := hrel
            by_cases hkt : k < l.length
            · rcases row_rg HR1.out i hlt with ⟨b, off, rfl, hcell⟩
              rcases row_rg HR2.out k (by rw [HLN.out]; exact hkt) with ⟨b', off', rfl, hcell'⟩
              obtain ⟨d0, d1, d2, d3⟩ := hcell k hkt
              obtain ⟨g0, g1, g2, g3⟩ := hcell i hlt
              obtain ⟨e0, e1, e2, e3⟩ := hcell' k (by rw [HLN.out]; exact hkt)
              have hnl := cnt_succ l ⟨yl, yh, yi, yp⟩ k hkt
              have hnm := cnt_succ m ⟨yl, yh, yi, yp⟩ k (by rw [HLN.out]; exact hkt)
              have hbl : b < wr.heap.size := World.block_lt_of_cell? wr _ (cell_later HQ.out d0)
              have hbl' : b' < wr.heap.size := World.block_lt_of_cell? wr _ (cell_later HQ.out e0)
              rw [HYI.out] at g0 g1 g2 g3
              simp only at g0 g1 g2 g3
              have HD := Lib.hid (And.intro d0 (And.intro d1 (And.intro d2 d3)))
              have HG := Lib.hid (And.intro g0 (And.intro g1 (And.intro g2 g3)))
              have HE := Lib.hid (And.intro e0 (And.intro e1 (And.intro e2 e3)))
              have q1 := cnt_le l ⟨yl, yh, yi, yp⟩ (k + 1)
              have q2 := cnt_le m ⟨yl, yh, yi, yp⟩ (k + 1)
              have HQB := Lib.hid (And.intro q1 q2)
              clear d0 d1 d2 d3 g0 g1 g2 g3 e0 e1 e2 e3 hcell hcell' q1 q2
              generalize rgAt l k = r at *
              generalize rgAt m k = x at *
              obtain ⟨rl, rh, ri, rp⟩ := r
              obtain ⟨xl, xh, xi, xp⟩ := x
              have heq1 := eq_rg ⟨rl, rh, ri, rp⟩ ⟨yl, yh, yi, yp⟩
              have heq2 := eq_rg ⟨xl, xh, xi, xp⟩ ⟨yl, yh, yi, yp⟩
              obtain ⟨b1, hb1⟩ : ∃ b1, rgE ⟨rl, rh, ri, rp⟩ ⟨yl, yh, yi, yp⟩ = b1 := ⟨_, rfl⟩
              obtain ⟨b2, hb2⟩ : ∃ b2, rgE ⟨xl, xh, xi, xp⟩ ⟨yl, yh, yi, yp⟩ = b2 := ⟨_, rfl⟩
              rw [hb1] at heq1 hnl
              rw [hb2] at heq2 hnm
              unfold rgC at heq1 heq2
              have HNL := Lib.hid hnl
              have HNM := Lib.hid hnm
              simp only at HD HE heq1 heq2
              have kI : (k : Int) < (l.length : Int) := by omega
              have k0 : (0 : Int) ≤ (k : Int) := by omega
              obtain ⟨c0, c1, c2, c3⟩ := HD.out
              obtain ⟨g0, g1, g2, g3⟩ := HG.out
              obtain ⟨f0, f1, f2, f3⟩ := HE.out
              have c0 := cell_later HQ.out c0
              have c1 := cell_later HQ.out c1
              have c2 := cell_later HQ.out c2
              have c3 := cell_later HQ.out c3
              have g0 := cell_later HQ.out g0
              have g1 := cell_later HQ.out g1
              have g2 := cell_later HQ.out g2
              have g3 := cell_later HQ.out g3
              have f0 := cell_later HQ.out f0
              have f1 := cell_later HQ.out f1
              have f2 := cell_later HQ.out f2
              have f3 := cell_later HQ.out f3
              have wz1 : IntKind.i64.wrap (z + 1) = z + 1 := IntWalk.i64_in _ (by omega)
              have wz2 : IntKind.i64.wrap (z - 1) = z - 1 := IntWalk.i64_in _ (by omega)
              have wz3 : IntKind.i64.wrap (z + 1 - 1) = z + 1 - 1 := IntWalk.i64_in _ (by omega)
              clear hnl hnm hb1 hb2
              cases b1 <;> cases b2
              all_goals
                go_wp2_with fail
                go_quiet (fail)
                go_wp2_with fail
                go_quiet (fail)
                go_wp2_with fail
                go_roundw
                case rel =>
                  have n1 := HNL.out
                  have n2 := HNM.out
                  have n3 := HZ.out
                  have n4 := HQB.out
                  simp at n1 n2
                  exact ⟨k + 1, _, by omega, rfl, by go_num, by omega, by omega, Lib.hid (by omega), Lib.hid (dNb HQ.out _)⟩
                case measure => simp [intOf]; omega
            · obtain rfl : k = l.length := by omega
              obtain rfl : z = 0 := by have := HZ.out; rw [cnt_perm HPM.out] at this; omega
              go_wp2_with fail
              go_roundw
              case rel => exact ⟨i + 1, by omega, by go_num, HQ⟩
              case measure => simp [intOf]; omega
        · obtain rfl : i = l.length := by omega
          go_wp2_with fail
          refine (HAW.out _).mono ?_
          rintro e w2 ⟨rfl, hb⟩
          have HB3 := Lib.hid (HB.out.trans ((HW.out.trans (hb.mono HW.out.size)).mono HB.out.size))
          clear hb
          go_wp2_with fail
          go_ret
          exact ⟨rfl, HB3.out⟩
end Go.Proofs.YtiegoffdbhmfbaaGreatDoor
