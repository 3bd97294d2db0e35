/- The law Checks. -/
import Derived.Test.YtodlholfhgicoaaDoorPys
import Derived.IntWalk
import Derived.Deep.RegionHeld3
import Derived.Outline
namespace Go.Proofs.YtodlholfhgicoaaDoor
set_option linter.unusedVariables false
open Go.RowKit Go.Sort Go.Maps

theorem cell_later {w wX : World} {p : Addr} {v : Value} (hb : Below w.heap.size w wX) (h : w.cell? p = some v) : wX.cell? p = some v := (hb.cell (World.block_lt_of_cell? w _ h)).trans h
set_option maxRecDepth 100000 in
set_option maxHeartbeats 12800000 in
theorem checks_any (k : Nat) (win : Int) (A : Option Addr) (cp : Nat) (l : List PayT) (w : World) (hw : KW w) (hk : k < M64) (hr : IsRow w A (l.flatMap payF)) (hok : ∀ x ∈ l, PayOk x) (hl : l.length ≤ maxLen) :
    Calls Tryd.prog 4 #[.int .u64 k, .int .i64 win, .slice A l.length cp] w fun e w' => e = .returned (.bool true) ∧ Below w.heap.size w w' := by
  have HKW := Lib.hid hw
  have HR := Lib.hid hr
  have HAW := Lib.hid (fun W h => awake_any W h)
  have HPK := Lib.hid hok
  have HN1 := Lib.hid (fun W => new_ok k win W)
  have HN2 := Lib.hid (fun W => new_bad k win W)
  have HN3 := Lib.hid (fun W => rnew_ok2 k win W)
  have HN4 := Lib.hid (fun W => rnew_bad k win W)
  have HK := Lib.hid hk
  clear hw hr hok hk
  unfold maxLen at hl
  have hwin : (0 ≤ win ∧ win ≤ 63) ∨ (win < 0 ∨ 63 < win) := by omega
  rcases hwin with q | q
  · have HQ := Lib.hid q
    clear q
    by_cases hlen : 80 < l.length
    · go_enter Tryd.func4, Tryd.ntmps4
      go_wp2_with fail
      refine (HN1.out _ HQ.out.1 HQ.out.2).mono ?_
      rintro e w1 ⟨bc, rfl, -, hb⟩
      have HB := Lib.hid hb
      clear hb
      go_wp2_with fail
      refine (HN3.out _ HQ.out.1 HQ.out.2).mono ?_
      rintro e w2 ⟨rfl, hw2⟩
      have HB2 := Lib.hid (show Below w.heap.size w w2 by rw [hw2]; exact HB.out.trans ((alloc_lt _ _).mono HB.out.size))
      clear hw2
      go_wp2_with fail
      refine (HAW.out _ (HKW.out.below HB2.out)).mono ?_
      rintro e w9 ⟨rfl, hb⟩
      have HB9 := Lib.hid (HB2.out.trans (hb.mono HB2.out.size))
      clear hb
      go_wp2_with fail
      go_ret
      exact ⟨rfl, HB9.out⟩
    · have hlen' : l.length ≤ 80 := by omega
      have hd80 : decide (80 < (l.length : Int)) = false := decide_eq_false (by omega)
      clear hlen
      go_enter Tryd.func4, Tryd.ntmps4
      go_wp2_with fail
      refine (HN1.out _ HQ.out.1 HQ.out.2).mono ?_
      rintro e w1 ⟨bc, rfl, hck, hb⟩
      have HB := Lib.hid hb
      have HCK := Lib.hid hck
      clear hb hck
      go_wp2_with fail
      refine (HN3.out _ HQ.out.1 HQ.out.2).mono ?_
      rintro e w2 ⟨rfl, hw2⟩
      have HST : Hid (ChW w w2 bc w1.heap.size k win m0 0 []) := Lib.hid (by
        rw [hw2]
        exact ⟨HCK.out.below (alloc_lt _ _), ref_start _ _ _ _ HB.out.size, HB.out.trans ((alloc_lt _ _).mono HB.out.size)⟩)
      clear hw2 HCK HB
      generalize w1.heap.size = br at *
      go_wp2_with fail
      go_loopw [11] (fun i wr => ∃ (n : Nat) (m : ByteArray → Option Hst) (sz : Nat) (rs : RSt), n ≤ l.length ∧ i = .int .i64 n ∧ Hid (ChkI m sz rs) ∧ Hid (rs.length ≤ 64 ∧ ∀ t, (cntR rs t).length ≤ n) ∧ Hid (ChW w wr bc br k win m sz rs)) (fun i _ => l.length - (intOf i).toNat)
      case atStart => exact ⟨0, m0, 0, [], Nat.zero_le _, rfl, Lib.hid chk_start, Lib.hid ⟨Nat.zero_le _, fun t => Nat.zero_le _⟩, HST⟩
      case round =>
        clear HST
        obtain ⟨i, m, sz, rs, hi, rfl, HI, HL, HS⟩ := hrel
        by_cases hlt : i < l.length
        · rcases row_pay HR.out i hlt with ⟨b, off, rfl, d0, d1, d2, d3, d4, d5, d6⟩
          have c0 := cell_later HS.out.bel d0
          have c1 := cell_later HS.out.bel d1
          have c2 := cell_later HS.out.bel d2
          have c3 := cell_later HS.out.bel d3
          have c4 := cell_later HS.out.bel d4
          have c5 := cell_later HS.out.bel d5
          have c6 := cell_later HS.out.bel d6
          have hpk := HPK.out _ (List.getElem_mem hlt)
          clear d0 d1 d2 d3 d4 d5 d6
          generalize l[i] = x at c0 c1 c2 c3 c4 c5 c6 hpk
          obtain ⟨t, c, a, cur, nonce, code, r⟩ := x
          obtain ⟨p1, p2, p3, p4, p5⟩ := hpk
          simp only at c0 c1 c2 c3 c4 c5 c6 p1 p2 p3 p4 p5
          have HPS := Lib.hid (And.intro p1 (And.intro p2 (And.intro p3 (And.intro p4 p5))))
          have HSM := Lib.hid (fun W => small_any t c a cur nonce code r W)
          have iI : (i : Int) < (l.length : Int) := by omega
          have i0 : (0 : Int) ≤ (i : Int) := by omega
          have hbl : b < wr.heap.size := World.block_lt_of_cell? wr _ c0
          unfold payC at HSM
          clear p1 p2 p3 p4 p5
          cases hs : smallB t cur nonce code
          · rw [hs] at HSM
            clear hs
            go_wp2_with fail
            refine (HSM.out _).mono ?_
            rintro e w2 ⟨rfl, hb⟩
            obtain ⟨kk, z1, hb1⟩ := box1 hb
            have HB2 := Lib.hid (HS.out.below hb1)
            clear hb hb1 kk
            go_wp2_with fail
            refine (HAW.out _ (HKW.out.below HB2.out.bel)).mono ?_
            rintro e w3 ⟨rfl, hb⟩
            have HB3 := Lib.hid (HB2.out.bel.trans (hb.mono HB2.out.bel.size))
            clear hb
            go_wp2_with fail
            go_ret
            exact ⟨rfl, HB3.out⟩
          · rw [hs] at HSM
            clear hs
            go_wp2_with fail
            refine (HSM.out _).mono ?_
            rintro e w2 ⟨rfl, hb⟩
            obtain ⟨kk, z1, hb1⟩ := box1 hb
            have HS2 := Lib.hid (HS.out.below hb1)
            have HP2 : Hid (PayB w2 wr.heap.size t c a cur nonce code r) := Lib.hid kk
            clear hb hb1 c0 c1 c2 c3 c4 c5 c6 hbl
            generalize wr.heap.size = bp at *
            have k0 := cell_c kk 0
            have k1 := cell_c kk 1
            have k2 := cell_c kk 2
            have k3 := cell_c kk 3
            have k4 := cell_c kk 4
            have k5 := cell_c kk 5
            have k6 := cell_c kk 6
            clear kk
            have HMK : Hid (∀ W, KW W → Calls Tryd.prog 11 #[.int .u64 k, .string t, .int .i64 c, .agg #[.int .i64 a, .string cur], .string nonce] W fun e w' => e = .returned (.tuple #[.string (mkV k t c a cur nonce), .int .i64 (mkE t c a cur nonce)]) ∧ Below W.heap.size W w') := Lib.hid (fun W hW => rmake_any k t c a cur nonce W hW HK.out HPS.out.1 HPS.out.2.1 HPS.out.2.2.1)
            obtain ⟨CD, hCD⟩ : ∃ CD, (if r = true then mkV k t c a cur nonce else code) = CD := ⟨_, rfl⟩
            have HCD := Lib.hid hCD.symm
            have HCZ := Lib.hid (show CD.size ≤ maxLen by rw [← hCD]; split; exact mkV_size _ _ _ _ _ _; exact HPS.out.2.2.2.1)
            obtain ⟨E, hE⟩ : ∃ E, ckE k win m sz t c a cur nonce CD = E := ⟨_, rfl⟩
            have hI2 := chk_next HI.out t c a cur nonce CD HQ.out.1 HQ.out.2 E hE
            have hE2 : rckE k win rs t c a cur nonce CD = E := by rw [← ckE_rck HI.out t c a cur nonce CD HQ.out.1 HQ.out.2]; exact hE
            have hHL2 : (rAt rs t c E).length ≤ 64 ∧ ∀ y, (cntR (rAt rs t c E) y).length ≤ i + 1 := ⟨rAt_64 HI.out t c a cur nonce CD E hE HL.out.1, fun y => by have := rAt_cnt rs t c E y; have := HL.out.2 y; omega⟩
            have HCA : Hid (∀ W, ChW w W bc br k win m sz rs → Calls Tryd.prog 14 #[.pointer (some ⟨bc, 0, none⟩), .string t, .int .i64 c, .agg #[.int .i64 a, .string cur], .string nonce, .string CD] W fun e w' => e = .returned (.int .i64 E) ∧ ChW w w' bc br k win (mAt m t c E) (zAt m sz t E) rs ∧ KeepC W w') := Lib.hid (fun W hW => by
              have := check_any2 w.heap.size bc k win m sz t c a cur nonce CD W hW.ck (chk_good HI.out) (HKW.out.below hW.bel) HK.out HQ.out.1 HQ.out.2 HPS.out.1 HPS.out.2.1 HPS.out.2.2.1 HCZ.out (by have := HI.out.len; have := HL.out.1; omega)
              rw [hE] at this
              exact this.mono (fun e w' hp => ch_first hW hp))
            have HCB : Hid (∀ W, ChW w W bc br k win (mAt m t c E) (zAt m sz t E) rs → Calls Tryd.prog 15 #[.pointer (some ⟨br, 0, none⟩), .string t, .int .i64 c, .agg #[.int .i64 a, .string cur], .string nonce, .string CD] W fun e w' => e = .returned (.int .i64 E) ∧ ChW w w' bc br k win (mAt m t c E) (zAt m sz t E) (rAt rs t c E) ∧ KeepO W w') := Lib.hid (fun W hW => by
              have := rcheck_any w.heap.size br k win rs t c a cur nonce CD W hW.rf (by have := HL.out.1; omega) (fun y => by have := HL.out.2 y; omega) (fun y x hx => by have := chk_cnt HI.out y x hx; omega) (HKW.out.below hW.bel) HK.out HQ.out.1 HQ.out.2 HPS.out.1 HPS.out.2.1 HPS.out.2.2.1 HCZ.out
              rw [hE2] at this
              exact this.mono (fun e w' hp => ch_second hW hp))
            generalize mAt m t c E = m2 at *
            generalize zAt m sz t E = z2 at *
            generalize rAt rs t c E = rs2 at *
            have HI2 := Lib.hid hI2
            have HL2 := Lib.hid hHL2
            have hV := chk_rng hI2 t
            obtain ⟨V, hVe⟩ : ∃ V, maxL (cntR rs2 t) = V := ⟨_, rfl⟩
            rw [hVe] at hV
            have HLA : Hid (∀ W, ChW w W bc br k win m2 z2 rs2 → Calls Tryd.prog 16 #[.pointer (some ⟨bc, 0, none⟩), .string t] W fun e w' => e = .returned (.int .i64 V) ∧ W = w') := Lib.hid (fun W hW => by
              have := last_any w.heap.size bc k win m2 z2 t W hW.ck HPS.out.1
              rw [chk_last HI2.out, hVe] at this
              exact this)
            have HLB : Hid (∀ W, ChW w W bc br k win m2 z2 rs2 → Calls Tryd.prog 17 #[.pointer (some ⟨br, 0, none⟩), .string t] W fun e w' => e = .returned (.int .i64 V) ∧ W = w') := Lib.hid (fun W hW => by
              have := rlast_any w.heap.size br k win rs2 t W hW.rf (by have := HL2.out.1; omega) (by have := HL2.out.2 t; omega)
              rw [hVe] at this
              exact this)
            obtain ⟨UF, hUF⟩ : ∃ UF : Int → Bool, (fun c' => usedR rs2 t c' win) = UF := ⟨_, rfl⟩
            have HUA : Hid (∀ W (c' : Int), -9223372036854775808 ≤ c' → ChW w W bc br k win m2 z2 rs2 → Calls Tryd.prog 18 #[.pointer (some ⟨bc, 0, none⟩), .string t, .int .i64 c'] W fun e w' => e = .returned (.bool (UF c')) ∧ Below W.heap.size W w') := Lib.hid (fun W c' hc hW => by
              have := usedM_any w.heap.size bc k win m2 z2 t c' W hW.ck (chk_good HI2.out) HPS.out.1 HQ.out.1 HQ.out.2 hc
              rw [chk_used HI2.out t c' win HQ.out.1 HQ.out.2] at this
              rw [← hUF]
              exact this)
            have HUB : Hid (∀ W (c' : Int), ChW w W bc br k win m2 z2 rs2 → Calls Tryd.prog 19 #[.pointer (some ⟨br, 0, none⟩), .string t, .int .i64 c'] W fun e w' => e = .returned (.bool (UF c')) ∧ Below W.heap.size W w') := Lib.hid (fun W c' hW => by
              have := rused_any w.heap.size br k win rs2 t c' W hW.rf (by have := HL2.out.1; omega) (by have := HL2.out.2 t; omega) (fun x hx => by have := chk_cnt HI2.out t x hx; omega) HQ.out.1 HQ.out.2
              rw [← hUF]
              exact this.mono (fun e w' hp => ⟨hp.1, by obtain ⟨n, hn⟩ := hp.2; rw [hn]; exact below_drewN _ _⟩))
            have HV := Lib.hid hV
            have HC0 := Lib.hid HPS.out.2.2.2.2.1
            clear hE hE2 hI2 hHL2 hVe hUF hV hCD
            generalize mkV k t c a cur nonce = MV at *
            generalize mkE t c a cur nonce = ME at *
            cases r
            · obtain rfl : CD = code := by rw [HCD.out]; rfl
              go_wp2_with fail
              have HSW := Lib.hid (HS2.out.below ((Below.refl w2.heap.size w2).drew))
              have HP := Lib.hid (HP2.out.below ((Below.refl w2.heap.size w2).drew))
              clear HCD HMK
              go_region_held3 (fun w' => w'.cell? ⟨bp, 0, none⟩ = some (.string t) ∧ w'.cell? ⟨bp, 1, none⟩ = some (.int .i64 c) ∧ w'.cell? ⟨bp, 2, none⟩ = some (.int .i64 a) ∧ w'.cell? ⟨bp, 3, none⟩ = some (.string cur) ∧ w'.cell? ⟨bp, 4, none⟩ = some (.string nonce))
                (exact HP.out.cells)
                (first
                  | (go_at_call 14; refine (HCA.out _ HSW.out).mono ?_; rintro e w' ⟨rfl, hs, hk⟩; have HSX := Lib.hid hs; have HP := Lib.hid (HP.out.keepC hk); clear hs hk)
                  | (go_at_call 15; refine (HCB.out _ HSX.out).mono ?_; rintro e w' ⟨rfl, hs, hk⟩; have HSY := Lib.hid hs; have HP := Lib.hid (HP.out.keepO hk); clear hs hk)
                  | (go_at_call 16; refine (HLA.out _ HSY.out).mono ?_; rintro e w' ⟨rfl, rfl⟩)
                  | (go_at_call 17; refine (HLB.out _ HSY.out).mono ?_; rintro e w' ⟨rfl, rfl⟩)
                  | (go_at_call 18; refine (HUA.out _ _ HC0.out HSY.out).mono ?_; rintro e w' ⟨rfl, hb⟩; have HP := Lib.hid (HP.out.below hb); have HSY := Lib.hid (HSY.out.below hb); clear hb)
                  | (go_at_call 19; refine (HUB.out _ _ HSY.out).mono ?_; rintro e w' ⟨rfl, hb⟩; have HP := Lib.hid (HP.out.below hb); have HSY := Lib.hid (HSY.out.below hb); clear hb))
              go_wp2_with fail
              go_loopw [16] (fun j wr => ∃ n : Nat, n ≤ 70 ∧ j = .int .i64 n ∧ Hid (PayB wr bp t c a cur nonce CD false) ∧ Hid (ChW w wr bc br k win m2 z2 rs2)) (fun j _ => 70 - (intOf j).toNat)
              case atStart => exact ⟨0, by omega, rfl, HP, HSY⟩
              case round =>
                clear HP HSY
                obtain ⟨n, hn, rfl, HP, HSY⟩ := hrel
                by_cases hn7 : n < 70
                · have b0 := HP.out.cells.1
                  have hv := HV.out
                  have e1 : IntKind.i64.wrap (V + 2) = V + 2 := IntWalk.i64_in _ (by omega)
                  obtain ⟨N, hN⟩ : ∃ N, V + 2 - (n : Int) = N := ⟨_, rfl⟩
                  have e2 : IntKind.i64.wrap (V + 2 - (n : Int)) = N := by rw [← hN]; exact IntWalk.i64_in _ (by omega)
                  have HN0 := Lib.hid (show -9223372036854775808 ≤ N by omega)
                  have n7 : (n : Int) < 70 := by omega
                  clear hN
                  go_wp2_with fail
                  refine (HLB.out _ HSY.out).mono ?_
                  rintro e w5 ⟨rfl, rfl⟩
                  go_wp2_with fail
                  have HSY := Lib.hid (HSY.out.below ((Below.refl wr.heap.size wr).drew))
                  have HP := Lib.hid (HP.out.below ((Below.refl wr.heap.size wr).drew))
                  clear b0 hv
                  go_region_held3 (fun w' => w'.cell? ⟨bp, 0, none⟩ = some (.string t))
                    (exact HP.out.cells.1)
                    (first
                      | (go_at_call 18; refine (HUA.out _ _ HN0.out HSY.out).mono ?_; rintro e w' ⟨rfl, hb⟩; have HP := Lib.hid (HP.out.below hb); have HSY := Lib.hid (HSY.out.below hb); clear hb)
                      | (go_at_call 19; refine (HUB.out _ _ HSY.out).mono ?_; rintro e w' ⟨rfl, hb⟩; have HP := Lib.hid (HP.out.below hb); have HSY := Lib.hid (HSY.out.below hb); clear hb))
                  go_wp2_with fail
                  go_roundw
                  case rel => exact ⟨n + 1, by omega, by go_num, HP, HSY⟩
                  case measure => simp [intOf]; omega
                · have hn8 : n = 70 := by omega
                  subst hn8
                  clear hn hn7
                  go_wp2_with fail
                  go_roundw
                  case rel => exact ⟨i + 1, m2, z2, rs2, by omega, by go_num, HI2, HL2, HSY⟩
                  case measure => simp [intOf]; omega
            · obtain rfl : CD = MV := by rw [HCD.out]; rfl
              go_wp2_with fail
              refine (HMK.out _ (HKW.out.below HS2.out.bel)).mono ?_
              rintro e w3 ⟨rfl, hb⟩
              have HS3 := Lib.hid (HS2.out.below hb)
              have HP3 := Lib.hid (HP2.out.below hb)
              clear hb k0 k1 k2 k3 k4 k5 k6
              go_wp2_with fail
              have HSW := Lib.hid (HS3.out.below ((Below.refl w3.heap.size w3).drew))
              have HP := Lib.hid (HP3.out.below ((Below.refl w3.heap.size w3).drew))
              clear HCD HMK
              go_region_held3 (fun w' => w'.cell? ⟨bp, 0, none⟩ = some (.string t) ∧ w'.cell? ⟨bp, 1, none⟩ = some (.int .i64 c) ∧ w'.cell? ⟨bp, 2, none⟩ = some (.int .i64 a) ∧ w'.cell? ⟨bp, 3, none⟩ = some (.string cur) ∧ w'.cell? ⟨bp, 4, none⟩ = some (.string nonce))
                (exact HP.out.cells)
                (first
                  | (go_at_call 14; refine (HCA.out _ HSW.out).mono ?_; rintro e w' ⟨rfl, hs, hk⟩; have HSX := Lib.hid hs; have HP := Lib.hid (HP.out.keepC hk); clear hs hk)
                  | (go_at_call 15; refine (HCB.out _ HSX.out).mono ?_; rintro e w' ⟨rfl, hs, hk⟩; have HSY := Lib.hid hs; have HP := Lib.hid (HP.out.keepO hk); clear hs hk)
                  | (go_at_call 16; refine (HLA.out _ HSY.out).mono ?_; rintro e w' ⟨rfl, rfl⟩)
                  | (go_at_call 17; refine (HLB.out _ HSY.out).mono ?_; rintro e w' ⟨rfl, rfl⟩)
                  | (go_at_call 18; refine (HUA.out _ _ HC0.out HSY.out).mono ?_; rintro e w' ⟨rfl, hb⟩; have HP := Lib.hid (HP.out.below hb); have HSY := Lib.hid (HSY.out.below hb); clear hb)
                  | (go_at_call 19; refine (HUB.out _ _ HSY.out).mono ?_; rintro e w' ⟨rfl, hb⟩; have HP := Lib.hid (HP.out.below hb); have HSY := Lib.hid (HSY.out.below hb); clear hb))
              go_wp2_with fail
              go_loopw [16] (fun j wr => ∃ n : Nat, n ≤ 70 ∧ j = .int .i64 n ∧ Hid (PayB wr bp t c a cur nonce code true) ∧ Hid (ChW w wr bc br k win m2 z2 rs2)) (fun j _ => 70 - (intOf j).toNat)
              case atStart => exact ⟨0, by omega, rfl, HP, HSY⟩
              case round =>
                clear HP HSY
                obtain ⟨n, hn, rfl, HP, HSY⟩ := hrel
                by_cases hn7 : n < 70
                · have b0 := HP.out.cells.1
                  have hv := HV.out
                  have e1 : IntKind.i64.wrap (V + 2) = V + 2 := IntWalk.i64_in _ (by omega)
                  obtain ⟨N, hN⟩ : ∃ N, V + 2 - (n : Int) = N := ⟨_, rfl⟩
                  have e2 : IntKind.i64.wrap (V + 2 - (n : Int)) = N := by rw [← hN]; exact IntWalk.i64_in _ (by omega)
                  have HN0 := Lib.hid (show -9223372036854775808 ≤ N by omega)
                  have n7 : (n : Int) < 70 := by omega
                  clear hN
                  go_wp2_with fail
                  refine (HLB.out _ HSY.out).mono ?_
                  rintro e w5 ⟨rfl, rfl⟩
                  go_wp2_with fail
                  have HSY := Lib.hid (HSY.out.below ((Below.refl wr.heap.size wr).drew))
                  have HP := Lib.hid (HP.out.below ((Below.refl wr.heap.size wr).drew))
                  clear b0 hv
                  go_region_held3 (fun w' => w'.cell? ⟨bp, 0, none⟩ = some (.string t))
                    (exact HP.out.cells.1)
                    (first
                      | (go_at_call 18; refine (HUA.out _ _ HN0.out HSY.out).mono ?_; rintro e w' ⟨rfl, hb⟩; have HP := Lib.hid (HP.out.below hb); have HSY := Lib.hid (HSY.out.below hb); clear hb)
                      | (go_at_call 19; refine (HUB.out _ _ HSY.out).mono ?_; rintro e w' ⟨rfl, hb⟩; have HP := Lib.hid (HP.out.below hb); have HSY := Lib.hid (HSY.out.below hb); clear hb))
                  go_wp2_with fail
                  go_roundw
                  case rel => exact ⟨n + 1, by omega, by go_num, HP, HSY⟩
                  case measure => simp [intOf]; omega
                · have hn8 : n = 70 := by omega
                  subst hn8
                  clear hn hn7
                  go_wp2_with fail
                  go_roundw
                  case rel => exact ⟨i + 1, m2, z2, rs2, by omega, by go_num, HI2, HL2, HSY⟩
                  case measure => simp [intOf]; omega
        · have HD := Lib.hid (show i = l.length by omega)
          go_wp2_with fail
          refine (HAW.out _ (HKW.out.below HS.out.bel)).mono ?_
          rintro e w9 ⟨rfl, hb⟩
          have HB9 := Lib.hid (HS.out.bel.trans (hb.mono HS.out.bel.size))
          clear hb
          go_wp2_with fail
          go_ret
          exact ⟨rfl, HB9.out⟩
  · have HQ := Lib.hid q
    clear q
    go_enter Tryd.func4, Tryd.ntmps4
    go_wp2_with fail
    refine (HN2.out _ HQ.out).mono ?_
    rintro e w1 ⟨rfl, rfl⟩
    go_wp2_with fail
    refine (HN4.out _ HQ.out).mono ?_
    rintro e w2 ⟨rfl, rfl⟩
    go_wp2_with fail
    refine (HAW.out _ HKW.out).mono ?_
    rintro e w9 ⟨rfl, hb⟩
    have HB9 := Lib.hid hb
    clear hb
    go_wp2_with fail
    go_ret
    exact ⟨rfl, HB9.out⟩
end Go.Proofs.YtodlholfhgicoaaDoor
