/- Part of the proof over this seat. -/
import Derived.Deep.DeepCutAuto
import Derived.Test.YthflmdgfenojcaaGreatDoorQIc
import Derived.Test.YthflmdgfenojcaaGreatDoorQRdC
namespace Go.Proofs.YthflmdgfenojcaaGreatDoor
set_option linter.unusedVariables false
open Go.RowKit Go.Sort Go.Maps
theorem mk107 : (Tryz.prog.info? 107).map (fun i => (i.zero, i.size, i.bytes)) = some (some (.agg #[.string ⟨#[]⟩, .string ⟨#[]⟩]), 2, 32) := by kernel_rfl
section
variable {w0 : World} {A : Option Addr} {cp : Nat} {st : InS} {G : Nat → Prop} {b : RiB} {W W' : World}
set_option maxRecDepth 1000000 in
set_option maxHeartbeats 51200000 in
theorem raccept_any (h : InR w0 A cp st G b W) (hsr : IsRow w0 A (st.sds.map Value.string)) (hsl : st.sds.length ≤ 1000) (hw : BW W) (hob : st.bad.length ≤ 500000) (date : Int) (s : ByteArray) (hs : s.size ≤ 1000000) (hfl : st.fs.length ≤ 64) (hgl : st.good.length ≤ 100000) :
    Calls Tryz.prog 18 #[.pointer (some ⟨b.x, 0, none⟩), .int .i64 date, .string s] W (RacPost w0 A cp st date s G b W) := by
  have HI := Lib.hid h
  have hwW : w0.heap.size ≤ W.heap.size := h.be.size
  have HSR := Lib.hid hsr
  have HGW : Hid (∀ k, G k → k < W.heap.size) := Lib.hid (fun k q => (h.fp k q).2)
  have HBAD := Lib.hid (fun E W' h1 h2 h3 => rac_bad h (date := date) (s := s) (E := E) (W' := W') h1 h2 h3)
  by_cases hd : date < 0 ∨ 99999 < date
  · have HE := Lib.hid (accE_1 (st := st) (s := s) hd)
    rcases hd with hd | hd
    · clear h
      go_enter Tryz.func18, Tryz.ntmps18
      go_wp2_with fail
      go_ret3
      exact HBAD.out 14 _ HE.out (by decide) (Below.refl _ _)
    · have hd0 : ¬ date < 0 := by omega
      clear h
      go_enter Tryz.func18, Tryz.ntmps18
      go_wp2_with fail
      go_ret3
      exact HBAD.out 14 _ HE.out (by decide) (Below.refl _ _)
  have hd0 : ¬ date < 0 := fun q => hd (.inl q)
  have hd1 : ¬ 99999 < date := fun q => hd (.inr q)
  have HDC := Lib.hid (rbdec_any s W hw hs)
  unfold BdcPost at HDC
  have HE2 := Lib.hid (fun h2 => accE_2 (st := st) (s := s) hd h2)
  have HE3 := Lib.hid (fun h2 h3 => accE_3 (st := st) (s := s) hd h2 h3)
  have HE4 := Lib.hid (fun h2 h3 h4 => accE_4 (st := st) (s := s) hd h2 h3 h4)
  have HE5 := Lib.hid (fun h2 h3 h4 h5 => accE_5 (st := st) (s := s) hd h2 h3 h4 h5)
  have HE6 := Lib.hid (fun h2 h3 h4 h5 h6 => accE_6 (st := st) (s := s) hd h2 h3 h4 h5 h6)
  have HE0 := Lib.hid (fun h2 h3 h4 h5 h6 => accE_0 (st := st) (s := s) hd h2 h3 h4 h5 h6)
  have HFO := Lib.hid (fun h => (file_ok (s := s) h).n)
  have HLA := Lib.hid (file_laced s)
  have HT : Hid (accT st s = trAll (fileV s).sd (fileV s).rs (fileB s) ⟨st.good, st.bad, [], []⟩) := Lib.hid rfl
  have HFI := Lib.hid (fun BK C A8 c8 vr A9 c9 Bd vg vo G3 b3 Y h hE => rac_fin (w0 := w0) (A := A) (cp := cp) (st := st) (G := G) (b := b) (W := W) (date := date) (s := s) (BK := BK) (C := C) (A8 := A8) (c8 := c8) (vr := vr) (A9 := A9) (c9 := c9) (Bd := Bd) (vg := vg) (vo := vo) (G3 := G3) (b3 := b3) (Y := Y) h hE)
  generalize accT st s = T at *
  generalize accE st date s = AE at *
  generalize fileE s = E at *
  obtain ⟨V, hV⟩ : ∃ V, fileV s = V := ⟨_, rfl⟩
  obtain ⟨Bd, hBd⟩ : ∃ Bd, fileB s = Bd := ⟨_, rfl⟩
  rw [hV, hBd] at HDC HFO HLA HT
  rw [hV] at HE3 HE4 HE5 HE6 HE0 HFI
  clear hV hBd
  obtain ⟨vi, vs, vd, vr⟩ := V
  dsimp only at HDC HE3 HE4 HE5 HE6 HE0 HLA HT HFI HFO
  unfold btC at HDC
  clear h
  go_enter Tryz.func18, Tryz.ntmps18
  go_wp2_with fail
  refine (HDC.out).mono ?_
  rintro e w1 ⟨v8, v9, rfl, o8, o9, hb⟩
  obtain ⟨A8, c8, rfl, -, l8⟩ := own_form o8
  obtain ⟨A9, c9, rfl, -, l9⟩ := own_form o9
  have HBX := Lib.hid (bx w1 (.cells #[.string vi, .string vs, .int .i64 vd, .slice A8 vr.length c8] 61))
  have HS : Hid (RaC w0 A cp st G b W w1.heap.size vi vs vd A8 c8 vr A9 c9 Bd (w1.alloc (.cells #[.string vi, .string vs, .int .i64 vd, .slice A8 vr.length c8] 61))) := Lib.hid
    ⟨HI.out.below (hb.trans (HBX.out.mono hb.size)), heap_alloc_new _ _, own_later o8 HBX.out, own_later o9 HBX.out, hb.trans (HBX.out.mono hb.size)⟩
  have HWL := Lib.hid hb.size
  clear hb o8 o9 HDC l8 l9 HBX
  by_cases hE : E = 0
  case neg =>
    have heb : (E != 0) = true := by simpa using hE
    have HEE := Lib.hid (HE2.out hE)
    have HEN := Lib.hid hE
    clear hE
    go_wp2_with fail
    go_ret3
    exact HBAD.out E _ HEE.out HEN.out HS.out.be
  case pos =>
  subst hE
  have HX3 := Lib.hid (fun h3 => HE3.out rfl h3)
  have HX4 := Lib.hid (fun h3 h4 => HE4.out rfl h3 h4)
  have HX5 := Lib.hid (fun h3 h4 h5 => HE5.out rfl h3 h4 h5)
  have HX6 := Lib.hid (fun h3 h4 h5 h6 => HE6.out rfl h3 h4 h5 h6)
  have HX0 := Lib.hid (fun h3 h4 h5 h6 => HE0.out rfl h3 h4 h5 h6)
  have HZN := Lib.hid (HFO.out rfl)
  clear HE2 HE3 HE4 HE5 HE6 HE0 HFO
  go_wp2_with fail
  obtain ⟨BK, hBK⟩ : ∃ BK, w1.heap.size = BK := ⟨_, rfl⟩
  rw [hBK] at HS HWL ⊢
  obtain ⟨W2, hW2⟩ : ∃ W2, w1.alloc (.cells #[.string vi, .string vs, .int .i64 vd, .slice A8 vr.length c8] 61) = W2 := ⟨_, rfl⟩
  rw [hW2] at HS ⊢
  clear hBK hW2
  have HIN : Hid (∀ n, Calls Tryz.prog 58 #[.slice A st.sds.length cp, .string vs] (W2.drewN n) fun e w' => e = .returned (.bool (decide (vs ∈ st.sds))) ∧ W2.drewN n = w') := Lib.hid (fun n =>
    rin58_any A cp st.sds vs (W2.drewN n) (HSR.out.below ((HS.out.i.drewN n).be)) (by unfold maxLen; omega))
  have c0 := HS.out.i.c0
  have hbx := HS.out.i.xlt
  have k1 := HS.out.k1
  by_cases hin : vs ∈ st.sds
  case neg =>
    rw [decide_eq_false hin] at HIN
    have HEE := Lib.hid (HX3.out hin)
    clear hin
    go_quiet ((go_at_call 58; with_reducible exact quiet_left (HIN.out _)))
    rename Nat => nq
    have HB2 := Lib.hid (HS.out.below (below_drewN W2 nq)).be
    go_wp2_with fail
    go_ret3
    exact HBAD.out 6 _ HEE.out (by decide) HB2.out
  case pos =>
  rw [decide_eq_true hin] at HIN
  have HY4 := Lib.hid (HX4.out hin)
  have HY5 := Lib.hid (HX5.out hin)
  have HY6 := Lib.hid (HX6.out hin)
  have HY0 := Lib.hid (HX0.out hin)
  clear hin HX3 HX4 HX5 HX6 HX0
  go_quiet ((go_at_call 58; with_reducible exact quiet_left (HIN.out _)))
  rename Nat => nq
  have HS3 := Lib.hid (HS.out.below (below_drewN W2 nq))
  clear HIN HS c0 hbx k1
  generalize W2.drewN nq = W3 at *
  have k2 := HS3.out.k2
  by_cases hdt : date < vd
  · have HEE := Lib.hid (HY4.out hdt)
    go_wp2_with fail
    go_ret3
    exact HBAD.out 14 _ HEE.out (by decide) HS3.out.be
  have HZ5 := Lib.hid (HY5.out (by omega))
  have HZ6 := Lib.hid (HY6.out (by omega))
  have HZ0 := Lib.hid (HY0.out (by omega))
  have hdd := decide_eq_false hdt
  clear HY4 HY5 HY6 HY0
  obtain ⟨FA, fc, hfv, -, hfc⟩ := own_form HS3.out.i.rl
  have HC1 : Hid (∀ X, RaC w0 A cp st G b W BK vi vs vd A8 c8 vr A9 c9 Bd X → X.cell? ⟨b.x, 1, none⟩ = some (.slice FA st.fs.length fc)) := Lib.hid (fun X hX => by
    have := hX.i.c1
    rw [hfv] at this
    exact this)
  have HFV := Lib.hid hfv
  clear hfv
  go_wp2_with fail
  clear k2 hfc
  go_loopw [12] (fun iv wr => ∃ k : Nat, k ≤ st.fs.length ∧ iv = .int .i64 k ∧ Hid (RaC w0 A cp st G b W BK vi vs vd A8 c8 vr A9 c9 Bd wr) ∧ Hid (∀ j, j < k → ¬ ((fAt st.fs j).1 = vs ∧ (fAt st.fs j).2 = vi))) (fun iv _ => st.fs.length - (intOf iv).toNat)
  case atStart => exact ⟨0, Nat.zero_le _, rfl, HS3, Lib.hid (fun j hj => absurd hj (Nat.not_lt_zero _))⟩
  case round =>
    clear HS3
    obtain ⟨k, hk, rfl, HW, HZ⟩ := hrel
    have c1 := HC1.out wr HW.out
    have hbx := HW.out.i.xlt
    by_cases hlt : k < st.fs.length
    · have kI : (k : Int) < (st.fs.length : Int) := by omega
      have kI0 : (0 : Int) ≤ (k : Int) := by omega
      have hol := HW.out.i.rl
      rw [HFV.out] at hol
      obtain ⟨bb, off, rfl, hcell⟩ := row_file (IsRow.of_own (c := fc) hol) k hlt
      obtain ⟨d0, d1⟩ := hcell k hlt
      have k0 := HW.out.k0
      have k1 := HW.out.k1
      have HYE := Lib.hid (fun h1 h2 => inf_yes (sd := vs) (id := vi) hlt h1 h2)
      have HST := Lib.hid (fun (h : ¬ ((fAt st.fs k).1 = vs ∧ (fAt st.fs k).2 = vi)) j (hj : j < k + 1) => show ¬ ((fAt st.fs j).1 = vs ∧ (fAt st.fs j).2 = vi) from by
        rcases Nat.lt_or_ge j k with c | c
        · exact HZ.out j c
        · obtain rfl : j = k := by omega
          exact h)
      clear hcell hol
      generalize fAt st.fs k = x at *
      obtain ⟨p, q⟩ := x
      dsimp only at d0 d1 HYE HST
      by_cases hp : p = vs
      · by_cases hq : q = vi
        · obtain ⟨t1, -⟩ := str_eq hp
          obtain ⟨t2, -⟩ := str_eq hq
          have HEE := Lib.hid (HZ5.out (HYE.out hp hq))
          clear hp hq HYE HST
          go_wp2_with fail
          go_quiet (fail)
          rename Nat => nq
          have HX := Lib.hid (HW.out.below (below_drewN wr nq)).be
          go_wp2_with fail
          go_ret3
          exact HBAD.out 15 _ HEE.out (by decide) HX.out
        · obtain ⟨t1, -⟩ := str_eq hp
          obtain ⟨t2, -⟩ := str_ne hq
          have HZ2 := Lib.hid (HST.out (fun h => hq h.2))
          clear hp hq HYE HST
          go_wp2_with fail
          go_quiet (fail)
          rename Nat => nq
          have HX := Lib.hid (HW.out.below (below_drewN wr nq))
          go_wp2_with fail
          go_roundw
          case rel => exact ⟨k + 1, by omega, by go_num, HX, HZ2⟩
          case measure => simp [intOf]; omega
      · obtain ⟨t1, -⟩ := str_ne hp
        have HZ2 := Lib.hid (HST.out (fun h => hp h.1))
        clear hp HYE HST
        go_wp2_with fail
        go_quiet (fail)
        rename Nat => nq
        have HX := Lib.hid (HW.out.below (below_drewN wr nq))
        go_wp2_with fail
        go_roundw
        case rel => exact ⟨k + 1, by omega, by go_num, HX, HZ2⟩
        case measure => simp [intOf]; omega
    obtain rfl : k = st.fs.length := by omega
    have kI : ¬ (st.fs.length : Int) < (st.fs.length : Int) := by omega
    have HIF := Lib.hid (inf_no HZ.out)
    by_cases hfull : 64 ≤ st.fs.length
    · have hI : (64 : Int) ≤ (st.fs.length : Int) := by omega
      have HEE := Lib.hid (HZ6.out HIF.out hfull)
      go_wp2_with fail
      go_ret3
      exact HBAD.out 12 _ HEE.out (by decide) HW.out.be
    have hI : ¬ (64 : Int) ≤ (st.fs.length : Int) := by omega
    have HEE := Lib.hid (HZ0.out HIF.out hfull)
    have k0 := HW.out.k0
    have k1 := HW.out.k1
    have hbk : BK < wr.heap.size := (Array.getElem?_eq_some_iff.1 HW.out.k).1
    have c1a := fun X => (World.cell?_alloc_lt wr X ⟨b.x, 1, none⟩ hbx).trans c1
    have k0a := fun X => (World.cell?_alloc_lt wr X ⟨BK, 0, none⟩ hbk).trans k0
    have k1a := fun X => (World.cell?_alloc_lt wr X ⟨BK, 1, none⟩ hbk).trans k1
    obtain ⟨i107, HJ⟩ := info_parts mk107
    have HJ := Lib.hid HJ
    have HSA := Lib.hid ((HW.out.below (bx wr (.cells #[.string vs, .string vi] 107))).below ((Below.refl _ _).drew))
    have HOF := Lib.hid HSA.out.i.rl
    rw [HFV.out] at HOF
    have HRD : Hid (Reads ((wr.alloc (.cells #[.string vs, .string vi] 107)).drew) (wr.heap.size + 1) 2 (some ⟨wr.heap.size, 0, none⟩) 1 [.string vs, .string vi]) := Lib.hid
      ⟨rfl, fun _ => ⟨⟨wr.heap.size, 0, none⟩, rfl, Nat.lt_succ_self _, World.news_of_block (cs := #[.string vs, .string vi]) (t := 107) (fr := (0, 0)) (heap_alloc_new wr _)⟩⟩
    have HON2 : Hid ([Value.string vs, .string vi].all (·.oneCell') = true) := Lib.hid (by simp [Value.oneCell'])
    have HB0 := Lib.hid HSA.out.i.be.size
    have HCX := Lib.hid HSA.out.i.x
    go_upto_region 19 with fail
    go_cut [] from 87 to 100 (fun wx => ∃ (G2 : Nat → Prop) (b2 : RiB), Hid (RtW w0 A cp ⟨st.sds, st.fs ++ [(vs, vi)], st.good, st.bad⟩ G b.x W BK #[.string vi, .string vs, .int .i64 vd, .slice A8 vr.length c8] A8 c8 vr A9 c9 Bd [] [] (.slice none 0 0) (.slice none 0 0) G2 b2 wx))
    case first =>
      go_wp2_with fail
      go_region_law
        (refine step_append_any _ rfl (.tmp 91) (.tmp 97) 97 rfl w0.heap.size 107 i107 _ 2 32 Tryz.underlying97 HJ.out.1 HJ.out.2.1 HJ.out.2.2.1 HJ.out.2.2.2 rfl (by omega) (.slice FA st.fs.length fc) st.fs.length _ rfl HOF.out _ (some ⟨wr.heap.size, 0, none⟩) 1 1 [.string vs, .string vi] rfl HRD.out (by intro u hu; have := List.all_eq_true.1 HON2.out u hu; simpa using this) (by unfold maxLen; omega) (by omega) HB0.out ?_
         intro u w8 hown hgrow hwh
         obtain ⟨uA, uc, rfl, -, -⟩ := own_form hown
         have HG := Lib.hid hgrow
         have HWH := Lib.hid hwh
         obtain ⟨q1, q2⟩ := HSA.out.i.setL (W1 := w8) (vs, vi) (.slice uA (st.fs.length + 1) uc) hown (by rw [HFV.out]; exact HG.out)
         have HRT : Hid (RtW w0 A cp ⟨st.sds, st.fs ++ [(vs, vi)], st.good, st.bad⟩ G b.x W BK #[.string vi, .string vs, .int .i64 vd, .slice A8 vr.length c8] A8 c8 vr A9 c9 Bd [] [] (.slice none 0 0) (.slice none 0 0) (fun k => G k ∨ (Value.slice uA (st.fs.length + 1) uc).ownBlock = some k) ⟨b.x, .slice uA (st.fs.length + 1) uc, b.gv, b.bv⟩ (w8.setCell ⟨b.x, 1, none⟩ (.slice uA (st.fs.length + 1) uc))) := Lib.hid (RtW.start HSA.out hwW HGW.out HWL.out q1 rfl (fun k q => by
           rcases q with q | q
           · exact .inl q
           · rcases HWH.out with q3 | q3
             · exact .inl (HSA.out.i.fl k (by rw [HFV.out, ← q3]; exact q))
             · rw [q] at q3
               injection q3 with q3
               exact .inr (by rw [q3]; exact Nat.le_refl _)) (fun k q => .inl q) q2)
         have c18 : w8.cell? ⟨b.x, 1, none⟩ = some (.slice FA st.fs.length fc) := by
           have h8 := cell_c (grown_lt (B := 0) hgrow HCX.out (fun e => own_nx HOF.out HCX.out (by decide) e.symm)) 1
           rw [show (b.cells A st.sds.length cp)[1]? = some b.lv from rfl, HFV.out] at h8
           exact h8
         have f18 : w8.frozen? ⟨b.x, 1, none⟩ = false := cell_f (grown_lt (B := 0) hgrow HCX.out (fun e => own_nx HOF.out HCX.out (by decide) e.symm)) 1
         clear hown hgrow hwh q1 q2)
      all_goals
        go_wp2_with fail
        go_meet
        exact ⟨_, _, HRT⟩
    case rest =>
      obtain ⟨G2, b2, HR2⟩ := hcut
      obtain ⟨i65, HJ65⟩ := info_parts mk65
      have HJ65 := Lib.hid HJ65
      obtain ⟨i57, HJ57⟩ := info_parts mkrec
      have HJ57 := Lib.hid HJ57
      have HT0 : Hid (trK vs vr Bd ⟨st.good, st.bad, [], []⟩ 0 = ⟨⟨st.good, st.bad, [], []⟩, 0, 0⟩) := Lib.hid rfl
      have HTS := Lib.hid (fun i => trK_succ vs vr Bd ⟨st.good, st.bad, [], []⟩ i)
      have HTA := Lib.hid (fun i hi => trK_at vs vr Bd ⟨st.good, st.bad, [], []⟩ HLA.out i hi)
      have HTG := Lib.hid (fun i hi q => trK_good vs vr Bd ⟨st.good, st.bad, [], []⟩ HLA.out i hi q)
      have HTB := Lib.hid (fun i => trS_bd vs vr Bd ⟨st.good, st.bad, [], []⟩ i)
      have HTE : Hid (T = (trK vs vr Bd ⟨st.good, st.bad, [], []⟩ (vr.length + Bd.length)).t) := Lib.hid HT.out
      generalize trK vs vr Bd ⟨st.good, st.bad, [], []⟩ = tk at *
      have HR3 : Hid (RtW w0 A cp ⟨st.sds, st.fs ++ [(vs, vi)], (tk 0).t.good, (tk 0).t.bad⟩ G b.x W BK #[.string vi, .string vs, .int .i64 vd, .slice A8 vr.length c8] A8 c8 vr A9 c9 Bd (tk 0).t.acc (tk 0).t.out (.slice none 0 0) (.slice none 0 0) G2 b2 wc) := Lib.hid (by rw [HT0.out]; exact HR2.out)
      have HK0 : Hid ((tk 0).k = 0 ∧ (tk 0).r = 0) := Lib.hid (by rw [HT0.out]; exact ⟨rfl, rfl⟩)
      clear HBAD HR2 HC1 HZ HIF HZ5 HZ6 HZ0 HLA HT HT0 c1 hbx
      go_wp2_with fail
      go_loopw [13, 14, 15, 16, 17, 18] (fun vg vo kv rv iv v18 wr => ∃ (i : Nat) (G3 : Nat → Prop) (b3 : RiB), i ≤ vr.length + Bd.length ∧ iv = .int .i64 i ∧ kv = .int .i64 (tk i).k ∧ rv = .int .i64 (tk i).r ∧ Hid (RtW w0 A cp ⟨st.sds, st.fs ++ [(vs, vi)], (tk i).t.good, (tk i).t.bad⟩ G b.x W BK #[.string vi, .string vs, .int .i64 vd, .slice A8 vr.length c8] A8 c8 vr A9 c9 Bd (tk i).t.acc (tk i).t.out vg vo G3 b3 wr)) (fun _ _ _ _ iv _ _ => vr.length + Bd.length - (intOf iv).toNat)
      case atStart => exact ⟨0, G2, b2, Nat.zero_le _, rfl, by rw [HK0.out.1]; rfl, by rw [HK0.out.2]; rfl, HR3⟩
      case round =>
        clear HR3 HK0
        obtain ⟨i, G3, b3, hi, rfl, rfl, rfl, HW⟩ := hrel
        have k3 := HW.out.k3
        have hn200 : vr.length + Bd.length ≤ 200 := HZN.out
        by_cases hlt : i < vr.length + Bd.length
        case neg =>
          obtain rfl : i = vr.length + Bd.length := by omega
          have iI : ¬ ((vr.length + Bd.length : Nat) : Int) < (vr.length : Int) + (Bd.length : Int) := by omega
          have HEN := Lib.hid (HW.out)
          rw [← HTE.out] at HEN
          have HRT := Lib.hid (HFI.out _ _ _ _ _ _ _ _ _ _ _ _ _ HEN.out HEE.out)
          clear HEN HFI
          go_wp2_with fail
          go_ret3
          exact HRT.out
        case pos =>
        have iI : (i : Int) < (vr.length : Int) + (Bd.length : Int) := by omega
        have HSC := Lib.hid (HTS.out i)
        obtain ⟨ha1, ha2, ha3, -⟩ := HTA.out i (by omega)
        have HGD := Lib.hid (HTG.out i hlt)
        obtain ⟨hb1, hb2, hb3, hb4⟩ := HTB.out i
        try dsimp only at hb1 hb2 hb3 hb4
        generalize tk i = S at *
        obtain ⟨⟨tg, tb, ta, tu⟩, k, r⟩ := S
        dsimp only at HSC ha1 ha2 ha3 HGD hb1 hb2 hb3 hb4 HW
        simp only [List.length_nil, Nat.zero_add] at hb3 hb4
        by_cases q : r < Bd.length ∧ (rejAt Bd r).1 = i
        case pos =>
          have HNX : Hid (tk (i + 1) = ⟨⟨tg, keepB tg vs (rejAt Bd r) tb, ta, tu ++ [rejAt Bd r]⟩, k, r + 1⟩) := Lib.hid (by
            rw [HSC.out]; unfold trStep; rw [if_pos q]; rfl)
          obtain ⟨q1, q2⟩ := q
          obtain ⟨b9, off9, rfl, hcell9⟩ := row_rej (IsRow.of_own (c := c9) HW.out.o9) r q1
          obtain ⟨d0, d1, d2⟩ := hcell9 r q1
          have rI : (r : Int) < (Bd.length : Int) := by omega
          have r0 : (0 : Int) ≤ (r : Int) := by omega
          have teq : (((rejAt Bd r).1 : Int) == (i : Int)) = true := by simp; omega
          have HRJ : Hid (∀ X, RtW w0 A cp ⟨st.sds, st.fs ++ [(vs, vi)], tg, tb⟩ G b.x W BK #[.string vi, .string vs, .int .i64 vd, .slice A8 vr.length c8] A8 c8 vr (some ⟨b9, off9, none⟩) c9 Bd ta tu u13 u14 G3 b3 X → Calls Tryz.prog 62 #[.pointer (some ⟨b.x, 0, none⟩), .string vs, .agg #[.int .i64 (rejAt Bd r).1, .string (rejAt Bd r).2.1, .int .i64 (rejAt Bd r).2.2]] X (RmPost w0 A cp ⟨st.sds, st.fs ++ [(vs, vi)], tg, keepB tg vs (rejAt Bd r) tb⟩ G3 b3 X)) := Lib.hid (fun X hX => by
            have h1 := reject_any' hX.i (by show tb.length ≤ 1000000; omega) (by show tg.length ≤ 1000000; omega) vs (rejAt Bd r)
            rw [hX.hx] at h1
            exact h1)
          have HCL : Hid (∀ st2 G4 b4 X, RtW w0 A cp st2 G b.x W BK #[.string vi, .string vs, .int .i64 vd, .slice A8 vr.length c8] A8 c8 vr (some ⟨b9, off9, none⟩) c9 Bd ta tu u13 u14 G4 b4 X → X.cell? ⟨BK, 1, none⟩ = some (.string vs) ∧ X.cell? ⟨b9, off9 + r * 3, none⟩ = some (.int .i64 (rejAt Bd r).1) ∧ X.cell? ⟨b9, off9 + r * 3 + 1, none⟩ = some (.string (rejAt Bd r).2.1) ∧ X.cell? ⟨b9, off9 + r * 3 + 2, none⟩ = some (.int .i64 (rejAt Bd r).2.2)) := Lib.hid (fun st2 G4 b4 X hX => by
            obtain ⟨b9', off9', e9, hc⟩ := row_rej (IsRow.of_own (c := c9) hX.o9) r q1
            injection e9 with e9
            injection e9 with e1 e2
            subst e1 e2
            exact ⟨hX.k1, hc r q1⟩)
          unfold RmPost at HRJ
          have HWX := Lib.hid (HW.out.below (Below.drew (Below.refl wr.heap.size wr)))
          clear hcell9 HGD HSC q2
          generalize rejAt Bd r = x at *
          obtain ⟨x1, x2, x3⟩ := x
          dsimp only at d0 d1 d2 teq HRJ HCL HNX
          go_wp2_with fail
          go_region_held3 (fun X => X.cell? ⟨BK, 1, none⟩ = some (.string vs) ∧ X.cell? ⟨b9, off9 + r * 3, none⟩ = some (.int .i64 x1) ∧ X.cell? ⟨b9, off9 + r * 3 + 1, none⟩ = some (.string x2) ∧ X.cell? ⟨b9, off9 + r * 3 + 2, none⟩ = some (.int .i64 x3))
            (exact HCL.out _ _ _ _ HWX.out)
            ((go_at_call 62; refine (HRJ.out _ HWX.out).mono ?_; rintro e w4 ⟨rfl, G4, b4, q1, q2, q3, q4, q5⟩; have HWX := Lib.hid (HWX.out.mut q1 q2 q3 q4 q5); clear q1 q2 q3 q4 q5))
          obtain ⟨-, e0, e1, e2⟩ := HCL.out _ _ _ _ HWX.out
          have HO := Lib.hid (HWX.out.below (bx w4 (.cells #[.int .i64 x1, .string x2, .int .i64 x3] 65)))
          have HB0 := Lib.hid (HO.out.k.size)
          clear d0 d1 d2 HW
          go_wp2_with (at_builtin; refine wpList_append_any _ rfl (.tmp 132) (.tmp 137) _ rfl W.heap.size 65 i65 _ 3 32 Tryz.underlying35 HJ65.out.1 HJ65.out.2.1 HJ65.out.2.2.1 HJ65.out.2.2.2 rfl (by omega) _ tu.length _ rfl HO.out.oo _ (some ⟨w4.heap.size, 0, none⟩) 1 1 [.int .i64 x1, .string x2, .int .i64 x3] rfl (reads_cells w4 _ _ 3 rfl) (by simp [Value.oneCell']) (by unfold maxLen; omega) (by omega) HB0.out ?_; intro u w8 hown hgrow hwh; have HA := Lib.hid (HO.out.outd (x1, x2, x3) hown hgrow hwh); clear hown hgrow hwh)
          have HW2 : Hid (RtW w0 A cp ⟨st.sds, st.fs ++ [(vs, vi)], (tk (i + 1)).t.good, (tk (i + 1)).t.bad⟩ G b.x W BK #[.string vi, .string vs, .int .i64 vd, .slice A8 vr.length c8] A8 c8 vr (some ⟨b9, off9, none⟩) c9 Bd (tk (i + 1)).t.acc (tk (i + 1)).t.out u13 u _ _ w8) := Lib.hid (by rw [HNX.out]; exact HA.out)
          exact ⟨⟨i + 1, _, _, by omega, by go_num, by rw [HNX.out], by rw [HNX.out]; go_num, HW2⟩, by simp [intOf]; omega⟩
        case neg =>
          have hkl := HGD.out q
          have HNX : Hid (tk (i + 1) = ⟨trGood vs i (rcAt vr k) ⟨tg, tb, ta, tu⟩, k + 1, r⟩) := Lib.hid (by
            rw [HSC.out]; unfold trStep; rw [if_neg q])
          obtain ⟨b8, off8, rfl, hcell8⟩ := row_rc (IsRow.of_own (c := c8) HW.out.o8) k hkl
          have HRC := Lib.hid (hcell8 k hkl)
          have kI : (k : Int) < (vr.length : Int) := by omega
          have kI0 : (0 : Int) ≤ (k : Int) := by omega
          clear hcell8 HSC HGD
          generalize rcAt vr k = rc at *
          obtain ⟨K, id, au, aq, is, me, ca, a, cu, dd, cg, ff⟩ := rc
          have c0 := HRC.out.c0
          have c1 := HRC.out.c1
          have c2 := HRC.out.c2
          have c3 := HRC.out.c3
          have c4 := HRC.out.c4
          have c5 := HRC.out.c5
          have c6 := HRC.out.c6
          have c7 := HRC.out.c7
          have c8' := HRC.out.c8
          have c9' := HRC.out.c9
          have c10 := HRC.out.c10
          have c11 := HRC.out.c11
          dsimp only at c0 c1 c2 c3 c4 c5 c6 c7 c8' c9' c10 c11
          by_cases rI : r < Bd.length
          case pos =>
            have hne : ¬ (rejAt Bd r).1 = i := fun e => q ⟨rI, e⟩
            obtain ⟨b9, off9, rfl, hcell9⟩ := row_rej (IsRow.of_own (c := c9) HW.out.o9) r rI
            obtain ⟨d0, -, -⟩ := hcell9 r rI
            have rI1 : (r : Int) < (Bd.length : Int) := by omega
            have r0 : (0 : Int) ≤ (r : Int) := by omega
            have teq : (((rejAt Bd r).1 : Int) == (i : Int)) = false := by simp; omega
            clear q rI hcell9 hne
            generalize rejAt Bd r = x at *
            obtain ⟨x1, x2, x3⟩ := x
            dsimp only at d0 teq
            have HWB := Lib.hid (HW.out.below (bx wr (.cells #[.int .i64 K, .string id, .string au, .string aq, .string is, .string me, .string ca, .int .i64 a, .string cu, .int .i64 dd, .int .i64 cg, .bool ff] 57)))
            have HRB := Lib.hid (heap_alloc_new wr (.cells #[.int .i64 K, .string id, .string au, .string aq, .string is, .string me, .string ca, .int .i64 a, .string cu, .int .i64 dd, .int .i64 cg, .bool ff] 57))
            have a1 : (wr.alloc (.cells #[.int .i64 K, .string id, .string au, .string aq, .string is, .string me, .string ca, .int .i64 a, .string cu, .int .i64 dd, .int .i64 cg, .bool ff] 57)).cell? ⟨wr.heap.size, 1, none⟩ = some (.string id) := cell_c HRB.out 1
            have k1b := HWB.out.k1
            have HSN := Lib.hid (rseen_any HWB.out.i (by show tg.length ≤ 1000000; omega) vs id)
            rw [HWB.out.hx] at HSN
            cases hs : seenB tg vs id with
            | true =>
              have HNX2 : Hid (tk (i + 1) = ⟨⟨tg, tb, ta, tu ++ [(i, id, 15)]⟩, k + 1, r⟩) := Lib.hid (by
                rw [HNX.out]; unfold trGood; rw [if_pos hs])
              rw [hs] at HSN
              clear hs HNX
              go_wp2_with fail
              refine (HSN.out).mono ?_
              rintro e w5 ⟨rfl, rfl⟩
              obtain ⟨blk, hblk⟩ : ∃ blk, wr.heap.size = blk := ⟨_, rfl⟩
              rw [hblk] at HRB a1 ⊢
              obtain ⟨wb, hwb⟩ : ∃ wb, wr.alloc (.cells #[.int .i64 K, .string id, .string au, .string aq, .string is, .string me, .string ca, .int .i64 a, .string cu, .int .i64 dd, .int .i64 cg, .bool ff] 57) = wb := ⟨_, rfl⟩
              rw [hwb] at HWB HRB a1 k1b ⊢
              clear hblk hwb c0 c1 c2 c3 c4 c5 c6 c7 c8' c9' c10 c11 HSN HRC HW
              have HO := Lib.hid (HWB.out.below (bx wb (.cells #[.int .i64 i, .string id, .int .i64 15] 65)))
              have HB0 := Lib.hid (HO.out.k.size)
              go_wp2_with (at_builtin; refine wpList_append_any _ rfl (.tmp 154) (.tmp 159) _ rfl W.heap.size 65 i65 _ 3 32 Tryz.underlying35 HJ65.out.1 HJ65.out.2.1 HJ65.out.2.2.1 HJ65.out.2.2.2 rfl (by omega) _ tu.length _ rfl HO.out.oo _ (some ⟨wb.heap.size, 0, none⟩) 1 1 [.int .i64 i, .string id, .int .i64 15] rfl (reads_cells wb _ _ 3 rfl) (by simp [Value.oneCell']) (by unfold maxLen; omega) (by omega) HB0.out ?_; intro u w8 hown hgrow hwh; have HA := Lib.hid (HO.out.outd (i, id, 15) hown hgrow hwh); clear hown hgrow hwh)
              have HW2 : Hid (RtW w0 A cp ⟨st.sds, st.fs ++ [(vs, vi)], (tk (i + 1)).t.good, (tk (i + 1)).t.bad⟩ G b.x W BK #[.string vi, .string vs, .int .i64 vd, .slice (some ⟨b8, off8, none⟩) vr.length c8] (some ⟨b8, off8, none⟩) c8 vr (some ⟨b9, off9, none⟩) c9 Bd (tk (i + 1)).t.acc (tk (i + 1)).t.out u13 u G3 b3 w8) := Lib.hid (by rw [HNX2.out]; exact HA.out)
              exact ⟨⟨i + 1, G3, b3, by omega, by go_num, by rw [HNX2.out]; go_num, by rw [HNX2.out], HW2⟩, by simp [intOf]; omega⟩
            | false =>
              have HNX2 : Hid (tk (i + 1) = ⟨⟨tg ++ [(vs, ⟨K, id, au, aq, is, me, ca, a, cu, dd, cg, ff⟩)], delB vs id tb, ta ++ [⟨K, id, au, aq, is, me, ca, a, cu, dd, cg, ff⟩], tu⟩, k + 1, r⟩) := Lib.hid (by
                rw [HNX.out]; unfold trGood; rw [if_neg (by rw [hs]; decide)])
              rw [hs] at HSN
              have HAC := Lib.hid (accept63_any HWB.out.i (by show tb.length ≤ 1000000; omega) (by show tg.length ≤ 1000000; omega) HWB.out.i.be.size vs ⟨K, id, au, aq, is, me, ca, a, cu, dd, cg, ff⟩)
              rw [HWB.out.hx] at HAC
              unfold RmPost Rec.cells at HAC
              dsimp only at HAC
              have HNG : Hid (¬ G3 wr.heap.size) := Lib.hid (fun hg => by have := (HW.out.i.fp _ hg).2; omega)
              clear hs HNX
              go_wp2_with fail
              refine (HSN.out).mono ?_
              rintro e w5 ⟨rfl, rfl⟩
              obtain ⟨blk, hblk⟩ : ∃ blk, wr.heap.size = blk := ⟨_, rfl⟩
              rw [hblk] at HRB HNG a1 ⊢
              obtain ⟨wb, hwb⟩ : ∃ wb, wr.alloc (.cells #[.int .i64 K, .string id, .string au, .string aq, .string is, .string me, .string ca, .int .i64 a, .string cu, .int .i64 dd, .int .i64 cg, .bool ff] 57) = wb := ⟨_, rfl⟩
              rw [hwb] at HWB HRB a1 k1b HAC ⊢
              clear hblk hwb c0 c1 c2 c3 c4 c5 c6 c7 c8' c9' c10 c11 HSN HRC HW a1
              have y0 : wb.cell? ⟨blk, 0, none⟩ = some (.int .i64 K) := cell_c HRB.out 0
              have y1 : wb.cell? ⟨blk, 1, none⟩ = some (.string id) := cell_c HRB.out 1
              have y2 : wb.cell? ⟨blk, 2, none⟩ = some (.string au) := cell_c HRB.out 2
              have y3 : wb.cell? ⟨blk, 3, none⟩ = some (.string aq) := cell_c HRB.out 3
              have y4 : wb.cell? ⟨blk, 4, none⟩ = some (.string is) := cell_c HRB.out 4
              have y5 : wb.cell? ⟨blk, 5, none⟩ = some (.string me) := cell_c HRB.out 5
              have y6 : wb.cell? ⟨blk, 6, none⟩ = some (.string ca) := cell_c HRB.out 6
              have y7 : wb.cell? ⟨blk, 7, none⟩ = some (.int .i64 a) := cell_c HRB.out 7
              have y8 : wb.cell? ⟨blk, 8, none⟩ = some (.string cu) := cell_c HRB.out 8
              have y9 : wb.cell? ⟨blk, 9, none⟩ = some (.int .i64 dd) := cell_c HRB.out 9
              have y10 : wb.cell? ⟨blk, 10, none⟩ = some (.int .i64 cg) := cell_c HRB.out 10
              have y11 : wb.cell? ⟨blk, 11, none⟩ = some (.bool ff) := cell_c HRB.out 11
              go_wp2_with fail
              refine (HAC.out).mono ?_
              rintro e w5 ⟨rfl, G4, b4, q1, q2, q3, q4, q5⟩
              have HYB := Lib.hid (q5.heap HRB.out HNG.out)
              have HWX := Lib.hid (HWB.out.mut q1 q2 q3 q4 q5)
              clear q1 q2 q3 q4 q5 y0 y1 y2 y3 y4 y5 y6 y7 y8 y9 y10 y11 HAC HWB HRB
              have y0 : w5.cell? ⟨blk, 0, none⟩ = some (.int .i64 K) := cell_c HYB.out 0
              have y1 : w5.cell? ⟨blk, 1, none⟩ = some (.string id) := cell_c HYB.out 1
              have y2 : w5.cell? ⟨blk, 2, none⟩ = some (.string au) := cell_c HYB.out 2
              have y3 : w5.cell? ⟨blk, 3, none⟩ = some (.string aq) := cell_c HYB.out 3
              have y4 : w5.cell? ⟨blk, 4, none⟩ = some (.string is) := cell_c HYB.out 4
              have y5 : w5.cell? ⟨blk, 5, none⟩ = some (.string me) := cell_c HYB.out 5
              have y6 : w5.cell? ⟨blk, 6, none⟩ = some (.string ca) := cell_c HYB.out 6
              have y7 : w5.cell? ⟨blk, 7, none⟩ = some (.int .i64 a) := cell_c HYB.out 7
              have y8 : w5.cell? ⟨blk, 8, none⟩ = some (.string cu) := cell_c HYB.out 8
              have y9 : w5.cell? ⟨blk, 9, none⟩ = some (.int .i64 dd) := cell_c HYB.out 9
              have y10 : w5.cell? ⟨blk, 10, none⟩ = some (.int .i64 cg) := cell_c HYB.out 10
              have y11 : w5.cell? ⟨blk, 11, none⟩ = some (.bool ff) := cell_c HYB.out 11
              have HO := Lib.hid (HWX.out.below (bx w5 (.cells #[.int .i64 K, .string id, .string au, .string aq, .string is, .string me, .string ca, .int .i64 a, .string cu, .int .i64 dd, .int .i64 cg, .bool ff] 57)))
              have HB0 := Lib.hid (HO.out.k.size)
              go_wp2_with (at_builtin; refine wpList_append_any _ rfl (.tmp 166) (.tmp 168) _ rfl W.heap.size 57 i57 _ 12 152 Tryz.underlying34 HJ57.out.1 HJ57.out.2.1 HJ57.out.2.2.1 HJ57.out.2.2.2 rfl (by omega) _ ta.length _ rfl HO.out.og _ (some ⟨w5.heap.size, 0, none⟩) 1 1 [.int .i64 K, .string id, .string au, .string aq, .string is, .string me, .string ca, .int .i64 a, .string cu, .int .i64 dd, .int .i64 cg, .bool ff] rfl (reads_cells w5 _ _ 12 rfl) (by simp [Value.oneCell']) (by unfold maxLen; omega) (by omega) HB0.out ?_; intro u w8 hown hgrow hwh; have HA := Lib.hid (HO.out.accd ⟨K, id, au, aq, is, me, ca, a, cu, dd, cg, ff⟩ hown hgrow hwh); clear hown hgrow hwh)
              have HW2 : Hid (RtW w0 A cp ⟨st.sds, st.fs ++ [(vs, vi)], (tk (i + 1)).t.good, (tk (i + 1)).t.bad⟩ G b.x W BK #[.string vi, .string vs, .int .i64 vd, .slice (some ⟨b8, off8, none⟩) vr.length c8] (some ⟨b8, off8, none⟩) c8 vr (some ⟨b9, off9, none⟩) c9 Bd (tk (i + 1)).t.acc (tk (i + 1)).t.out u u14 G4 b4 w8) := Lib.hid (by rw [HNX2.out]; exact HA.out)
              exact ⟨⟨i + 1, G4, b4, by omega, by go_num, by rw [HNX2.out]; go_num, by rw [HNX2.out], HW2⟩, by simp [intOf]; omega⟩
          case neg =>
            have rI1 : ¬ (r : Int) < (Bd.length : Int) := by omega
            clear q
            have HWB := Lib.hid (HW.out.below (bx wr (.cells #[.int .i64 K, .string id, .string au, .string aq, .string is, .string me, .string ca, .int .i64 a, .string cu, .int .i64 dd, .int .i64 cg, .bool ff] 57)))
            have HRB := Lib.hid (heap_alloc_new wr (.cells #[.int .i64 K, .string id, .string au, .string aq, .string is, .string me, .string ca, .int .i64 a, .string cu, .int .i64 dd, .int .i64 cg, .bool ff] 57))
            have a1 : (wr.alloc (.cells #[.int .i64 K, .string id, .string au, .string aq, .string is, .string me, .string ca, .int .i64 a, .string cu, .int .i64 dd, .int .i64 cg, .bool ff] 57)).cell? ⟨wr.heap.size, 1, none⟩ = some (.string id) := cell_c HRB.out 1
            have k1b := HWB.out.k1
            have HSN := Lib.hid (rseen_any HWB.out.i (by show tg.length ≤ 1000000; omega) vs id)
            rw [HWB.out.hx] at HSN
            cases hs : seenB tg vs id with
            | true =>
              have HNX2 : Hid (tk (i + 1) = ⟨⟨tg, tb, ta, tu ++ [(i, id, 15)]⟩, k + 1, r⟩) := Lib.hid (by
                rw [HNX.out]; unfold trGood; rw [if_pos hs])
              rw [hs] at HSN
              clear hs HNX
              go_wp2_with fail
              refine (HSN.out).mono ?_
              rintro e w5 ⟨rfl, rfl⟩
              obtain ⟨blk, hblk⟩ : ∃ blk, wr.heap.size = blk := ⟨_, rfl⟩
              rw [hblk] at HRB a1 ⊢
              obtain ⟨wb, hwb⟩ : ∃ wb, wr.alloc (.cells #[.int .i64 K, .string id, .string au, .string aq, .string is, .string me, .string ca, .int .i64 a, .string cu, .int .i64 dd, .int .i64 cg, .bool ff] 57) = wb := ⟨_, rfl⟩
              rw [hwb] at HWB HRB a1 k1b ⊢
              clear hblk hwb c0 c1 c2 c3 c4 c5 c6 c7 c8' c9' c10 c11 HSN HRC HW
              have HO := Lib.hid (HWB.out.below (bx wb (.cells #[.int .i64 i, .string id, .int .i64 15] 65)))
              have HB0 := Lib.hid (HO.out.k.size)
              go_wp2_with (at_builtin; refine wpList_append_any _ rfl (.tmp 154) (.tmp 159) _ rfl W.heap.size 65 i65 _ 3 32 Tryz.underlying35 HJ65.out.1 HJ65.out.2.1 HJ65.out.2.2.1 HJ65.out.2.2.2 rfl (by omega) _ tu.length _ rfl HO.out.oo _ (some ⟨wb.heap.size, 0, none⟩) 1 1 [.int .i64 i, .string id, .int .i64 15] rfl (reads_cells wb _ _ 3 rfl) (by simp [Value.oneCell']) (by unfold maxLen; omega) (by omega) HB0.out ?_; intro u w8 hown hgrow hwh; have HA := Lib.hid (HO.out.outd (i, id, 15) hown hgrow hwh); clear hown hgrow hwh)
              have HW2 : Hid (RtW w0 A cp ⟨st.sds, st.fs ++ [(vs, vi)], (tk (i + 1)).t.good, (tk (i + 1)).t.bad⟩ G b.x W BK #[.string vi, .string vs, .int .i64 vd, .slice (some ⟨b8, off8, none⟩) vr.length c8] (some ⟨b8, off8, none⟩) c8 vr A9 c9 Bd (tk (i + 1)).t.acc (tk (i + 1)).t.out u13 u G3 b3 w8) := Lib.hid (by rw [HNX2.out]; exact HA.out)
              exact ⟨⟨i + 1, G3, b3, by omega, by go_num, by rw [HNX2.out]; go_num, by rw [HNX2.out], HW2⟩, by simp [intOf]; omega⟩
            | false =>
              have HNX2 : Hid (tk (i + 1) = ⟨⟨tg ++ [(vs, ⟨K, id, au, aq, is, me, ca, a, cu, dd, cg, ff⟩)], delB vs id tb, ta ++ [⟨K, id, au, aq, is, me, ca, a, cu, dd, cg, ff⟩], tu⟩, k + 1, r⟩) := Lib.hid (by
                rw [HNX.out]; unfold trGood; rw [if_neg (by rw [hs]; decide)])
              rw [hs] at HSN
              have HAC := Lib.hid (accept63_any HWB.out.i (by show tb.length ≤ 1000000; omega) (by show tg.length ≤ 1000000; omega) HWB.out.i.be.size vs ⟨K, id, au, aq, is, me, ca, a, cu, dd, cg, ff⟩)
              rw [HWB.out.hx] at HAC
              unfold RmPost Rec.cells at HAC
              dsimp only at HAC
              have HNG : Hid (¬ G3 wr.heap.size) := Lib.hid (fun hg => by have := (HW.out.i.fp _ hg).2; omega)
              clear hs HNX
              go_wp2_with fail
              refine (HSN.out).mono ?_
              rintro e w5 ⟨rfl, rfl⟩
              obtain ⟨blk, hblk⟩ : ∃ blk, wr.heap.size = blk := ⟨_, rfl⟩
              rw [hblk] at HRB HNG a1 ⊢
              obtain ⟨wb, hwb⟩ : ∃ wb, wr.alloc (.cells #[.int .i64 K, .string id, .string au, .string aq, .string is, .string me, .string ca, .int .i64 a, .string cu, .int .i64 dd, .int .i64 cg, .bool ff] 57) = wb := ⟨_, rfl⟩
              rw [hwb] at HWB HRB a1 k1b HAC ⊢
              clear hblk hwb c0 c1 c2 c3 c4 c5 c6 c7 c8' c9' c10 c11 HSN HRC HW a1
              have y0 : wb.cell? ⟨blk, 0, none⟩ = some (.int .i64 K) := cell_c HRB.out 0
              have y1 : wb.cell? ⟨blk, 1, none⟩ = some (.string id) := cell_c HRB.out 1
              have y2 : wb.cell? ⟨blk, 2, none⟩ = some (.string au) := cell_c HRB.out 2
              have y3 : wb.cell? ⟨blk, 3, none⟩ = some (.string aq) := cell_c HRB.out 3
              have y4 : wb.cell? ⟨blk, 4, none⟩ = some (.string is) := cell_c HRB.out 4
              have y5 : wb.cell? ⟨blk, 5, none⟩ = some (.string me) := cell_c HRB.out 5
              have y6 : wb.cell? ⟨blk, 6, none⟩ = some (.string ca) := cell_c HRB.out 6
              have y7 : wb.cell? ⟨blk, 7, none⟩ = some (.int .i64 a) := cell_c HRB.out 7
              have y8 : wb.cell? ⟨blk, 8, none⟩ = some (.string cu) := cell_c HRB.out 8
              have y9 : wb.cell? ⟨blk, 9, none⟩ = some (.int .i64 dd) := cell_c HRB.out 9
              have y10 : wb.cell? ⟨blk, 10, none⟩ = some (.int .i64 cg) := cell_c HRB.out 10
              have y11 : wb.cell? ⟨blk, 11, none⟩ = some (.bool ff) := cell_c HRB.out 11
              go_wp2_with fail
              refine (HAC.out).mono ?_
              rintro e w5 ⟨rfl, G4, b4, q1, q2, q3, q4, q5⟩
              have HYB := Lib.hid (q5.heap HRB.out HNG.out)
              have HWX := Lib.hid (HWB.out.mut q1 q2 q3 q4 q5)
              clear q1 q2 q3 q4 q5 y0 y1 y2 y3 y4 y5 y6 y7 y8 y9 y10 y11 HAC HWB HRB
              have y0 : w5.cell? ⟨blk, 0, none⟩ = some (.int .i64 K) := cell_c HYB.out 0
              have y1 : w5.cell? ⟨blk, 1, none⟩ = some (.string id) := cell_c HYB.out 1
              have y2 : w5.cell? ⟨blk, 2, none⟩ = some (.string au) := cell_c HYB.out 2
              have y3 : w5.cell? ⟨blk, 3, none⟩ = some (.string aq) := cell_c HYB.out 3
              have y4 : w5.cell? ⟨blk, 4, none⟩ = some (.string is) := cell_c HYB.out 4
              have y5 : w5.cell? ⟨blk, 5, none⟩ = some (.string me) := cell_c HYB.out 5
              have y6 : w5.cell? ⟨blk, 6, none⟩ = some (.string ca) := cell_c HYB.out 6
              have y7 : w5.cell? ⟨blk, 7, none⟩ = some (.int .i64 a) := cell_c HYB.out 7
              have y8 : w5.cell? ⟨blk, 8, none⟩ = some (.string cu) := cell_c HYB.out 8
              have y9 : w5.cell? ⟨blk, 9, none⟩ = some (.int .i64 dd) := cell_c HYB.out 9
              have y10 : w5.cell? ⟨blk, 10, none⟩ = some (.int .i64 cg) := cell_c HYB.out 10
              have y11 : w5.cell? ⟨blk, 11, none⟩ = some (.bool ff) := cell_c HYB.out 11
              have HO := Lib.hid (HWX.out.below (bx w5 (.cells #[.int .i64 K, .string id, .string au, .string aq, .string is, .string me, .string ca, .int .i64 a, .string cu, .int .i64 dd, .int .i64 cg, .bool ff] 57)))
              have HB0 := Lib.hid (HO.out.k.size)
              go_wp2_with (at_builtin; refine wpList_append_any _ rfl (.tmp 166) (.tmp 168) _ rfl W.heap.size 57 i57 _ 12 152 Tryz.underlying34 HJ57.out.1 HJ57.out.2.1 HJ57.out.2.2.1 HJ57.out.2.2.2 rfl (by omega) _ ta.length _ rfl HO.out.og _ (some ⟨w5.heap.size, 0, none⟩) 1 1 [.int .i64 K, .string id, .string au, .string aq, .string is, .string me, .string ca, .int .i64 a, .string cu, .int .i64 dd, .int .i64 cg, .bool ff] rfl (reads_cells w5 _ _ 12 rfl) (by simp [Value.oneCell']) (by unfold maxLen; omega) (by omega) HB0.out ?_; intro u w8 hown hgrow hwh; have HA := Lib.hid (HO.out.accd ⟨K, id, au, aq, is, me, ca, a, cu, dd, cg, ff⟩ hown hgrow hwh); clear hown hgrow hwh)
              have HW2 : Hid (RtW w0 A cp ⟨st.sds, st.fs ++ [(vs, vi)], (tk (i + 1)).t.good, (tk (i + 1)).t.bad⟩ G b.x W BK #[.string vi, .string vs, .int .i64 vd, .slice (some ⟨b8, off8, none⟩) vr.length c8] (some ⟨b8, off8, none⟩) c8 vr A9 c9 Bd (tk (i + 1)).t.acc (tk (i + 1)).t.out u u14 G4 b4 w8) := Lib.hid (by rw [HNX2.out]; exact HA.out)
              exact ⟨⟨i + 1, G4, b4, by omega, by go_num, by rw [HNX2.out]; go_num, by rw [HNX2.out], HW2⟩, by simp [intOf]; omega⟩
end
end Go.Proofs.YthflmdgfenojcaaGreatDoor
