/- Part of the proof over this seat. -/
import Derived.Test.YthflmdgfenojcaaGreatDoorQOSs
import Derived.Test.YthflmdgfenojcaaGreatDoorQRdC
namespace Go.Proofs.YthflmdgfenojcaaGreatDoor
set_option linter.unusedVariables false
open Go.RowKit Go.Sort Go.Maps
set_option maxRecDepth 1000000 in
set_option maxHeartbeats 51200000 in
theorem once_any (A : Option Addr) (cp : Nat) (sds : List ByteArray) (B : Option Addr) (cq : Nat) (fl : List (Int × ByteArray)) (w : World) (hw : BW w) (hA : IsRow w A (sds.map Value.string)) (hsz : ∀ x ∈ sds, x.size ≤ maxLen) (hm : sds.length ≤ maxLen) (hB : IsRow w B (fl.flatMap fileT)) (hs2 : ∀ x ∈ fl, x.2.size ≤ maxLen) (hm2 : fl.length ≤ maxLen) :
    Calls Tryz.prog 4 #[.slice A sds.length cp, .slice B fl.length cq] w fun e w' => e = .returned (.bool true) ∧ Below w.heap.size w w' := by
  have HKW := Lib.hid hw
  have HN1 := Lib.hid (new_any (w0 := w) w (Below.refl _ _) A cp sds hA hsz hm)
  have HSH := Lib.hid (fun W h => shrt_any B cq fl 30 W h hs2 hm2 (by omega))
  have HAW := Lib.hid (fun W hW => awi_any W hW)
  have HA := Lib.hid hA
  have HB := Lib.hid hB
  have HSD : Hid (newE sds = 0 → sds.length ≤ 16) := Lib.hid (fun h => by
    unfold newE at h
    split at h
    · cases h
    · omega)
  have HSZ := Lib.hid hsz
  unfold NewPost at HN1
  unfold maxLen at hm hm2
  clear hw hA hB hsz hs2
  go_enter Tryz.func4, Tryz.ntmps4
  go_wp2_with fail
  refine (HN1.out).mono ?_
  rintro e w1 (⟨q, rfl, hb⟩ | ⟨q, rfl, hi, hb⟩)
  · have hq : (newE sds != 0) = true := by simpa using q
    have hq2 : (newE sds == 0) = false := by simpa using q
    have HB1 := Lib.hid hb
    have HAW1 := Lib.hid (HAW.out w1 (HKW.out.below hb))
    generalize newE sds = E at *
    clear q hb
    go_wp2_with fail
    refine HAW1.out.mono ?_
    rintro e w2 ⟨rfl, hb⟩
    have HB2 := Lib.hid (HB1.out.trans (hb.mono HB1.out.size))
    clear hb
    go_wp2_with fail
    go_ret
    exact ⟨rfl, HB2.out⟩
  have h16 := HSD.out q
  have HB1 := Lib.hid hb
  have HI1 := Lib.hid hi
  have HSH1 := Lib.hid (HSH.out w1 (HB.out.below hb))
  clear q hi hb HN1 HSH HSD
  obtain ⟨bx, hbx⟩ : ∃ bx, w.heap.size + 3 = bx := ⟨_, rfl⟩
  rw [hbx]
  have HBX := Lib.hid hbx
  clear hbx
  cases hsh : shrtB fl 30 with
  | false =>
    rw [hsh] at HSH1
    have HAW1 := Lib.hid (HAW.out w1 (HKW.out.below HB1.out))
    clear hsh
    go_wp2_with fail
    refine HSH1.out.mono ?_
    rintro e w2 ⟨rfl, rfl⟩
    go_wp2_with fail
    refine HAW1.out.mono ?_
    rintro e w2 ⟨rfl, hb⟩
    have HB2 := Lib.hid (HB1.out.trans (hb.mono HB1.out.size))
    clear hb
    go_wp2_with fail
    go_ret
    exact ⟨rfl, HB2.out⟩
  | true =>
  rw [hsh] at HSH1
  obtain ⟨hf30, hf5⟩ := shrtB_true hsh
  have HF5 := Lib.hid hf5
  have hmk := make_cnt sds.length (by omega) w1
  have HS0 : Hid (OnS w sds (inS0 sds) 0 bx (F4 w.heap.size) (b4 w.heap.size) (.slice none 0 0) [] w1.heap.size (cntM sds [] [] 0) (w1.alloc (.cells (madeCells #[.int .i64 0] (sds.length * 1)) 3))) := Lib.hid (by
    have h1 : OnS w sds (inS0 sds) 0 bx (F4 w.heap.size) (b4 w.heap.size) (.slice none 0 0) [] w1.heap.size (cntM sds [] [] 0) (w1.alloc (.cells (cntM sds [] [] 0) 3)) :=
      ⟨HI1.out.below (bxA w1 _), HBX.out, rfl, World.ownsRow_nil _ _ _ _, (fun g h => by cases h), heap_alloc_new _ _, (fun h => by have := (HI1.out.fp _ h).2; omega), HB1.out.size⟩
    rw [made_cnt]; exact h1)
  clear hsh hf5
  go_wp2_with fail
  refine HSH1.out.mono ?_
  rintro e w2 ⟨rfl, rfl⟩
  clear HSH1
  go_wp2_with fail
  have HC0 : Hid (OnC sds (inS0 sds) 0) := Lib.hid ⟨inOk0 sds, Nat.zero_le _, Nat.zero_le _, Nat.zero_le _, fun x h => by cases h⟩
  obtain ⟨B8, hB8⟩ : ∃ B8, w1.heap.size = B8 := ⟨_, rfl⟩
  rw [hB8] at HS0 ⊢
  rw [Nat.mul_one] at HS0
  clear hB8 hmk HI1
  go_loopw [7, 9, 16, 17, 18, 19, 23, 24] (fun v7 iv v16 v17 v18 v19 v23 v24 wr => ∃ (i : Nat) (st : InS) (F : Nat → Prop) (b : InB), i ≤ fl.length ∧ iv = .int .i64 i ∧ Hid (OnS w sds st (800 * i) bx F b v7 (prs st.good) B8 (cntM sds st.good st.good 0) wr ∧ OnC sds st i)) (fun _ iv _ _ _ _ _ _ _ => fl.length - (intOf iv).toNat)
  case atStart => exact ⟨0, inS0 sds, _, _, Nat.zero_le _, rfl, Lib.hid ⟨HS0.out, HC0.out⟩⟩
  case round =>
    clear HS0 HC0
    obtain ⟨i, st, F, b, hi, rfl, HW⟩ := hrel
    by_cases hlt : i < fl.length
    case neg =>
      obtain rfl : i = fl.length := by omega
      have iI : ¬ (fl.length : Int) < (fl.length : Int) := by omega
      have HO6 := Lib.hid HW.out.1
      have HOC := Lib.hid HW.out.2
      clear HW HF5
      go_wp2_with fail
      go_loopw [25, 26, 27] (fun v25 v26 v27 wr => ∃ k : Nat, k ≤ sds.length ∧ v25 = .int .i64 k ∧ Hid (OnS w sds st (800 * fl.length) bx F b u7 (prs st.good) B8 (cntM sds st.good st.good 0) wr)) (fun v25 _ _ _ => sds.length - (intOf v25).toNat)
      case atStart => exact ⟨0, Nat.zero_le _, rfl, HO6⟩
      case round =>
        clear HO6
        obtain ⟨k, hk, rfl, HW⟩ := hrel
        by_cases hlt6 : k < sds.length
        case pos =>
          as_aux_lemma =>
          obtain ⟨bA, offA, rfl, hcellA⟩ := row_str HA.out k hlt6
          have HCA : Hid (∀ W, Below w.heap.size w W → W.cell? ⟨bA, offA + k, none⟩ = some (.string (stA sds k))) := Lib.hid (fun W hb => cell_later hb (hcellA k hlt6))
          have d0 := HCA.out wr HW.out.i.be
          have kI : (k : Int) < (sds.length : Int) := by omega
          have k0 : (0 : Int) ≤ (k : Int) := by omega
          have hbA : bA < w.heap.size := World.block_lt_of_cell? w _ (hcellA k hlt6)
          have hcn := cntM_at sds st.good st.good 0 k hlt6
          rw [if_neg (Nat.not_lt_zero k)] at hcn
          have HYS : Hid (stA sds k ∈ sds) := Lib.hid (by rw [stA_get sds k hlt6]; exact List.getElem_mem hlt6)
          have HYZ : Hid ((stA sds k).size ≤ maxLen) := Lib.hid (HSZ.out _ HYS.out)
          have HCN : Hid (∀ W, OnS w sds st (800 * fl.length) bx F b u7 (prs st.good) B8 (cntM sds st.good st.good 0) W → W.cell? ⟨B8, k, none⟩ = some (.int .i64 ((recsOf st.good (stA sds k)).length : Int))) := Lib.hid (fun W h => by
            unfold World.cell?
            simp only [h.c8]
            exact hcn)
          clear hcellA hcn
          generalize stA sds k = y at *
          have HOP := Lib.hid (open_any HW.out.i y HYZ.out (by have := open_len st.bad y; have := HOC.out.ob; omega))
          rw [HW.out.hx] at HOP
          unfold RowPost at HOP
          go_wp2_with fail
          refine HOP.out.mono ?_
          rintro e w3 ⟨v, rfl, ho, hb⟩
          obtain ⟨D9, e9, rfl, -, -⟩ := own_form ho
          have HO3 := Lib.hid (HW.out.below hb)
          have HR3 := Lib.hid ho
          have HMW := Lib.hid HW.out.i.be.size
          have HJ : Hid (∀ j, j < (openOf st.bad y).length → (rejAt (openOf st.bad y) j).2.1 ≠ noS ∧ seenB st.good y (rejAt (openOf st.bad y) j).2.1 = false ∧ (rejAt (openOf st.bad y) j).2.1.size ≤ maxLen) := Lib.hid (fun j hj => by
            have hm := open_in (rejAt_mem hj)
            exact ⟨(HOC.out.ok.op _ hm).1, (HOC.out.ok.op _ hm).2, by have h5 : (rejAt (openOf st.bad y) j).2.1.size ≤ 1000000 := HOC.out.sb _ hm; unfold maxLen; omega⟩)
          have hol : (openOf st.bad y).length ≤ 1000000 := by have := open_len st.bad y; have := HOC.out.ob; omega
          clear ho hb HOP d0 HW
          generalize openOf st.bad y = OL at *
          generalize wr.heap.size = szw at *
          go_wp2_with fail
          go_loopw [27] (fun v27 wr => ∃ j : Nat, j ≤ OL.length ∧ v27 = .int .i64 j ∧ Hid (OnS w sds st (800 * fl.length) bx F b u7 (prs st.good) B8 (cntM sds st.good st.good 0) wr ∧ wr.ownsRow szw 65 3 (.slice D9 OL.length e9) OL.length (OL.flatMap rejF))) (fun v27 _ => OL.length - (intOf v27).toNat)
          case atStart => exact ⟨0, Nat.zero_le _, rfl, Lib.hid ⟨HO3.out, HR3.out⟩⟩
          case round =>
            clear HO3 HR3
            obtain ⟨j, hj, rfl, HW⟩ := hrel
            by_cases hlt7 : j < OL.length
            case pos =>
              obtain ⟨b9, off9, rfl, hcell9⟩ := row_rej (IsRow.of_own (c := e9) HW.out.2) j hlt7
              obtain ⟨c0, c1, c2⟩ := hcell9 j hlt7
              obtain ⟨q1, q2, q3⟩ := HJ.out j hlt7
              have d0 := HCA.out wr HW.out.1.i.be
              have jI : (j : Int) < (OL.length : Int) := by omega
              have j0 : (0 : Int) ≤ (j : Int) := by omega
              clear hcell9
              generalize rejAt OL j = r at *
              obtain ⟨x, id, z⟩ := r
              dsimp only at c0 c1 c2 q1 q2 q3
              have he := empty_list id
              have qe : emptyB id = false := by
                unfold emptyB
                refine decide_eq_false (fun e => q1 ?_)
                have : id.data.toList = [] := List.eq_nil_of_length_eq_zero e
                exact ByteArray.ext (Array.ext' (by rw [this]; rfl))
              rw [qe] at he
              have HSN : Hid (∀ n, Calls Tryz.prog 28 #[.pointer (some ⟨bx, 0, none⟩), .string y, .string id] (wr.drewN n) fun e w' => e = .returned (.bool false) ∧ wr.drewN n = w') := Lib.hid (fun n => by
                have h1 := seen_any (HW.out.1.i.drewN n) y id HYZ.out q3
                rw [HW.out.1.hx, q2] at h1
                exact h1)
              have HX0 := Lib.hid (fun nq => HW.out.1.below (below_drewN wr nq))
              have HX1 := Lib.hid (fun nq => own_later HW.out.2 (below_drewN wr nq))
              clear q1 q2 q3 qe
              go_wp2_with fail
              go_quiet ((go_at_call 28; with_reducible exact quiet_left (HSN.out _)))
              rename Nat => nq
              go_wp2_with fail
              go_roundw
              case rel => exact ⟨j + 1, by omega, by go_num, Lib.hid ⟨HX0.out nq, HX1.out nq⟩⟩
              case measure => simp [intOf]; omega
            case neg =>
              obtain rfl : j = OL.length := by omega
              have jI : ¬ (OL.length : Int) < (OL.length : Int) := by omega
              have HO7 := Lib.hid (HW.out.1.below (Below.drew (Below.refl wr.heap.size wr)))
              have HBW : Hid (Below wr.heap.size wr wr.drew) := Lib.hid (Below.drew (Below.refl wr.heap.size wr))
              have HTT := Lib.hid (tot_any HO7.out.i y HYZ.out)
              rw [HO7.out.hs, if_pos HYS.out, HO7.out.hx] at HTT
              have HCC : Hid (∀ X, Below wr.heap.size wr X → X.cell? ⟨bA, offA + k, none⟩ = some (.string y) ∧ X.cell? ⟨B8, k, none⟩ = some (.int .i64 ((recsOf st.good y).length : Int))) := Lib.hid (fun X hb => ⟨HCA.out X (HW.out.1.below hb).i.be, HCN.out X (HW.out.1.below hb)⟩)
              have HOB := Lib.hid (fun X (hb : Below wr.heap.size wr X) => HW.out.1.below hb)
              have hq : (((recsOf st.good y).length : Int) != ((recsOf st.good y).length : Int)) = false := by simp
              unfold totOf totV at HTT
              generalize (recsOf st.good y).length = Ln at *
              generalize debS (recsOf st.good y) Ln = t1 at *
              generalize creS (recsOf st.good y) Ln = t2 at *
              generalize C7.totB (cardsOf (recsOf st.good y)) = t3 at *
              have hfd := fun (X : World) => field46 (Ln : Int) t1 t2 (t3 : Int) X
              clear HW HO7
              go_wp2_with fail
              go_region_held3 (fun X => X.cell? ⟨bA, offA + k, none⟩ = some (.string y) ∧ X.cell? ⟨B8, k, none⟩ = some (.int .i64 (Ln : Int)))
                (exact HCC.out _ HBW.out)
                ((go_at_call 26; refine (HTT.out).mono ?_; rintro e w4 ⟨rfl, hb⟩; have HBW := Lib.hid (HBW.out.trans (hb.mono HBW.out.size)); clear hb))
              have HO8 := Lib.hid (HOB.out _ HBW.out)
              clear HOB HCC HTT
              go_wp2_with fail
              exact ⟨⟨k + 1, by omega, by go_num, HO8⟩, by simp [intOf]; omega⟩
        case neg =>
          obtain rfl : k = sds.length := by omega
          have kI : ¬ (sds.length : Int) < (sds.length : Int) := by omega
          have HB9 := Lib.hid HW.out.i.be
          have HAW1 := Lib.hid (HAW.out wr (HKW.out.below HB9.out))
          clear HW
          go_wp2_with fail
          refine HAW1.out.mono ?_
          rintro e w2 ⟨rfl, hb⟩
          have HB2 := Lib.hid (HB9.out.trans (hb.mono HB9.out.size))
          clear hb
          go_wp2_with fail
          go_ret
          exact ⟨rfl, HB2.out⟩
    case pos =>
    obtain ⟨b0, off, rfl, hcell⟩ := row_fl HB.out i hlt
    have iI : (i : Int) < (fl.length : Int) := by omega
    have i0 : (0 : Int) ≤ (i : Int) := by omega
    have HCW := Lib.hid (hcell i hlt)
    have HSZ5 : Hid ((flAt fl i).2.size ≤ 5000) := Lib.hid (HF5.out i hlt)
    have hsl : (flAt fl i).2.size ≤ 1000000 := by have := HSZ5.out; omega
    clear hcell
    generalize flAt fl i = x at *
    obtain ⟨d, s⟩ := x
    dsimp only at HCW HSZ5 hsl
    have HKS : Hid (∀ W, Below w.heap.size w W → W.cell? ⟨b0, off + i * 2, none⟩ = some (.int .i64 d) ∧ W.cell? ⟨b0, off + i * 2 + 1, none⟩ = some (.string s)) := Lib.hid (fun W h => ⟨cell_later h HCW.out.1, cell_later h HCW.out.2⟩)
    have HOd := Lib.hid (HW.out.1.below (Below.drew (Below.refl wr.heap.size wr)))
    have HOC := Lib.hid HW.out.2
    have HBW := Lib.hid HOd.out.i.be
    have hbw : b0 < wr.heap.size := by
      have h1 := World.block_lt_of_cell? w _ HCW.out.1
      have h2 := HOd.out.i.be.size
      exact Nat.lt_of_lt_of_le h1 h2
    have HC := Lib.hid (acc_on HOd.out.i HOd.out.hx HKW.out HOC.out.ob d s hsl (by omega) (by have := HOC.out.fs; omega) (by have := HOC.out.gl; omega))
    have HAL := Lib.hid (fun h => acc_law (st := st) HOC.out.ok (date := d) (s := s) h)
    have HNO := Lib.hid (fun h => accS_no (st := st) (date := d) (s := s) h)
    unfold AccOn at HC
    clear hsl HCW
    by_cases h0 : accE st d s = 0
    case neg =>
      as_aux_lemma =>
      obtain ⟨z1, z2, z3⟩ := HNO.out h0
      rw [z1, z2, z3] at HC
      have heb : (accE st d s != 0) = true := by simpa using h0
      have HOC1 := Lib.hid HOC.out.same
      clear h0 HAL HNO z1 z2 z3
      generalize accE st d s = E at *
      go_wp2_with fail
      go_region_held3 (fun X => X.cell? ⟨b0, off + i * 2, none⟩ = some (.int .i64 d) ∧ X.cell? ⟨b0, off + i * 2 + 1, none⟩ = some (.string s))
        (exact HKS.out _ HBW.out)
        ((go_at_call 17; refine (HC.out).mono ?_; rintro e w3 ⟨A8, c8, A9, c9, F1, b1, rfl, q1, q2, q3, q4, q5, q6, q7, q8, q9, q10⟩; have HO3 := Lib.hid (HOd.out.acc q1 q3 rfl q6 q4); have HQ2 := Lib.hid q2; have HBW := Lib.hid q1.be; clear q1 q2 q3 q4 q5 q6 q7 q8 q9 q10))
      go_wp2_with fail
      have HO4 := Lib.hid (HO3.out.mono (M := 800 * (i + 1)) (by omega))
      exact ⟨⟨i + 1, st, F1, b1, by omega, by go_num, Lib.hid ⟨HO4.out, HOC1.out⟩⟩, by simp [intOf]; omega⟩
    case pos =>
    have HL := Lib.hid (HAL.out h0)
    have HSDS : Hid ((accS st d s).sds = st.sds) := Lib.hid HL.out.sds
    have HNF := Lib.hid (file_ok (accE_zero h0).2.1)
    have HSB := Lib.hid (acc_szb (accE_zero h0).2.1 (Nat.le_trans HSZ5.out (by omega)) h0 HOC.out.sb)
    have HON := Lib.hid (fun ho => HOC.out.next HL.out HNF.out.n ho HSB.out)
    have HDP : Hid (accE (accS st d s) d s = 15) := Lib.hid HL.out.dup
    have HZ2 := Lib.hid (accS_no (st := accS st d s) (date := d) (s := s) (by rw [HL.out.dup]; decide))
    have HGD : Hid ((accS st d s).good = st.good ++ (accG st d s).map fun r => ((fileV s).sd, r)) := Lib.hid HL.out.gd
    have HGA : Hid (∀ r ∈ accG st d s, r.aq = (fileV s).sd) := Lib.hid HL.out.aq
    have HGN : Hid ((accG st d s).length + (accB st d s).length = (fileV s).rs.length + (fileB s).length) := Lib.hid HL.out.n
    have HLC : Hid (Laced (accB st d s) ((accG st d s).length + (accB st d s).length)) := Lib.hid HL.out.lc
    have HCD : Hid (∀ x ∈ accB st d s, x.2.2 ≠ 0) := Lib.hid HL.out.cd
    have HGL : Hid ((accG st d s).length + (accB st d s).length ≤ 200) := Lib.hid (by rw [HL.out.n]; exact HNF.out.n)
    have HGZ : Hid (∀ r ∈ accG st d s, r.id.size ≤ maxLen ∧ (fileV s).sd.size ≤ maxLen) := Lib.hid (fun r hr => acc_sz (accE_zero h0).2.1 (Nat.le_trans HSZ5.out (by omega)) h0 r hr)
    have HND : Hid ((prs (accS st d s).good).Nodup) := Lib.hid HL.out.ok.nd
    rw [h0] at HC
    clear h0 HAL HNO
    generalize hS : accS st d s = S at *
    generalize hG : accG st d s = G at *
    generalize hBl : accB st d s = Bl at *
    have HEQ := Lib.hid (And.intro hS (And.intro hG hBl))
    clear hS hG hBl
    go_wp2_with fail
    go_region_held3 (fun X => X.cell? ⟨b0, off + i * 2, none⟩ = some (.int .i64 d) ∧ X.cell? ⟨b0, off + i * 2 + 1, none⟩ = some (.string s))
      (exact HKS.out _ HBW.out)
      ((go_at_call 17; refine (HC.out).mono ?_; rintro e w3 ⟨A8, c8, A9, c9, F1, b1, rfl, q1, q2, q3, q4, q5, q6, q7, q8, q9, q10⟩; have HO3 := Lib.hid (HOd.out.acc q1 q3 HSDS.out q6 q4); have HQ2 := Lib.hid q2; have HBW := Lib.hid q1.be; have HP8 := Lib.hid (own_base (B' := w.heap.size) q7 HOd.out.i.be.size); have HP9 := Lib.hid (own_base (B' := w.heap.size) q8 HOd.out.i.be.size); have HP10 := Lib.hid (And.intro q9 q10); clear q1 q2 q3 q4 q5 q6 q7 q8 q9 q10))
    have HA3 : Hid (OnA w sds S (800 * i + 400) bx F1 b1 u7 (prs st.good) B8 (cntM sds st.good st.good 0) A8 c8 G A9 c9 Bl w3) := Lib.hid ⟨HO3.out, HP8.out, HP9.out, HP10.out.1, HP10.out.2⟩
    clear HO3 HP8 HP9 HP10 HOd HC HBW
    have HA4 := Lib.hid (HA3.out.below (Below.drew (Below.refl w3.heap.size w3)))
    have HBW := Lib.hid HA4.out.s.i.be
    have HON2 := Lib.hid (HON.out HQ2.out)
    have HC2 := Lib.hid (acc_on HA4.out.s.i HA4.out.s.hx HKW.out HQ2.out d s (by have := HSZ5.out; omega) (by omega) (by have := HON2.out.fs; omega) (by have := HON2.out.gl; omega))
    unfold AccOn at HC2
    obtain ⟨z1, z2, z3⟩ := HZ2.out
    rw [HDP.out, z1, z2, z3] at HC2
    have hbw3 : b0 < w3.heap.size := by
      have h1 := World.block_lt_of_cell? w _ (HKS.out w (Below.refl _ _)).1
      exact Nat.lt_of_lt_of_le h1 HA4.out.s.i.be.size
    clear z1 z2 z3 HDP HZ2 hbw HON
    go_wp2_with fail
    go_region_held3 (fun X => X.cell? ⟨b0, off + i * 2, none⟩ = some (.int .i64 d) ∧ X.cell? ⟨b0, off + i * 2 + 1, none⟩ = some (.string s))
      (exact HKS.out _ HBW.out)
      ((go_at_call 17; refine (HC2.out).mono ?_; rintro e w4 ⟨A8', c8', A9', c9', F2, b2, rfl, q1, q2, q3, q4, q5, q6, q7, q8, q9, q10⟩; have HA5 := Lib.hid (HA4.out.acc q1 q3 rfl q6 q4); have HBW := Lib.hid q1.be; clear q1 q2 q3 q4 q5 q6 q7 q8 q9 q10))
    clear HC2 HA3 HA4 HBW
    have hgl : G.length ≤ 200 := by have := HGL.out; omega
    have HRF : Hid (∀ k, k < G.length → (rcAt G k).id.size ≤ maxLen ∧ (fileV s).sd.size ≤ maxLen) := Lib.hid (fun k hk => HGZ.out _ (by rw [rcAt_get G k hk]; exact List.getElem_mem hk))
    go_wp2_with fail
    obtain ⟨sd, hsd⟩ : ∃ sd, (fileV s).sd = sd := ⟨_, rfl⟩
    rw [hsd] at HGD HGA HRF
    have HSDE := Lib.hid hsd
    clear hsd
    go_loopw [7, 16, 17, 18, 19] (fun v7 v16 v17 v18 v19 wr => ∃ (k : Nat) (sx : ByteArray), k ≤ G.length ∧ v17 = .int .i64 k ∧ v16 = .string sx ∧ Hid (0 < k → sx = sd) ∧ Hid (OnA w sds S (800 * i + 400 + 400) bx F2 b2 v7 (prs st.good ++ (G.take k).map (fun r => (sd, r.id))) B8 (cntM sds st.good st.good 0) A8 c8 G A9 c9 Bl wr)) (fun _ _ v17 _ _ _ => G.length - (intOf v17).toNat)
    case atStart => exact ⟨0, ⟨#[]⟩, Nat.zero_le _, rfl, rfl, Lib.hid (fun h => absurd h (Nat.lt_irrefl _)), Lib.hid (by
      have := HA5.out
      rw [List.take_zero, List.map_nil, List.append_nil]
      exact this)⟩
    case round =>
      clear HA5
      obtain ⟨k, sx, hk, rfl, rfl, HSX, HW⟩ := hrel
      by_cases hlt2 : k < G.length
      case pos =>
        as_aux_lemma =>
        obtain ⟨b8, off8, rfl, hcell8⟩ := row_rc (IsRow.of_own (c := c8) HW.out.o8) k hlt2
        have HC8 := Lib.hid (hcell8 k hlt2)
        have kI : (k : Int) < (G.length : Int) := by omega
        have k0 : (0 : Int) ≤ (k : Int) := by omega
        have HNW : Hid (∀ m, m < (prs st.good ++ (G.take k).map (fun r => (sd, r.id))).length → fAt (prs st.good ++ (G.take k).map (fun r => (sd, r.id))) m ≠ (sd, (rcAt G k).id)) := Lib.hid (fun m hm e => by
          have h1 := HND.out
          rw [HGD.out] at h1
          exact al_new h1 hlt2 (by rw [← e]; exact fAt_mem hm))
        have HTM := Lib.hid (take_more sd G k hlt2)
        have HSE : Hid (seenB S.good sd (rcAt G k).id = true) := Lib.hid (by
          rw [HGD.out]
          exact seenB_of (g := (sd, rcAt G k)) (List.mem_append_right _ (List.mem_map.2 ⟨rcAt G k, by rw [rcAt_get G k hlt2]; exact List.getElem_mem hlt2, rfl⟩)) rfl rfl)
        have haq : (rcAt G k).aq = sd := HGA.out _ (by rw [rcAt_get G k hlt2]; exact List.getElem_mem hlt2)
        have HRZ : Hid ((rcAt G k).id.size ≤ maxLen ∧ sd.size ≤ maxLen) := Lib.hid (HRF.out k hlt2)
        clear hcell8
        generalize hAL : prs st.good ++ (G.take k).map (fun r => (sd, r.id)) = AL at *
        have HAL := Lib.hid hAL
        clear hAL
        generalize rcAt G k = r at *
        obtain ⟨K, rid, au, aq, is, me, ca, a, cu, dd, cg, ff⟩ := r
        dsimp only at haq HNW HTM HSE HRZ
        subst haq
        have c0 := HC8.out.c0
        have c1 := HC8.out.c1
        have c2 := HC8.out.c2
        have c3 := HC8.out.c3
        have c4 := HC8.out.c4
        have c5 := HC8.out.c5
        have c6 := HC8.out.c6
        have c7 := HC8.out.c7
        have c8' := HC8.out.c8
        have c9' := HC8.out.c9
        have c10 := HC8.out.c10
        have c11 := HC8.out.c11
        dsimp only at c0 c1 c2 c3 c4 c5 c6 c7 c8' c9' c10 c11
        obtain ⟨A7, cc7, rfl, hr7, hc7⟩ := own_form HW.out.s.o7
        have HW1 := Lib.hid (HW.out.below (bxA wr (.cells #[.int .i64 K, .string rid, .string au, .string aq, .string is, .string me, .string ca, .int .i64 a, .string cu, .int .i64 dd, .int .i64 cg, .bool ff] 57)))
        have HRB := Lib.hid (heap_alloc_new wr (.cells #[.int .i64 K, .string rid, .string au, .string aq, .string is, .string me, .string ca, .int .i64 a, .string cu, .int .i64 dd, .int .i64 cg, .bool ff] 57))
        have a3 : (wr.alloc (.cells #[.int .i64 K, .string rid, .string au, .string aq, .string is, .string me, .string ca, .int .i64 a, .string cu, .int .i64 dd, .int .i64 cg, .bool ff] 57)).cell? ⟨wr.heap.size, 3, none⟩ = some (.string aq) := cell_c HRB.out 3
        clear hr7
        go_wp2_with fail
        obtain ⟨blk, hblk⟩ : ∃ blk, wr.heap.size = blk := ⟨_, rfl⟩
        rw [hblk] at HRB a3 ⊢
        obtain ⟨wb, hwb⟩ : ∃ wb, wr.alloc (.cells #[.int .i64 K, .string rid, .string au, .string aq, .string is, .string me, .string ca, .int .i64 a, .string cu, .int .i64 dd, .int .i64 cg, .bool ff] 57) = wb := ⟨_, rfl⟩
        rw [hwb] at HW1 HRB a3 ⊢
        clear hblk hwb HC8 c0 c1 c2 c3 c4 c5 c6 c7 c8' c9' c10 c11 HW a3
        have hall : AL.length ≤ 7000 := by
          rw [← HAL.out, List.length_append, List.length_map, List.length_take]
          have h1 : (prs st.good).length = st.good.length := List.length_map _
          have := HOC.out.gl
          omega
        go_loopw [19] (fun v19 wr => ∃ m : Nat, m ≤ AL.length ∧ v19 = .int .i64 m ∧ Hid (OnA w sds S (800 * i + 400 + 400) bx F2 b2 (.slice A7 AL.length cc7) AL B8 (cntM sds st.good st.good 0) (some ⟨b8, off8, none⟩) c8 G A9 c9 Bl wr ∧ wr.heap[blk]? = some (.cells #[.int .i64 K, .string rid, .string au, .string aq, .string is, .string me, .string ca, .int .i64 a, .string cu, .int .i64 dd, .int .i64 cg, .bool ff] 57))) (fun v19 _ => AL.length - (intOf v19).toNat)
        case atStart => exact ⟨0, Nat.zero_le _, rfl, Lib.hid ⟨HW1.out, HRB.out⟩⟩
        case round =>
          clear HW1 HRB
          obtain ⟨m, hm3, rfl, HW⟩ := hrel
          by_cases hlt3 : m < AL.length
          case pos =>
            obtain ⟨b7, off7, rfl, hcell7⟩ := row_file (IsRow.of_own (c := cc7) HW.out.1.s.o7) m hlt3
            obtain ⟨d0, d1⟩ := hcell7 m hlt3
            have hne := HNW.out m hlt3
            have mI : (m : Int) < (AL.length : Int) := by omega
            have m0 : (0 : Int) ≤ (m : Int) := by omega
            have e1 : wr.cell? ⟨blk, 1, none⟩ = some (.string rid) := cell_c HW.out.2 1
            clear hcell7
            generalize fAt AL m = pq at *
            obtain ⟨p, q⟩ := pq
            dsimp only at d0 d1
            by_cases hp : p = aq
            · obtain ⟨t1, -⟩ := str_eq hp
              obtain ⟨t2, -⟩ := str_ne (show q ≠ rid from fun e => hne (by rw [hp, e]))
              clear hne hp
              go_wp2_with fail
              go_quiet (fail)
              rename Nat => nq
              have HX := Lib.hid (HW.out.1.below (below_drewN wr nq))
              have HX2 := Lib.hid (blk_later HW.out.2 (below_drewN wr nq))
              go_wp2_with fail
              go_roundw
              case rel => exact ⟨m + 1, by omega, by go_num, Lib.hid ⟨HX.out, HX2.out⟩⟩
              case measure => simp [intOf]; omega
            · obtain ⟨t1, -⟩ := str_ne hp
              clear hne hp
              go_wp2_with fail
              go_quiet (fail)
              rename Nat => nq
              have HX := Lib.hid (HW.out.1.below (below_drewN wr nq))
              have HX2 := Lib.hid (blk_later HW.out.2 (below_drewN wr nq))
              go_wp2_with fail
              go_roundw
              case rel => exact ⟨m + 1, by omega, by go_num, Lib.hid ⟨HX.out, HX2.out⟩⟩
              case measure => simp [intOf]; omega
          case neg =>
            obtain rfl : m = AL.length := by omega
            have mI : ¬ (AL.length : Int) < (AL.length : Int) := by omega
            have e1 : wr.cell? ⟨blk, 1, none⟩ = some (.string rid) := cell_c HW.out.2 1
            have HW2 := Lib.hid (HW.out.1.below (bxA wr (.cells #[.string aq, .string rid] 59)))
            have hwz : w.heap.size ≤ wr.heap.size := HW.out.1.s.i.be.size
            obtain ⟨i59, HI59⟩ := info_parts mk59
            have HI := Lib.hid HI59
            clear HI59
            go_wp2_with (at_builtin; refine wpList_append_any _ rfl (.tmp 138) (.tmp 143) _ rfl w.heap.size 59 i59 _ 2 32 Tryz.underlying52 HI.out.1 HI.out.2.1 HI.out.2.2.1 HI.out.2.2.2 rfl (by omega) (.slice A7 AL.length cc7) AL.length _ rfl HW2.out.s.o7 _ (some ⟨wr.heap.size, 0, none⟩) 1 1 [.string aq, .string rid] rfl (reads_new wr _ _) (by simp [Value.oneCell']) (by unfold maxLen; omega) (by omega) (by simp; omega) ?_; intro v7 w8 hown hgrow hwh; have HAp := Lib.hid (HW2.out.app (aq, rid) hown hgrow hwh); have e2 := cell_c (grown_lt (B := 0) hgrow (blk_later HW.out.2 (bxA wr (.cells #[.string aq, .string rid] 59))) (own_neT HW2.out.s.o7 (blk_later HW.out.2 (bxA wr (.cells #[.string aq, .string rid] 59))) (by decide))) 1; clear hown hgrow hwh)
            have HSN := Lib.hid (seen_any HAp.out.s.i aq rid HRZ.out.2 HRZ.out.1)
            rw [HAp.out.s.hx, HSE.out] at HSN
            refine (HSN.out).mono ?_
            rintro e w9 ⟨rfl, rfl⟩
            have HNX : Hid (OnA w sds S (800 * i + 400 + 400) bx F2 b2 v7 (prs st.good ++ (G.take (k + 1)).map (fun r => (aq, r.id))) B8 (cntM sds st.good st.good 0) (some ⟨b8, off8, none⟩) c8 G A9 c9 Bl w8) := Lib.hid (by
              rw [HTM.out, ← List.append_assoc, HAL.out]; exact HAp.out)
            clear HSN HAp e1 e2
            go_wp2_with fail
            exact ⟨⟨k + 1, aq, by omega, by go_num, rfl, Lib.hid (fun _ => rfl), HNX⟩, by simp [intOf]; omega⟩
      case neg =>
        obtain rfl : k = G.length := by omega
        have kI : ¬ (G.length : Int) < (G.length : Int) := by omega
        have HA6 : Hid (OnA w sds S (800 * i + 400 + 400) bx F2 b2 u7 (prs S.good) B8 (cntM sds st.good st.good 0) A8 c8 G A9 c9 Bl wr) := Lib.hid (by
          have h1 := HW.out
          rw [List.take_length] at h1
          rw [HGD.out, prs_app, prs_map]; exact h1)
        have c1 := (HKS.out wr HW.out.s.i.be).2
        have HDE := Lib.hid (rbdec_any s wr (HKW.out.below HW.out.s.i.be) (Nat.le_trans HSZ5.out (by omega)))
        unfold BdcPost at HDE
        have HN12 : Hid ((fileV s).rs.length + (fileB s).length = G.length + Bl.length ∧ (fileV s).rs.length + (fileB s).length ≤ 200) := Lib.hid ⟨HGN.out.symm, HNF.out.n⟩
        generalize (fileV s).rs.flatMap recF = X1 at *
        generalize (fileB s).flatMap rejF = X2 at *
        generalize (fileV s).rs.length = n1 at *
        generalize (fileB s).length = n2 at *
        generalize (fileV s).id = y1 at *
        generalize (fileV s).dt = y3 at *
        generalize hy2 : (fileV s).sd = y2 at *
        generalize fileE s = y4 at *
        clear hy2 HW
        go_wp2_with fail
        refine HDE.out.mono ?_
        rintro e w6 ⟨v8, v9, rfl, q8, q9, hb⟩
        obtain ⟨D8, e8, rfl, -, -⟩ := own_form q8
        obtain ⟨D9, e9, rfl, -, -⟩ := own_form q9
        have HA7 := Lib.hid ((HA6.out.below hb).below (bxA w6 (.cells #[.string y1, .string y2, .int .i64 y3, .slice D8 n1 e8] 61)))
        have a3 : (w6.alloc (.cells #[.string y1, .string y2, .int .i64 y3, .slice D8 n1 e8] 61)).cell? ⟨w6.heap.size, 3, none⟩ = some (.slice D8 n1 e8) := cell_c (heap_alloc_new w6 _) 3
        have hq : ((n1 : Int) + (n2 : Int) != (G.length : Int) + (Bl.length : Int)) = false := by
          have := HN12.out.1
          simp; omega
        have hn200 : n1 + n2 ≤ 200 := HN12.out.2
        have hgb : G.length + Bl.length ≤ 200 := HGL.out
        unfold btC
        clear q8 q9 hb HDE HA6 c1
        go_wp2_with fail
        generalize w6.alloc (.cells #[.string y1, .string y2, .int .i64 y3, .slice D8 n1 e8] 61) = w7 at *
        generalize w6.heap.size = blk6 at *
        clear a3 hq
        go_loopw [23] (fun v23 wr => ∃ k : Nat, k ≤ Bl.length ∧ v23 = .int .i64 k ∧ Hid (OnA w sds S (800 * i + 400 + 400) bx F2 b2 u7 (prs S.good) B8 (cntM sds st.good st.good 0) A8 c8 G A9 c9 Bl wr)) (fun v23 _ => Bl.length - (intOf v23).toNat)
        case atStart => exact ⟨0, Nat.zero_le _, rfl, HA7⟩
        case round =>
          clear HA7
          obtain ⟨k, hk4, rfl, HW⟩ := hrel
          by_cases hlt4 : k < Bl.length
          case pos =>
            as_aux_lemma =>
            obtain ⟨b9, off9, rfl, hcell9⟩ := row_rej (IsRow.of_own (c := c9) HW.out.o9) k hlt4
            obtain ⟨d0, d1, d2⟩ := hcell9 k hlt4
            have kI4 : (k : Int) < (Bl.length : Int) := by omega
            have k04 : (0 : Int) ≤ (k : Int) := by omega
            have hl1 := HLC.out.lt k hlt4
            have hcd := HCD.out (rejAt Bl k) (rejAt_mem hlt4)
            have HX0 := Lib.hid (fun nq => HW.out.below (below_drewN wr nq))
            rcases Nat.eq_zero_or_pos k with hz | hz
            · have t3 : decide ((0 : Int) < (k : Int)) = false := decide_eq_false (by omega)
              have t3n : decide (0 < k) = false := decide_eq_false (by omega)
              clear hcell9
              generalize rejAt Bl k = r at *
              obtain ⟨x, y, z⟩ := r
              dsimp only at d0 d1 d2 hl1 hcd
              have t1 : decide ((x : Int) < 0) = false := decide_eq_false (by omega)
              have t2 : decide ((G.length : Int) + (Bl.length : Int) ≤ (x : Int)) = false := decide_eq_false (by omega)
              have t4 : (z == 0) = false := by simpa using hcd
              clear hl1 hcd hz
              go_wp2_with fail
              go_quiet (fail)
              rename Nat => nq
              have HX := Lib.hid (HX0.out nq)
              go_wp2_with fail
              go_roundw
              case rel => exact ⟨k + 1, by omega, by go_num, HX⟩
              case measure => simp [intOf]; omega
            · have t3 : decide ((0 : Int) < (k : Int)) = true := decide_eq_true (by omega)
              have t3n : decide (0 < k) = true := decide_eq_true (by omega)
              have hup := HLC.out.up (k - 1) k (by omega) hlt4
              obtain ⟨f0, -, -⟩ := hcell9 (k - 1) (by omega)
              have kI5 : (k : Int) - 1 < (Bl.length : Int) := by omega
              have k05 : (0 : Int) ≤ (k : Int) - 1 := by omega
              clear hcell9
              generalize rejAt Bl (k - 1) = r0 at *
              obtain ⟨x0, y0, z0⟩ := r0
              generalize rejAt Bl k = r at *
              obtain ⟨x, y, z⟩ := r
              dsimp only at d0 d1 d2 hl1 hcd f0 hup
              have t1 : decide ((x : Int) < 0) = false := decide_eq_false (by omega)
              have t2 : decide ((G.length : Int) + (Bl.length : Int) ≤ (x : Int)) = false := decide_eq_false (by omega)
              have t4 : (z == 0) = false := by simpa using hcd
              have t5 : decide ((x : Int) ≤ (x0 : Int)) = false := decide_eq_false (by omega)
              have t5n : decide (x ≤ x0) = false := decide_eq_false (by omega)
              clear hl1 hcd hup
              go_wp2_with fail
              go_quiet (fail)
              rename Nat => nq
              have HX := Lib.hid (HX0.out nq)
              go_wp2_with fail
              go_roundw
              case rel => exact ⟨k + 1, by omega, by go_num, HX⟩
              case measure => simp [intOf]; omega
          case neg =>
            obtain rfl : k = Bl.length := by omega
            have kI4 : ¬ (Bl.length : Int) < (Bl.length : Int) := by omega
            have HSX2 : Hid (∀ y : ByteArray, (recsOf S.good y).length = (recsOf st.good y).length + (if y = sx then G.length else 0)) := Lib.hid (fun y => by
              rw [HGD.out, recs_more]
              rcases Nat.eq_zero_or_pos G.length with q | q
              · rw [q]; simp
              · rw [HSX.out q])
            have HSGL : Hid (st.good.length ≤ 6000) := Lib.hid (by have := HOC.out.gl; omega)
            have HW5 : Hid (OnA w sds S (800 * i + 400 + 400) bx F2 b2 u7 (prs S.good) B8 (cntM sds st.good S.good 0) A8 c8 G A9 c9 Bl wr) := Lib.hid (by
              rw [cntM_zero]; exact HW.out)
            clear HW HSX
            go_wp2_with fail
            go_loopw [24] (fun v24 wr => ∃ k : Nat, k ≤ sds.length ∧ v24 = .int .i64 k ∧ Hid (OnA w sds S (800 * i + 400 + 400) bx F2 b2 u7 (prs S.good) B8 (cntM sds st.good S.good k) A8 c8 G A9 c9 Bl wr)) (fun v24 _ => sds.length - (intOf v24).toNat)
            case atStart => exact ⟨0, Nat.zero_le _, rfl, HW5⟩
            case round =>
              clear HW5
              obtain ⟨k, hk5, rfl, HW⟩ := hrel
              by_cases hlt5 : k < sds.length
              case pos =>
                obtain ⟨bA, offA, rfl, hcellA⟩ := row_str HA.out k hlt5
                have d0 := cell_later HW.out.s.i.be (hcellA k hlt5)
                have kI5 : (k : Int) < (sds.length : Int) := by omega
                have k05 : (0 : Int) ≤ (k : Int) := by omega
                have hcn := cntM_at sds st.good S.good k k hlt5
                rw [if_neg (Nat.lt_irrefl k)] at hcn
                have d1 : wr.cell? ⟨B8, k, none⟩ = some (.int .i64 ((recsOf st.good (stA sds k)).length : Int)) := by
                  unfold World.cell?
                  simp only [HW.out.s.c8]
                  exact hcn
                have d2 : wr.frozen? ⟨B8, k, none⟩ = false := by simp [World.frozen?, HW.out.s.c8]
                have hL : (recsOf st.good (stA sds k)).length ≤ 6000 := Nat.le_trans (recsOf_len _ _) HSGL.out
                have HAD := Lib.hid (HSX2.out (stA sds k))
                have HST := Lib.hid (cntM_set sds st.good S.good k hlt5)
                have HKP := Lib.hid (cntM_keep sds st.good S.good k)
                clear hcellA hcn
                have e0 : prt sds k = stA sds k := rfl
                rw [e0] at d0
                generalize stA sds k = y at *
                generalize hLn : (recsOf st.good y).length = Ln at *
                clear e0
                by_cases hp : y = sx
                · obtain ⟨t1, -⟩ := str_eq hp
                  rw [if_pos hp] at HAD
                  clear hp hLn
                  go_wp2_with fail
                  go_roundw
                  case rel => exact ⟨k + 1, by omega, by go_num, Lib.hid (by
                    have h1 := HW.out.count k (.int .i64 ((Ln : Int) + (G.length : Int)))
                    have h2 := HST.out
                    rw [HAD.out, Int.natCast_add] at h2
                    rw [h2] at h1
                    exact h1)⟩
                  case measure => simp [intOf]; omega
                · obtain ⟨t1, -⟩ := str_ne hp
                  rw [if_neg hp] at HAD
                  have HW6 : Hid (OnA w sds S (800 * i + 400 + 400) bx F2 b2 u7 (prs S.good) B8 (cntM sds st.good S.good (k + 1)) A8 c8 G A9 c9 Bl wr) := Lib.hid (by
                    rw [← HKP.out (by rw [HAD.out]; first | rfl | exact hLn.symm ▸ rfl | simp)]; exact HW.out)
                  clear hp hLn
                  go_wp2_with fail
                  go_roundw
                  case rel => exact ⟨k + 1, by omega, by go_num, HW6⟩
                  case measure => simp [intOf]; omega
              case neg =>
                obtain rfl : k = sds.length := by omega
                have kI5 : ¬ (sds.length : Int) < (sds.length : Int) := by omega
                have HO9 : Hid (OnS w sds S (800 * (i + 1)) bx F2 b2 u7 (prs S.good) B8 (cntM sds S.good S.good 0) wr) := Lib.hid (by
                  have h1 := HW.out.s.mono (M := 800 * (i + 1)) (by omega)
                  rw [cntM_all] at h1
                  exact h1)
                clear HW
                go_wp2_with fail
                exact ⟨⟨i + 1, S, F2, b2, by omega, by go_num, Lib.hid ⟨HO9.out, HON2.out⟩⟩, by simp [intOf]; omega⟩
end Go.Proofs.YthflmdgfenojcaaGreatDoor
