/- Part of the proof over this seat. -/
import Derived.Test.YthflmdgfenojcaaGreatDoorQIr8
import Derived.Test.YthflmdgfenojcaaGreatDoorQOpf
namespace Go.Proofs.YthflmdgfenojcaaGreatDoor
set_option linter.unusedVariables false
open Go.RowKit Go.Sort Go.Maps
set_option maxRecDepth 1000000 in
set_option maxHeartbeats 51200000 in
theorem accepts_any (A : Option Addr) (cp : Nat) (sds : List ByteArray) (B : Option Addr) (cq : Nat) (fl : List (Int × ByteArray)) (id : ByteArray) (w : World) (hw : BW w) (hA : IsRow w A (sds.map Value.string)) (hsz : ∀ x ∈ sds, x.size ≤ maxLen) (hc : sds.length ≤ cp) (hcm : cp ≤ maxLen) (hB : IsRow w B (fl.flatMap fileT)) (hs2 : ∀ x ∈ fl, x.2.size ≤ maxLen) (hm2 : fl.length ≤ maxLen) (hid : id.size ≤ maxLen) :
    Calls Tryz.prog 3 #[.slice A sds.length cp, .slice B fl.length cq, .string id] w fun e w' => e = .returned (.bool true) ∧ Below w.heap.size w w' := by
  have hm : sds.length ≤ maxLen := Nat.le_trans hc hcm
  have HKW := Lib.hid hw
  have HB0 := Lib.hid (Below.refl w.heap.size w)
  have HNM := Lib.hid (nams_any A cp sds w hA hsz hm)
  have HSH := Lib.hid (shrt_any B cq fl 30 w hB hs2 hm2 (by omega))
  have HN1 := Lib.hid (new_any (w0 := w) w (Below.refl _ _) A cp sds hA hsz hm)
  have HRN := Lib.hid (fun W (hb : Below w.heap.size w W) => rnew_any' (w0 := w) W hb A cp sds (hA.below hb) hsz hm hc hcm)
  have HAW := Lib.hid (fun W hW => awi_any W hW)
  have HA := Lib.hid hA
  have HB := Lib.hid hB
  have HSZ := Lib.hid hsz
  have HIZ := Lib.hid hid
  unfold NewPost at HN1
  unfold RnwPost at HRN
  have hid2 : id.size ≤ 9223372036854775807 := hid
  unfold maxLen at hm hm2
  clear hw hA hB hsz hs2 hid hc hcm
  cases hnm : namsB sds with
  | false =>
    rw [hnm] at HNM
    clear hnm
    go_enter Tryz.func3, Tryz.ntmps3
    go_wp2_with fail
    refine (HNM.out).mono ?_
    rintro e w1 ⟨rfl, rfl⟩
    go_wp2_with fail
    refine (HAW.out w (HKW.out.below HB0.out)).mono ?_
    rintro e w9 ⟨rfl, hb⟩
    have HB9 := Lib.hid (HB0.out.trans (hb.mono HB0.out.size))
    clear hb
    go_wp2_with fail
    go_ret
    exact ⟨rfl, HB9.out⟩
  | true =>
  obtain ⟨hn20, -⟩ := namsB_true hnm
  rw [hnm] at HNM
  cases hsh : shrtB fl 30 with
  | false =>
    rw [hsh] at HSH
    clear hsh hnm
    go_enter Tryz.func3, Tryz.ntmps3
    go_wp2_with fail
    refine (HNM.out).mono ?_
    rintro e w1 ⟨rfl, rfl⟩
    go_wp2_with fail
    refine (HSH.out).mono ?_
    rintro e w1 ⟨rfl, rfl⟩
    go_wp2_with fail
    refine (HAW.out w (HKW.out.below HB0.out)).mono ?_
    rintro e w9 ⟨rfl, hb⟩
    have HB9 := Lib.hid (HB0.out.trans (hb.mono HB0.out.size))
    clear hb
    go_wp2_with fail
    go_ret
    exact ⟨rfl, HB9.out⟩
  | true =>
  obtain ⟨hf30, hf5⟩ := shrtB_true hsh
  have HF5 := Lib.hid hf5
  rw [hsh] at HSH
  clear hsh hnm hf5
  by_cases h100 : 100 < id.size
  case pos =>
    have hI : (100 : Int) < (id.size : Int) := by omega
    clear h100
    go_enter Tryz.func3, Tryz.ntmps3
    go_wp2_with fail
    refine (HNM.out).mono ?_
    rintro e w1 ⟨rfl, rfl⟩
    go_wp2_with fail
    refine (HSH.out).mono ?_
    rintro e w1 ⟨rfl, rfl⟩
    go_wp2_with fail
    refine (HAW.out w (HKW.out.below HB0.out)).mono ?_
    rintro e w9 ⟨rfl, hb⟩
    have HB9 := Lib.hid (HB0.out.trans (hb.mono HB0.out.size))
    clear hb
    go_wp2_with fail
    go_ret
    exact ⟨rfl, HB9.out⟩
  case neg =>
  have hI : ¬ (100 : Int) < (id.size : Int) := by omega
  clear h100
  go_enter Tryz.func3, Tryz.ntmps3
  go_wp2_with fail
  refine (HNM.out).mono ?_
  rintro e w1 ⟨rfl, rfl⟩
  go_wp2_with fail
  refine (HSH.out).mono ?_
  rintro e w1 ⟨rfl, rfl⟩
  clear HNM HSH
  go_wp2_with fail
  refine (HN1.out).mono ?_
  rintro e w1 (⟨q, rfl, hb⟩ | ⟨q, rfl, hi, hb⟩)
  · as_aux_lemma =>
    have HB1 := Lib.hid hb
    have HR1 := Lib.hid (HRN.out w1 hb)
    have hEE : (newE sds != newE sds) = false := by simp
    have HQ := Lib.hid q
    clear hb q HN1 HRN
    generalize newE sds = E at *
    go_wp2_with fail
    refine (HR1.out).mono ?_
    rintro e w2 (⟨-, rfl, hb⟩ | ⟨q, -⟩)
    · have HB2 := Lib.hid (HB1.out.trans (hb.mono HB1.out.size))
      clear hb HR1
      go_wp2_with fail
      go_loopw [11, 12, 13, 14, 15, 16, 17, 18, 19] (fun iv _ _ _ _ _ _ _ _ wr => iv = .int .i64 0 ∧ Hid (Below w.heap.size w wr)) (fun _ _ _ _ _ _ _ _ _ _ => 0)
      case atStart => exact ⟨rfl, HB2⟩
      case round =>
        clear HB2
        obtain ⟨rfl, HW⟩ := hrel
        by_cases h0 : 0 < fl.length
        · have h0I : (0 : Int) < (fl.length : Int) := by omega
          clear h0
          go_wp2_with fail
          refine (acc_nil 0 ⟨#[]⟩ wr).mono ?_
          rintro e w1 ⟨rfl, rfl⟩
          go_wp2_with fail
          refine (files_nil wr).mono ?_
          rintro e w1 ⟨rfl, rfl⟩
          go_wp2_with fail
          refine (open_nil ⟨#[97]⟩ wr).mono ?_
          rintro e w1 ⟨rfl, rfl⟩
          go_wp2_with fail
          refine (seen_nil ⟨#[97]⟩ ⟨#[98]⟩ wr).mono ?_
          rintro e w1 ⟨rfl, rfl⟩
          have heq := eql46
          have HTN := Lib.hid (tot_nil ⟨#[97]⟩ wr)
          unfold totV at HTN
          go_wp2_with fail
          refine (HTN.out).mono ?_
          rintro e w8 ⟨rfl, hb⟩
          have HB8 := Lib.hid (HW.out.trans (hb.mono HW.out.size))
          clear hb HTN
          go_wp2_with fail
          refine (HAW.out w8 (HKW.out.below HB8.out)).mono ?_
          rintro e w9 ⟨rfl, hb⟩
          have HB9 := Lib.hid (HB8.out.trans (hb.mono HB8.out.size))
          clear hb
          go_wp2_with fail
          go_ret
          exact ⟨rfl, HB9.out⟩
        · have h0I : ¬ (0 : Int) < (fl.length : Int) := by omega
          clear h0
          go_wp2_with fail
          refine (acc_nil 0 ⟨#[]⟩ wr).mono ?_
          rintro e w1 ⟨rfl, rfl⟩
          go_wp2_with fail
          refine (files_nil wr).mono ?_
          rintro e w1 ⟨rfl, rfl⟩
          go_wp2_with fail
          refine (open_nil ⟨#[97]⟩ wr).mono ?_
          rintro e w1 ⟨rfl, rfl⟩
          go_wp2_with fail
          refine (seen_nil ⟨#[97]⟩ ⟨#[98]⟩ wr).mono ?_
          rintro e w1 ⟨rfl, rfl⟩
          have heq := eql46
          have HTN := Lib.hid (tot_nil ⟨#[97]⟩ wr)
          unfold totV at HTN
          go_wp2_with fail
          refine (HTN.out).mono ?_
          rintro e w8 ⟨rfl, hb⟩
          have HB8 := Lib.hid (HW.out.trans (hb.mono HW.out.size))
          clear hb HTN
          go_wp2_with fail
          refine (HAW.out w8 (HKW.out.below HB8.out)).mono ?_
          rintro e w9 ⟨rfl, hb⟩
          have HB9 := Lib.hid (HB8.out.trans (hb.mono HB8.out.size))
          clear hb
          go_wp2_with fail
          go_ret
          exact ⟨rfl, HB9.out⟩
    · exact absurd q HQ.out
  have HR1 := Lib.hid (HRN.out w1 hb)
  have h16 : sds.length ≤ 16 := by
    unfold newE at q
    split at q
    · cases q
    · omega
  rw [q] at HR1
  have HI1 := Lib.hid hi
  have HB1 := Lib.hid hb
  obtain ⟨bx, hbx⟩ : ∃ bx, w.heap.size + 3 = bx := ⟨_, rfl⟩
  rw [hbx]
  have HBX := Lib.hid hbx
  clear q hi hb HN1 HRN hbx
  go_wp2_with fail
  refine (HR1.out).mono ?_
  rintro e w2 (⟨q, -⟩ | ⟨-, rx, rfl, hx, hr, hb⟩)
  · exact absurd rfl q
  have HS0 : Hid (∃ F b G rb, AcW w sds A cp (inS0 sds) (inS0 sds) (800 * 0) bx rx F G b rb w2) := Lib.hid ⟨_, _, _, _, HI1.out.below hb, hr, HBX.out, rfl, rfl, rfl, (fun k hF hG => by
    have h1 := (HI1.out.fp k hF).2
    have h2 : k = rx := hG
    omega)⟩
  have HC0 : Hid (OnC sds (inS0 sds) 0 ∧ ∀ x ∈ (inS0 sds).good, x.2.Fit) := Lib.hid ⟨⟨inOk0 sds, Nat.zero_le _, Nat.zero_le _, Nat.zero_le _, (fun x h => by cases h)⟩, (fun x h => by cases h)⟩
  clear hx hr hb HR1 HI1 HB1 HBX
  go_wp2_with fail
  go_loopw [11, 12, 13, 14, 15, 16, 17, 18, 19] (fun iv _ _ _ _ _ _ _ _ wr => ∃ (i : Nat) (st : InS) (F : Nat → Prop) (b : InB) (G : Nat → Prop) (rb : RiB), i ≤ fl.length ∧ iv = .int .i64 i ∧ Hid (AcW w sds A cp st st (800 * i) bx rx F G b rb wr) ∧ Hid (OnC sds st i ∧ ∀ x ∈ st.good, x.2.Fit)) (fun iv _ _ _ _ _ _ _ _ _ => fl.length - (intOf iv).toNat)
  case atStart =>
    obtain ⟨F, b, G, rb, h0⟩ := HS0.out
    exact ⟨0, inS0 sds, F, b, G, rb, Nat.zero_le _, rfl, Lib.hid h0, HC0⟩
  case round =>
    clear HS0 HC0
    obtain ⟨i, st, F, b, G, rb, hi, rfl, HW, HC⟩ := hrel
    by_cases hlt : i < fl.length
    case neg =>
      as_aux_lemma =>
      obtain rfl : i = fl.length := by omega
      have iI : ¬ (fl.length : Int) < (fl.length : Int) := by omega
      have HBW := Lib.hid HW.out.i.be
      clear HW HC
      go_wp2_with fail
      refine (acc_nil 0 ⟨#[]⟩ wr).mono ?_
      rintro e w1 ⟨rfl, rfl⟩
      go_wp2_with fail
      refine (files_nil wr).mono ?_
      rintro e w1 ⟨rfl, rfl⟩
      go_wp2_with fail
      refine (open_nil ⟨#[97]⟩ wr).mono ?_
      rintro e w1 ⟨rfl, rfl⟩
      go_wp2_with fail
      refine (seen_nil ⟨#[97]⟩ ⟨#[98]⟩ wr).mono ?_
      rintro e w1 ⟨rfl, rfl⟩
      have heq := eql46
      have HTN := Lib.hid (tot_nil ⟨#[97]⟩ wr)
      unfold totV at HTN
      go_wp2_with fail
      refine (HTN.out).mono ?_
      rintro e w8 ⟨rfl, hb⟩
      have HB8 := Lib.hid (HBW.out.trans (hb.mono HBW.out.size))
      clear hb HTN
      go_wp2_with fail
      refine (HAW.out w8 (HKW.out.below HB8.out)).mono ?_
      rintro e w9 ⟨rfl, hb⟩
      have HB9 := Lib.hid (HB8.out.trans (hb.mono HB8.out.size))
      clear hb
      go_wp2_with fail
      go_ret
      exact ⟨rfl, HB9.out⟩
    case pos =>
    obtain ⟨b0, off, rfl, hcell⟩ := row_fl HB.out i hlt
    have iI : (i : Int) < (fl.length : Int) := by omega
    have i0 : (0 : Int) ≤ (i : Int) := by omega
    have HCW := Lib.hid (hcell i hlt)
    have HSZ5 : Hid ((flAt fl i).2.size ≤ 5000) := Lib.hid (HF5.out i hlt)
    have hsl : (flAt fl i).2.size ≤ 1000000 := by have := HSZ5.out; omega
    clear hcell
    generalize flAt fl i = x at *
    obtain ⟨d, s⟩ := x
    dsimp only at HCW HSZ5 hsl
    have HKS : Hid (∀ W, Below w.heap.size w W → W.cell? ⟨b0, off + i * 2, none⟩ = some (.int .i64 d) ∧ W.cell? ⟨b0, off + i * 2 + 1, none⟩ = some (.string s)) := Lib.hid (fun W h => ⟨cell_later h HCW.out.1, cell_later h HCW.out.2⟩)
    have HOd := Lib.hid (HW.out.below (Below.drew (Below.refl wr.heap.size wr)))
    have HBW := Lib.hid HOd.out.i.be
    have hbw : b0 < wr.heap.size := by
      have h1 := World.block_lt_of_cell? w _ HCW.out.1
      have h2 := HOd.out.i.be.size
      exact Nat.lt_of_lt_of_le h1 h2
    have HAC := Lib.hid (acc_on HOd.out.i HOd.out.hx HKW.out HC.out.1.ob d s hsl (by omega) (by have := HC.out.1.fs; omega) (by have := HC.out.1.gl; omega))
    have HNX := Lib.hid (acc_next HC.out.1 HC.out.2 d s hsl)
    have HSDS : Hid (st.sds = sds) := Lib.hid HW.out.h1
    have HRA : Hid (∀ X, InR w A cp st G rb X → Calls Tryz.prog 18 #[.pointer (some ⟨rx, 0, none⟩), .int .i64 d, .string s] X (RacOn w A cp st d s rb G X)) := Lib.hid (fun X hX => by
      have h1 := rac_on hX (by rw [HSDS.out]; exact HA.out) (by rw [HSDS.out]; omega) HKW.out (by have := HC.out.1.ob; omega) d s hsl (by have := HC.out.1.fs; omega) (by have := HC.out.1.gl; omega)
      rw [HW.out.hr] at h1
      exact h1)
    unfold AccOn at HAC
    unfold RacOn at HRA
    clear hsl HCW HC
    generalize accS st d s = S at *
    generalize accG st d s = Gd at *
    generalize accB st d s = Bl at *
    generalize accE st d s = E at *
    go_wp2_with fail
    go_region_held3 (fun X => X.cell? ⟨b0, off + i * 2, none⟩ = some (.int .i64 d) ∧ X.cell? ⟨b0, off + i * 2 + 1, none⟩ = some (.string s))
      (exact HKS.out _ HBW.out)
      ((go_at_call 17; refine (HAC.out).mono ?_; rintro e w3 ⟨A8, c8, A9, c9, F1, b1, rfl, q1, q2, q3, q4, q5, q6, q7, q8, q9, q10⟩; have HA3 := Lib.hid (HOd.out.accX q1 q3 HNX.out.2.2.1 q4 q6); have HP8 := Lib.hid q7; have HP9 := Lib.hid q8; have HBW := Lib.hid q1.be; clear q1 q2 q3 q4 q5 q6 q7 q8 q9 q10))
    have HPR : Hid (∀ X, KeptE G w3 X → IsRow X A8 (Gd.flatMap recF) ∧ IsRow X A9 (Bl.flatMap rejF)) := Lib.hid (fun X hk => by
      have hno : ∀ g, wr.drew.heap.size ≤ g → ¬ G g := fun g h1 h2 => by
        have := (HOd.out.r.fp g h2).2
        omega
      exact ⟨row_kept hk HP8.out (fun g hg => hno g (own_lt HP8.out hg).1), row_kept hk HP9.out (fun g hg => hno g (own_lt HP9.out hg).1)⟩)
    have HGl : Hid (Gd.length ≤ 200 ∧ Bl.length ≤ 200) := Lib.hid HNX.out.2.2.2
    have HNC : Hid (OnC sds S (i + 1) ∧ ∀ x ∈ S.good, x.2.Fit) := Lib.hid ⟨HNX.out.1, HNX.out.2.1⟩
    have HSS : Hid (S.sds = st.sds) := Lib.hid HNX.out.2.2.1
    clear HP8 HP9 HOd HAC HBW HNX hbw
    have HA4 := Lib.hid (HA3.out.below (Below.drew (Below.refl w3.heap.size w3)))
    have HBW := Lib.hid HA4.out.i.be
    have HR4 := Lib.hid (HRA.out _ HA4.out.r)
    have hbw3 : b0 < w3.heap.size := by
      have h1 := World.block_lt_of_cell? w _ (HKS.out w (Below.refl _ _)).1
      exact Nat.lt_of_lt_of_le h1 HA4.out.i.be.size
    clear HRA
    go_wp2_with fail
    go_region_held3 (fun X => X.cell? ⟨b0, off + i * 2, none⟩ = some (.int .i64 d) ∧ X.cell? ⟨b0, off + i * 2 + 1, none⟩ = some (.string s))
      (exact HKS.out _ HBW.out)
      ((go_at_call 18; refine (HR4.out).mono ?_; rintro e w4 ⟨C8, e8, C9, e9, G1, rb1, rfl, q1, q2, q3, q4, q5, q6⟩; have HA5 := Lib.hid (HA4.out.accR q1 q2 HSS.out q3 q4); have HQ5 : Hid (∀ X, Below w4.heap.size w4 X → IsRow X A8 (Gd.flatMap recF) ∧ IsRow X A9 (Bl.flatMap rejF) ∧ IsRow X C8 (Gd.flatMap recF) ∧ IsRow X C9 (Bl.flatMap rejF)) := Lib.hid (fun X hb => by
        have hk := HPR.out _ ((KeptE.of_below (F := G) (Below.drew (Below.refl w3.heap.size w3))).trans q4 (fun _ q => .inl q))
        exact ⟨hk.1.below hb, hk.2.below hb, q5.below hb, q6.below hb⟩); have HBW := Lib.hid q1.be; clear q1 q2 q3 q4 q5 q6))
    clear HR4 HA3 HA4 HBW HPR
    have HA6 := Lib.hid (HA5.out.mono (M := 800 * (i + 1)) (by omega))
    clear HA5
    have hEE : (E != E) = false := by simp
    obtain ⟨r1, r2, r3, r4⟩ := HQ5.out w4 (Below.refl _ _)
    have HS1 := Lib.hid (srecs_any A8 C8 c8 e8 Gd w4 r1 r3 (by have := HGl.out; unfold maxLen; omega))
    unfold BPost at HS1
    clear r1 r2 r3 r4
    go_wp2_with fail
    refine (HS1.out).mono ?_
    rintro e w5 ⟨rfl, hb⟩
    have HA7 := Lib.hid (HA6.out.below hb)
    have HQ7 : Hid (IsRow w5 A9 (Bl.flatMap rejF) ∧ IsRow w5 C9 (Bl.flatMap rejF)) := Lib.hid ⟨(HQ5.out w5 hb).2.1, (HQ5.out w5 hb).2.2.2⟩
    have HS2 := Lib.hid (srejs_any A9 C9 c9 e9 Bl w5 HQ7.out.1 HQ7.out.2 (by have := HGl.out; unfold maxLen; omega))
    unfold BPost at HS2
    clear hb HA6 HQ5 HS1 HQ7
    go_wp2_with fail
    refine (HS2.out).mono ?_
    rintro e w6 ⟨rfl, hb⟩
    have HA8 := Lib.hid (HA7.out.below hb)
    have hfl : S.fs.length ≤ 1000000 := by have := HNC.out.1.fs; omega
    have HF1 := Lib.hid (files_any HA8.out.i hfl)
    rw [HA8.out.hx] at HF1
    unfold RowPost at HF1
    clear hb HA7 HS2
    go_wp2_with fail
    refine (HF1.out).mono ?_
    rintro e w7 ⟨v, rfl, ho, hb⟩
    obtain ⟨PA, pc, rfl, -, -⟩ := own_form ho
    have HA9 := Lib.hid (HA8.out.below hb)
    have HO1 := Lib.hid ho
    have HF2 := Lib.hid (rfiles_any HA9.out.r hfl)
    rw [HA9.out.hr] at HF2
    unfold RowPost at HF2
    clear ho hb HA8 HF1
    go_wp2_with fail
    refine (HF2.out).mono ?_
    rintro e w8 ⟨v, rfl, ho, hb⟩
    obtain ⟨PB, pd, rfl, -, -⟩ := own_form ho
    have HA10 := Lib.hid (HA9.out.below hb)
    have HS3 : Hid (Calls Tryz.prog 21 #[.slice PA S.fs.length pc, .slice PB S.fs.length pd] w8 (BPost true w8)) := Lib.hid (by
      have h1 := sstrs_any PA PB pc pd (S.fs.map (·.2)) w8 (by rw [List.map_map]; exact IsRow.of_own (c := pc) (own_later HO1.out hb)) (by rw [List.map_map]; exact IsRow.of_own (c := pd) ho) (by rw [List.length_map]; unfold maxLen; omega)
      rw [List.length_map] at h1
      exact h1)
    unfold BPost at HS3
    clear ho hb HA9 HF2 HO1
    go_wp2_with fail
    refine (HS3.out).mono ?_
    rintro e w10 ⟨rfl, hb⟩
    have HA11 := Lib.hid (HA10.out.below hb)
    clear hb HA10 HS3 hfl
    go_wp2_with fail
    go_loopw [18, 19] (fun kv _ wr => ∃ k : Nat, k ≤ sds.length ∧ kv = .int .i64 k ∧ Hid (AcW w sds A cp S S (800 * (i + 1)) bx rx F1 G1 b1 rb1 wr)) (fun kv _ _ => sds.length - (intOf kv).toNat)
    case atStart => exact ⟨0, Nat.zero_le _, rfl, HA11⟩
    case round =>
      clear HA11
      obtain ⟨k, hk, rfl, HW⟩ := hrel
      by_cases hlk : k < sds.length
      case neg =>
        obtain rfl : k = sds.length := by omega
        have kI : ¬ (sds.length : Int) < (sds.length : Int) := by omega
        go_wp2_with fail
        exact ⟨⟨i + 1, S, F1, b1, G1, rb1, by omega, by go_num, HW, HNC⟩, by simp [intOf]; omega⟩
      case pos =>
        as_aux_lemma =>
        obtain ⟨bA, offA, rfl, hcellA⟩ := row_st HA.out k hlk
        have d0 := cell_later HW.out.i.be (hcellA k hlk)
        have kI : (k : Int) < (sds.length : Int) := by omega
        have k0 : (0 : Int) ≤ (k : Int) := by omega
        have HYS : Hid (stA sds k ∈ sds) := Lib.hid (by rw [stA_get sds k hlk]; exact List.getElem_mem hlk)
        have HYZ : Hid ((stA sds k).size ≤ maxLen) := Lib.hid (HSZ.out _ HYS.out)
        clear hcellA
        generalize stA sds k = y at *
        have hbl : S.bad.length ≤ 100000 := by have := HNC.out.1.ob; omega
        have hgl : S.good.length ≤ 100000 := by have := HNC.out.1.gl; omega
        have HOP := Lib.hid (open_any HW.out.i y HYZ.out (by have := open_len S.bad y; omega))
        rw [HW.out.hx] at HOP
        unfold RowPost at HOP
        go_wp2_with fail
        refine (HOP.out).mono ?_
        rintro e w3 ⟨v, rfl, ho, hb⟩
        obtain ⟨D9, f9, rfl, -, -⟩ := own_form ho
        have HV3 := Lib.hid (HW.out.below hb)
        have HO3 := Lib.hid ho
        have HOQ := Lib.hid (ropen_any HV3.out.r (by omega) y)
        rw [HV3.out.hr] at HOQ
        unfold RowPost at HOQ
        clear ho hb HOP d0 HW
        go_wp2_with fail
        refine (HOQ.out).mono ?_
        rintro e w5 ⟨v, rfl, ho, hb⟩
        obtain ⟨D8, f8, rfl, -, -⟩ := own_form ho
        have HV5 := Lib.hid (HV3.out.below hb)
        have HS4 := Lib.hid (srejs_any D9 D8 f9 f8 (openOf S.bad y) w5 (IsRow.of_own (c := f9) (own_later HO3.out hb)) (IsRow.of_own (c := f8) ho) (by have := open_len S.bad y; unfold maxLen; omega))
        unfold BPost at HS4
        clear ho hb HOQ HV3 HO3
        go_wp2_with fail
        refine (HS4.out).mono ?_
        rintro e w6 ⟨rfl, hb⟩
        have HV6 := Lib.hid (HV5.out.below hb)
        have HT1 := Lib.hid (tot_any HV6.out.i y HYZ.out)
        rw [HV6.out.h1, if_pos HYS.out, HV6.out.hx] at HT1
        unfold totOf totV at HT1
        clear hb HS4 HV5
        go_wp2_with fail
        refine (HT1.out).mono ?_
        rintro e w7 ⟨rfl, hb⟩
        have HV7 := Lib.hid (HV6.out.below hb)
        have HT2 := Lib.hid (rtot_any' HV7.out.r (by omega) HNC.out.2 y)
        rw [HV7.out.hr] at HT2
        unfold totOf totV at HT2
        have hne := neq46 ((recsOf S.good y).length : Int) (debS (recsOf S.good y) (recsOf S.good y).length) (creS (recsOf S.good y) (recsOf S.good y).length) ((C7.totB (cardsOf (recsOf S.good y)) : Nat) : Int)
        clear hb HT1 HV6
        generalize debS (recsOf S.good y) (recsOf S.good y).length = t1 at *
        generalize creS (recsOf S.good y) (recsOf S.good y).length = t2 at *
        generalize C7.totB (cardsOf (recsOf S.good y)) = t3 at *
        generalize (recsOf S.good y).length = t0 at *
        go_wp2_with fail
        refine (HT2.out).mono ?_
        rintro e w8 ⟨rfl, hb⟩
        have HV8 := Lib.hid (HV7.out.below hb)
        have HN1 := Lib.hid (seen_any HV8.out.i y id HYZ.out HIZ.out)
        rw [HV8.out.hx] at HN1
        have HN2 := Lib.hid (rseen_any HV8.out.r (by omega) y id)
        rw [HV8.out.hr] at HN2
        generalize seenB S.good y id = Bs at *
        have hbb : (Bs != Bs) = false := by simp
        clear hb HT2 HV7
        go_wp2_with fail
        refine (HN1.out).mono ?_
        rintro e w9 ⟨rfl, rfl⟩
        go_wp2_with fail
        refine (HN2.out).mono ?_
        rintro e w9 ⟨rfl, rfl⟩
        go_wp2_with fail
        exact ⟨⟨k + 1, by omega, by go_num, HV8⟩, by simp [intOf]; omega⟩
theorem intakeAccepts_walk (w : World) (hw : BW w) (_ : True) (A : Option Addr) (cp : Nat) (sds : List ByteArray) (hs : IsRow w A (sds.map Value.string) ∧ (∀ x ∈ sds, x.size ≤ maxLen) ∧ sds.length ≤ cp ∧ (A = none → cp = 0) ∧ cp ≤ maxLen)
    (B : Option Addr) (cq : Nat) (fl : List (Int × ByteArray)) (hf : IsRow w B (fl.flatMap fileT) ∧ (∀ x ∈ fl, x.2.size ≤ maxLen) ∧ fl.length ≤ cq ∧ (B = none → cq = 0) ∧ cq ≤ maxLen) (id : ByteArray) (hid : id.size ≤ maxLen) :
    Calls Tryz.prog 3 #[.slice A sds.length cp, .slice B fl.length cq, .string id] w fun e w' => e = .returned (.bool true) ∧ Below w.heap.size w w' :=
  accepts_any A cp sds B cq fl id w hw hs.1 hs.2.1 hs.2.2.1 hs.2.2.2.2 hf.1 hf.2.1 (Nat.le_trans hf.2.2.1 hf.2.2.2.2) hid
end Go.Proofs.YthflmdgfenojcaaGreatDoor
