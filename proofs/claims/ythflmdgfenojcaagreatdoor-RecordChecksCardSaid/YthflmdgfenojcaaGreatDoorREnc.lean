/- The reference's Encode and Debit of a record, Name (printed by gen_renc32.py). -/
import Derived.Test.YthflmdgfenojcaaGreatDoorRChk
import Derived.Test.YthflmdgfenojcaaGreatDoorRDec
import Derived.Lib.ItoaLen
import Derived.Deep.QuietTactic
import Derived.BigQuiet
import Derived.Laws.Concat
namespace Go.Proofs.YthflmdgfenojcaaGreatDoor
set_option linter.unusedVariables false
open Go.RowKit Go.Sort

theorem quiet_left {P : Program} {f : FuncId} {args : Array Value} {w : World} {n : Nat} {v : Value}
    (h : Calls P f args (w.drewN n) fun e w' => e = .returned v ∧ w.drewN n = w') : Calls P f args (w.drewN n) fun e w'' => e = .returned v ∧ ∃ m, w'' = w.drewN m :=
  h.mono fun _ _ ⟨he, hm⟩ => ⟨he, n, hm.symm⟩
def finT (b : Bool) : ByteArray := if b then ⟨#[124, 49]⟩ else ⟨#[124, 48]⟩
theorem enc_chain (r : Rec) : encS r = itoS r.k ++ (ByteArray.mk #[124]) ++ r.id ++ (ByteArray.mk #[124]) ++ r.au ++ (ByteArray.mk #[124]) ++ r.aq ++ (ByteArray.mk #[124]) ++ r.iss ++ (ByteArray.mk #[124]) ++ r.me ++ (ByteArray.mk #[124]) ++ r.ca ++ (ByteArray.mk #[124]) ++ itoS r.a ++ (ByteArray.mk #[124]) ++ r.cu ++ (ByteArray.mk #[124]) ++ itoS r.d ++ (ByteArray.mk #[124]) ++ itoS r.c ++ finT r.f := by
  apply ByteArray.ext
  apply Array.ext'
  show (Lib.join (r.texts.map (·.data.toList)) [124]) = _
  unfold Rec.texts
  rw [List.map_cons, join_tail]
  cases r.f <;> simp [Lib.joinTail, finT, finS]
theorem ito21 {v : Int} (h0 : -9223372036854775808 ≤ v) (h1 : v ≤ 9223372036854775807) : (itoS v).size ≤ 21 := Lib.itoa_length_le v h0 h1
set_option maxRecDepth 100000 in
set_option maxHeartbeats 12800000 in
theorem renc_any (r : Rec) (hr : r.Fit) (hsz : r.id.size + r.au.size + r.aq.size + r.iss.size + r.me.size + r.ca.size + r.cu.size ≤ 1000000) (w : World) : Calls Tryz.prog 34 #[r.val] w (EncPost r w) := by
  have HC := Lib.hid (fun W => rchk_any r hr W)
  have HI := Lib.hid (Fit.ints r)
  have HV := Lib.hid (show encV r = if chkE r = 0 then encS r else ⟨#[]⟩ from rfl)
  have HS := Lib.hid (enc_chain r)
  unfold EncPost
  unfold PtPost at HC
  generalize chkE r = CE at *
  generalize encV r = EV at *
  generalize encS r = ES at *
  obtain ⟨K, id, au, aq, iss, me, ca, a, cu, d, c, f⟩ := r
  unfold Rec.val Rec.cells at *
  dsimp only at *
  clear hr
  cases q : (CE != 0)
  case true =>
    have hne : CE ≠ 0 := by simpa using q
    have HE := Lib.hid (show EV = ⟨#[]⟩ by rw [HV.out, if_neg hne])
    clear hne
    go_enter Tryz.func34, Tryz.ntmps34
    go_wp2_with fail
    refine (HC.out _).mono ?_
    rintro e w1 ⟨rfl, hb⟩
    obtain ⟨hk1, -, hb1⟩ := box1 hb
    have HB := Lib.hid hb1
    have HK := Lib.hid hk1
    clear hb hk1 hb1
    obtain ⟨-, r0, r1, r2, r3, r4, r5, r6, r7, r8, r9, r10, r11⟩ := row12 (Below.refl _ _) HK.out
    go_wp2_with fail
    refine (HC.out _).mono ?_
    rintro e w2 ⟨rfl, hb⟩
    have HB2 := Lib.hid (HB.out.trans (hb.mono HB.out.size))
    clear hb r0 r1 r2 r3 r4 r5 r6 r7 r8 r9 r10 r11
    go_wp2_with fail
    go_ret2
    exact ⟨by rw [HE.out]; rfl, HB2.out⟩
  case false =>
    have h0 : CE = 0 := by simpa using q
    subst h0
    have HE := Lib.hid (show EV = ES by rw [HV.out, if_pos rfl])
    obtain ⟨i1, i2, i3, i4, i5, i6, i7, i8⟩ := HI.out rfl
    clear q
    obtain ⟨kN, rfl⟩ : ∃ n : Nat, K = n := ⟨K.toNat, by omega⟩
    obtain ⟨aN, rfl⟩ : ∃ n : Nat, a = n := ⟨a.toNat, by omega⟩
    obtain ⟨dN, rfl⟩ : ∃ n : Nat, d = n := ⟨d.toNat, by omega⟩
    obtain ⟨cN, rfl⟩ : ∃ n : Nat, c = n := ⟨c.toNat, by omega⟩
    have D1 := Lib.hid (fun W => rnumber_any kN W (by omega))
    have D2 := Lib.hid (fun W => rdec_any aN W (by omega))
    have D3 := Lib.hid (fun W => rnumber_any dN W (by omega))
    have D4 := Lib.hid (fun W => rnumber_any cN W (by omega))
    have z1 := ito21 (v := (kN : Int)) (by omega) (by omega)
    have z2 := ito21 (v := (aN : Int)) (by omega) (by omega)
    have z3 := ito21 (v := (dN : Int)) (by omega) (by omega)
    have z4 := ito21 (v := (cN : Int)) (by omega) (by omega)
    generalize itoS (kN : Int) = S1 at *
    generalize itoS (aN : Int) = S2 at *
    generalize itoS (dN : Int) = S3 at *
    generalize itoS (cN : Int) = S4 at *
    have hbz : ((ByteArray.mk #[124])).size = 1 := rfl
    have cat1 := fun W => run_string_add_sum (P := Tryz.prog) (w := W) S1 (ByteArray.mk #[124]) (by omega)
    obtain ⟨T1, hT1⟩ : ∃ T, S1 ++ (ByteArray.mk #[124]) = T := ⟨_, rfl⟩
    have hT1z : T1.size ≤ 22 := by rw [← hT1, ByteArray.size_append]; omega
    rw [hT1] at cat1 HS
    have cat2 := fun W => run_string_add_sum (P := Tryz.prog) (w := W) T1 id (by omega)
    obtain ⟨T2, hT2⟩ : ∃ T, T1 ++ id = T := ⟨_, rfl⟩
    have hT2z : T2.size ≤ 1000022 := by rw [← hT2, ByteArray.size_append]; omega
    rw [hT2] at cat2 HS
    have cat3 := fun W => run_string_add_sum (P := Tryz.prog) (w := W) T2 (ByteArray.mk #[124]) (by omega)
    obtain ⟨T3, hT3⟩ : ∃ T, T2 ++ (ByteArray.mk #[124]) = T := ⟨_, rfl⟩
    have hT3z : T3.size ≤ 1000023 := by rw [← hT3, ByteArray.size_append]; omega
    rw [hT3] at cat3 HS
    have cat4 := fun W => run_string_add_sum (P := Tryz.prog) (w := W) T3 au (by omega)
    obtain ⟨T4, hT4⟩ : ∃ T, T3 ++ au = T := ⟨_, rfl⟩
    have hT4z : T4.size ≤ 2000023 := by rw [← hT4, ByteArray.size_append]; omega
    rw [hT4] at cat4 HS
    have cat5 := fun W => run_string_add_sum (P := Tryz.prog) (w := W) T4 (ByteArray.mk #[124]) (by omega)
    obtain ⟨T5, hT5⟩ : ∃ T, T4 ++ (ByteArray.mk #[124]) = T := ⟨_, rfl⟩
    have hT5z : T5.size ≤ 2000024 := by rw [← hT5, ByteArray.size_append]; omega
    rw [hT5] at cat5 HS
    have cat6 := fun W => run_string_add_sum (P := Tryz.prog) (w := W) T5 aq (by omega)
    obtain ⟨T6, hT6⟩ : ∃ T, T5 ++ aq = T := ⟨_, rfl⟩
    have hT6z : T6.size ≤ 3000024 := by rw [← hT6, ByteArray.size_append]; omega
    rw [hT6] at cat6 HS
    have cat7 := fun W => run_string_add_sum (P := Tryz.prog) (w := W) T6 (ByteArray.mk #[124]) (by omega)
    obtain ⟨T7, hT7⟩ : ∃ T, T6 ++ (ByteArray.mk #[124]) = T := ⟨_, rfl⟩
    have hT7z : T7.size ≤ 3000025 := by rw [← hT7, ByteArray.size_append]; omega
    rw [hT7] at cat7 HS
    have cat8 := fun W => run_string_add_sum (P := Tryz.prog) (w := W) T7 iss (by omega)
    obtain ⟨T8, hT8⟩ : ∃ T, T7 ++ iss = T := ⟨_, rfl⟩
    have hT8z : T8.size ≤ 4000025 := by rw [← hT8, ByteArray.size_append]; omega
    rw [hT8] at cat8 HS
    have cat9 := fun W => run_string_add_sum (P := Tryz.prog) (w := W) T8 (ByteArray.mk #[124]) (by omega)
    obtain ⟨T9, hT9⟩ : ∃ T, T8 ++ (ByteArray.mk #[124]) = T := ⟨_, rfl⟩
    have hT9z : T9.size ≤ 4000026 := by rw [← hT9, ByteArray.size_append]; omega
    rw [hT9] at cat9 HS
    have cat10 := fun W => run_string_add_sum (P := Tryz.prog) (w := W) T9 me (by omega)
    obtain ⟨T10, hT10⟩ : ∃ T, T9 ++ me = T := ⟨_, rfl⟩
    have hT10z : T10.size ≤ 5000026 := by rw [← hT10, ByteArray.size_append]; omega
    rw [hT10] at cat10 HS
    have cat11 := fun W => run_string_add_sum (P := Tryz.prog) (w := W) T10 (ByteArray.mk #[124]) (by omega)
    obtain ⟨T11, hT11⟩ : ∃ T, T10 ++ (ByteArray.mk #[124]) = T := ⟨_, rfl⟩
    have hT11z : T11.size ≤ 5000027 := by rw [← hT11, ByteArray.size_append]; omega
    rw [hT11] at cat11 HS
    have cat12 := fun W => run_string_add_sum (P := Tryz.prog) (w := W) T11 ca (by omega)
    obtain ⟨T12, hT12⟩ : ∃ T, T11 ++ ca = T := ⟨_, rfl⟩
    have hT12z : T12.size ≤ 6000027 := by rw [← hT12, ByteArray.size_append]; omega
    rw [hT12] at cat12 HS
    have cat13 := fun W => run_string_add_sum (P := Tryz.prog) (w := W) T12 (ByteArray.mk #[124]) (by omega)
    obtain ⟨T13, hT13⟩ : ∃ T, T12 ++ (ByteArray.mk #[124]) = T := ⟨_, rfl⟩
    have hT13z : T13.size ≤ 6000028 := by rw [← hT13, ByteArray.size_append]; omega
    rw [hT13] at cat13 HS
    have cat14 := fun W => run_string_add_sum (P := Tryz.prog) (w := W) T13 S2 (by omega)
    obtain ⟨T14, hT14⟩ : ∃ T, T13 ++ S2 = T := ⟨_, rfl⟩
    have hT14z : T14.size ≤ 6000049 := by rw [← hT14, ByteArray.size_append]; omega
    rw [hT14] at cat14 HS
    have cat15 := fun W => run_string_add_sum (P := Tryz.prog) (w := W) T14 (ByteArray.mk #[124]) (by omega)
    obtain ⟨T15, hT15⟩ : ∃ T, T14 ++ (ByteArray.mk #[124]) = T := ⟨_, rfl⟩
    have hT15z : T15.size ≤ 6000050 := by rw [← hT15, ByteArray.size_append]; omega
    rw [hT15] at cat15 HS
    have cat16 := fun W => run_string_add_sum (P := Tryz.prog) (w := W) T15 cu (by omega)
    obtain ⟨T16, hT16⟩ : ∃ T, T15 ++ cu = T := ⟨_, rfl⟩
    have hT16z : T16.size ≤ 7000050 := by rw [← hT16, ByteArray.size_append]; omega
    rw [hT16] at cat16 HS
    have cat17 := fun W => run_string_add_sum (P := Tryz.prog) (w := W) T16 (ByteArray.mk #[124]) (by omega)
    obtain ⟨T17, hT17⟩ : ∃ T, T16 ++ (ByteArray.mk #[124]) = T := ⟨_, rfl⟩
    have hT17z : T17.size ≤ 7000051 := by rw [← hT17, ByteArray.size_append]; omega
    rw [hT17] at cat17 HS
    have cat18 := fun W => run_string_add_sum (P := Tryz.prog) (w := W) T17 S3 (by omega)
    obtain ⟨T18, hT18⟩ : ∃ T, T17 ++ S3 = T := ⟨_, rfl⟩
    have hT18z : T18.size ≤ 7000072 := by rw [← hT18, ByteArray.size_append]; omega
    rw [hT18] at cat18 HS
    have cat19 := fun W => run_string_add_sum (P := Tryz.prog) (w := W) T18 (ByteArray.mk #[124]) (by omega)
    obtain ⟨T19, hT19⟩ : ∃ T, T18 ++ (ByteArray.mk #[124]) = T := ⟨_, rfl⟩
    have hT19z : T19.size ≤ 7000073 := by rw [← hT19, ByteArray.size_append]; omega
    rw [hT19] at cat19 HS
    have cat20 := fun W => run_string_add_sum (P := Tryz.prog) (w := W) T19 S4 (by omega)
    obtain ⟨T20, hT20⟩ : ∃ T, T19 ++ S4 = T := ⟨_, rfl⟩
    have hT20z : T20.size ≤ 7000094 := by rw [← hT20, ByteArray.size_append]; omega
    rw [hT20] at cat20 HS
    have catY := fun W => run_string_add_sum (P := Tryz.prog) (w := W) T20 (ByteArray.mk #[124, 49]) (by have : (ByteArray.mk #[124, 49]).size = 2 := rfl; omega)
    have catN := fun W => run_string_add_sum (P := Tryz.prog) (w := W) T20 (ByteArray.mk #[124, 48]) (by have : (ByteArray.mk #[124, 48]).size = 2 := rfl; omega)
    clear hT1 hT2 hT3 hT4 hT5 hT6 hT7 hT8 hT9 hT10 hT11 hT12 hT13 hT14 hT15 hT16 hT17 hT18 hT19 hT20 z1 z2 z3 z4 hbz hsz i1 i2 i3 i4 i5 i6 i7 i8
    obtain ⟨TF, hTF⟩ : ∃ T, T20 ++ (ByteArray.mk #[124, 48]) = T := ⟨_, rfl⟩
    obtain ⟨TT, hTT⟩ : ∃ T, T20 ++ (ByteArray.mk #[124, 49]) = T := ⟨_, rfl⟩
    rw [hTT] at catY
    rw [hTF] at catN
    have HFT := Lib.hid (And.intro hTF hTT)
    clear hTF hTT
    go_enter Tryz.func34, Tryz.ntmps34
    go_wp2_with fail
    refine (HC.out _).mono ?_
    rintro e w1 ⟨rfl, hb⟩
    obtain ⟨hk1, -, hb1⟩ := box1 hb
    have HB := Lib.hid hb1
    have HK := Lib.hid hk1
    clear hb hk1 hb1
    obtain ⟨-, r0, r1, r2, r3, r4, r5, r6, r7, r8, r9, r10, r11⟩ := row12 (Below.refl _ _) HK.out
    go_wp2_with fail
    go_quiet ((go_at_call 81; with_reducible exact quiet_left (D1.out _)))
    go_wp2_with fail
    rename Nat => nq
    clear r0 r1 r2 r3 r4 r5 r6 r7 r8 r9 r10 r11
    have HB2 := Lib.hid (show Below w.heap.size w (w1.drewN nq) from dNb HB.out _)
    have HK2 := Lib.hid (show (w1.drewN nq).heap[w.heap.size]? = some (.cells #[.int .i64 (kN : Int), .string id, .string au, .string aq, .string iss, .string me, .string ca, .int .i64 (aN : Int), .string cu, .int .i64 (dN : Int), .int .i64 (cN : Int), .bool f] 57) from HK.out)
    generalize w1.drewN nq = w2 at *
    obtain ⟨-, r0, r1, r2, r3, r4, r5, r6, r7, r8, r9, r10, r11⟩ := row12 (Below.refl _ _) HK2.out
    go_quiet ((first | (go_at_call 82; with_reducible exact quiet_left (D2.out _)) | (go_at_call 81; with_reducible exact quiet_left (D3.out _)) | (go_at_call 81; with_reducible exact quiet_left (D4.out _))))
    cases f with
    | false =>
      go_wp2_with fail
      go_ret2
      exact ⟨by rw [HE.out, HS.out, show finT false = ByteArray.mk #[124, 48] from rfl, HFT.out.1]; rfl, dNb HB2.out _⟩
    | true =>
      go_wp2_with fail
      go_ret2
      exact ⟨by rw [HE.out, HS.out, show finT true = ByteArray.mk #[124, 49] from rfl, HFT.out.2]; rfl, dNb HB2.out _⟩
set_option maxRecDepth 100000 in
set_option maxHeartbeats 3200000 in
theorem rdebit_any (r : Rec) (hr : r.Fit) (w : World) : Calls Tryz.prog 38 #[r.val] w (IPost (debV r) w) := by
  have HD : Hid (debV r = if chkE r = 0 then (if r.k = 1 ∨ r.k = 4 then r.a else -r.a) else 0) := Lib.hid rfl
  have HC := Lib.hid (fun W => rchk_any r hr W)
  have HI := Lib.hid (Fit.ints r)
  unfold IPost
  unfold PtPost at HC
  generalize debV r = D at *
  generalize chkE r = CE at *
  clear hr
  obtain ⟨K, id, au, aq, iss, me, ca, a, cu, d, c, f⟩ := r
  unfold Rec.val Rec.cells at *
  dsimp only at *
  cases q : (CE != 0)
  case true =>
    have HE := Lib.hid (show D = 0 by rw [HD.out, if_neg (by simpa using q)])
    go_enter Tryz.func38, Tryz.ntmps38
    go_wp2_with fail
    refine (HC.out _).mono ?_
    rintro e w1 ⟨rfl, hb⟩
    have HB := Lib.hid (box1 hb).2.2
    clear hb
    go_wp2_with fail
    go_ret
    exact ⟨by rw [HE.out]; rfl, HB.out⟩
  case false =>
    have h0 : CE = 0 := by simpa using q
    subst h0
    have hi := HI.out rfl
    have hc : K = 1 ∨ K = 2 ∨ K = 3 ∨ K = 4 := by omega
    have a1 : 1 ≤ a := hi.2.2.1
    have a2 : a ≤ 999999999999 := hi.2.2.2.1
    clear q hi
    rcases hc with rfl | rfl | rfl | rfl
    all_goals
      have HE := Lib.hid (show D = _ by rw [HD.out, if_pos rfl])
      go_enter Tryz.func38, Tryz.ntmps38
      go_wp2_with fail
      refine (HC.out _).mono ?_
      rintro e w1 ⟨rfl, hb⟩
      have k0 := cell_c (box1 hb).1 0
      have k7 := cell_c (box1 hb).1 7
      have HB := Lib.hid (box1 hb).2.2
      clear hb
      go_wp2_with fail
      go_ret
      exact ⟨by rw [HE.out]; rfl, HB.out⟩
/-- The name of a kind. -/
def nameV (k : Int) : ByteArray := if k = 1 then ⟨#[112, 114, 101, 115, 101, 110, 116, 109, 101, 110, 116]⟩ else if k = 2 then ⟨#[114, 101, 102, 117, 110, 100]⟩ else if k = 3 then ⟨#[99, 104, 97, 114, 103, 101, 98, 97, 99, 107]⟩ else if k = 4 then ⟨#[114, 101, 112, 114, 101, 115, 101, 110, 116, 109, 101, 110, 116]⟩ else ⟨#[]⟩
theorem name_any (k : Int) (w : World) : Calls Tryz.prog 39 #[.int .i64 k] w fun e w' => e = .returned (.string (nameV k)) ∧ w = w' := by
  have HN : Hid (nameV k = _) := Lib.hid (show nameV k = (if k = 1 then ⟨#[112, 114, 101, 115, 101, 110, 116, 109, 101, 110, 116]⟩ else if k = 2 then ⟨#[114, 101, 102, 117, 110, 100]⟩ else if k = 3 then ⟨#[99, 104, 97, 114, 103, 101, 98, 97, 99, 107]⟩ else if k = 4 then ⟨#[114, 101, 112, 114, 101, 115, 101, 110, 116, 109, 101, 110, 116]⟩ else ⟨#[]⟩) from rfl)
  have hc : k = 1 ∨ k = 2 ∨ k = 3 ∨ k = 4 ∨ (k ≠ 1 ∧ k ≠ 2 ∧ k ≠ 3 ∧ k ≠ 4) := by omega
  rcases hc with rfl | rfl | rfl | rfl | ⟨q1, q2, q3, q4⟩
  iterate 4
    · go_enter Tryz.func39, Tryz.ntmps39
      go_wp2_with fail
      go_ret
      exact ⟨by rw [HN.out]; rfl, rfl⟩
  · have HE := Lib.hid (show nameV k = ⟨#[]⟩ by rw [HN.out, if_neg q1, if_neg q2, if_neg q3, if_neg q4])
    have e1 : (k == 1) = false := by simpa using q1
    have e2 : (k == 2) = false := by simpa using q2
    have e3 : (k == 3) = false := by simpa using q3
    have e4 : (k == 4) = false := by simpa using q4
    clear q1 q2 q3 q4 HN
    go_enter Tryz.func39, Tryz.ntmps39
    go_wp2_with fail
    go_ret
    exact ⟨by rw [HE.out]; rfl, rfl⟩
theorem rname_any2 (k : Int) (w : World) : Calls Tryz.prog 40 #[.int .i64 k] w fun e w' => e = .returned (.string (nameV k)) ∧ w = w' := by
  have HN : Hid (nameV k = _) := Lib.hid (show nameV k = (if k = 1 then ⟨#[112, 114, 101, 115, 101, 110, 116, 109, 101, 110, 116]⟩ else if k = 2 then ⟨#[114, 101, 102, 117, 110, 100]⟩ else if k = 3 then ⟨#[99, 104, 97, 114, 103, 101, 98, 97, 99, 107]⟩ else if k = 4 then ⟨#[114, 101, 112, 114, 101, 115, 101, 110, 116, 109, 101, 110, 116]⟩ else ⟨#[]⟩) from rfl)
  have hc : k = 1 ∨ k = 2 ∨ k = 3 ∨ k = 4 ∨ (k ≠ 1 ∧ k ≠ 2 ∧ k ≠ 3 ∧ k ≠ 4) := by omega
  rcases hc with rfl | rfl | rfl | rfl | ⟨q1, q2, q3, q4⟩
  iterate 4
    · go_enter Tryz.func40, Tryz.ntmps40
      go_wp2_with fail
      go_ret
      exact ⟨by rw [HN.out]; rfl, rfl⟩
  · have HE := Lib.hid (show nameV k = ⟨#[]⟩ by rw [HN.out, if_neg q1, if_neg q2, if_neg q3, if_neg q4])
    have e1 : (k == 1) = false := by simpa using q1
    have e2 : (k == 2) = false := by simpa using q2
    have e3 : (k == 3) = false := by simpa using q3
    have e4 : (k == 4) = false := by simpa using q4
    clear q1 q2 q3 q4 HN
    go_enter Tryz.func40, Tryz.ntmps40
    go_wp2_with fail
    go_ret
    exact ⟨by rw [HE.out]; rfl, rfl⟩
end Go.Proofs.YthflmdgfenojcaaGreatDoor
