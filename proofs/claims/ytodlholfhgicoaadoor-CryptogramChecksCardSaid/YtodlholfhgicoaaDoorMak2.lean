/- The walk of the reference's Data and Make. -/
import Derived.Test.YtodlholfhgicoaaDoorMak
namespace Go.Proofs.YtodlholfhgicoaaDoor
set_option linter.unusedVariables false
open Go.RowKit Go.Sort

theorem quiet_left {P : Program} {f : FuncId} {args : Array Value} {w : World} {n : Nat} {v : Value}
    (h : Calls P f args (w.drewN n) fun e w' => e = .returned v ∧ w.drewN n = w') : Calls P f args (w.drewN n) fun e w'' => e = .returned v ∧ ∃ m, w'' = w.drewN m :=
  h.mono fun _ _ ⟨he, hm⟩ => ⟨he, n, hm.symm⟩
set_option maxRecDepth 100000 in
set_option maxHeartbeats 6400000 in
theorem rdata_any (c a : Int) (cur nonce : ByteArray) (w : World) (c1 : ¬ c < 1) (c2 : ¬ 999999 < c) (m2 : -4503599627370496 ≤ a) (m3 : a ≤ 4503599627370496) (hcz : cur.size = 3) (hnz : nonce.size ≤ 8) :
    Calls Tryd.prog 36 #[.int .i64 c, .agg #[.int .i64 a, .string cur], .string nonce] w fun e w' => e = .returned (.string (dataS c a cur nonce)) ∧ Below w.heap.size w w' := by
  have hz1 := itoaS_size c (by omega) (by omega)
  have hz2 := itoaS_size a (by omega) (by omega)
  have HDS : Hid (dataS c a cur nonce = itoaS c ++ (ByteArray.mk #[47]) ++ itoaS a ++ (ByteArray.mk #[47]) ++ cur ++ (ByteArray.mk #[47]) ++ nonce) := Lib.hid rfl
  have HD1 := Lib.hid (fun W => rdecimal_any c W (by omega) (by omega))
  have HD2 := Lib.hid (fun W => rdecimal_any a W (by omega) (by omega))
  generalize itoaS c = S1 at *
  generalize itoaS a = S2 at *
  have cat1 := fun W => run_string_add_sum (P := Tryd.prog) (w := W) S1 (ByteArray.mk #[47]) (by show _ + 1 ≤ _; omega)
  obtain ⟨T1, hT1⟩ : ∃ T, S1 ++ (ByteArray.mk #[47]) = T := ⟨_, rfl⟩
  have hT1z : T1.size ≤ 22 := by rw [← hT1, ByteArray.size_append]; show _ + 1 ≤ _; omega
  rw [hT1] at cat1 HDS
  have cat2 := fun W => run_string_add_sum (P := Tryd.prog) (w := W) T1 S2 (by omega)
  obtain ⟨T2, hT2⟩ : ∃ T, T1 ++ S2 = T := ⟨_, rfl⟩
  have hT2z : T2.size ≤ 43 := by rw [← hT2, ByteArray.size_append]; omega
  rw [hT2] at cat2 HDS
  have cat3 := fun W => run_string_add_sum (P := Tryd.prog) (w := W) T2 (ByteArray.mk #[47]) (by show _ + 1 ≤ _; omega)
  obtain ⟨T3, hT3⟩ : ∃ T, T2 ++ (ByteArray.mk #[47]) = T := ⟨_, rfl⟩
  have hT3z : T3.size ≤ 44 := by rw [← hT3, ByteArray.size_append]; show _ + 1 ≤ _; omega
  rw [hT3] at cat3 HDS
  have cat4 := fun W => run_string_add_sum (P := Tryd.prog) (w := W) T3 cur (by omega)
  obtain ⟨T4, hT4⟩ : ∃ T, T3 ++ cur = T := ⟨_, rfl⟩
  have hT4z : T4.size ≤ 47 := by rw [← hT4, ByteArray.size_append]; omega
  rw [hT4] at cat4 HDS
  have cat5 := fun W => run_string_add_sum (P := Tryd.prog) (w := W) T4 (ByteArray.mk #[47]) (by show _ + 1 ≤ _; omega)
  obtain ⟨T5, hT5⟩ : ∃ T, T4 ++ (ByteArray.mk #[47]) = T := ⟨_, rfl⟩
  have hT5z : T5.size ≤ 48 := by rw [← hT5, ByteArray.size_append]; show _ + 1 ≤ _; omega
  rw [hT5] at cat5 HDS
  have cat6 := fun W => run_string_add_sum (P := Tryd.prog) (w := W) T5 nonce (by omega)
  obtain ⟨T6, hT6⟩ : ∃ T, T5 ++ nonce = T := ⟨_, rfl⟩
  have hT6z : T6.size ≤ 56 := by rw [← hT6, ByteArray.size_append]; omega
  rw [hT6] at cat6 HDS
  clear hT1 hT2 hT3 hT4 hT5 hT6 hz1 hz2 hcz
  have hcz : True := trivial
  go_enter Tryd.func36, Tryd.ntmps36
  go_wp2_with fail
  go_quiet ((first | (go_at_call 57; with_reducible exact quiet_left (HD1.out _)) | (go_at_call 57; with_reducible exact quiet_left (HD2.out _))))
  go_wp2_with fail
  go_ret
  exact ⟨by rw [HDS.out]; rfl, dNb (alloc_lt _ _) _⟩
set_option maxRecDepth 100000 in
set_option maxHeartbeats 12800000 in
theorem rmake_any (k : Nat) (token : ByteArray) (c a : Int) (cur nonce : ByteArray) (w : World) (hw : KW w) (hk : k < M64) (h1 : token.size ≤ maxLen) (h2 : cur.size ≤ maxLen) (h3 : nonce.size ≤ maxLen) :
    Calls Tryd.prog 11 #[.int .u64 k, .string token, .int .i64 c, .agg #[.int .i64 a, .string cur], .string nonce] w (MkPost k token c a cur nonce w) := by
  have HP := Lib.hid (fun W => rpan_any token W h1)
  have HM := Lib.hid (fun W => rmon_any a cur W h2)
  have HW := Lib.hid hw
  have HE : Hid (mkE token c a cur nonce = if panE token ≠ 0 then 17 else if c < 1 ∨ 999999 < c then 4 else if monE a cur ≠ 0 then monE a cur else if nonB nonce = false then 2 else 0) := Lib.hid rfl
  have HV : Hid (mkV k token c a cur nonce = if mkE token c a cur nonce = 0 then mkS k token c a cur nonce else ⟨#[]⟩) := Lib.hid rfl
  clear hw
  by_cases hp : panE token = 0
  · rw [hp] at HP
    by_cases hc : c < 1 ∨ 999999 < c
    · have HE4 : Hid (mkE token c a cur nonce = 4) := Lib.hid (by rw [HE.out, if_neg (by rw [hp]; simp), if_pos hc])
      have HV4 : Hid (mkV k token c a cur nonce = ⟨#[]⟩) := Lib.hid (by rw [HV.out, HE4.out]; rfl)
      have hcc : c < 1 ∨ (¬ c < 1 ∧ 999999 < c) := by omega
      clear hp hc h1 h2 h3
      rcases hcc with q | ⟨q, q2⟩
      all_goals
        go_enter Tryd.func11, Tryd.ntmps11
        go_wp2_with fail
        refine (HP.out _).mono ?_
        rintro e w1 ⟨rfl, hb⟩
        have HB1 := Lib.hid (box1 hb).2.2
        clear hb
        go_wp2_with fail
        go_ret2
        exact ⟨by rw [HE4.out, HV4.out]; rfl, HB1.out⟩
    · have c1 : ¬ c < 1 := by omega
      have c2 : ¬ 999999 < c := by omega
      by_cases hm : monE a cur = 0
      · rw [hm] at HM
        obtain ⟨m1, m2, m3⟩ := monE_ok hm
        have hcz := curB_sz m1
        have htz := panE_size hp
        by_cases h8 : nonce.size ≤ 8
        · have HNO := Lib.hid (fun j (h : j < nonce.size) hl => non_no (s := nonce) j h hl)
          have HYES := Lib.hid (fun h => non_yes (s := nonce) h8 h)
          have HE2 : Hid (nonB nonce = false → mkE token c a cur nonce = 2 ∧ mkV k token c a cur nonce = ⟨#[]⟩) := Lib.hid (fun hn => by
            have e1 : mkE token c a cur nonce = 2 := by rw [HE.out, if_neg (by rw [hp]; simp), if_neg hc, if_neg (by rw [hm]; simp), if_pos hn]
            exact ⟨e1, by rw [HV.out, e1]; rfl⟩)
          have HE0 : Hid (nonB nonce = true → mkE token c a cur nonce = 0 ∧ mkV k token c a cur nonce = mkS k token c a cur nonce) := Lib.hid (fun hn => by
            have e1 : mkE token c a cur nonce = 0 := by rw [HE.out, if_neg (by rw [hp]; simp), if_neg hc, if_neg (by rw [hm]; simp), if_neg (by rw [hn]; simp)]
            exact ⟨e1, by rw [HV.out, e1]; rfl⟩)
          have h8' : ¬ (8 : Int) < (nonce.size : Int) := by omega
          have HMS : Hid (mkS k token c a cur nonce = textS (macOf (macOf k (lab ++ token).data.toList) (dataS c a cur nonce).data.toList)) := Lib.hid rfl
          have HDE := Lib.hid (fun W => rderive_any k token W hk (by omega))
          have hdz : (dataS c a cur nonce).size ≤ 1000 := by
            have e1 := itoaS_size c (by omega) (by omega)
            have e2 := itoaS_size a (by omega) (by omega)
            have e3 : sl.size = 1 := rfl
            unfold dataS
            rw [ByteArray.size_append, ByteArray.size_append, ByteArray.size_append, ByteArray.size_append, ByteArray.size_append, ByteArray.size_append]
            omega
          have HDA := Lib.hid (fun W => rdata_any c a cur nonce W c1 c2 m2 m3 hcz (by omega))
          generalize dataS c a cur nonce = T6 at *
          have HMA := Lib.hid (fun W => rmac_any (macOf k (lab ++ token).data.toList) T6 W (macOf_lt _ _) (by omega))
          have HTX := Lib.hid (fun W => rtext_any (macOf (macOf k (lab ++ token).data.toList) T6.data.toList) W (macOf_lt _ _))
          generalize macOf k (lab ++ token).data.toList = K2 at *
          generalize macOf K2 T6.data.toList = K3 at *
          clear hcz htz hp hc hm m1 m2 m3 h1 h2 h3 hk hdz
          go_enter Tryd.func11, Tryd.ntmps11
          go_wp2_with fail
          refine (HP.out _).mono ?_
          rintro e w1 ⟨rfl, hb⟩
          obtain ⟨kk, z1, hb1⟩ := box1 hb
          have a0 := cell_c kk 0
          have a1 := cell_c kk 1
          have KK := Lib.hid kk
          have HB1 := Lib.hid hb1
          clear hb hb1 kk
          go_wp2_with fail
          refine (HM.out _).mono ?_
          rintro e w2 ⟨rfl, hb⟩
          have HB2 := Lib.hid (HB1.out.trans (hb.mono HB1.out.size))
          have KK := Lib.hid (blk_later KK.out hb)
          clear a0 a1 hb
          go_wp2_with fail
          go_loop [12] (fun i => ∃ j : Nat, j ≤ nonce.size ∧ i = .int .i64 j ∧ Hid (∀ t, (h : t < j) → (h' : t < nonce.size) → nonC (nonce[t]) = true)) (fun i => nonce.size - (intOf i).toNat)
          case atStart => exact ⟨0, Nat.zero_le _, rfl, Lib.hid (fun j h _ => by omega)⟩
          case round =>
            obtain ⟨j, hj, rfl, hall⟩ := hrel
            by_cases hlt : j < nonce.size
            · obtain ⟨b, hbb⟩ : ∃ b, (nonce[j]).toNat = b := ⟨_, rfl⟩
              have hc8 : b < 256 := by rw [← hbb]; exact UInt8.toNat_lt _
              have HC := Lib.hid hbb
              by_cases x1 : b < 33
              · have HF := Lib.hid (HE2.out (HNO.out j hlt (by unfold nonC; rw [hbb, decide_eq_false (by omega)]; rfl)))
                have x1' : (b : Int) < 33 := by omega
                go_wp2_with fail
                go_ret2
                exact ⟨by rw [HF.out.1, HF.out.2]; rfl, HB2.out⟩
              · by_cases x2 : 126 < b
                · have HF := Lib.hid (HE2.out (HNO.out j hlt (by unfold nonC; rw [hbb, decide_eq_false (show ¬ b ≤ 126 by omega), Bool.and_false])))
                  have x1' : ¬ (b : Int) < 33 := by omega
                  have x2' : (126 : Int) < (b : Int) := by omega
                  go_wp2_with fail
                  go_ret2
                  exact ⟨by rw [HF.out.1, HF.out.2]; rfl, HB2.out⟩
                · have hN := Lib.hid (show ∀ t, (h : t < j + 1) → (h' : t < nonce.size) → nonC (nonce[t]) = true from fun t ht ht' => by
                    rcases Nat.lt_or_ge t j with q | q
                    · exact hall.out t q ht'
                    · obtain rfl : t = j := by omega
                      unfold nonC; rw [hbb, decide_eq_true (by omega), decide_eq_true (by omega)]; rfl)
                  have x1' : ¬ (b : Int) < 33 := by omega
                  have x2' : ¬ (126 : Int) < (b : Int) := by omega
                  go_wp2_with fail
                  go_round
                  case rel => exact ⟨j + 1, by omega, by go_num, hN⟩
                  case measure => simp [intOf]; omega
            · obtain rfl : j = nonce.size := by omega
              have HF := Lib.hid (HE0.out (HYES.out (fun j h => hall.out j h h)))
              have HBW : Hid (Below w2.heap.size w2 w2.drew) := Lib.hid ((Below.refl _ _).drew)
              go_wp2_with fail
              go_region_held3 (fun w' => Below w2.heap.size w2 w' ∧ w'.cell? ⟨w.heap.size, 0, none⟩ = some (.int .i64 a) ∧ w'.cell? ⟨w.heap.size, 1, none⟩ = some (.string cur))
                (exact keepM HBW.out KK.out)
                (first
                  | (go_at_call 35; refine (HDE.out _).mono ?_; rintro e w' ⟨rfl, hb⟩; have HBW := Lib.hid (HBW.out.trans (hb.mono HBW.out.size)); clear hb)
                  | (go_at_call 36; refine (HDA.out _).mono ?_; rintro e w' ⟨rfl, hb⟩; have HBW := Lib.hid (HBW.out.trans (hb.mono HBW.out.size)); clear hb)
                  | (go_at_call 34; refine (HMA.out _).mono ?_; rintro e w' ⟨rfl, hb⟩; have HBW := Lib.hid (HBW.out.trans (hb.mono HBW.out.size)); clear hb)
                  | (go_at_call 33; refine (HTX.out _).mono ?_; rintro e w' ⟨rfl, rfl⟩))
              all_goals
                have HB5 := Lib.hid (HB2.out.trans (HBW.out.mono HB2.out.size))
                go_wp2_with fail
                go_ret2
                exact ⟨by rw [HF.out.1, HF.out.2, HMS.out]; rfl, HB5.out⟩
        · have hn := non_long (s := nonce) (by omega)
          have h8' : (8 : Int) < (nonce.size : Int) := by omega
          have HE4 : Hid (mkE token c a cur nonce = 2) := Lib.hid (by rw [HE.out, if_neg (by rw [hp]; simp), if_neg hc, if_neg (by rw [hm]; simp), if_pos hn])
          have HV4 : Hid (mkV k token c a cur nonce = ⟨#[]⟩) := Lib.hid (by rw [HV.out, HE4.out]; rfl)
          clear hp hc hm hn h1 h2 m1 m2 m3
          go_enter Tryd.func11, Tryd.ntmps11
          go_wp2_with fail
          refine (HP.out _).mono ?_
          rintro e w1 ⟨rfl, hb⟩
          obtain ⟨kk, z1, hb1⟩ := box1 hb
          have a0 := cell_c kk 0
          have a1 := cell_c kk 1
          have KK := Lib.hid kk
          have HB1 := Lib.hid hb1
          clear hb hb1 kk
          go_wp2_with fail
          refine (HM.out _).mono ?_
          rintro e w2 ⟨rfl, hb⟩
          have HB2 := Lib.hid (HB1.out.trans (hb.mono HB1.out.size))
          have KK := Lib.hid (blk_later KK.out hb)
          clear a0 a1 hb
          go_wp2_with fail
          go_ret2
          exact ⟨by rw [HE4.out, HV4.out]; rfl, HB2.out⟩
      · have HE4 : Hid (mkE token c a cur nonce = monE a cur) := Lib.hid (by rw [HE.out, if_neg (by rw [hp]; simp), if_neg hc, if_pos hm])
        have HV4 : Hid (mkV k token c a cur nonce = ⟨#[]⟩) := Lib.hid (by rw [HV.out, HE4.out, if_neg hm])
        have hm' : (monE a cur != 0) = true := bne_iff_ne.2 hm
        generalize monE a cur = ME at *
        clear hp hc hm h1 h2 h3
        go_enter Tryd.func11, Tryd.ntmps11
        go_wp2_with fail
        refine (HP.out _).mono ?_
        rintro e w1 ⟨rfl, hb⟩
        obtain ⟨kk, z1, hb1⟩ := box1 hb
        have a0 := cell_c kk 0
        have a1 := cell_c kk 1
        have KK := Lib.hid kk
        have HB1 := Lib.hid hb1
        clear hb hb1 kk
        go_wp2_with fail
        refine (HM.out _).mono ?_
        rintro e w2 ⟨rfl, hb⟩
        have HB2 := Lib.hid (HB1.out.trans (hb.mono HB1.out.size))
        clear a0 a1
        have a0 := cell_c (blk_later KK.out hb) 0
        have a1 := cell_c (blk_later KK.out hb) 1
        clear hb
        go_wp2_with fail
        refine (HM.out _).mono ?_
        rintro e w3 ⟨rfl, hb⟩
        have HB3 := Lib.hid (HB2.out.trans (hb.mono HB2.out.size))
        clear hb
        go_wp2_with fail
        go_ret2
        exact ⟨by rw [HE4.out, HV4.out]; rfl, HB3.out⟩
  · have HE4 : Hid (mkE token c a cur nonce = 17) := Lib.hid (by rw [HE.out, if_pos hp])
    have HV4 : Hid (mkV k token c a cur nonce = ⟨#[]⟩) := Lib.hid (by rw [HV.out, HE4.out]; rfl)
    have hp' : (panE token != 0) = true := bne_iff_ne.2 hp
    generalize panE token = PE at *
    clear hp h1 h2 h3
    go_enter Tryd.func11, Tryd.ntmps11
    go_wp2_with fail
    refine (HP.out _).mono ?_
    rintro e w1 ⟨rfl, hb⟩
    have HB1 := Lib.hid (box1 hb).2.2
    clear hb
    go_wp2_with fail
    go_ret2
    exact ⟨by rw [HE4.out, HV4.out]; rfl, HB1.out⟩
end Go.Proofs.YtodlholfhgicoaaDoor
