/- Part of the proof over this seat. -/
import Derived.Test.YthflmdgfenojcaaGreatDoorQRda
import Derived.Test.YthflmdgfenojcaaGreatDoorQLCd
namespace Go.Proofs.YthflmdgfenojcaaGreatDoor
set_option linter.unusedVariables false
open Go.RowKit Go.Sort
theorem neg_ito (n : Nat) (t : ByteArray) (h : t = itoS (n : Int)) (h0 : 0 < n) : (⟨#[45]⟩ : ByteArray) ++ t = itoS (-(n : Int)) := by
  apply ByteArray.ext
  apply Array.ext'
  rw [ByteArray.data_append, Array.toList_append, h]
  show [45] ++ Lib.itoa (n : Int) = Lib.itoa (-(n : Int))
  rw [Lib.itoa_nonneg, Lib.itoa_neg _ h0]; rfl
set_option maxRecDepth 100000 in
set_option maxHeartbeats 1600000 in
theorem rdecn_any (n : Nat) (w : World) (hn : n ≤ 9223372036854775808) (h0 : 0 < n) : Calls Tryz.prog 82 #[.int .i64 (-(n : Int))] w fun e w' => e = .returned (.string (itoS (-(n : Int)))) ∧ w = w' := by
  have HST : Hid (DecI n n ⟨#[]⟩) := Lib.hid (by unfold DecI; simp)
  have H20 := Lib.hid (nd20 n (by omega))
  have HNG := Lib.hid (fun t h => neg_ito n t h h0)
  have n0 : -(n : Int) < 0 := by omega
  have n0d : decide (-(n : Int) < 0) = true := decide_eq_true n0
  go_enter Tryz.func82, Tryz.ntmps82
  go_name_bytes_deep 10 HL hHL
  have eHL : HL = decLit := by rw [← hHL]; decide +kernel
  subst eHL
  clear hHL
  go_wp2_with fail
  clear n0 n0d
  go_loopw [0, 4] (fun vn vs wr => ∃ (m : Nat) (s : ByteArray), vn = .int .i64 (-(m : Int)) ∧ vs = .string s ∧ m ≤ n ∧ s.size ≤ 20 ∧ wr = w ∧ Hid (DecI n m s)) (fun vn _ _ => (-(intOf vn)).toNat)
  case atStart => exact ⟨n, ⟨#[]⟩, rfl, rfl, Nat.le_refl _, by show 0 ≤ 20; omega, rfl, HST⟩
  case round =>
    obtain ⟨m, s, rfl, rfl, hmn, hsz, rfl, hI⟩ := hrel
    obtain ⟨t, ht⟩ : ∃ t, (ByteArray.mk #[UInt8.ofNat (48 + m % 10)]) ++ s = t := ⟨_, rfl⟩
    have hm9 : m ≤ 9223372036854775808 := by omega
    by_cases hz : m % 10 = 0
    · have hsl : ∀ W, (Instr.slice 9 (.string decLit) (some (.int .i64 0)) (some (.int .i64 1)) none).run Tryz.prog W = .ok (.string ⟨#[UInt8.ofNat (48 + m % 10)]⟩) W := fun W => by
        rw [run_slice_string W 9 decLit .i64 .i64 _ _ Tryz.underlying9 (by omega) (by omega) (by rw [decLit_size]; omega), show (0 : Int).toNat = 0 from rfl, show (1 : Int).toNat = 0 + 1 from rfl, ← hz, decLit_piece (m % 10) (by omega)]
      have h1sz : (ByteArray.mk #[UInt8.ofNat (48 + m % 10)]).size = 1 := rfl
      have hzI : (m : Int) % 10 = 0 := by omega
      by_cases hm : m < 10
      · have HE := Lib.hid (decI_end hI.out hm ht)
        have q : (-((m : Int) / 10) == 0) = true := by rw [show (m : Int) / 10 = 0 by omega]; rfl
        have HNN := Lib.hid (HNG.out t (decI_end hI.out hm ht))
        have htz : t.size ≤ 21 := by
          rw [← ht, ByteArray.size_append, h1sz]; omega
        clear hI hm hmn hz
        generalize UInt8.ofNat (48 + m % 10) = b at *
        go_wp2_with fail
        go_ret
        exact ⟨by rw [← HNN.out]; rfl, rfl⟩
      · have HI2 := Lib.hid (decI_step hI.out (by omega) ht)
        have HT20 := Lib.hid (Nat.le_trans (decI_size HI2.out) H20.out)
        have q : (-((m : Int) / 10) == 0) = false := by simp; omega
        have HM := Lib.hid hm
        clear hI hm hz
        generalize UInt8.ofNat (48 + m % 10) = b at *
        go_wp2_with fail
        go_roundw
        case rel => exact ⟨m / 10, t, by go_num, rfl, by omega, HT20.out, by first | rfl | trivial, HI2⟩
        case measure => have := HM.out; simp [intOf]; omega
    · have hsl : ∀ W, (Instr.slice 9 (.string decLit) (some (.int .i64 ((m : Int) % 10))) (some (.int .i64 ((m : Int) % 10 + 1))) none).run Tryz.prog W = .ok (.string ⟨#[UInt8.ofNat (48 + m % 10)]⟩) W := fun W => by
        rw [run_slice_string W 9 decLit .i64 .i64 _ _ Tryz.underlying9 (by omega) (by omega) (by rw [decLit_size]; omega), show ((m : Int) % 10).toNat = m % 10 by omega, show ((m : Int) % 10 + 1).toNat = m % 10 + 1 by omega, decLit_piece (m % 10) (by omega)]
      have h1sz : (ByteArray.mk #[UInt8.ofNat (48 + m % 10)]).size = 1 := rfl
      have d0 : -((m : Int) % 10) < 0 := by omega
      by_cases hm : m < 10
      · have HE := Lib.hid (decI_end hI.out hm ht)
        have q : (-((m : Int) / 10) == 0) = true := by rw [show (m : Int) / 10 = 0 by omega]; rfl
        have HNN := Lib.hid (HNG.out t (decI_end hI.out hm ht))
        have htz : t.size ≤ 21 := by
          rw [← ht, ByteArray.size_append, h1sz]; omega
        clear hI hm hmn hz
        generalize UInt8.ofNat (48 + m % 10) = b at *
        go_wp2_with fail
        go_ret
        exact ⟨by rw [← HNN.out]; rfl, rfl⟩
      · have HI2 := Lib.hid (decI_step hI.out (by omega) ht)
        have HT20 := Lib.hid (Nat.le_trans (decI_size HI2.out) H20.out)
        have q : (-((m : Int) / 10) == 0) = false := by simp; omega
        have HM := Lib.hid hm
        clear hI hm hz
        generalize UInt8.ofNat (48 + m % 10) = b at *
        go_wp2_with fail
        go_roundw
        case rel => exact ⟨m / 10, t, by go_num, rfl, by omega, HT20.out, by first | rfl | trivial, HI2⟩
        case measure => have := HM.out; simp [intOf]; omega
theorem wrap_big {a b : Nat} (h : a + b = 18446744073709551616) (ha : 9223372036854775808 ≤ a) (hb : 0 < b) : IntKind.i64.wrap (a : Int) = -(b : Int) := by
  have h1 : (a : Int) % (2 ^ IntKind.i64.bits : Int) = a := by
    show (a : Int) % (18446744073709551616 : Int) = a
    omega
  have h2 : IntKind.i64.wrap (a : Int) = if (IntKind.i64.signed && decide ((a : Int) ≥ (2 ^ (IntKind.i64.bits - 1) : Int))) = true then (a : Int) - (2 ^ IntKind.i64.bits : Int) else a := by
    unfold IntKind.wrap
    simp only [h1]
  rw [h2]
  have h3 : decide ((a : Int) ≥ (2 ^ (IntKind.i64.bits - 1) : Int)) = true := decide_eq_true (by show (9223372036854775808 : Int) ≤ a; omega)
  rw [h3, if_pos (show (IntKind.i64.signed && true) = true from rfl)]
  show (a : Int) - (18446744073709551616 : Int) = -(b : Int)
  omega
theorem rn27_eq {s d : ByteArray} {g : Bool} (hd : dgS s = d.data.toList) (hg : ngS s = g) (hn : numOK s = true) : s = itoS (if g then -(spl d.data.toList : Int) else (spl d.data.toList : Int)) ∧ spl d.data.toList ≤ 9223372036854775808 ∧ (g = false → spl d.data.toList ≠ 9223372036854775808) := by
  obtain ⟨h1, h2, h3, h4, h5⟩ := numOK_form hn
  have := numOK_of h1 h2 h3 h4 h5
  rw [hd, hg] at this
  rw [hd] at h4 h5
  rw [hg] at h5
  exact ⟨(numR_some this).2, h4, h5⟩
/-- What the text of the number that was read says. -/
theorem rn27_yes {s : ByteArray} {x : Int} (h : itoS x = s) (hx : -9223372036854775808 ≤ x ∧ x ≤ 9223372036854775807) : numOK s = true ∧ numV s = x := by
  rw [← h]
  exact ⟨(numV_ito hx).2, (numV_ito hx).1⟩
theorem rn27_no {s d : ByteArray} {g : Bool} (hd : dgS s = d.data.toList) (hg : ngS s = g) (h : itoS (if g then -(spl d.data.toList : Int) else (spl d.data.toList : Int)) ≠ s) : numOK s = false := by
  cases hc : numOK s with
  | false => rfl
  | true => exact absurd (rn27_eq hd hg hc).1.symm h
theorem rn27_big {s d : ByteArray} {g : Bool} (hd : dgS s = d.data.toList) (hg : ngS s = g) (h : 9223372036854775808 < spl d.data.toList ∨ (g = false ∧ 9223372036854775808 ≤ spl d.data.toList)) : numOK s = false := by
  cases hc : numOK s with
  | false => rfl
  | true =>
    obtain ⟨-, h2, h3⟩ := rn27_eq hd hg hc
    exfalso
    rcases h with h | ⟨q, h⟩
    · omega
    · have := h3 q; omega
theorem ito_head (x : Int) : (x < 0 → (itoS x).data.toList.head? = some 45) ∧ (0 ≤ x → (itoS x).data.toList.head? ≠ some 45) := by
  have e : (itoS x).data.toList = Lib.itoa x := rfl
  rw [e]
  constructor
  · intro h
    unfold Lib.itoa; rw [if_pos h]; rfl
  · intro h
    unfold Lib.itoa; rw [if_neg (by omega)]
    obtain ⟨b, r, hf, hb⟩ := decDigits_form x.toNat
    rw [hf]
    intro q
    injection q with q
    rw [q] at hb
    have : (45 : UInt8).toNat = 45 := rfl
    omega
theorem rn27_sign {s : ByteArray} {x : Int} {g : Bool} (hg : ngS s = g) (h : (x < 0 ∧ g = false) ∨ (0 ≤ x ∧ g = true)) : itoS x ≠ s := by
  intro e
  obtain ⟨h1, h2⟩ := ito_head x
  rw [e] at h1 h2
  unfold ngS at hg
  rcases h with ⟨q, rfl⟩ | ⟨q, rfl⟩
  · have := h1 q
    rw [decide_eq_true this] at hg; cases hg
  · exact h2 q (of_decide_eq_true hg)
set_option maxRecDepth 100000 in
set_option maxHeartbeats 3200000 in
theorem rnumber27_pos (s : ByteArray) (w : World) (hs : s.size ≤ 1000000) (hpos : 0 < s.size) (h45 : (s[0]).toNat ≠ 45) : Calls Tryz.prog 163 #[.string s] w (RNum s w) := by
  unfold RNum
  have HG := Lib.hid (dg_pos (s := s) (fun _ => h45))
  have HB := Lib.hid (fun k hk h => rn_bad (s := s) (d := s) HG.out.2 k hk h)
  have HO := Lib.hid (fun k hk h => rn_over (s := s) (d := s) HG.out.2 k hk h)
  have HS := Lib.hid (fun k hk => spl_step s k hk)
  have HNO : Hid (itoS ((spl s.data.toList : Int)) ≠ s → numOK s = false) := Lib.hid (fun h => rn27_no HG.out.2 HG.out.1 h)
  have HBG := Lib.hid (rn27_big HG.out.2 HG.out.1)
  have HSG := Lib.hid (fun x h => rn27_sign (x := x) HG.out.1 h)
  have HYE := Lib.hid (fun x h hx => rn27_yes (s := s) (x := x) h hx)
  have h45b : (((s[0]).toNat : Int) == 45) = false := by simp; omega
  go_enter Tryz.func163, Tryz.ntmps163
  go_wp2_with fail
  generalize hM0 : (1000000000000000000 : Int) = M
  have HM := Lib.hid hM0
  clear hM0 h45b
  go_loop [5, 6] (fun n i => ∃ k : Nat, k ≤ s.size ∧ i = .int .i64 k ∧ n = .int .u64 (spl (s.data.toList.take k) : Int) ∧ spl (s.data.toList.take k) ≤ 10000000000000000009 ∧ Hid (∀ j, j < k → (h' : j < s.size) → isDig (s[j]))) (fun _ i => s.size - (intOf i).toNat)
  case atStart => exact ⟨0, by omega, rfl, by simp [spl], by simp [spl], Lib.hid (fun j h _ => by omega)⟩
  case round =>
    obtain ⟨k, hk, rfl, rfl, hsp, hall⟩ := hrel
    by_cases hlt : k < s.size
    · have HN0 := Lib.hid (HB.out k hlt)
      have HN1 := Lib.hid (HO.out k hlt)
      have HS0 := Lib.hid (HS.out k hlt)
      have HST := Lib.hid (fun (hd : isDig (s[k])) j (h : j < k + 1) (h' : j < s.size) => show isDig (s[j]) from by
          rcases Nat.lt_or_ge j k with c | c
          · exact hall.out j c h'
          · obtain rfl : j = k := by omega
            exact hd)
      have HSP := Lib.hid hsp
      skip
      skip
      generalize hgg : s[k] = c at *
      generalize spl (s.data.toList.take k) = a at *
      clear hsp
      by_cases hd : isDig c
      · have hd' := hd
        have HST2 := Lib.hid (HST.out hd)
        unfold isDig at hd'
        obtain ⟨hd1, hd2⟩ := hd'
        have e1 : ¬ (c.toNat : Int) < 48 := by omega
        have e2 : ¬ (57 : Int) < (c.toNat : Int) := by omega
        clear hd HST HN0
        by_cases ho : 1000000000000000000 < a
        · have HE := Lib.hid (HN1.out (by omega))
          have hc : M < (a : Int) := by rw [← HM.out]; omega
          clear ho HN1 HS0
          go_wp2_with fail
          go_ret2
          exact ⟨⟨_, by rw [HE.out]; rfl, fun h => by rw [HE.out] at h; cases h⟩, rfl⟩
        · have hc : ¬ M < (a : Int) := by rw [← HM.out]; omega
          have HA := Lib.hid (show a ≤ 1000000000000000000 by omega)
          have ha : 10 * a + (c.toNat - 48) ≤ 10000000000000000009 := by omega
          clear ho HN1
          go_wp2_with fail
          have hHA := HA.out
          clear hc
          refine ⟨⟨k + 1, by omega, by go_num, ?_, ?_, HST2⟩, by simp [intOf]; omega⟩
          · rw [HS0.out]; congr 1; omega
          · rw [HS0.out]; omega
      · have HE := Lib.hid (HN0.out hd)
        unfold isDig at hd
        clear HN1 HST HS0 HN0
        go_wp2_with fail
        all_goals first
          | (exfalso; simp at *; omega)
          | (go_ret2
             exact ⟨⟨_, by rw [HE.out]; rfl, fun h => by rw [HE.out] at h; cases h⟩, rfl⟩)
    · obtain rfl : k = s.size := by omega
      rw [List.take_of_length_le (show s.data.toList.length ≤ s.size by rw [dat_len]; exact Nat.le_refl _)] at hsp ⊢
      have hdI : ¬ (s.size : Int) < (s.size : Int) := by omega
      generalize spl s.data.toList = a at *
      clear hall HB HO HS
      rcases Nat.lt_or_ge a 9223372036854775808 with ha | ha
      · have HD := Lib.hid (fun W => rdec_any a W (by omega))
        clear HBG HSG
        by_cases he : itoS (a : Int) = s
        · have hq := ba_same (itoS (a : Int)) s he
          have HE := Lib.hid (HYE.out _ he (by omega))
          clear he
          go_wp2_with fail
          refine (HD.out _).mono ?_
          rintro e w1 ⟨rfl, rfl⟩
          go_wp2_with fail
          go_ret2
          exact ⟨⟨_, by rw [HE.out.1]; rfl, fun _ => HE.out.2.symm⟩, rfl⟩
        · have hq := ba_diff (itoS (a : Int)) s he
          have HE := Lib.hid (HNO.out he)
          clear he
          go_wp2_with fail
          refine (HD.out _).mono ?_
          rintro e w1 ⟨rfl, rfl⟩
          go_wp2_with fail
          go_ret2
          exact ⟨⟨_, by rw [HE.out]; rfl, fun h => by rw [HE.out] at h; cases h⟩, rfl⟩
      · have HE := Lib.hid (HBG.out (.inr ⟨trivial, ha⟩))
        obtain ⟨b, hb⟩ : ∃ b : Nat, a + b = 18446744073709551616 := ⟨18446744073709551616 - a, by omega⟩
        have hwr : IntKind.i64.wrap (a : Int) = -(b : Int) := wrap_big hb ha (by omega)
        have HD := Lib.hid (fun W => rdecn_any b W (by omega) (by omega))
        have HSX := Lib.hid (HSG.out (-(b : Int)) (.inl ⟨by omega, trivial⟩))
        have HSX2 := Lib.hid (show (b : Int) = 18446744073709551616 - a by omega)
        clear HBG HSG HNO HYE
        have hq := ba_diff (itoS (-(b : Int))) s HSX.out
        go_wp2_with fail
        refine (HD.out _).mono ?_
        rintro e w1 ⟨rfl, rfl⟩
        go_wp2_with fail
        go_ret2
        exact ⟨⟨_, by rw [HE.out]; rfl, fun h => by rw [HE.out] at h; cases h⟩, rfl⟩
set_option maxRecDepth 100000 in
set_option maxHeartbeats 3200000 in
theorem rnumber27_neg (s : ByteArray) (w : World) (hs : s.size ≤ 1000000) (hpos : 0 < s.size) (h45 : (s[0]).toNat = 45) (d : ByteArray) (hde : d = s.extract 1 s.size) (hdz : d.size + 1 = s.size) : Calls Tryz.prog 163 #[.string s] w (RNum s w) := by
  unfold RNum
  have HG := Lib.hid (dg_neg hpos h45)
  rw [← hde] at HG
  have HCH := Lib.hid (fun (k : Nat) (hk : k < d.size) => show s[1 + k]'(by omega) = d[k] from by
    subst hde
    simp [ByteArray.getElem_extract])
  have HB := Lib.hid (fun k hk h => rn_bad (s := s) (d := d) HG.out.2 k hk h)
  have HO := Lib.hid (fun k hk h => rn_over (s := s) (d := d) HG.out.2 k hk h)
  have HS := Lib.hid (fun k hk => spl_step d k hk)
  have HNO : Hid (itoS (-(spl d.data.toList : Int)) ≠ s → numOK s = false) := Lib.hid (fun h => rn27_no HG.out.2 HG.out.1 h)
  have HBG := Lib.hid (rn27_big HG.out.2 HG.out.1)
  have HSG := Lib.hid (fun x h => rn27_sign (x := x) HG.out.1 h)
  have HYE := Lib.hid (fun x h hx => rn27_yes (s := s) (x := x) h hx)
  have h45b : (((s[0]).toNat : Int) == 45) = true := by simp; omega
  go_enter Tryz.func163, Tryz.ntmps163
  go_wp2_with fail
  generalize hM0 : (1000000000000000000 : Int) = M
  have HM := Lib.hid hM0
  clear hM0 h45b
  go_loop [5, 6] (fun n i => ∃ k : Nat, k ≤ d.size ∧ i = .int .i64 ((1 + k : Nat) : Int) ∧ n = .int .u64 (spl (d.data.toList.take k) : Int) ∧ spl (d.data.toList.take k) ≤ 10000000000000000009 ∧ Hid (∀ j, j < k → (h' : j < d.size) → isDig (d[j]))) (fun _ i => s.size - (intOf i).toNat)
  case atStart => exact ⟨0, by omega, rfl, by simp [spl], by simp [spl], Lib.hid (fun j h _ => by omega)⟩
  case round =>
    obtain ⟨k, hk, rfl, rfl, hsp, hall⟩ := hrel
    by_cases hlt : k < d.size
    · have HN0 := Lib.hid (HB.out k hlt)
      have HN1 := Lib.hid (HO.out k hlt)
      have HS0 := Lib.hid (HS.out k hlt)
      have HST := Lib.hid (fun (hd : isDig (d[k])) j (h : j < k + 1) (h' : j < d.size) => show isDig (d[j]) from by
          rcases Nat.lt_or_ge j k with c | c
          · exact hall.out j c h'
          · obtain rfl : j = k := by omega
            exact hd)
      have HSP := Lib.hid hsp
      have hgg := HCH.out k hlt
      have hi1 : 1 + k < s.size := by omega
      generalize d[k] = c at *
      generalize spl (d.data.toList.take k) = a at *
      clear hsp
      by_cases hd : isDig c
      · have hd' := hd
        have HST2 := Lib.hid (HST.out hd)
        unfold isDig at hd'
        obtain ⟨hd1, hd2⟩ := hd'
        have e1 : ¬ (c.toNat : Int) < 48 := by omega
        have e2 : ¬ (57 : Int) < (c.toNat : Int) := by omega
        clear hd HST HN0
        by_cases ho : 1000000000000000000 < a
        · have HE := Lib.hid (HN1.out (by omega))
          have hc : M < (a : Int) := by rw [← HM.out]; omega
          clear ho HN1 HS0
          go_wp2_with fail
          go_ret2
          exact ⟨⟨_, by rw [HE.out]; rfl, fun h => by rw [HE.out] at h; cases h⟩, rfl⟩
        · have hc : ¬ M < (a : Int) := by rw [← HM.out]; omega
          have HA := Lib.hid (show a ≤ 1000000000000000000 by omega)
          have ha : 10 * a + (c.toNat - 48) ≤ 10000000000000000009 := by omega
          clear ho HN1
          go_wp2_with fail
          have hHA := HA.out
          clear hc
          refine ⟨⟨k + 1, by omega, by go_num, ?_, ?_, HST2⟩, by simp [intOf]; omega⟩
          · rw [HS0.out]; congr 1; omega
          · rw [HS0.out]; omega
      · have HE := Lib.hid (HN0.out hd)
        unfold isDig at hd
        clear HN1 HST HS0 HN0
        go_wp2_with fail
        all_goals first
          | (exfalso; simp at *; omega)
          | (go_ret2
             exact ⟨⟨_, by rw [HE.out]; rfl, fun h => by rw [HE.out] at h; cases h⟩, rfl⟩)
    · obtain rfl : k = d.size := by omega
      rw [List.take_of_length_le (show d.data.toList.length ≤ d.size by rw [dat_len]; exact Nat.le_refl _)] at hsp ⊢
      have hdI : ¬ (((1 + d.size : Nat)) : Int) < (s.size : Int) := by omega
      generalize spl d.data.toList = a at *
      clear hall HB HO HS
      rcases Nat.eq_zero_or_pos a with ha | ha
      · subst ha
        have HSX := Lib.hid (HSG.out 0 (.inr ⟨by omega, trivial⟩))
        have HE := Lib.hid (HNO.out HSX.out)
        have HD : Hid (∀ W, Calls Tryz.prog 82 #[.int .i64 0] W fun e w' => e = .returned (.string (itoS 0)) ∧ W = w') := Lib.hid (fun W => rdec_any 0 W (by omega))
        clear HBG HSG HNO HYE
        have hq := ba_diff (itoS 0) s HSX.out
        go_wp2_with fail
        refine (HD.out _).mono ?_
        rintro e w1 ⟨rfl, rfl⟩
        go_wp2_with fail
        go_ret2
        exact ⟨⟨_, by rw [HE.out]; rfl, fun h => by rw [HE.out] at h; cases h⟩, rfl⟩
      rcases Nat.lt_or_ge a 9223372036854775808 with ha2 | ha2
      · have HD := Lib.hid (fun W => rdecn_any a W (by omega) ha)
        clear HBG HSG
        by_cases he : itoS (-(a : Int)) = s
        · have hq := ba_same (itoS (-(a : Int))) s he
          have HE := Lib.hid (HYE.out _ he (by omega))
          clear he
          go_wp2_with fail
          refine (HD.out _).mono ?_
          rintro e w1 ⟨rfl, rfl⟩
          go_wp2_with fail
          go_ret2
          exact ⟨⟨_, by rw [HE.out.1]; rfl, fun _ => HE.out.2.symm⟩, rfl⟩
        · have hq := ba_diff (itoS (-(a : Int))) s he
          have HE := Lib.hid (HNO.out he)
          clear he
          go_wp2_with fail
          refine (HD.out _).mono ?_
          rintro e w1 ⟨rfl, rfl⟩
          go_wp2_with fail
          go_ret2
          exact ⟨⟨_, by rw [HE.out]; rfl, fun h => by rw [HE.out] at h; cases h⟩, rfl⟩
      rcases Nat.eq_or_lt_of_le ha2 with ha3 | ha3
      · have hwr : IntKind.i64.wrap (a : Int) = -(a : Int) := wrap_big (by omega) ha2 (by omega)
        have HD := Lib.hid (fun W => rdecn_any a W (by omega) (by omega))
        clear HBG HSG
        by_cases he : itoS (-(a : Int)) = s
        · have hq := ba_same (itoS (-(a : Int))) s he
          have HE := Lib.hid (HYE.out _ he (by omega))
          clear he
          go_wp2_with fail
          refine (HD.out _).mono ?_
          rintro e w1 ⟨rfl, rfl⟩
          go_wp2_with fail
          go_ret2
          exact ⟨⟨_, by rw [HE.out.1]; rfl, fun _ => HE.out.2.symm⟩, rfl⟩
        · have hq := ba_diff (itoS (-(a : Int))) s he
          have HE := Lib.hid (HNO.out he)
          clear he
          go_wp2_with fail
          refine (HD.out _).mono ?_
          rintro e w1 ⟨rfl, rfl⟩
          go_wp2_with fail
          go_ret2
          exact ⟨⟨_, by rw [HE.out]; rfl, fun h => by rw [HE.out] at h; cases h⟩, rfl⟩
      · have HE := Lib.hid (HBG.out (.inl ha3))
        obtain ⟨b, hb⟩ : ∃ b : Nat, a + b = 18446744073709551616 := ⟨18446744073709551616 - a, by omega⟩
        have hwr : IntKind.i64.wrap (a : Int) = -(b : Int) := wrap_big hb ha2 (by omega)
        have HD := Lib.hid (fun W => rdec_any b W (by omega))
        have HSX := Lib.hid (HSG.out (b : Int) (.inr ⟨by omega, trivial⟩))
        clear HBG HSG HNO HYE
        have hq := ba_diff (itoS (b : Int)) s HSX.out
        go_wp2_with fail
        refine (HD.out _).mono ?_
        rintro e w1 ⟨rfl, rfl⟩
        go_wp2_with fail
        go_ret2
        exact ⟨⟨_, by rw [HE.out]; rfl, fun h => by rw [HE.out] at h; cases h⟩, rfl⟩
set_option maxRecDepth 100000 in
set_option maxHeartbeats 3200000 in
theorem rnumber27_0 (s : ByteArray) (w : World) (h0 : s.size = 0) : Calls Tryz.prog 163 #[.string s] w (RNum s w) := by
  unfold RNum
  have HE := Lib.hid (rn_none (s := s) (d := s) (dg_pos (fun h => by omega)).2 h0)
  obtain rfl : s = ⟨#[]⟩ := ByteArray.ext (Array.eq_empty_of_size_eq_zero h0)
  have HD : Hid (∀ W, Calls Tryz.prog 82 #[.int .i64 0] W fun e w' => e = .returned (.string (itoS 0)) ∧ W = w') := Lib.hid (fun W => rdec_any 0 W (by omega))
  have hq := ba_diff (itoS 0) ⟨#[]⟩ (fun e => by
    have h1 : (itoS ((0 : Nat) : Int)).data.toList = [] := by rw [show (((0 : Nat) : Int)) = 0 from rfl, e]
    rw [show (itoS ((0 : Nat) : Int)).data.toList = Lib.itoa ((0 : Nat) : Int) from rfl, Lib.itoa_nonneg] at h1
    obtain ⟨b, r, hf, -⟩ := decDigits_form 0
    rw [hf] at h1; cases h1)
  have hq2 : (itoS 0).toList.isEmpty = false := by simpa using hq
  go_enter Tryz.func163, Tryz.ntmps163
  go_wp2_with fail
  go_loop [5, 6] (fun n i => n = .int .u64 0 ∧ i = .int .i64 0) (fun _ _ => 0)
  case atStart => exact ⟨rfl, rfl⟩
  case round =>
    obtain ⟨rfl, rfl⟩ := hrel
    go_wp2_with fail
    refine (HD.out _).mono ?_
    rintro e w1 ⟨rfl, rfl⟩
    go_wp2_with fail
    go_ret2
    exact ⟨⟨_, by rw [HE.out]; rfl, fun h => by rw [HE.out] at h; cases h⟩, rfl⟩
theorem rnumber27_any (s : ByteArray) (w : World) (hs : s.size ≤ 1000000) : Calls Tryz.prog 163 #[.string s] w (RNum s w) := by
  by_cases h0 : s.size = 0
  · exact rnumber27_0 s w h0
  have hpos : 0 < s.size := by omega
  by_cases h45 : (s[0]).toNat = 45
  · exact rnumber27_neg s w hs hpos h45 _ rfl (by rw [ByteArray.size_extract]; omega)
  · exact rnumber27_pos s w hs hpos h45
end Go.Proofs.YthflmdgfenojcaaGreatDoor
namespace Go.Proofs.YthflmdgfenojcaaGreatDoor
set_option linter.unusedVariables false
open Go.RowKit Go.Sort
theorem own_strs {w : World} {B n : Nat} {v : Value} {l : List ByteArray} (h : w.ownsRow B 9 1 v l.length (l.map Value.string)) (hn : l.length = n) (h0 : 0 < n) :
    ∃ g c, v = .slice (some ⟨g, 0, none⟩) n c ∧ B ≤ g ∧ g < w.heap.size ∧ n ≤ c ∧ ∀ j x, l[j]? = some x → w.cell? ⟨g, j, none⟩ = some (.string x) := by
  subst hn
  rcases h.2 with ⟨-, q⟩ | ⟨g, cap, cur, rfl, hb, hg, h3, h4, h5, h6⟩
  · omega
  · refine ⟨g, cap, rfl, hb, (Array.getElem?_eq_some_iff.1 hg).1, h3, fun j x hj => ?_⟩
    rw [cell_of_row w g j cur 9 (0, 0) hg]
    have hj2 : (l.map Value.string)[j]? = some (.string x) := by rw [List.getElem?_map, hj]; rfl
    rw [← h6, List.getElem?_take] at hj2
    split at hj2
    · simpa using hj2
    · cases hj2
set_option maxRecDepth 100000 in
set_option maxHeartbeats 6400000 in
theorem rdec32_any (s : ByteArray) (w : World) (hs : s.size ≤ 1000000) : Calls Tryz.prog 128 #[.string s] w (DecPost s w) := by
  have HSP := Lib.hid (fun W => rcut_any s W hs)
  have HN := Lib.hid (fun p W hp => rnumber27_any p W hp)
  have HSZ := Lib.hid (fun j => Nat.le_trans (prt_size s j) hs)
  have HE : Hid (decE s = if formB (cutS s) = true then chkE (recL (cutS s)) else 2) := Lib.hid rfl
  have HV : Hid (decV s = if decE s = 0 then recL (cutS s) else zrec) := Lib.hid rfl
  unfold DecPost
  unfold StrsPost at HSP
  unfold RNum at HN
  clear hs
  generalize decV s = DV at *
  generalize decE s = DE at *
  generalize cutS s = l at *
  have HZ := Lib.hid (heap_alloc_new w (.cells zrec.cells 57))
  by_cases hl : l.length = 12
  · obtain ⟨p0, p1, p2, p3, p4, p5, p6, p7, p8, p9, p10, p11, rfl⟩ := list12 l hl
    have HF : Hid (formB [p0, p1, p2, p3, p4, p5, p6, p7, p8, p9, p10, p11] = (numOK p0 && (numOK p7 && (numOK p9 && numOK p10)) && endB p11)) := Lib.hid rfl
    have HR : Hid (recL [p0, p1, p2, p3, p4, p5, p6, p7, p8, p9, p10, p11] = ⟨numV p0, p1, p2, p3, p4, p5, p6, numV p7, p8, numV p9, numV p10, decide (p11 = oneS)⟩) := Lib.hid rfl
    have N0 := Lib.hid (fun W => HN.out p0 W (HSZ.out 0))
    have N7 := Lib.hid (fun W => HN.out p7 W (HSZ.out 7))
    have N9 := Lib.hid (fun W => HN.out p9 W (HSZ.out 9))
    have N10 := Lib.hid (fun W => HN.out p10 W (HSZ.out 10))
    have HFIT : Hid (∀ r : Rec, r = recL [p0, p1, p2, p3, p4, p5, p6, p7, p8, p9, p10, p11] → r.Fit) := Lib.hid (fun r hr => by
      subst hr
      have h : ∀ j, (prt [p0, p1, p2, p3, p4, p5, p6, p7, p8, p9, p10, p11] j).size ≤ maxLen := fun j => by have := HSZ.out j; have : maxLen = 2 ^ 63 - 1 := rfl; omega
      exact ⟨h 1, h 2, h 3, h 4, h 5, h 6, h 8⟩)
    generalize formB [p0, p1, p2, p3, p4, p5, p6, p7, p8, p9, p10, p11] = FB at *
    generalize recL [p0, p1, p2, p3, p4, p5, p6, p7, p8, p9, p10, p11] = RL at *
    clear HN HSZ
    generalize numV p0 = v0 at *
    generalize numV p7 = v7 at *
    generalize numV p9 = v9 at *
    generalize numV p10 = v10 at *
    generalize numOK p0 = o0 at *
    generalize numOK p7 = o7 at *
    generalize numOK p9 = o9 at *
    generalize numOK p10 = o10 at *
    go_enter Tryz.func128, Tryz.ntmps128
    go_wp2_with fail
    refine (HSP.out _).mono ?_
    rintro e w5 ⟨vv, rfl, ho, hb⟩
    obtain ⟨g, c, rfl, hg1, hg2, hc, hka⟩ := own_strs ho hl (by omega)
    have HB := Lib.hid ((bx w (.cells zrec.cells 57)).trans (hb.mono (bx w _).size))
    have HK := Lib.hid (blk_later HZ.out hb)
    have KA : Hid (∀ j x, [p0, p1, p2, p3, p4, p5, p6, p7, p8, p9, p10, p11][j]? = some x → w5.cell? ⟨g, j, none⟩ = some (.string x)) := Lib.hid hka
    clear ho hb HSP HZ hka hl
    have a0 := KA.out 0 p0 rfl
    go_wp2_with fail
    refine (N0.out _).mono ?_
    rintro e w2 ⟨⟨q0, rfl, hq0⟩, rfl⟩
    have HQ0 := Lib.hid hq0
    clear a0 hq0
    have a7 := KA.out 7 p7 rfl
    go_wp2_with fail
    refine (N7.out _).mono ?_
    rintro e w2 ⟨⟨q7, rfl, hq7⟩, rfl⟩
    have HQ7 := Lib.hid hq7
    clear a7 hq7
    have a9 := KA.out 9 p9 rfl
    go_wp2_with fail
    refine (N9.out _).mono ?_
    rintro e w2 ⟨⟨q9, rfl, hq9⟩, rfl⟩
    have HQ9 := Lib.hid hq9
    clear a9 hq9
    have a10 := KA.out 10 p10 rfl
    go_wp2_with fail
    refine (N10.out _).mono ?_
    rintro e w2 ⟨⟨q10, rfl, hq10⟩, rfl⟩
    have HQ10 := Lib.hid hq10
    clear a10 hq10
    have a11 := KA.out 11 p11 rfl
    by_cases hq : FB = true
    · have hff := HF.out
      rw [hq] at hff
      obtain ⟨rfl, rfl, rfl, rfl, h11⟩ := ways1 hff
      have he := HE.out
      rw [if_pos hq] at he
      obtain rfl : v0 = q0 := (HQ0.out rfl).symm
      obtain rfl : v7 = q7 := (HQ7.out rfl).symm
      obtain rfl : v9 = q9 := (HQ9.out rfl).symm
      obtain rfl : v10 = q10 := (HQ10.out rfl).symm
      clear hq hff HF HE N0 N7 N9 N10 HQ0 HQ7 HQ9 HQ10
      rcases h11 with rfl | rfl
      · have hr : RL = (⟨v0, p1, p2, p3, p4, p5, p6, v7, p8, v9, v10, false⟩ : Rec) := HR.out.trans (by rw [show decide ((⟨#[48]⟩ : ByteArray) = oneS) = false by decide])
        have HCH := Lib.hid (fun W => rchk_any RL (HFIT.out RL rfl) W)
        have HV2 := Lib.hid (HV.out)
        have HDE := Lib.hid he
        have HRL := Lib.hid hr
        unfold PtPost at HCH
        rw [hr] at HCH
        unfold Rec.val Rec.cells at HCH
        dsimp only at HCH
        clear hr he HR HFIT HV
        go_wp2_with fail
        have a1 := KA.out 1 p1 rfl
        have a2 := KA.out 2 p2 rfl
        have a3 := KA.out 3 p3 rfl
        have a4 := KA.out 4 p4 rfl
        have a5 := KA.out 5 p5 rfl
        have a6 := KA.out 6 p6 rfl
        have a8 := KA.out 8 p8 rfl
        have HBW : Hid (Below w5.heap.size w5 w5.drew) := Lib.hid ((Below.refl _ _).drew)
        go_region_held3 (fun w' => Below w5.heap.size w5 w' ∧ w'.cell? ⟨g, 1, none⟩ = some (.string p1) ∧ w'.cell? ⟨g, 2, none⟩ = some (.string p2) ∧ w'.cell? ⟨g, 3, none⟩ = some (.string p3) ∧ w'.cell? ⟨g, 4, none⟩ = some (.string p4) ∧ w'.cell? ⟨g, 5, none⟩ = some (.string p5) ∧ w'.cell? ⟨g, 6, none⟩ = some (.string p6) ∧ w'.cell? ⟨g, 8, none⟩ = some (.string p8) ∧ w'.cell? ⟨g, 11, none⟩ = some (.string ⟨#[48]⟩))
          (first | exact keepD HBW.out a1 a2 a3 a4 a5 a6 a8 a11 | exact keepD (Below.drew (bx w5 _)) a1 a2 a3 a4 a5 a6 a8 a11)
          (fail)
        have HB6 := Lib.hid (HB.out.trans ((Below.drew (bx w5 (.cells #[.int .i64 v0, .string p1, .string p2, .string p3, .string p4, .string p5, .string p6, .int .i64 v7, .string p8, .int .i64 v9, .int .i64 v10, .bool false] 57))).mono HB.out.size))
        have HK6 := Lib.hid (blk_later HK.out (Below.drew (bx w5 (.cells #[.int .i64 v0, .string p1, .string p2, .string p3, .string p4, .string p5, .string p6, .int .i64 v7, .string p8, .int .i64 v9, .int .i64 v10, .bool false] 57))))
        have HX6 : Hid (((w5.alloc (.cells #[.int .i64 v0, .string p1, .string p2, .string p3, .string p4, .string p5, .string p6, .int .i64 v7, .string p8, .int .i64 v9, .int .i64 v10, .bool false] 57)).drew).heap[w5.heap.size]? = some (.cells #[.int .i64 v0, .string p1, .string p2, .string p3, .string p4, .string p5, .string p6, .int .i64 v7, .string p8, .int .i64 v9, .int .i64 v10, .bool false] 57)) := Lib.hid (heap_alloc_new w5 _)
        clear a1 a2 a3 a4 a5 a6 a8 a11 HBW
        generalize ((w5.alloc (.cells #[.int .i64 v0, .string p1, .string p2, .string p3, .string p4, .string p5, .string p6, .int .i64 v7, .string p8, .int .i64 v9, .int .i64 v10, .bool false] 57)).drew) = W6 at *
        generalize w5.heap.size = X at *
        go_wp2_with (refine wpList_load_row rfl 57 _ rfl X rfl 57 _ _ _ HX6.out Tryz.underlying57 rfl (info25 (⟨v0, p1, p2, p3, p4, p5, p6, v7, p8, v9, v10, false⟩ : Rec)) ?_)
        refine (HCH.out _).mono ?_
        rintro e w7 ⟨rfl, hb⟩
        have HB7 := Lib.hid (HB6.out.trans (hb.mono HB6.out.size))
        have HK7 := Lib.hid (blk_later HK6.out hb)
        have HX7 := Lib.hid (blk_later HX6.out hb)
        clear hb
        obtain ⟨CE, hCE⟩ : ∃ CE, chkE (⟨v0, p1, p2, p3, p4, p5, p6, v7, p8, v9, v10, false⟩ : Rec) = CE := ⟨_, rfl⟩
        rw [hCE] at HCH ⊢
        have HCE := Lib.hid (show DE = CE by rw [HDE.out, HRL.out, hCE])
        clear hCE
        cases hz : (CE != 0)
        · have h0 : CE = 0 := by simpa using hz
          subst h0
          have HDV := Lib.hid (show DV = (⟨v0, p1, p2, p3, p4, p5, p6, v7, p8, v9, v10, false⟩ : Rec) by rw [HV2.out, HCE.out, if_pos rfl, HRL.out])
          clear hz HCH
          go_wp2_with (first | (refine wpList_load_row rfl 57 _ rfl X rfl 57 _ _ _ HX7.out Tryz.underlying57 rfl (info25 (⟨v0, p1, p2, p3, p4, p5, p6, v7, p8, v9, v10, false⟩ : Rec)) ?_) | (refine wpList_store_row rfl 57 _ _ rfl w.heap.size (Rec.cells (⟨v0, p1, p2, p3, p4, p5, p6, v7, p8, v9, v10, false⟩ : Rec)) rfl rfl 57 _ HK7.out (info25 _) rfl (rec_one _) ?_))
          refine bodyPost_ret (v := .tuple #[Rec.val (⟨v0, p1, p2, p3, p4, p5, p6, v7, p8, v9, v10, false⟩ : Rec), .int .i64 0]) ?_ rfl ⟨by rw [HDV.out, HCE.out], below_setRow HB7.out (Nat.le_refl _) _⟩
          exact results_row_tmp (show Tryz.f128.results = #[.cell 2 57, .tmp 3] by kernel_rfl) _ _ w.heap.size 57 (Rec.cells (⟨v0, p1, p2, p3, p4, p5, p6, v7, p8, v9, v10, false⟩ : Rec)) (0, 0) _ _ rfl rfl (setRow_heap _ _ _ _ _ _ HK7.out) Tryz.underlying57 rfl (info25 (⟨v0, p1, p2, p3, p4, p5, p6, v7, p8, v9, v10, false⟩ : Rec))
        · have HDV := Lib.hid (show DV = zrec by rw [HV2.out, HCE.out, if_neg (by simpa using hz)])
          go_wp2_with (refine wpList_load_row rfl 57 _ rfl X rfl 57 _ _ _ HX7.out Tryz.underlying57 rfl (info25 (⟨v0, p1, p2, p3, p4, p5, p6, v7, p8, v9, v10, false⟩ : Rec)) ?_)
          refine (HCH.out _).mono ?_
          rintro e w8 ⟨rfl, hb⟩
          have HB8 := Lib.hid (HB7.out.trans (hb.mono HB7.out.size))
          have HK8 := Lib.hid (blk_later HK7.out hb)
          clear hb
          go_wp2_with (refine wpList_store_row rfl 57 _ _ rfl w.heap.size zrec.cells rfl rfl 57 _ HK8.out (info25 _) rfl (rec_one _) ?_)
          refine bodyPost_ret (v := .tuple #[zrec.val, .int .i64 CE]) ?_ rfl ⟨by rw [HDV.out, HCE.out], below_setRow HB8.out (Nat.le_refl _) _⟩
          exact results_row_tmp (show Tryz.f128.results = #[.cell 2 57, .tmp 3] by kernel_rfl) _ _ w.heap.size 57 zrec.cells (0, 0) _ _ rfl rfl (setRow_heap _ _ _ _ _ _ HK8.out) Tryz.underlying57 rfl (info25 _)
      · have hr : RL = (⟨v0, p1, p2, p3, p4, p5, p6, v7, p8, v9, v10, true⟩ : Rec) := HR.out.trans (by rw [show decide ((⟨#[49]⟩ : ByteArray) = oneS) = true by decide])
        have HCH := Lib.hid (fun W => rchk_any RL (HFIT.out RL rfl) W)
        have HV2 := Lib.hid (HV.out)
        have HDE := Lib.hid he
        have HRL := Lib.hid hr
        unfold PtPost at HCH
        rw [hr] at HCH
        unfold Rec.val Rec.cells at HCH
        dsimp only at HCH
        clear hr he HR HFIT HV
        go_wp2_with fail
        have a1 := KA.out 1 p1 rfl
        have a2 := KA.out 2 p2 rfl
        have a3 := KA.out 3 p3 rfl
        have a4 := KA.out 4 p4 rfl
        have a5 := KA.out 5 p5 rfl
        have a6 := KA.out 6 p6 rfl
        have a8 := KA.out 8 p8 rfl
        have HBW : Hid (Below w5.heap.size w5 w5.drew) := Lib.hid ((Below.refl _ _).drew)
        go_region_held3 (fun w' => Below w5.heap.size w5 w' ∧ w'.cell? ⟨g, 1, none⟩ = some (.string p1) ∧ w'.cell? ⟨g, 2, none⟩ = some (.string p2) ∧ w'.cell? ⟨g, 3, none⟩ = some (.string p3) ∧ w'.cell? ⟨g, 4, none⟩ = some (.string p4) ∧ w'.cell? ⟨g, 5, none⟩ = some (.string p5) ∧ w'.cell? ⟨g, 6, none⟩ = some (.string p6) ∧ w'.cell? ⟨g, 8, none⟩ = some (.string p8) ∧ w'.cell? ⟨g, 11, none⟩ = some (.string ⟨#[49]⟩))
          (first | exact keepD HBW.out a1 a2 a3 a4 a5 a6 a8 a11 | exact keepD (Below.drew (bx w5 _)) a1 a2 a3 a4 a5 a6 a8 a11)
          (fail)
        have HB6 := Lib.hid (HB.out.trans ((Below.drew (bx w5 (.cells #[.int .i64 v0, .string p1, .string p2, .string p3, .string p4, .string p5, .string p6, .int .i64 v7, .string p8, .int .i64 v9, .int .i64 v10, .bool true] 57))).mono HB.out.size))
        have HK6 := Lib.hid (blk_later HK.out (Below.drew (bx w5 (.cells #[.int .i64 v0, .string p1, .string p2, .string p3, .string p4, .string p5, .string p6, .int .i64 v7, .string p8, .int .i64 v9, .int .i64 v10, .bool true] 57))))
        have HX6 : Hid (((w5.alloc (.cells #[.int .i64 v0, .string p1, .string p2, .string p3, .string p4, .string p5, .string p6, .int .i64 v7, .string p8, .int .i64 v9, .int .i64 v10, .bool true] 57)).drew).heap[w5.heap.size]? = some (.cells #[.int .i64 v0, .string p1, .string p2, .string p3, .string p4, .string p5, .string p6, .int .i64 v7, .string p8, .int .i64 v9, .int .i64 v10, .bool true] 57)) := Lib.hid (heap_alloc_new w5 _)
        clear a1 a2 a3 a4 a5 a6 a8 a11 HBW
        generalize ((w5.alloc (.cells #[.int .i64 v0, .string p1, .string p2, .string p3, .string p4, .string p5, .string p6, .int .i64 v7, .string p8, .int .i64 v9, .int .i64 v10, .bool true] 57)).drew) = W6 at *
        generalize w5.heap.size = X at *
        go_wp2_with (refine wpList_load_row rfl 57 _ rfl X rfl 57 _ _ _ HX6.out Tryz.underlying57 rfl (info25 (⟨v0, p1, p2, p3, p4, p5, p6, v7, p8, v9, v10, true⟩ : Rec)) ?_)
        refine (HCH.out _).mono ?_
        rintro e w7 ⟨rfl, hb⟩
        have HB7 := Lib.hid (HB6.out.trans (hb.mono HB6.out.size))
        have HK7 := Lib.hid (blk_later HK6.out hb)
        have HX7 := Lib.hid (blk_later HX6.out hb)
        clear hb
        obtain ⟨CE, hCE⟩ : ∃ CE, chkE (⟨v0, p1, p2, p3, p4, p5, p6, v7, p8, v9, v10, true⟩ : Rec) = CE := ⟨_, rfl⟩
        rw [hCE] at HCH ⊢
        have HCE := Lib.hid (show DE = CE by rw [HDE.out, HRL.out, hCE])
        clear hCE
        cases hz : (CE != 0)
        · have h0 : CE = 0 := by simpa using hz
          subst h0
          have HDV := Lib.hid (show DV = (⟨v0, p1, p2, p3, p4, p5, p6, v7, p8, v9, v10, true⟩ : Rec) by rw [HV2.out, HCE.out, if_pos rfl, HRL.out])
          clear hz HCH
          go_wp2_with (first | (refine wpList_load_row rfl 57 _ rfl X rfl 57 _ _ _ HX7.out Tryz.underlying57 rfl (info25 (⟨v0, p1, p2, p3, p4, p5, p6, v7, p8, v9, v10, true⟩ : Rec)) ?_) | (refine wpList_store_row rfl 57 _ _ rfl w.heap.size (Rec.cells (⟨v0, p1, p2, p3, p4, p5, p6, v7, p8, v9, v10, true⟩ : Rec)) rfl rfl 57 _ HK7.out (info25 _) rfl (rec_one _) ?_))
          refine bodyPost_ret (v := .tuple #[Rec.val (⟨v0, p1, p2, p3, p4, p5, p6, v7, p8, v9, v10, true⟩ : Rec), .int .i64 0]) ?_ rfl ⟨by rw [HDV.out, HCE.out], below_setRow HB7.out (Nat.le_refl _) _⟩
          exact results_row_tmp (show Tryz.f128.results = #[.cell 2 57, .tmp 3] by kernel_rfl) _ _ w.heap.size 57 (Rec.cells (⟨v0, p1, p2, p3, p4, p5, p6, v7, p8, v9, v10, true⟩ : Rec)) (0, 0) _ _ rfl rfl (setRow_heap _ _ _ _ _ _ HK7.out) Tryz.underlying57 rfl (info25 (⟨v0, p1, p2, p3, p4, p5, p6, v7, p8, v9, v10, true⟩ : Rec))
        · have HDV := Lib.hid (show DV = zrec by rw [HV2.out, HCE.out, if_neg (by simpa using hz)])
          go_wp2_with (refine wpList_load_row rfl 57 _ rfl X rfl 57 _ _ _ HX7.out Tryz.underlying57 rfl (info25 (⟨v0, p1, p2, p3, p4, p5, p6, v7, p8, v9, v10, true⟩ : Rec)) ?_)
          refine (HCH.out _).mono ?_
          rintro e w8 ⟨rfl, hb⟩
          have HB8 := Lib.hid (HB7.out.trans (hb.mono HB7.out.size))
          have HK8 := Lib.hid (blk_later HK7.out hb)
          clear hb
          go_wp2_with (refine wpList_store_row rfl 57 _ _ rfl w.heap.size zrec.cells rfl rfl 57 _ HK8.out (info25 _) rfl (rec_one _) ?_)
          refine bodyPost_ret (v := .tuple #[zrec.val, .int .i64 CE]) ?_ rfl ⟨by rw [HDV.out, HCE.out], below_setRow HB8.out (Nat.le_refl _) _⟩
          exact results_row_tmp (show Tryz.f128.results = #[.cell 2 57, .tmp 3] by kernel_rfl) _ _ w.heap.size 57 zrec.cells (0, 0) _ _ rfl rfl (setRow_heap _ _ _ _ _ _ HK8.out) Tryz.underlying57 rfl (info25 _)
    · have he := HE.out
      rw [if_neg hq] at he
      have hv := HV.out
      rw [he, if_neg (by decide)] at hv
      subst he
      subst hv
      have hff := HF.out
      rw [show FB = false by simpa using hq] at hff
      have hways : o0 = false ∨ (o0 = true ∧ o7 = false) ∨ (o0 = true ∧ o7 = true ∧ o9 = false) ∨ (o0 = true ∧ o7 = true ∧ o9 = true ∧ o10 = false) ∨ (o0 = true ∧ o7 = true ∧ o9 = true ∧ o10 = true ∧ endB p11 = false) := by
        exact ways5 hff
      clear hq hff HF HE HV HQ0 HQ7 HQ9 HQ10
      rcases hways with rfl | ⟨rfl, rfl⟩ | ⟨rfl, rfl, rfl⟩ | ⟨rfl, rfl, rfl, rfl⟩ | ⟨rfl, rfl, rfl, rfl, h11⟩
      iterate 4
        · go_wp2_with (refine wpList_store_row rfl 57 _ _ rfl w.heap.size zrec.cells rfl rfl 57 _ HK.out (info25 _) rfl (rec_one _) ?_)
          refine bodyPost_ret (v := .tuple #[zrec.val, .int .i64 2]) ?_ rfl ⟨rfl, below_setRow HB.out (Nat.le_refl _) _⟩
          exact results_row_tmp (show Tryz.f128.results = #[.cell 2 57, .tmp 3] by kernel_rfl) _ _ w.heap.size 57 zrec.cells (0, 0) _ _ rfl rfl (setRow_heap _ _ _ _ _ _ HK.out) Tryz.underlying57 rfl (info25 _)
      · obtain ⟨q0, n0⟩ := lit_ne p11 [48] (fun e => by unfold endB at h11; rw [show p11 = zeroS from e] at h11; simp at h11)
        obtain ⟨q1, n1⟩ := lit_ne p11 [49] (fun e => by unfold endB at h11; rw [show p11 = oneS from e] at h11; simp at h11)
        clear h11
        go_wp2_with (refine wpList_store_row rfl 57 _ _ rfl w.heap.size zrec.cells rfl rfl 57 _ HK.out (info25 _) rfl (rec_one _) ?_)
        refine bodyPost_ret (v := .tuple #[zrec.val, .int .i64 2]) ?_ rfl ⟨rfl, below_setRow HB.out (Nat.le_refl _) _⟩
        exact results_row_tmp (show Tryz.f128.results = #[.cell 2 57, .tmp 3] by kernel_rfl) _ _ w.heap.size 57 zrec.cells (0, 0) _ _ rfl rfl (setRow_heap _ _ _ _ _ _ HK.out) Tryz.underlying57 rfl (info25 _)
  · have hn : ((l.length : Int) != 12) = true := by simp; omega
    have he := HE.out
    rw [show formB l = false by unfold formB; rw [decide_eq_false hl]; rfl, if_neg (by simp)] at he
    have hv := HV.out
    rw [he, if_neg (by decide)] at hv
    subst he
    subst hv
    clear hl HE HV
    go_enter Tryz.func128, Tryz.ntmps128
    go_wp2_with fail
    refine (HSP.out _).mono ?_
    rintro e w1 ⟨vv, rfl, ho, hb⟩
    obtain ⟨A, c, rfl, -, -⟩ := own_form ho
    have HB := Lib.hid ((bx w (.cells zrec.cells 57)).trans (hb.mono (bx w _).size))
    have HK := Lib.hid (blk_later HZ.out hb)
    clear ho hb
    go_wp2_with (refine wpList_store_row rfl 57 _ _ rfl w.heap.size zrec.cells rfl rfl 57 _ HK.out (info25 _) rfl (rec_one _) ?_)
    refine bodyPost_ret (v := .tuple #[zrec.val, .int .i64 2]) ?_ rfl ⟨rfl, below_setRow HB.out (Nat.le_refl _) _⟩
    exact results_row_tmp (show Tryz.f128.results = #[.cell 2 57, .tmp 3] by kernel_rfl) _ _ w.heap.size 57 zrec.cells (0, 0) _ _ rfl rfl (setRow_heap _ _ _ _ _ _ HK.out) Tryz.underlying57 rfl (info25 _)
end Go.Proofs.YthflmdgfenojcaaGreatDoor
