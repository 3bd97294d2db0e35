/- The comparison of two ranges: order, and the function that Sort hands over. -/
import Derived.Test.YtiegoffdbhmfbaaGreatDoorOrd
import Derived.Test.YtiegoffdbhmfbaaGreatDoorRor
namespace Go.Proofs.YtiegoffdbhmfbaaGreatDoor
set_option linter.unusedVariables false
open Go.RowKit

theorem quiet_left {P : Program} {f : FuncId} {args : Array Value} {w : World} {n : Nat} {v : Value}
    (h : Calls P f args (w.drewN n) fun e w' => e = .returned v ∧ w.drewN n = w') : Calls P f args (w.drewN n) fun e w'' => e = .returned v ∧ ∃ m, w'' = w.drewN m :=
  h.mono fun _ _ ⟨he, hm⟩ => ⟨he, n, hm.symm⟩
def cmpI (a b : Int) : Int := if a < b then -1 else if b < a then 1 else 0
theorem nan8_any (a : Int) (w : World) : Calls Tryz.prog 64 #[.int .u8 a] w fun e w' => e = .returned (.bool false) ∧ w = w' := by
  go_enter Tryz.func64, Tryz.ntmps64
  go_wp2_with fail
  go_ret
  exact ⟨rfl, rfl⟩
theorem nanI_any (a : Int) (w : World) : Calls Tryz.prog 65 #[.int .i64 a] w fun e w' => e = .returned (.bool false) ∧ w = w' := by
  go_enter Tryz.func65, Tryz.ntmps65
  go_wp2_with fail
  go_ret
  exact ⟨rfl, rfl⟩
set_option maxHeartbeats 800000 in
theorem cmp8_any (a b : Int) (w : World) : Calls Tryz.prog 46 #[.int .u8 a, .int .u8 b] w fun e w' => e = .returned (.int .i64 (cmpI a b)) ∧ w = w' := by
  have hcase : a < b ∨ (¬ a < b ∧ b < a) ∨ (¬ a < b ∧ ¬ b < a) := by omega
  rcases hcase with h1 | ⟨h1, h2⟩ | ⟨h1, h2⟩
  all_goals
    have he := Lib.hid (show cmpI a b = _ by unfold cmpI; first | rw [if_pos h1] | rw [if_neg h1, if_pos h2] | rw [if_neg h1, if_neg h2])
    go_enter Tryz.func46, Tryz.ntmps46
    go_wp2_with fail
    refine (nan8_any _ _).mono ?_
    rintro e w1 ⟨rfl, rfl⟩
    go_wp2_with fail
    refine (nan8_any _ _).mono ?_
    rintro e w1 ⟨rfl, rfl⟩
    go_wp2_with fail
    go_ret
    exact ⟨by rw [he.out]; rfl, rfl⟩
set_option maxHeartbeats 800000 in
theorem cmpi_any (a b : Int) (w : World) : Calls Tryz.prog 47 #[.int .i64 a, .int .i64 b] w fun e w' => e = .returned (.int .i64 (cmpI a b)) ∧ w = w' := by
  have hcase : a < b ∨ (¬ a < b ∧ b < a) ∨ (¬ a < b ∧ ¬ b < a) := by omega
  rcases hcase with h1 | ⟨h1, h2⟩ | ⟨h1, h2⟩
  all_goals
    have he := Lib.hid (show cmpI a b = _ by unfold cmpI; first | rw [if_pos h1] | rw [if_neg h1, if_pos h2] | rw [if_neg h1, if_neg h2])
    go_enter Tryz.func47, Tryz.ntmps47
    go_wp2_with fail
    refine (nanI_any _ _).mono ?_
    rintro e w1 ⟨rfl, rfl⟩
    go_wp2_with fail
    refine (nanI_any _ _).mono ?_
    rintro e w1 ⟨rfl, rfl⟩
    go_wp2_with fail
    go_ret
    exact ⟨by rw [he.out]; rfl, rfl⟩
def ordB (a b : ByteArray) : Int := ordL a.data.toList b.data.toList
theorem drop_cons (s : ByteArray) (k : Nat) (h : k < s.size) : s.data.toList.drop k = s[k] :: s.data.toList.drop (k + 1) := by
  rw [List.drop_eq_getElem_cons (by simpa using h)]; rfl
theorem ordL_step (a b : ByteArray) (k : Nat) (ha : k < a.size) (hb : k < b.size) :
    ordL (a.data.toList.drop k) (b.data.toList.drop k) = if a[k] = b[k] then ordL (a.data.toList.drop (k + 1)) (b.data.toList.drop (k + 1)) else cmpI a[k].toNat b[k].toNat := by
  rw [drop_cons a k ha, drop_cons b k hb]
  unfold cmpI
  rw [ordL]
  have hl : ∀ x y : UInt8, x < y ↔ (x.toNat : Int) < y.toNat := fun x y => by rw [UInt8.lt_iff_toNat_lt]; omega
  generalize a[k] = x
  generalize b[k] = y
  by_cases h : x = y
  · subst h
    rw [if_pos rfl, if_neg (UInt8.lt_irrefl x), if_neg (UInt8.lt_irrefl x)]
  · rw [if_neg h]
    by_cases h1 : x < y
    · rw [if_pos h1, if_pos ((hl _ _).1 h1)]
    · rw [if_neg h1, if_neg (fun q => h1 ((hl _ _).2 q))]
      by_cases h2 : y < x
      · rw [if_pos h2, if_pos ((hl _ _).1 h2)]
      · exact absurd (u8_eq h1 h2) h
theorem ordL_end (a b : ByteArray) (k : Nat) (hk : k = min a.size b.size) : ordL (a.data.toList.drop k) (b.data.toList.drop k) = cmpI b.size a.size := by
  have ea : a.data.toList.length = a.size := rfl
  have eb : b.data.toList.length = b.size := rfl
  unfold cmpI
  rcases Nat.lt_trichotomy a.size b.size with h | h | h
  · rw [if_neg (by omega), if_pos (by omega), List.drop_eq_nil_of_le (by omega), drop_cons b k (by omega)]; rfl
  · rw [if_neg (by omega), if_neg (by omega), List.drop_eq_nil_of_le (by omega), List.drop_eq_nil_of_le (by omega)]; rfl
  · have e1 : b.data.toList.drop k = [] := List.drop_eq_nil_of_le (by omega)
    rw [if_pos (by omega), e1, drop_cons a k (by omega)]; rfl
set_option maxHeartbeats 3200000 in
theorem order_any (a b : ByteArray) (w : World) (ha : a.size ≤ maxLen) (hb : b.size ≤ maxLen) : Calls Tryz.prog 29 #[.string a, .string b] w fun e w' => e = .returned (.int .i64 (ordB a b)) ∧ Below w.heap.size w w' := by
  have H8 := Lib.hid (fun x y W => cmp8_any x y W)
  have HI := Lib.hid (fun x y W => cmpi_any x y W)
  unfold maxLen at ha hb
  obtain ⟨m, hm⟩ : ∃ m, m = min a.size b.size := ⟨_, rfl⟩
  have hmi : min (a.size : Int) (b.size : Int) = (m : Int) := by omega
  have hmi' : (if (b.size : Int) < (a.size : Int) then (b.size : Int) else (a.size : Int)) = (m : Int) := by split <;> omega
  go_enter Tryz.func29, Tryz.ntmps29
  go_wp2_with fail
  go_loopw [11] (fun i wr => ∃ k : Nat, k ≤ m ∧ i = .int .i64 k ∧ Hid (ordL (a.data.toList.drop k) (b.data.toList.drop k) = ordB a b) ∧ Hid (Below w.heap.size w wr)) (fun i _ => m - (intOf i).toNat)
  case atStart => exact ⟨0, Nat.zero_le _, rfl, Lib.hid rfl, Lib.hid (Below.refl _ _)⟩
  case round =>
    obtain ⟨k, hk, rfl, HO, HB⟩ := hrel
    by_cases hlt : k < m
    · have kI : (k : Int) < (m : Int) := by omega
      have k0 : (0 : Int) ≤ (k : Int) := by omega
      have ka : k < a.size := by omega
      have kb : k < b.size := by omega
      have kaI : (k : Int) < (a.size : Int) := by omega
      have kbI : (k : Int) < (b.size : Int) := by omega
      have hst := ordL_step a b k ka kb
      rw [HO.out] at hst
      have HDR := Lib.hid (show Below w.heap.size w wr.drew from HB.out.trans ⟨rfl, rfl, rfl, Nat.le_refl _, fun _ _ => rfl⟩)
      by_cases he : a[k] = b[k]
      · rw [if_pos he] at hst
        have HST := Lib.hid hst
        have hne : (((a[k].toNat : Nat) : Int) != ((b[k].toNat : Nat) : Int)) = false := by rw [he]; simp
        clear hst he
        go_wp2_with fail
        go_quiet (fail)
        go_wp2_with fail
        go_roundw
        case rel => exact ⟨k + 1, by omega, by go_num, Lib.hid HST.out.symm, Lib.hid (HB.out.trans (dNb (Below.refl _ _) _))⟩
        case measure => simp [intOf]; omega
      · rw [if_neg he] at hst
        have HST := Lib.hid hst
        have hne : (((a[k].toNat : Nat) : Int) != ((b[k].toNat : Nat) : Int)) = true := by
          simp only [bne_iff_ne, ne_eq]
          intro q
          exact he (UInt8.toNat_inj.1 (by omega))
        clear hst he
        go_wp2_with fail
        go_quiet (fail)
        go_wp2_with fail
        have HBQ := Lib.hid (dNb HB.out nq)
        generalize wr.drewN nq = wq at HBQ ⊢
        go_quiet ((go_at_call 46; exact quiet_left (H8.out _ _ _)))
        go_wp2_with fail
        go_ret
        exact ⟨by rw [HST.out]; rfl, HBQ.out.trans (dNb (Below.refl _ _) _)⟩
    · obtain rfl : k = m := by omega
      have HX := Lib.hid (HO.out.symm.trans (ordL_end a b k hm))
      clear HO
      have kI : ¬ (k : Int) < (k : Int) := by omega
      go_wp2_with fail
      refine (HI.out _ _ _).mono ?_
      rintro e w2 ⟨rfl, rfl⟩
      go_wp2_with fail
      go_ret
      exact ⟨by rw [HX.out]; rfl, HB.out⟩
set_option maxHeartbeats 3200000 in
theorem cmpr_any (f : Nat → Rg) (N : Nat) (hok : ∀ x, x < N → RgOk (f x)) : CmpR f (fun x y => cmpRg (f x) (f y)) N := by
  intro W x y hx hy
  have h1 := hok x hx
  have h2 := hok y hy
  simp only
  generalize f x = X at *
  generalize f y = Y at *
  obtain ⟨al, ah, ai, ap⟩ := X
  obtain ⟨bl, bh, bi, bp⟩ := Y
  obtain ⟨a1, a2, -, -⟩ := h1
  obtain ⟨b1, b2, -, -⟩ := h2
  simp only at a1 a2 b1 b2
  have HO1 := Lib.hid (fun V => order_any al bl V a1 b1)
  have HO2 := Lib.hid (fun V => order_any ah bh V a2 b2)
  have HC : Hid (cmpRg ⟨al, ah, ai, ap⟩ ⟨bl, bh, bi, bp⟩ = if ordB al bl ≠ 0 then ordB al bl else ordB ah bh) := Lib.hid rfl
  unfold rgC
  simp only
  clear hok hx hy a1 a2 b1 b2
  generalize cmpRg ⟨al, ah, ai, ap⟩ ⟨bl, bh, bi, bp⟩ = cv at *
  generalize ordB al bl = c1 at *
  generalize ordB ah bh = c2 at *
  by_cases hz : c1 = 0
  · subst hz
    have HC2 : Hid (cv = c2) := Lib.hid (by rw [HC.out, if_neg (by simp)])
    clear HC
    go_enter Tryz.func28, Tryz.ntmps28
    go_wp2_with fail
    refine (HO1.out _).mono ?_
    rintro e w2 ⟨rfl, hb⟩
    have HK2 := Lib.hid (box2 hb)
    have HB2 := Lib.hid HK2.out.2.2
    have z1 := cell_c HK2.out.1 1
    have z2 := cell_c HK2.out.2.1 1
    clear hb
    go_wp2_with fail
    refine (HO2.out _).mono ?_
    rintro e w3 ⟨rfl, hb⟩
    have HB3 := Lib.hid (HB2.out.trans (hb.mono HB2.out.size))
    clear hb
    go_wp2_with fail
    go_ret
    exact ⟨by rw [HC2.out]; rfl, HB3.out⟩
  · have hz' : (c1 != 0) = true := by simpa using hz
    have HC2 : Hid (cv = c1) := Lib.hid (by rw [HC.out, if_pos hz])
    clear HC
    go_enter Tryz.func28, Tryz.ntmps28
    go_wp2_with fail
    refine (HO1.out _).mono ?_
    rintro e w2 ⟨rfl, hb⟩
    have HB2 := Lib.hid (box2 hb).2.2
    clear hb
    go_wp2_with fail
    go_ret
    exact ⟨by rw [HC2.out]; rfl, HB2.out⟩
end Go.Proofs.YtiegoffdbhmfbaaGreatDoor
