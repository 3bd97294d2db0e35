/- Reading a table's text: a run of bytes of one kind. -/
import Derived.Test.YtiegoffdbhmfbaaGreatDoorTok
namespace Go.Proofs.YtiegoffdbhmfbaaGreatDoor
set_option linter.unusedVariables false
open Go.RowKit

set_option maxRecDepth 1000000 in
set_option maxHeartbeats 800000 in
theorem lt60_any (c : UInt8) (w : World) : Calls Tryz.prog 60 #[.int .u8 c.toNat] w fun e w' => e = .returned (.bool (letB c.toNat)) ∧ w = w' := by
  have hi := letB_iff c.toNat
  generalize c.toNat = x at *
  have hc : (¬ x < 97 ∧ x ≤ 122) ∨ (¬ x < 97 ∧ ¬ x ≤ 122 ∧ ¬ x < 65 ∧ ¬ x ≤ 90) ∨ (x < 97 ∧ ¬ x < 65 ∧ x ≤ 90) ∨ (x < 97 ∧ ¬ x < 65 ∧ ¬ x ≤ 90) ∨ (x < 97 ∧ x < 65) := by omega
  have HI := Lib.hid hi
  clear hi
  rcases hc with ⟨h1, h2⟩ | ⟨h1, h2, h3, h4⟩ | ⟨h1, h2, h3⟩ | ⟨h1, h2, h3⟩ | ⟨h1, h2⟩
  all_goals
    first
      | (have HF := Lib.hid (show letB x = true from HI.out.2 (by omega)))
      | (have HF := Lib.hid (show letB x = false by
          cases hw : letB x
          · rfl
          · exfalso; have := HI.out.1 hw; omega))
    clear HI
    go_enter Tryz.func60, Tryz.ntmps60
    go_wp2_with fail
    go_ret
    exact ⟨by rw [HF.out]; simp; try omega, rfl⟩
set_option maxRecDepth 1000000 in
set_option maxHeartbeats 800000 in
theorem nm61_any (c : UInt8) (w : World) : Calls Tryz.prog 61 #[.int .u8 c.toNat] w fun e w' => e = .returned (.bool (wrdB c.toNat)) ∧ w = w' := by
  have HL := Lib.hid (fun W => lt60_any c W)
  have HD := Lib.hid (fun W => dg_any c W)
  have HF : Hid (wrdB c.toNat = (letB c.toNat || isDg c || c.toNat == 95)) := Lib.hid (by unfold wrdB digB isDg; simp)
  generalize wrdB c.toNat = z at *
  generalize isDg c = d at *
  generalize letB c.toNat = l at *
  generalize c.toNat = x at *
  cases l
  · cases d
    · obtain ⟨y, hy⟩ : ∃ y, ((x : Int) == 95) = y := ⟨_, rfl⟩
      have HY := Lib.hid (show (x == 95) = y by rw [← hy]; cases hq : (x == 95) <;> simp at * <;> omega)
      cases y
      all_goals
        go_enter Tryz.func61, Tryz.ntmps61
        go_wp2_with fail
        refine (HL.out _).mono ?_
        rintro e w1 ⟨rfl, rfl⟩
        go_wp2_with fail
        refine (HD.out _).mono ?_
        rintro e w1 ⟨rfl, rfl⟩
        go_wp2_with fail
        go_ret
        exact ⟨by rw [HF.out, HY.out]; rfl, rfl⟩
    · go_enter Tryz.func61, Tryz.ntmps61
      go_wp2_with fail
      refine (HL.out _).mono ?_
      rintro e w1 ⟨rfl, rfl⟩
      go_wp2_with fail
      refine (HD.out _).mono ?_
      rintro e w1 ⟨rfl, rfl⟩
      go_wp2_with fail
      go_ret
      exact ⟨by rw [HF.out]; rfl, rfl⟩
  · go_enter Tryz.func61, Tryz.ntmps61
    go_wp2_with fail
    refine (HL.out _).mono ?_
    rintro e w1 ⟨rfl, rfl⟩
    go_wp2_with fail
    go_ret
    exact ⟨by rw [HF.out]; rfl, rfl⟩
/-- How many bytes of a kind stand ahead. -/
def tkN (p : UInt8 → Bool) : List UInt8 → Nat
  | [] => 0
  | b :: r => if p b = true then 1 + tkN p r else 0
theorem tkN_le (p : UInt8 → Bool) : ∀ l, tkN p l ≤ l.length
  | [] => Nat.le_refl _
  | b :: r => by
    unfold tkN
    have := tkN_le p r
    simp only [List.length_cons]
    split <;> omega
def runP (p : UInt8 → Bool) (s : ByteArray) (a : Nat) : Nat := a + tkN p (s.data.toList.drop a)
theorem runP_le {p : UInt8 → Bool} {s : ByteArray} {a : Nat} (h : a ≤ s.size) : a ≤ runP p s a ∧ runP p s a ≤ s.size := by
  unfold runP
  have := tkN_le p (s.data.toList.drop a)
  rw [List.length_drop] at this
  have e : s.data.toList.length = s.size := rfl
  omega
theorem tkN_at (p : UInt8 → Bool) (s : ByteArray) (k : Nat) (h : k < s.size) : tkN p (s.data.toList.drop k) = if p s[k] = true then 1 + tkN p (s.data.toList.drop (k + 1)) else 0 := by
  rw [drop_cons s k h, tkN]
theorem tkN_end (p : UInt8 → Bool) (s : ByteArray) : tkN p (s.data.toList.drop s.size) = 0 := by
  have : s.data.toList.drop s.size = [] := List.drop_eq_nil_of_le (Nat.le_refl _)
  rw [this]; rfl
def RunPost (p : UInt8 → Bool) (P : Nat) (s : ByteArray) (a : Nat) (w : World) (e : Ending) (w' : World) : Prop := e = .returned (.string (s.extract a (runP p s a))) ∧ TxW P s (runP p s a) w' ∧ KeepL [P] w w'
set_option maxRecDepth 1000000 in
set_option maxHeartbeats 12800000 in
theorem run59_any (P : Nat) (s : ByteArray) (a : Nat) (w : World) (ht : TxW P s a w) (ha : a ≤ s.size) (hs : s.size ≤ 100000) : Calls Tryz.prog 58 #[.pointer (some ⟨P, 0, none⟩), .func (.func 59) #[] #[]] w (RunPost isDg P s a w) := by
  have HT := Lib.hid ht
  have HC := Lib.hid (fun (c : UInt8) (W : World) => (dg_any c W : Calls Tryz.prog 59 #[.int .u8 c.toNat] W fun e w' => e = .returned (.bool (isDg c)) ∧ W = w'))
  have HSK : Hid (tkN isDg (s.data.toList.drop a) + a = runP isDg s a) := Lib.hid (Nat.add_comm _ _)
  have HB := Lib.hid (runP_le (p := isDg) ha)
  obtain ⟨q, hq⟩ : ∃ q, runP isDg s a = q := ⟨_, rfl⟩
  have HST := Lib.hid (fun k h => tkN_at isDg s k h)
  have HSE := Lib.hid (tkN_end isDg s)
  have HRP : Hid (RunPost isDg P s a w = fun e w' => e = .returned (.string (s.extract a q)) ∧ TxW P s q w' ∧ KeepL [P] w w') := Lib.hid (by rw [← hq]; rfl)
  rw [hq] at HSK HB
  have t1 := cell_c (show w.heap[P]? = some (.cells #[.string s, .int .i64 a] 57) from ht) 1
  clear ht hq
  go_enter Tryz.func58, Tryz.ntmps58
  go_wp2_with fail
  clear t1
  go_loopg [] (s.size - a) (fun g wr => ∃ (k : Nat), k ≤ s.size ∧ s.size - k ≤ g ∧ Hid (TxW P s k wr ∧ KeepL [P] w wr) ∧ Hid (tkN isDg (s.data.toList.drop k) + k = q))
  case atStart => exact ⟨a, ha, Nat.le_refl _, Lib.hid ⟨HT.out, KeepL.refl _ _⟩, HSK⟩
  case round =>
    clear HSK
    obtain ⟨k, hk, hg, HW, HQ⟩ := hrel
    have HGK := Lib.hid hg
    clear hg
    have t0 := cell_c (show wr.heap[P]? = some (.cells #[.string s, .int .i64 k] 57) from HW.out.1) 0
    have t1 := cell_c (show wr.heap[P]? = some (.cells #[.string s, .int .i64 k] 57) from HW.out.1) 1
    have ft := cell_f (show wr.heap[P]? = some (.cells #[.string s, .int .i64 k] 57) from HW.out.1) 1
    have hP : P < wr.heap.size := (Array.getElem?_eq_some_iff.1 HW.out.1).1
    by_cases hlt : k < s.size
    · have kI : (k : Int) < (s.size : Int) := by omega
      have k0 : (0 : Int) ≤ (k : Int) := by omega
      have wk : IntKind.i64.wrap ((k : Int) + 1) = (k : Int) + 1 := IntWalk.i64_in _ (by omega)
      have hst := HST.out k hlt
      have hcc := fun W => HC.out s[k] W
      have HCEL : Hid (∀ W, TxW P s k W → (W.cell? ⟨P, 0, none⟩ = some (.string s) ∧ W.cell? ⟨P, 1, none⟩ = some (.int .i64 k))) := Lib.hid (fun W h => ⟨cell_c h 0, cell_c h 1⟩)
      have HFR : Hid (∀ W, TxW P s k W → W.frozen? ⟨P, 1, none⟩ = false) := Lib.hid (fun W h => cell_f h 1)
      have HD := Lib.hid (And.intro (show TxW P s k wr.drew from HW.out.1) (HW.out.2.trans (KeepL.of (Below.drew (Below.refl wr.heap.size wr)))))
      cases hd : (isDg s[k])
      · rw [if_neg (show ¬ (isDg s[k] = true) from fun q => by have := (show isDg s[k] = true from q); rw [hd] at this; cases this)] at hst
        rw [hd] at hcc
        have HK := Lib.hid (show k = q by have := HQ.out; omega)
        have HCC := Lib.hid hcc
        clear hcc hst hd
        go_wp2_with fail
        have HBW := Lib.hid (HD.out)
        clear t0 t1
        go_region_held3 (fun W => W.cell? ⟨P, 0, none⟩ = some (.string s) ∧ W.cell? ⟨P, 1, none⟩ = some (.int .i64 k))
          (exact HCEL.out _ HBW.out.1)
          (first
            | (go_at_call 59; refine (HCC.out _).mono ?_; rintro e wq ⟨rfl, rfl⟩))
        go_wp2_with fail
        obtain ⟨t0, t1⟩ := HCEL.out wr HW.out.1
        have hsl : ∀ W, (Instr.slice 9 (.string s) (some (.int .i64 (a : Int))) (some (.int .i64 (k : Int))) none).run Tryz.prog W = .ok (.string (s.extract a k)) W := fun W => by
          rw [run_slice_string W 9 s .i64 .i64 _ _ Tryz.underlying9 (by omega) (by have := HB.out; have := HK.out; omega) (by omega), show ((a : Int)).toNat = a by omega, show ((k : Int)).toNat = k by omega]
        go_quiet (fail)
        go_wp2_with fail
        go_ret
        rw [HRP.out]
        exact ⟨by rw [← HK.out]; rfl, by rw [← HK.out]; exact HBW.out.1.draws _, HBW.out.2.draws _⟩
      · rw [if_pos (show isDg s[k] = true from hd)] at hst
        rw [hd] at hcc
        have HK := Lib.hid (show tkN isDg (s.data.toList.drop (k + 1)) + (k + 1) = q by have := HQ.out; omega)
        have HCC := Lib.hid hcc
        clear hcc hst hd
        go_wp2_with fail
        have HBW := Lib.hid (HD.out)
        clear t0 t1
        go_region_held3 (fun W => W.cell? ⟨P, 0, none⟩ = some (.string s) ∧ W.cell? ⟨P, 1, none⟩ = some (.int .i64 k))
          (exact HCEL.out _ HBW.out.1)
          (first
            | (go_at_call 59; refine (HCC.out _).mono ?_; rintro e wq ⟨rfl, rfl⟩))
        obtain ⟨t0, t1⟩ := HCEL.out wr HW.out.1
        have ft := HFR.out wr HW.out.1
        go_wp2_with fail
        go_roundg (s.size - (k + 1))
        case measure => have := HGK.out; omega
        case rel => exact ⟨k + 1, hlt, Nat.le_refl _, Lib.hid ⟨HBW.out.1.move (k + 1), HBW.out.2.set (by simp) _ _⟩, HK⟩
    · obtain rfl : k = s.size := by omega
      have HE := Lib.hid (show s.size = q by have := HQ.out; rw [HSE.out] at this; omega)
      have hsl : ∀ W, (Instr.slice 9 (.string s) (some (.int .i64 (a : Int))) (some (.int .i64 (s.size : Int))) none).run Tryz.prog W = .ok (.string (s.extract a s.size)) W := fun W => by
        rw [run_slice_string W 9 s .i64 .i64 _ _ Tryz.underlying9 (by omega) (by omega) (by omega), show ((a : Int)).toNat = a by omega, show ((s.size : Int)).toNat = s.size by omega]
      go_wp2_with fail
      go_quiet (fail)
      go_wp2_with fail
      go_quiet (fail)
      go_wp2_with fail
      go_ret
      rw [HRP.out]
      exact ⟨by rw [← HE.out]; rfl, by rw [← HE.out]; exact (HW.out.1.draws _).draws _, (HW.out.2.draws _).draws _⟩
set_option maxRecDepth 1000000 in
set_option maxHeartbeats 12800000 in
theorem run61_any (P : Nat) (s : ByteArray) (a : Nat) (w : World) (ht : TxW P s a w) (ha : a ≤ s.size) (hs : s.size ≤ 100000) : Calls Tryz.prog 58 #[.pointer (some ⟨P, 0, none⟩), .func (.func 61) #[] #[]] w (RunPost (fun b => wrdB b.toNat) P s a w) := by
  have HT := Lib.hid ht
  have HC := Lib.hid (fun (c : UInt8) (W : World) => (nm61_any c W : Calls Tryz.prog 61 #[.int .u8 c.toNat] W fun e w' => e = .returned (.bool (wrdB c.toNat)) ∧ W = w'))
  have HSK : Hid (tkN (fun b => wrdB b.toNat) (s.data.toList.drop a) + a = runP (fun b => wrdB b.toNat) s a) := Lib.hid (Nat.add_comm _ _)
  have HB := Lib.hid (runP_le (p := (fun b => wrdB b.toNat)) ha)
  obtain ⟨q, hq⟩ : ∃ q, runP (fun b => wrdB b.toNat) s a = q := ⟨_, rfl⟩
  have HST := Lib.hid (fun k h => tkN_at (fun b => wrdB b.toNat) s k h)
  have HSE := Lib.hid (tkN_end (fun b => wrdB b.toNat) s)
  have HRP : Hid (RunPost (fun b => wrdB b.toNat) P s a w = fun e w' => e = .returned (.string (s.extract a q)) ∧ TxW P s q w' ∧ KeepL [P] w w') := Lib.hid (by rw [← hq]; rfl)
  rw [hq] at HSK HB
  have t1 := cell_c (show w.heap[P]? = some (.cells #[.string s, .int .i64 a] 57) from ht) 1
  clear ht hq
  go_enter Tryz.func58, Tryz.ntmps58
  go_wp2_with fail
  clear t1
  go_loopg [] (s.size - a) (fun g wr => ∃ (k : Nat), k ≤ s.size ∧ s.size - k ≤ g ∧ Hid (TxW P s k wr ∧ KeepL [P] w wr) ∧ Hid (tkN (fun b => wrdB b.toNat) (s.data.toList.drop k) + k = q))
  case atStart => exact ⟨a, ha, Nat.le_refl _, Lib.hid ⟨HT.out, KeepL.refl _ _⟩, HSK⟩
  case round =>
    clear HSK
    obtain ⟨k, hk, hg, HW, HQ⟩ := hrel
    have HGK := Lib.hid hg
    clear hg
    have t0 := cell_c (show wr.heap[P]? = some (.cells #[.string s, .int .i64 k] 57) from HW.out.1) 0
    have t1 := cell_c (show wr.heap[P]? = some (.cells #[.string s, .int .i64 k] 57) from HW.out.1) 1
    have ft := cell_f (show wr.heap[P]? = some (.cells #[.string s, .int .i64 k] 57) from HW.out.1) 1
    have hP : P < wr.heap.size := (Array.getElem?_eq_some_iff.1 HW.out.1).1
    by_cases hlt : k < s.size
    · have kI : (k : Int) < (s.size : Int) := by omega
      have k0 : (0 : Int) ≤ (k : Int) := by omega
      have wk : IntKind.i64.wrap ((k : Int) + 1) = (k : Int) + 1 := IntWalk.i64_in _ (by omega)
      have hst := HST.out k hlt
      have hcc := fun W => HC.out s[k] W
      have HCEL : Hid (∀ W, TxW P s k W → (W.cell? ⟨P, 0, none⟩ = some (.string s) ∧ W.cell? ⟨P, 1, none⟩ = some (.int .i64 k))) := Lib.hid (fun W h => ⟨cell_c h 0, cell_c h 1⟩)
      have HFR : Hid (∀ W, TxW P s k W → W.frozen? ⟨P, 1, none⟩ = false) := Lib.hid (fun W h => cell_f h 1)
      have HD := Lib.hid (And.intro (show TxW P s k wr.drew from HW.out.1) (HW.out.2.trans (KeepL.of (Below.drew (Below.refl wr.heap.size wr)))))
      cases hd : (wrdB (s[k]).toNat)
      · rw [if_neg (show ¬ ((fun b => wrdB b.toNat) s[k] = true) from fun q => by have := (show wrdB (s[k]).toNat = true from q); rw [hd] at this; cases this)] at hst
        rw [hd] at hcc
        have HK := Lib.hid (show k = q by have := HQ.out; omega)
        have HCC := Lib.hid hcc
        clear hcc hst hd
        go_wp2_with fail
        have HBW := Lib.hid (HD.out)
        clear t0 t1
        go_region_held3 (fun W => W.cell? ⟨P, 0, none⟩ = some (.string s) ∧ W.cell? ⟨P, 1, none⟩ = some (.int .i64 k))
          (exact HCEL.out _ HBW.out.1)
          (first
            | (go_at_call 61; refine (HCC.out _).mono ?_; rintro e wq ⟨rfl, rfl⟩))
        go_wp2_with fail
        obtain ⟨t0, t1⟩ := HCEL.out wr HW.out.1
        have hsl : ∀ W, (Instr.slice 9 (.string s) (some (.int .i64 (a : Int))) (some (.int .i64 (k : Int))) none).run Tryz.prog W = .ok (.string (s.extract a k)) W := fun W => by
          rw [run_slice_string W 9 s .i64 .i64 _ _ Tryz.underlying9 (by omega) (by have := HB.out; have := HK.out; omega) (by omega), show ((a : Int)).toNat = a by omega, show ((k : Int)).toNat = k by omega]
        go_quiet (fail)
        go_wp2_with fail
        go_ret
        rw [HRP.out]
        exact ⟨by rw [← HK.out]; rfl, by rw [← HK.out]; exact HBW.out.1.draws _, HBW.out.2.draws _⟩
      · rw [if_pos (show (fun b => wrdB b.toNat) s[k] = true from hd)] at hst
        rw [hd] at hcc
        have HK := Lib.hid (show tkN (fun b => wrdB b.toNat) (s.data.toList.drop (k + 1)) + (k + 1) = q by have := HQ.out; omega)
        have HCC := Lib.hid hcc
        clear hcc hst hd
        go_wp2_with fail
        have HBW := Lib.hid (HD.out)
        clear t0 t1
        go_region_held3 (fun W => W.cell? ⟨P, 0, none⟩ = some (.string s) ∧ W.cell? ⟨P, 1, none⟩ = some (.int .i64 k))
          (exact HCEL.out _ HBW.out.1)
          (first
            | (go_at_call 61; refine (HCC.out _).mono ?_; rintro e wq ⟨rfl, rfl⟩))
        obtain ⟨t0, t1⟩ := HCEL.out wr HW.out.1
        have ft := HFR.out wr HW.out.1
        go_wp2_with fail
        go_roundg (s.size - (k + 1))
        case measure => have := HGK.out; omega
        case rel => exact ⟨k + 1, hlt, Nat.le_refl _, Lib.hid ⟨HBW.out.1.move (k + 1), HBW.out.2.set (by simp) _ _⟩, HK⟩
    · obtain rfl : k = s.size := by omega
      have HE := Lib.hid (show s.size = q by have := HQ.out; rw [HSE.out] at this; omega)
      have hsl : ∀ W, (Instr.slice 9 (.string s) (some (.int .i64 (a : Int))) (some (.int .i64 (s.size : Int))) none).run Tryz.prog W = .ok (.string (s.extract a s.size)) W := fun W => by
        rw [run_slice_string W 9 s .i64 .i64 _ _ Tryz.underlying9 (by omega) (by omega) (by omega), show ((a : Int)).toNat = a by omega, show ((s.size : Int)).toNat = s.size by omega]
      go_wp2_with fail
      go_quiet (fail)
      go_wp2_with fail
      go_quiet (fail)
      go_wp2_with fail
      go_ret
      rw [HRP.out]
      exact ⟨by rw [← HE.out]; rfl, by rw [← HE.out]; exact (HW.out.1.draws _).draws _, (HW.out.2.draws _).draws _⟩
end Go.Proofs.YtiegoffdbhmfbaaGreatDoor
