/- Reading a table's text: mark, digits, name. -/
import Derived.Test.YtiegoffdbhmfbaaGreatDoorRun
namespace Go.Proofs.YtiegoffdbhmfbaaGreatDoor
set_option linter.unusedVariables false
open Go.RowKit

/-- The block of a range. -/
def RgB (R : Nat) (x : Rg) (w : World) : Prop := w.heap[R]? = some (.cells (rgC x) 26)
theorem RgB.keep {R P : Nat} {x : Rg} {w w' : World} (h : RgB R x w) (hk : KeepL [P] w w') (hn : R ≠ P) : RgB R x w' := hk.blk h (by simp [hn])
theorem RgB.lt {R : Nat} {x : Rg} {w : World} (h : RgB R x w) : R < w.heap.size := (Array.getElem?_eq_some_iff.1 h).1
theorem TxW.lt {P a : Nat} {s : ByteArray} {w : World} (h : TxW P s a w) : P < w.heap.size := (Array.getElem?_eq_some_iff.1 h).1
def putF (x : Rg) (c : Nat) (t : ByteArray) : Rg := if c = 0 then {x with lo := t} else if c = 1 then {x with hi := t} else if c = 2 then {x with is := t} else {x with pr := t}
theorem RgB.put {R : Nat} {x : Rg} {w : World} (h : RgB R x w) (c : Nat) (hc : c < 4) (t : ByteArray) : RgB R (putF x c t) (w.setCell ⟨R, c, none⟩ (.string t)) := by
  unfold RgB putF
  rw [heap_set1 h c _]
  have : c = 0 ∨ c = 1 ∨ c = 2 ∨ c = 3 := by omega
  rcases this with rfl | rfl | rfl | rfl <;> rfl
theorem putF_at (x : Rg) (c : Nat) (hc : c < 4) (t : ByteArray) : (rgC (putF x c t))[c]? = some (.string t) := by
  have : c = 0 ∨ c = 1 ∨ c = 2 ∨ c = 3 := by omega
  rcases this with rfl | rfl | rfl | rfl <;> rfl
theorem TxW.other {P a R c : Nat} {s : ByteArray} {v : Value} {w : World} (h : TxW P s a w) (hn : P ≠ R) : TxW P s a (w.setCell ⟨R, c, none⟩ v) := by
  unfold TxW at *
  rw [Below.heap_setCell _ _ _ _ (show P ≠ (⟨R, c, none⟩ : Addr).block from hn)]; exact h
/-- Whether this byte stands here. -/
def mkQ (b : UInt8) (s : ByteArray) (a : Nat) : Bool := if h : a < s.size then s[a] == b else false
def ltA (s : ByteArray) (a : Nat) : Bool := if h : a < s.size then letB (s[a]).toNat else false
def MkPost (P : Nat) (s : ByteArray) (a : Nat) (b : UInt8) (w : World) (e : Ending) (w' : World) : Prop := e = .returned (.bool (mkQ b s (skipP s a))) ∧ TxW P s (if mkQ b s (skipP s a) = true then skipP s a + 1 else skipP s a) w' ∧ KeepL [P] w w'
set_option maxRecDepth 1000000 in
set_option maxHeartbeats 6400000 in
theorem mark_any (P : Nat) (s : ByteArray) (a : Nat) (b : UInt8) (w : World) (ht : TxW P s a w) (ha : a ≤ s.size) (hs : s.size ≤ 100000) : Calls Tryz.prog 43 #[.pointer (some ⟨P, 0, none⟩), .int .u8 b.toNat] w (MkPost P s a b w) := by
  have HSK := Lib.hid (skip_any P s a w ht ha hs)
  have HB := Lib.hid (skipP_le (s := s) ha)
  have HMP : Hid (MkPost P s a b w = fun e w' => e = .returned (.bool (mkQ b s (skipP s a))) ∧ TxW P s (if mkQ b s (skipP s a) = true then skipP s a + 1 else skipP s a) w' ∧ KeepL [P] w w') := Lib.hid rfl
  unfold SkPost at HSK
  obtain ⟨q, hq⟩ : ∃ q, skipP s a = q := ⟨_, rfl⟩
  rw [hq] at HSK HB HMP
  clear hq ht
  by_cases hlt : q < s.size
  · have hmk : mkQ b s q = (s[q] == b) := by unfold mkQ; rw [dif_pos hlt]
    obtain ⟨z, hz⟩ : ∃ z, (((s[q]).toNat : Int) == (b.toNat : Int)) = z := ⟨_, rfl⟩
    have hmz : mkQ b s q = z := by
      rw [hmk, ← hz]
      by_cases hb : s[q] = b
      · simp [hb]
      · have : ¬ ((s[q]).toNat : Int) = (b.toNat : Int) := fun e => hb (UInt8.toNat_inj.1 (by omega))
        rw [beq_eq_false_iff_ne.2 hb, beq_eq_false_iff_ne.2 this]
    have HMZ := Lib.hid hmz
    clear hmk hmz
    have qI : ((q : Int) == (s.size : Int)) = false := by simp; omega
    have qJ : (q : Int) < (s.size : Int) := by omega
    have q0 : (0 : Int) ≤ (q : Int) := by omega
    have wk : IntKind.i64.wrap ((q : Int) + 1) = (q : Int) + 1 := IntWalk.i64_in _ (by omega)
    cases z
    all_goals
      go_enter Tryz.func43, Tryz.ntmps43
      go_wp2_with fail
      refine HSK.out.mono ?_
      rintro e wr ⟨rfl, ht, hk⟩
      have HT := Lib.hid ht
      have HK := Lib.hid hk
      have t0 := cell_c (show wr.heap[P]? = some (.cells #[.string s, .int .i64 q] 57) from HT.out) 0
      have t1 := cell_c (show wr.heap[P]? = some (.cells #[.string s, .int .i64 q] 57) from HT.out) 1
      have ft := cell_f (show wr.heap[P]? = some (.cells #[.string s, .int .i64 q] 57) from HT.out) 1
      have hP : P < wr.heap.size := HT.out.lt
      clear ht hk
      go_wp2_with fail
      go_quiet (fail)
      go_wp2_with fail
      go_ret
      rw [HMP.out, HMZ.out]
    · exact ⟨rfl, HT.out.draws _, HK.out.draws _⟩
    · exact ⟨rfl, (HT.out.draws _).move (q + 1), (HK.out.draws _).set (by simp) _ _⟩
  · obtain rfl : q = s.size := by have := HB.out; omega
    have HMZ := Lib.hid (show mkQ b s s.size = false by unfold mkQ; rw [dif_neg (by omega)])
    go_enter Tryz.func43, Tryz.ntmps43
    go_wp2_with fail
    refine HSK.out.mono ?_
    rintro e wr ⟨rfl, ht, hk⟩
    have HT := Lib.hid ht
    have HK := Lib.hid hk
    have t0 := cell_c (show wr.heap[P]? = some (.cells #[.string s, .int .i64 s.size] 57) from HT.out) 0
    have t1 := cell_c (show wr.heap[P]? = some (.cells #[.string s, .int .i64 s.size] 57) from HT.out) 1
    clear ht hk
    go_wp2_with fail
    go_quiet (fail)
    go_wp2_with fail
    go_ret
    rw [HMP.out, HMZ.out]
    exact ⟨rfl, HT.out.draws _, HK.out.draws _⟩
def DgPost (P R c : Nat) (x : Rg) (s : ByteArray) (a q : Nat) (w : World) (e : Ending) (w' : World) : Prop := e = .returned (.bool (decide (a < q))) ∧ TxW P s q w' ∧ RgB R (putF x c (s.extract a q)) w' ∧ KeepL [P, R] w w'
set_option maxRecDepth 1000000 in
set_option maxHeartbeats 6400000 in
theorem digs_any (P R c : Nat) (hc : c < 4) (x : Rg) (s : ByteArray) (a : Nat) (w : World) (ht : TxW P s a w) (hx : RgB R x w) (hn : R ≠ P) (ha : a ≤ s.size) (hs : s.size ≤ 100000) : Calls Tryz.prog 42 #[.pointer (some ⟨P, 0, none⟩), .pointer (some ⟨R, c, none⟩)] w (DgPost P R c x s (skipP s a) (runP isDg s (skipP s a)) w) := by
  have HSK := Lib.hid (skip_any P s a w ht ha hs)
  have hb := skipP_le (s := s) ha
  unfold SkPost at HSK
  obtain ⟨p, hp⟩ : ∃ p, skipP s a = p := ⟨_, rfl⟩
  rw [hp] at HSK hb ⊢
  have HRN := Lib.hid (fun (W : World) h => run59_any P s p W h hb.2 hs)
  unfold RunPost at HRN
  have hb2 := runP_le (p := isDg) hb.2
  obtain ⟨q, hq⟩ : ∃ q, runP isDg s p = q := ⟨_, rfl⟩
  rw [hq] at HRN hb2 ⊢
  have HTS : Hid ((s.extract p q).size = q - p) := Lib.hid (by rw [ByteArray.size_extract]; omega)
  have HX := Lib.hid hx
  have HNE := Lib.hid hn
  have HB2 := Lib.hid hb2
  have HCC := Lib.hid hc
  obtain ⟨t, htt⟩ : ∃ t, s.extract p q = t := ⟨_, rfl⟩
  have HDP : Hid (DgPost P R c x s p q w = fun e w' => e = .returned (.bool (decide (p < q))) ∧ TxW P s q w' ∧ RgB R (putF x c t) w' ∧ KeepL [P, R] w w') := Lib.hid (by rw [← htt]; rfl)
  rw [htt] at HRN HTS
  obtain ⟨z, hz⟩ : ∃ z, decide (p < q) = z := ⟨_, rfl⟩
  rw [hz] at HDP
  have HZ : Hid ((!t.toList.isEmpty) = z) := Lib.hid (by
    have hl : t.toList.length = t.size := by rw [Lib.toList_data]; rfl
    have := HTS.out
    rw [← hz]
    cases he : t.toList with
    | nil => rw [he] at hl; simp at hl ⊢; omega
    | cons a l => rw [he] at hl; simp at hl ⊢; omega)
  clear hz htt hp hq hb hb2 hx hn ht hc
  go_enter Tryz.func42, Tryz.ntmps42
  go_wp2_with fail
  refine HSK.out.mono ?_
  rintro e wr ⟨rfl, ht, hk⟩
  have HT := Lib.hid ht
  have HK := Lib.hid hk
  clear ht hk
  go_wp2_with fail
  refine (HRN.out _ HT.out).mono ?_
  rintro e wq ⟨rfl, ht, hk⟩
  have HT2 := Lib.hid ht
  have HK2 := Lib.hid (HK.out.trans hk)
  have HRB := Lib.hid (HX.out.keep HK2.out HNE.out)
  have hR : R < wq.heap.size := HRB.out.lt
  have ft := cell_f (show wq.heap[R]? = some (.cells (rgC x) 26) from HRB.out) c
  have tc : ∃ v, wq.cell? ⟨R, c, none⟩ = some v := by
    refine ⟨(rgC x)[c]'(HCC.out), ?_⟩
    rw [cell_c (show wq.heap[R]? = some (.cells (rgC x) 26) from HRB.out) c]
    exact Array.getElem?_eq_getElem _
  obtain ⟨v, tc⟩ := tc
  have tz : (wq.setCell ⟨R, c, none⟩ (.string t)).cell? ⟨R, c, none⟩ = some (.string t) := by
    rw [cell_c (show (wq.setCell ⟨R, c, none⟩ (.string t)).heap[R]? = some (.cells (rgC (putF x c t)) 26) from HRB.out.put c HCC.out t) c]
    exact putF_at x c HCC.out t
  clear ht hk
  go_wp2_with fail
  go_ret
  rw [HDP.out, ← HZ.out]
  exact ⟨rfl, HT2.out.other (fun e => HNE.out e.symm), HRB.out.put c HCC.out t, (HK2.out.more (by simp)).set (by simp) _ _⟩
def NmPost (P R c : Nat) (x : Rg) (s : ByteArray) (a q : Nat) (b : Bool) (w : World) (e : Ending) (w' : World) : Prop := e = .returned (.bool b) ∧ TxW P s (if b = true then q else a) w' ∧ RgB R (if b = true then putF x c (s.extract a q) else x) w' ∧ KeepL [P, R] w w'
def wrU (b : UInt8) : Bool := wrdB b.toNat
set_option maxRecDepth 1000000 in
set_option maxHeartbeats 12800000 in
theorem name_any (P R c : Nat) (hc : c < 4) (x : Rg) (s : ByteArray) (a : Nat) (w : World) (ht : TxW P s a w) (hx : RgB R x w) (hn : R ≠ P) (ha : a ≤ s.size) (hs : s.size ≤ 100000) : Calls Tryz.prog 44 #[.pointer (some ⟨P, 0, none⟩), .pointer (some ⟨R, c, none⟩)] w (NmPost P R c x s (skipP s a) (runP wrU s (skipP s a)) (ltA s (skipP s a)) w) := by
  have HSK := Lib.hid (skip_any P s a w ht ha hs)
  have hb := skipP_le (s := s) ha
  unfold SkPost at HSK
  obtain ⟨p, hp⟩ : ∃ p, skipP s a = p := ⟨_, rfl⟩
  rw [hp] at HSK hb ⊢
  have HRN : Hid (∀ W, TxW P s p W → Calls Tryz.prog 58 #[.pointer (some ⟨P, 0, none⟩), .func (.func 61) #[] #[]] W (RunPost wrU P s p W)) := Lib.hid (fun (W : World) h => run61_any P s p W h hb.2 hs)
  unfold RunPost at HRN
  obtain ⟨q, hq⟩ : ∃ q, runP wrU s p = q := ⟨_, rfl⟩
  rw [hq] at HRN ⊢
  have HX := Lib.hid hx
  have HNE := Lib.hid hn
  have HCC := Lib.hid hc
  have HB := Lib.hid hb
  obtain ⟨t, htt⟩ : ∃ t, s.extract p q = t := ⟨_, rfl⟩
  obtain ⟨z, hz⟩ : ∃ z, ltA s p = z := ⟨_, rfl⟩
  rw [hz]
  have HZZ := Lib.hid hz
  have HNP : Hid (NmPost P R c x s p q z w = fun e w' => e = .returned (.bool z) ∧ TxW P s (if z = true then q else p) w' ∧ RgB R (if z = true then putF x c t else x) w' ∧ KeepL [P, R] w w') := Lib.hid (by rw [← htt]; rfl)
  rw [htt] at HRN
  clear hp hq hb hx hn ht hc htt hz
  by_cases hlt : p < s.size
  · have hzz : letB (s[p]).toNat = z := by have := HZZ.out; unfold ltA at this; rwa [dif_pos hlt] at this
    have hcc := fun W => lt60_any s[p] W
    rw [hzz] at hcc
    have HLT := Lib.hid hcc
    clear hcc hzz
    have pJ : (p : Int) < (s.size : Int) := by omega
    have qI : ((p : Int) == (s.size : Int)) = false := by simp; omega
    have p0 : (0 : Int) ≤ (p : Int) := by omega
    cases z
    all_goals
      go_enter Tryz.func44, Tryz.ntmps44
      go_wp2_with fail
      refine HSK.out.mono ?_
      rintro e wr ⟨rfl, ht, hk⟩
      have HT := Lib.hid ht
      have HK := Lib.hid hk
      have HCEL : Hid (∀ W, TxW P s p W → (W.cell? ⟨P, 0, none⟩ = some (.string s) ∧ W.cell? ⟨P, 1, none⟩ = some (.int .i64 p))) := Lib.hid (fun W h => ⟨cell_c h 0, cell_c h 1⟩)
      have HBW := Lib.hid (show TxW P s p wr.drew from HT.out)
      clear ht hk
      go_wp2_with fail
      go_region_held3 (fun W => W.cell? ⟨P, 0, none⟩ = some (.string s) ∧ W.cell? ⟨P, 1, none⟩ = some (.int .i64 p))
        (exact HCEL.out _ HBW.out)
        (first
          | (go_at_call 60; refine (HLT.out _).mono ?_; rintro e wq ⟨rfl, rfl⟩))
      go_wp2_with fail
    · go_ret
      rw [HNP.out]
      exact ⟨rfl, HBW.out, HX.out.keep (HK.out.trans (KeepL.of (Below.drew (Below.refl wr.heap.size wr)))) HNE.out, (HK.out.trans (KeepL.of (Below.drew (Below.refl wr.heap.size wr)))).more (by simp)⟩
    · refine (HRN.out _ HBW.out).mono ?_
      rintro e wq ⟨rfl, ht, hk⟩
      have HT2 := Lib.hid ht
      have HK2 := Lib.hid ((HK.out.trans (KeepL.of (Below.drew (Below.refl wr.heap.size wr)))).trans hk)
      have HRB := Lib.hid (HX.out.keep HK2.out HNE.out)
      have hR : R < wq.heap.size := HRB.out.lt
      have ft := cell_f (show wq.heap[R]? = some (.cells (rgC x) 26) from HRB.out) c
      have tc : ∃ v, wq.cell? ⟨R, c, none⟩ = some v := by
        refine ⟨(rgC x)[c]'(HCC.out), ?_⟩
        rw [cell_c (show wq.heap[R]? = some (.cells (rgC x) 26) from HRB.out) c]
        exact Array.getElem?_eq_getElem _
      obtain ⟨v, tc⟩ := tc
      clear ht hk
      go_wp2_with fail
      go_ret
      rw [HNP.out]
      exact ⟨rfl, HT2.out.other (fun e => HNE.out e.symm), HRB.out.put c HCC.out t, (HK2.out.more (by simp)).set (by simp) _ _⟩
  · obtain rfl : p = s.size := by have := HB.out; omega
    obtain rfl : z = false := by have := HZZ.out; unfold ltA at this; rw [dif_neg (by omega)] at this; exact this.symm
    go_enter Tryz.func44, Tryz.ntmps44
    go_wp2_with fail
    refine HSK.out.mono ?_
    rintro e wr ⟨rfl, ht, hk⟩
    have HT := Lib.hid ht
    have HK := Lib.hid hk
    have t0 := cell_c (show wr.heap[P]? = some (.cells #[.string s, .int .i64 s.size] 57) from HT.out) 0
    have t1 := cell_c (show wr.heap[P]? = some (.cells #[.string s, .int .i64 s.size] 57) from HT.out) 1
    clear ht hk
    go_wp2_with fail
    go_quiet (fail)
    go_wp2_with fail
    go_ret
    rw [HNP.out]
    exact ⟨rfl, HT.out.draws _, HX.out.keep (HK.out.draws _) HNE.out, (HK.out.draws _).more (by simp)⟩
end Go.Proofs.YtiegoffdbhmfbaaGreatDoor
