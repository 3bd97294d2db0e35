/- Reading a table's text: an entry. -/
import Derived.Test.YtiegoffdbhmfbaaGreatDoorTks
import Derived.Test.YtiegoffdbhmfbaaGreatDoorRFnd
namespace Go.Proofs.YtiegoffdbhmfbaaGreatDoor
set_option linter.unusedVariables false
open Go.RowKit

structure EnW (P B : Nat) (s : ByteArray) (k : Nat) (x : Rg) (w W : World) : Prop where
  tx : TxW P s k W
  z : RgB B zRg W
  r : RgB (B + 1) x W
  kp : KeepL [P] w W
theorem EnW.next {P B : Nat} {s : ByteArray} {k q : Nat} {x y : Rg} {w W W' : World} (h : EnW P B s k x w W) (hP : P < B) (hB : w.heap.size = B) (ht : TxW P s q W') (hr : RgB (B + 1) y W') (hk : KeepL [P, B + 1] W W') : EnW P B s q y w W' :=
  ⟨ht, hk.blk h.z (by simp; omega), hr, ⟨hk.os.trans h.kp.os, hk.tape.trans h.kp.tape, hk.output.trans h.kp.output, Nat.le_trans h.kp.size hk.size, fun i hi hx => (hk.block i (Nat.lt_of_lt_of_le hi h.kp.size) (by simp at hx ⊢; omega)).trans (h.kp.block i hi hx)⟩⟩
theorem EnW.draws {P B : Nat} {s : ByteArray} {k : Nat} {x : Rg} {w W : World} (h : EnW P B s k x w W) : EnW P B s k x w W.drew :=
  ⟨h.tx, h.z, h.r, h.kp.trans (KeepL.of (Below.drew (Below.refl W.heap.size W)))⟩
def StP (P B : Nat) (s : ByteArray) (z : Bool) (k : Nat) (x : Rg) (w : World) (e : Ending) (W : World) : Prop := e = .returned (.bool z) ∧ EnW P B s k x w W
theorem st_digs (c : Nat) (hc : c < 4) {P B : Nat} {s : ByteArray} {k : Nat} {x : Rg} {w W : World} (h : EnW P B s k x w W) (hP : P < B) (hB : w.heap.size = B) (hk : k ≤ s.size) (hs : s.size ≤ 100000) :
    Calls Tryz.prog 42 #[.pointer (some ⟨P, 0, none⟩), .pointer (some ⟨B + 1, c, none⟩)] W (StP P B s (decide (skipP s k < runP isDg s (skipP s k))) (runP isDg s (skipP s k)) (putF x c (s.extract (skipP s k) (runP isDg s (skipP s k)))) w) := by
  refine (digs_any P (B + 1) c hc x s k W h.tx h.r (by omega) hk hs).mono ?_
  rintro e W' ⟨rfl, ht, hr, hkk⟩
  exact ⟨rfl, h.next hP hB ht hr hkk⟩
theorem st_mark (b : UInt8) {P B : Nat} {s : ByteArray} {k : Nat} {x : Rg} {w W : World} (h : EnW P B s k x w W) (hP : P < B) (hB : w.heap.size = B) (hk : k ≤ s.size) (hs : s.size ≤ 100000) :
    Calls Tryz.prog 43 #[.pointer (some ⟨P, 0, none⟩), .int .u8 b.toNat] W (StP P B s (mkQ b s (skipP s k)) (if mkQ b s (skipP s k) = true then skipP s k + 1 else skipP s k) x w) := by
  refine (mark_any P s k b W h.tx hk hs).mono ?_
  rintro e W' ⟨rfl, ht, hkk⟩
  exact ⟨rfl, h.next hP hB ht (h.r.keep hkk (by omega)) (hkk.more (by simp))⟩
theorem st_name (c : Nat) (hc : c < 4) {P B : Nat} {s : ByteArray} {k : Nat} {x : Rg} {w W : World} (h : EnW P B s k x w W) (hP : P < B) (hB : w.heap.size = B) (hk : k ≤ s.size) (hs : s.size ≤ 100000) :
    Calls Tryz.prog 44 #[.pointer (some ⟨P, 0, none⟩), .pointer (some ⟨B + 1, c, none⟩)] W (StP P B s (ltA s (skipP s k)) (if ltA s (skipP s k) = true then runP wrU s (skipP s k) else skipP s k) (if ltA s (skipP s k) = true then putF x c (s.extract (skipP s k) (runP wrU s (skipP s k))) else x) w) := by
  refine (name_any P (B + 1) c hc x s k W h.tx h.r (by omega) hk hs).mono ?_
  rintro e W' ⟨rfl, ht, hr, hkk⟩
  exact ⟨rfl, h.next hP hB ht hr hkk⟩
/-- One token after another: whether it stands, where the text goes on, what has been read. -/
def tkD (s : ByteArray) (c : Nat) (k : Nat) (x : Rg) : Bool × Nat × Rg := (decide (skipP s k < runP isDg s (skipP s k)), runP isDg s (skipP s k), putF x c (s.extract (skipP s k) (runP isDg s (skipP s k))))
def tkM (s : ByteArray) (b : UInt8) (k : Nat) (x : Rg) : Bool × Nat × Rg := (mkQ b s (skipP s k), (if mkQ b s (skipP s k) = true then skipP s k + 1 else skipP s k), x)
def tkW (s : ByteArray) (c : Nat) (k : Nat) (x : Rg) : Bool × Nat × Rg := (ltA s (skipP s k), (if ltA s (skipP s k) = true then runP wrU s (skipP s k) else skipP s k), (if ltA s (skipP s k) = true then putF x c (s.extract (skipP s k) (runP wrU s (skipP s k))) else x))
theorem mkQ_lt {b : UInt8} {s : ByteArray} {a : Nat} (h : mkQ b s a = true) : a < s.size := by
  unfold mkQ at h; split at h
  · assumption
  · cases h
theorem tkD_le {s : ByteArray} {c k : Nat} {x : Rg} (h : k ≤ s.size) : k ≤ (tkD s c k x).2.1 ∧ (tkD s c k x).2.1 ≤ s.size := by
  have h1 := skipP_le (s := s) h
  have h2 := runP_le (p := isDg) h1.2
  exact ⟨Nat.le_trans h1.1 h2.1, h2.2⟩
theorem tkM_le {s : ByteArray} {b : UInt8} {k : Nat} {x : Rg} (h : k ≤ s.size) : k ≤ (tkM s b k x).2.1 ∧ (tkM s b k x).2.1 ≤ s.size := by
  have h1 := skipP_le (s := s) h
  unfold tkM
  simp only
  split
  · rename_i q
    have := mkQ_lt q
    omega
  · exact h1
theorem tkW_le {s : ByteArray} {c k : Nat} {x : Rg} (h : k ≤ s.size) : k ≤ (tkW s c k x).2.1 ∧ (tkW s c k x).2.1 ≤ s.size := by
  have h1 := skipP_le (s := s) h
  have h2 := runP_le (p := wrU) h1.2
  unfold tkW
  simp only
  split
  · omega
  · exact h1
/-- What entry reads. -/
def enP (s : ByteArray) (a : Nat) : Option (Rg × Nat) :=
  let t1 := tkD s 0 a zRg
  let t2 := tkM s 45 t1.2.1 t1.2.2
  let t3 := tkD s 1 t2.2.1 t2.2.2
  let t4 := tkW s 2 t3.2.1 t3.2.2
  let t5 := tkW s 3 t4.2.1 t4.2.2
  let t6 := tkM s 59 t5.2.1 t5.2.2
  if t1.1 && (t2.1 && (t3.1 && (t4.1 && (t5.1 && t6.1)))) then some (t6.2.2, t6.2.1) else none
def EnPost (P : Nat) (s : ByteArray) (a : Nat) (w : World) (e : Ending) (w' : World) : Prop := ∃ (x : Rg) (b : Bool) (k : Nat), e = .returned (.tuple #[.agg (rgC x), .bool b]) ∧ a ≤ k ∧ k ≤ s.size ∧ TxW P s k w' ∧ KeepL [P] w w' ∧ (b = true → enP s a = some (x, k)) ∧ (b = false → enP s a = none)
theorem KeepL.fresh {xs : List Nat} {b : Nat} {w W : World} (h : KeepL xs w W) (hb : w.heap.size ≤ b) (o : Nat) (v : Value) : KeepL xs w (W.setCell ⟨b, o, none⟩ v) :=
  ⟨h.os, h.tape, h.output, by have := h.size; simpa [World.setCell] using this, fun k hk hx => (Below.heap_setCell _ _ _ _ (show k ≠ (⟨b, o, none⟩ : Addr).block from fun e => by have : k = b := e; omega)).trans (h.block k hk hx)⟩
theorem KeepL.trans4 {xs : List Nat} {b : Nat} {w W : World} {y0 y1 y2 y3 : Value} (h : KeepL xs w W) (hb : w.heap.size ≤ b) : KeepL xs w ((((W.setCell ⟨b, 0, none⟩ y0).setCell ⟨b, 1, none⟩ y1).setCell ⟨b, 2, none⟩ y2).setCell ⟨b, 3, none⟩ y3) :=
  (((h.fresh hb 0 y0).fresh hb 1 y1).fresh hb 2 y2).fresh hb 3 y3
theorem en0 {P : Nat} {s : ByteArray} {a : Nat} {w : World} (h : TxW P s a w) : EnW P w.heap.size s a zRg w ((w.alloc (.cells (rgC zRg) 26)).alloc (.cells (rgC zRg) 26)) := by
  have hb := box2 (Below.refl _ ((w.alloc (.cells (rgC zRg) 26)).alloc (.cells (rgC zRg) 26)))
  exact ⟨blk_later h hb.2.2, hb.1, hb.2.1, KeepL.of hb.2.2⟩
theorem en_end {P B : Nat} {s : ByteArray} {k : Nat} {x : Rg} {w W : World} (h : EnW P B s k x w W) (hP : P < B) (hB : w.heap.size = B) : W.heap[B]? = some (.cells (rgC zRg) 26) ∧ W.heap[B + 1]? = some (.cells (rgC x) 26) ∧ B < W.heap.size ∧ B + 1 < W.heap.size := ⟨h.z, h.r, h.z.lt, h.r.lt⟩
set_option maxRecDepth 1000000 in
set_option maxHeartbeats 25600000 in
theorem entry_any (P : Nat) (s : ByteArray) (a : Nat) (w : World) (ht : TxW P s a w) (ha : a ≤ s.size) (hs : s.size ≤ 100000) : Calls Tryz.prog 25 #[.pointer (some ⟨P, 0, none⟩)] w (EnPost P s a w) := by
  have hP := ht.lt
  have HPB := Lib.hid hP
  have HW := Lib.hid (show EnW P w.heap.size s a zRg w ((w.alloc (.cells (rgC zRg) 26)).alloc (.cells (rgC zRg) 26)) from en0 ht)
  obtain ⟨z1, k1, x1, e1⟩ : ∃ z1 k1 x1, tkD s 0 a zRg = (z1, k1, x1) := ⟨_, _, _, rfl⟩
  have hk1 := tkD_le (c := 0) (x := zRg) ha
  rw [e1] at hk1
  have H1 : Hid (∀ W, EnW P w.heap.size s a zRg w W → Calls Tryz.prog 42 #[.pointer (some ⟨P, 0, none⟩), .pointer (some ⟨w.heap.size + 1, 0, none⟩)] W (StP P w.heap.size s z1 k1 x1 w)) := Lib.hid (fun W h => by
    have := st_digs 0 (by decide) h hP rfl ha hs
    have e := e1
    unfold tkD at e
    simp only [Prod.mk.injEq] at e
    obtain ⟨r1, r2, r3⟩ := e
    rw [← r1, ← r2, ← r3]; exact this)
  obtain ⟨z2, k2, x2, e2⟩ : ∃ z2 k2 x2, tkM s 45 k1 x1 = (z2, k2, x2) := ⟨_, _, _, rfl⟩
  have hk2 := tkM_le (b := 45) (x := x1) hk1.2
  rw [e2] at hk2
  have H2 : Hid (∀ W, EnW P w.heap.size s k1 x1 w W → Calls Tryz.prog 43 #[.pointer (some ⟨P, 0, none⟩), .int .u8 45] W (StP P w.heap.size s z2 k2 x2 w)) := Lib.hid (fun W h => by
    have := st_mark 45 h hP rfl hk1.2 hs
    have e := e2
    unfold tkM at e
    simp only [Prod.mk.injEq] at e
    obtain ⟨r1, r2, r3⟩ := e
    rw [← r1, ← r2, ← r3]; exact this)
  obtain ⟨z3, k3, x3, e3⟩ : ∃ z3 k3 x3, tkD s 1 k2 x2 = (z3, k3, x3) := ⟨_, _, _, rfl⟩
  have hk3 := tkD_le (c := 1) (x := x2) hk2.2
  rw [e3] at hk3
  have H3 : Hid (∀ W, EnW P w.heap.size s k2 x2 w W → Calls Tryz.prog 42 #[.pointer (some ⟨P, 0, none⟩), .pointer (some ⟨w.heap.size + 1, 1, none⟩)] W (StP P w.heap.size s z3 k3 x3 w)) := Lib.hid (fun W h => by
    have := st_digs 1 (by decide) h hP rfl hk2.2 hs
    have e := e3
    unfold tkD at e
    simp only [Prod.mk.injEq] at e
    obtain ⟨r1, r2, r3⟩ := e
    rw [← r1, ← r2, ← r3]; exact this)
  obtain ⟨z4, k4, x4, e4⟩ : ∃ z4 k4 x4, tkW s 2 k3 x3 = (z4, k4, x4) := ⟨_, _, _, rfl⟩
  have hk4 := tkW_le (c := 2) (x := x3) hk3.2
  rw [e4] at hk4
  have H4 : Hid (∀ W, EnW P w.heap.size s k3 x3 w W → Calls Tryz.prog 44 #[.pointer (some ⟨P, 0, none⟩), .pointer (some ⟨w.heap.size + 1, 2, none⟩)] W (StP P w.heap.size s z4 k4 x4 w)) := Lib.hid (fun W h => by
    have := st_name 2 (by decide) h hP rfl hk3.2 hs
    have e := e4
    unfold tkW at e
    simp only [Prod.mk.injEq] at e
    obtain ⟨r1, r2, r3⟩ := e
    rw [← r1, ← r2, ← r3]; exact this)
  obtain ⟨z5, k5, x5, e5⟩ : ∃ z5 k5 x5, tkW s 3 k4 x4 = (z5, k5, x5) := ⟨_, _, _, rfl⟩
  have hk5 := tkW_le (c := 3) (x := x4) hk4.2
  rw [e5] at hk5
  have H5 : Hid (∀ W, EnW P w.heap.size s k4 x4 w W → Calls Tryz.prog 44 #[.pointer (some ⟨P, 0, none⟩), .pointer (some ⟨w.heap.size + 1, 3, none⟩)] W (StP P w.heap.size s z5 k5 x5 w)) := Lib.hid (fun W h => by
    have := st_name 3 (by decide) h hP rfl hk4.2 hs
    have e := e5
    unfold tkW at e
    simp only [Prod.mk.injEq] at e
    obtain ⟨r1, r2, r3⟩ := e
    rw [← r1, ← r2, ← r3]; exact this)
  obtain ⟨z6, k6, x6, e6⟩ : ∃ z6 k6 x6, tkM s 59 k5 x5 = (z6, k6, x6) := ⟨_, _, _, rfl⟩
  have hk6 := tkM_le (b := 59) (x := x5) hk5.2
  rw [e6] at hk6
  have H6 : Hid (∀ W, EnW P w.heap.size s k5 x5 w W → Calls Tryz.prog 43 #[.pointer (some ⟨P, 0, none⟩), .int .u8 59] W (StP P w.heap.size s z6 k6 x6 w)) := Lib.hid (fun W h => by
    have := st_mark 59 h hP rfl hk5.2 hs
    have e := e6
    unfold tkM at e
    simp only [Prod.mk.injEq] at e
    obtain ⟨r1, r2, r3⟩ := e
    rw [← r1, ← r2, ← r3]; exact this)
  have HEN : Hid (enP s a = if z1 && (z2 && (z3 && (z4 && (z5 && z6)))) then some (x6, k6) else none) := Lib.hid (by
    unfold enP
    simp only [e1, e2, e3, e4, e5, e6])
  have HK := Lib.hid (And.intro hk1 (And.intro hk2 (And.intro hk3 (And.intro hk4 (And.intro hk5 hk6)))))
  simp only at HK
  clear e1 e2 e3 e4 e5 e6 hk1 hk2 hk3 hk4 hk5 hk6 ht
  cases z1
  case false =>
      go_enter Tryz.func25, Tryz.ntmps25
      go_wp2_with fail
      refine (H1.out _ HW.out).mono ?_
      rintro e wq ⟨rfl, hw⟩
      have HW := Lib.hid hw
      clear hw
      clear H1 H2 H3 H4 H5 H6
      obtain ⟨hz0, hr0, hl0, hl1⟩ := en_end HW.out HPB.out rfl
      have HZ := Lib.hid hz0
      obtain ⟨y0, y1, y2, y3⟩ := x1
      have HR := Lib.hid hr0
      have c0 := cell_c hr0 0
      have c1 := cell_c hr0 1
      have c2 := cell_c hr0 2
      have c3 := cell_c hr0 3
      have d0 := cell_c hz0 0
      have d1 := cell_c hz0 1
      have d2 := cell_c hz0 2
      have d3 := cell_c hz0 3
      have f0 := cell_f hz0 0
      have f1 := cell_f hz0 1
      have f2 := cell_f hz0 2
      have f3 := cell_f hz0 3
      unfold rgC at c0 c1 c2 c3 d0 d1 d2 d3
      clear hz0 hr0
      go_wp2_with fail
      refine bodyPost_ret (results_row_tmp (show Tryz.f25.results = #[.cell 2 26, .tmp 3] by kernel_rfl) _ _ w.heap.size 26 (rgC ⟨y0, y1, y2, y3⟩) (0, 0) _ _ rfl rfl (set4 HZ.out) Tryz.underlying26 rfl (by kernel_rfl)) rfl ?_
      have hkk := HK.out
      refine ⟨⟨y0, y1, y2, y3⟩, false, k1, rfl, by omega, by omega, set4_other HW.out.tx (Nat.ne_of_lt HPB.out), HW.out.kp.trans4 (Nat.le_refl _), (fun q => by cases q), (fun q => by rw [HEN.out]; rfl)⟩
  cases z2
  case false =>
      go_enter Tryz.func25, Tryz.ntmps25
      go_wp2_with fail
      refine (H1.out _ HW.out).mono ?_
      rintro e wq ⟨rfl, hw⟩
      have HW := Lib.hid hw
      clear hw
      go_wp2_with fail
      refine (H2.out _ HW.out).mono ?_
      rintro e wq ⟨rfl, hw⟩
      have HW := Lib.hid hw
      clear hw
      clear H1 H2 H3 H4 H5 H6
      obtain ⟨hz0, hr0, hl0, hl1⟩ := en_end HW.out HPB.out rfl
      have HZ := Lib.hid hz0
      obtain ⟨y0, y1, y2, y3⟩ := x2
      have HR := Lib.hid hr0
      have c0 := cell_c hr0 0
      have c1 := cell_c hr0 1
      have c2 := cell_c hr0 2
      have c3 := cell_c hr0 3
      have d0 := cell_c hz0 0
      have d1 := cell_c hz0 1
      have d2 := cell_c hz0 2
      have d3 := cell_c hz0 3
      have f0 := cell_f hz0 0
      have f1 := cell_f hz0 1
      have f2 := cell_f hz0 2
      have f3 := cell_f hz0 3
      unfold rgC at c0 c1 c2 c3 d0 d1 d2 d3
      clear hz0 hr0
      go_wp2_with fail
      refine bodyPost_ret (results_row_tmp (show Tryz.f25.results = #[.cell 2 26, .tmp 3] by kernel_rfl) _ _ w.heap.size 26 (rgC ⟨y0, y1, y2, y3⟩) (0, 0) _ _ rfl rfl (set4 HZ.out) Tryz.underlying26 rfl (by kernel_rfl)) rfl ?_
      have hkk := HK.out
      refine ⟨⟨y0, y1, y2, y3⟩, false, k2, rfl, by omega, by omega, set4_other HW.out.tx (Nat.ne_of_lt HPB.out), HW.out.kp.trans4 (Nat.le_refl _), (fun q => by cases q), (fun q => by rw [HEN.out]; rfl)⟩
  cases z3
  case false =>
      go_enter Tryz.func25, Tryz.ntmps25
      go_wp2_with fail
      refine (H1.out _ HW.out).mono ?_
      rintro e wq ⟨rfl, hw⟩
      have HW := Lib.hid hw
      clear hw
      go_wp2_with fail
      refine (H2.out _ HW.out).mono ?_
      rintro e wq ⟨rfl, hw⟩
      have HW := Lib.hid hw
      clear hw
      go_wp2_with fail
      refine (H3.out _ HW.out).mono ?_
      rintro e wq ⟨rfl, hw⟩
      have HW := Lib.hid hw
      clear hw
      clear H1 H2 H3 H4 H5 H6
      obtain ⟨hz0, hr0, hl0, hl1⟩ := en_end HW.out HPB.out rfl
      have HZ := Lib.hid hz0
      obtain ⟨y0, y1, y2, y3⟩ := x3
      have HR := Lib.hid hr0
      have c0 := cell_c hr0 0
      have c1 := cell_c hr0 1
      have c2 := cell_c hr0 2
      have c3 := cell_c hr0 3
      have d0 := cell_c hz0 0
      have d1 := cell_c hz0 1
      have d2 := cell_c hz0 2
      have d3 := cell_c hz0 3
      have f0 := cell_f hz0 0
      have f1 := cell_f hz0 1
      have f2 := cell_f hz0 2
      have f3 := cell_f hz0 3
      unfold rgC at c0 c1 c2 c3 d0 d1 d2 d3
      clear hz0 hr0
      go_wp2_with fail
      refine bodyPost_ret (results_row_tmp (show Tryz.f25.results = #[.cell 2 26, .tmp 3] by kernel_rfl) _ _ w.heap.size 26 (rgC ⟨y0, y1, y2, y3⟩) (0, 0) _ _ rfl rfl (set4 HZ.out) Tryz.underlying26 rfl (by kernel_rfl)) rfl ?_
      have hkk := HK.out
      refine ⟨⟨y0, y1, y2, y3⟩, false, k3, rfl, by omega, by omega, set4_other HW.out.tx (Nat.ne_of_lt HPB.out), HW.out.kp.trans4 (Nat.le_refl _), (fun q => by cases q), (fun q => by rw [HEN.out]; rfl)⟩
  cases z4
  case false =>
      go_enter Tryz.func25, Tryz.ntmps25
      go_wp2_with fail
      refine (H1.out _ HW.out).mono ?_
      rintro e wq ⟨rfl, hw⟩
      have HW := Lib.hid hw
      clear hw
      go_wp2_with fail
      refine (H2.out _ HW.out).mono ?_
      rintro e wq ⟨rfl, hw⟩
      have HW := Lib.hid hw
      clear hw
      go_wp2_with fail
      refine (H3.out _ HW.out).mono ?_
      rintro e wq ⟨rfl, hw⟩
      have HW := Lib.hid hw
      clear hw
      go_wp2_with fail
      refine (H4.out _ HW.out).mono ?_
      rintro e wq ⟨rfl, hw⟩
      have HW := Lib.hid hw
      clear hw
      clear H1 H2 H3 H4 H5 H6
      obtain ⟨hz0, hr0, hl0, hl1⟩ := en_end HW.out HPB.out rfl
      have HZ := Lib.hid hz0
      obtain ⟨y0, y1, y2, y3⟩ := x4
      have HR := Lib.hid hr0
      have c0 := cell_c hr0 0
      have c1 := cell_c hr0 1
      have c2 := cell_c hr0 2
      have c3 := cell_c hr0 3
      have d0 := cell_c hz0 0
      have d1 := cell_c hz0 1
      have d2 := cell_c hz0 2
      have d3 := cell_c hz0 3
      have f0 := cell_f hz0 0
      have f1 := cell_f hz0 1
      have f2 := cell_f hz0 2
      have f3 := cell_f hz0 3
      unfold rgC at c0 c1 c2 c3 d0 d1 d2 d3
      clear hz0 hr0
      go_wp2_with fail
      refine bodyPost_ret (results_row_tmp (show Tryz.f25.results = #[.cell 2 26, .tmp 3] by kernel_rfl) _ _ w.heap.size 26 (rgC ⟨y0, y1, y2, y3⟩) (0, 0) _ _ rfl rfl (set4 HZ.out) Tryz.underlying26 rfl (by kernel_rfl)) rfl ?_
      have hkk := HK.out
      refine ⟨⟨y0, y1, y2, y3⟩, false, k4, rfl, by omega, by omega, set4_other HW.out.tx (Nat.ne_of_lt HPB.out), HW.out.kp.trans4 (Nat.le_refl _), (fun q => by cases q), (fun q => by rw [HEN.out]; rfl)⟩
  cases z5
  case false =>
      go_enter Tryz.func25, Tryz.ntmps25
      go_wp2_with fail
      refine (H1.out _ HW.out).mono ?_
      rintro e wq ⟨rfl, hw⟩
      have HW := Lib.hid hw
      clear hw
      go_wp2_with fail
      refine (H2.out _ HW.out).mono ?_
      rintro e wq ⟨rfl, hw⟩
      have HW := Lib.hid hw
      clear hw
      go_wp2_with fail
      refine (H3.out _ HW.out).mono ?_
      rintro e wq ⟨rfl, hw⟩
      have HW := Lib.hid hw
      clear hw
      go_wp2_with fail
      refine (H4.out _ HW.out).mono ?_
      rintro e wq ⟨rfl, hw⟩
      have HW := Lib.hid hw
      clear hw
      go_wp2_with fail
      refine (H5.out _ HW.out).mono ?_
      rintro e wq ⟨rfl, hw⟩
      have HW := Lib.hid hw
      clear hw
      clear H1 H2 H3 H4 H5 H6
      obtain ⟨hz0, hr0, hl0, hl1⟩ := en_end HW.out HPB.out rfl
      have HZ := Lib.hid hz0
      obtain ⟨y0, y1, y2, y3⟩ := x5
      have HR := Lib.hid hr0
      have c0 := cell_c hr0 0
      have c1 := cell_c hr0 1
      have c2 := cell_c hr0 2
      have c3 := cell_c hr0 3
      have d0 := cell_c hz0 0
      have d1 := cell_c hz0 1
      have d2 := cell_c hz0 2
      have d3 := cell_c hz0 3
      have f0 := cell_f hz0 0
      have f1 := cell_f hz0 1
      have f2 := cell_f hz0 2
      have f3 := cell_f hz0 3
      unfold rgC at c0 c1 c2 c3 d0 d1 d2 d3
      clear hz0 hr0
      go_wp2_with fail
      refine bodyPost_ret (results_row_tmp (show Tryz.f25.results = #[.cell 2 26, .tmp 3] by kernel_rfl) _ _ w.heap.size 26 (rgC ⟨y0, y1, y2, y3⟩) (0, 0) _ _ rfl rfl (set4 HZ.out) Tryz.underlying26 rfl (by kernel_rfl)) rfl ?_
      have hkk := HK.out
      refine ⟨⟨y0, y1, y2, y3⟩, false, k5, rfl, by omega, by omega, set4_other HW.out.tx (Nat.ne_of_lt HPB.out), HW.out.kp.trans4 (Nat.le_refl _), (fun q => by cases q), (fun q => by rw [HEN.out]; rfl)⟩
  cases z6
  case false =>
      go_enter Tryz.func25, Tryz.ntmps25
      go_wp2_with fail
      refine (H1.out _ HW.out).mono ?_
      rintro e wq ⟨rfl, hw⟩
      have HW := Lib.hid hw
      clear hw
      go_wp2_with fail
      refine (H2.out _ HW.out).mono ?_
      rintro e wq ⟨rfl, hw⟩
      have HW := Lib.hid hw
      clear hw
      go_wp2_with fail
      refine (H3.out _ HW.out).mono ?_
      rintro e wq ⟨rfl, hw⟩
      have HW := Lib.hid hw
      clear hw
      go_wp2_with fail
      refine (H4.out _ HW.out).mono ?_
      rintro e wq ⟨rfl, hw⟩
      have HW := Lib.hid hw
      clear hw
      go_wp2_with fail
      refine (H5.out _ HW.out).mono ?_
      rintro e wq ⟨rfl, hw⟩
      have HW := Lib.hid hw
      clear hw
      go_wp2_with fail
      refine (H6.out _ HW.out).mono ?_
      rintro e wq ⟨rfl, hw⟩
      have HW := Lib.hid hw
      clear hw
      clear H1 H2 H3 H4 H5 H6
      obtain ⟨hz0, hr0, hl0, hl1⟩ := en_end HW.out HPB.out rfl
      have HZ := Lib.hid hz0
      obtain ⟨y0, y1, y2, y3⟩ := x6
      have HR := Lib.hid hr0
      have c0 := cell_c hr0 0
      have c1 := cell_c hr0 1
      have c2 := cell_c hr0 2
      have c3 := cell_c hr0 3
      have d0 := cell_c hz0 0
      have d1 := cell_c hz0 1
      have d2 := cell_c hz0 2
      have d3 := cell_c hz0 3
      have f0 := cell_f hz0 0
      have f1 := cell_f hz0 1
      have f2 := cell_f hz0 2
      have f3 := cell_f hz0 3
      unfold rgC at c0 c1 c2 c3 d0 d1 d2 d3
      clear hz0 hr0
      go_wp2_with fail
      refine bodyPost_ret (results_row_tmp (show Tryz.f25.results = #[.cell 2 26, .tmp 3] by kernel_rfl) _ _ w.heap.size 26 (rgC ⟨y0, y1, y2, y3⟩) (0, 0) _ _ rfl rfl (set4 HZ.out) Tryz.underlying26 rfl (by kernel_rfl)) rfl ?_
      have hkk := HK.out
      refine ⟨⟨y0, y1, y2, y3⟩, false, k6, rfl, by omega, by omega, set4_other HW.out.tx (Nat.ne_of_lt HPB.out), HW.out.kp.trans4 (Nat.le_refl _), (fun q => by cases q), (fun q => by rw [HEN.out]; rfl)⟩
  go_enter Tryz.func25, Tryz.ntmps25
  go_wp2_with fail
  refine (H1.out _ HW.out).mono ?_
  rintro e wq ⟨rfl, hw⟩
  have HW := Lib.hid hw
  clear hw
  go_wp2_with fail
  refine (H2.out _ HW.out).mono ?_
  rintro e wq ⟨rfl, hw⟩
  have HW := Lib.hid hw
  clear hw
  go_wp2_with fail
  refine (H3.out _ HW.out).mono ?_
  rintro e wq ⟨rfl, hw⟩
  have HW := Lib.hid hw
  clear hw
  go_wp2_with fail
  refine (H4.out _ HW.out).mono ?_
  rintro e wq ⟨rfl, hw⟩
  have HW := Lib.hid hw
  clear hw
  go_wp2_with fail
  refine (H5.out _ HW.out).mono ?_
  rintro e wq ⟨rfl, hw⟩
  have HW := Lib.hid hw
  clear hw
  go_wp2_with fail
  refine (H6.out _ HW.out).mono ?_
  rintro e wq ⟨rfl, hw⟩
  have HW := Lib.hid hw
  clear hw
  clear H1 H2 H3 H4 H5 H6
  obtain ⟨hz0, hr0, hl0, hl1⟩ := en_end HW.out HPB.out rfl
  have HZ := Lib.hid hz0
  obtain ⟨y0, y1, y2, y3⟩ := x6
  have HR := Lib.hid hr0
  have c0 := cell_c hr0 0
  have c1 := cell_c hr0 1
  have c2 := cell_c hr0 2
  have c3 := cell_c hr0 3
  have d0 := cell_c hz0 0
  have d1 := cell_c hz0 1
  have d2 := cell_c hz0 2
  have d3 := cell_c hz0 3
  have f0 := cell_f hz0 0
  have f1 := cell_f hz0 1
  have f2 := cell_f hz0 2
  have f3 := cell_f hz0 3
  unfold rgC at c0 c1 c2 c3 d0 d1 d2 d3
  clear hz0 hr0
  go_wp2_with fail
  refine bodyPost_ret (results_row_tmp (show Tryz.f25.results = #[.cell 2 26, .tmp 3] by kernel_rfl) _ _ w.heap.size 26 (rgC ⟨y0, y1, y2, y3⟩) (0, 0) _ _ rfl rfl (set4 HZ.out) Tryz.underlying26 rfl (by kernel_rfl)) rfl ?_
  have hkk := HK.out
  refine ⟨⟨y0, y1, y2, y3⟩, true, k6, rfl, by omega, by omega, set4_other HW.out.tx (Nat.ne_of_lt HPB.out), HW.out.kp.trans4 (Nat.le_refl _), (fun q => by rw [HEN.out]; rfl), (fun q => by cases q)⟩
end Go.Proofs.YtiegoffdbhmfbaaGreatDoor
