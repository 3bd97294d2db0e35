/- The plain law: what Format writes, Parse reads. -/
import Derived.Test.YtiegoffdbhmfbaaGreatDoorPar
import Derived.Test.YtiegoffdbhmfbaaGreatDoorFmt
namespace Go.Proofs.YtiegoffdbhmfbaaGreatDoor
set_option linter.unusedVariables false
open Go.RowKit

/-- What stands from a place on. -/
def At (s : ByteArray) (a : Nat) (r : List UInt8) : Prop := s.data.toList.drop a = r
theorem At.go {s : ByteArray} {a : Nat} {t r : List UInt8} (h : At s a (t ++ r)) : At s (a + t.length) r := by
  unfold At at *
  rw [← List.drop_drop, h, List.drop_left]
theorem At.step {s : ByteArray} {a : Nat} {c : UInt8} {r : List UInt8} (h : At s a (c :: r)) : At s (a + 1) r := At.go (t := [c]) h
theorem At.lt {s : ByteArray} {a : Nat} {c : UInt8} {r : List UInt8} (h : At s a (c :: r)) : a < s.size := by
  unfold At at h
  have e : s.data.toList.length = s.size := rfl
  have := congrArg List.length h
  rw [List.length_drop, List.length_cons] at this
  omega
theorem At.byte {s : ByteArray} {a : Nat} {c : UInt8} {r : List UInt8} (h : At s a (c :: r)) : s[a]'h.lt = c := by
  have h' := h
  unfold At at h'
  rw [drop_cons s a h.lt] at h'
  exact (List.cons.inj h').1
theorem At.ext {s : ByteArray} {a : Nat} {t : ByteArray} {r : List UInt8} (h : At s a (t.data.toList ++ r)) : s.extract a (a + t.size) = t := by
  unfold At at h
  apply ByteArray.ext
  apply Array.toList_inj.1
  have e : t.data.toList.length = t.size := rfl
  rw [ByteArray.data_extract, Array.toList_extract, List.extract_eq_take_drop, h, Nat.add_sub_cancel_left, ← e, List.take_left]
def Tk (c : UInt8) : Prop := c.toNat ≠ 10 ∧ c.toNat ≠ 32 ∧ c.toNat ≠ 9 ∧ c.toNat ≠ 35
theorem skL_tk {c : UInt8} (h : Tk c) (r : List UInt8) : skL false (c :: r) = 0 := by
  unfold skL
  obtain ⟨h1, h2, h3, h4⟩ := h
  rw [if_neg h1, if_neg (by simp [h2, h3]), if_neg h4]
theorem sk_stay {s : ByteArray} {a : Nat} {c : UInt8} {r : List UInt8} (h : At s a (c :: r)) (hc : Tk c) : skipP s a = a := by
  unfold skipP
  rw [show s.data.toList.drop a = c :: r from h, skL_tk hc, Nat.add_zero]
theorem sk_blank {s : ByteArray} {a : Nat} {c : UInt8} {r : List UInt8} (h : At s a (32 :: c :: r)) (hc : Tk c) : skipP s a = a + 1 := by
  unfold skipP
  rw [show s.data.toList.drop a = 32 :: c :: r from h]
  show a + skL false (32 :: c :: r) = a + 1
  rw [skL, if_neg (by decide), if_pos (by decide), skL_tk hc]
theorem sk_feed {s : ByteArray} {a : Nat} {c : UInt8} {r : List UInt8} (h : At s a (10 :: c :: r)) (hc : Tk c) : skipP s a = a + 1 := by
  unfold skipP
  rw [show s.data.toList.drop a = 10 :: c :: r from h]
  rw [skL, if_pos (by decide), skL_tk hc]
theorem sk_last {s : ByteArray} {a : Nat} (h : At s a [10]) : skipP s a = a + 1 := by
  unfold skipP
  rw [show s.data.toList.drop a = [10] from h]
  rfl
theorem sk_none {s : ByteArray} {a : Nat} (h : At s a []) : skipP s a = a := by
  unfold skipP
  rw [show s.data.toList.drop a = [] from h]
  rfl
theorem tkN_run {p : UInt8 → Bool} {c : UInt8} (hc : p c = false) (r : List UInt8) : ∀ (t : List UInt8), t.all p = true → tkN p (t ++ c :: r) = t.length
  | [], _ => by simp [tkN, hc]
  | b :: t, h => by
    rw [List.all_cons, Bool.and_eq_true] at h
    rw [List.cons_append, tkN, if_pos h.1, tkN_run hc r t h.2, List.length_cons]; omega
theorem run_at {p : UInt8 → Bool} {s : ByteArray} {a : Nat} {t : ByteArray} {c : UInt8} {r : List UInt8} (h : At s a (t.data.toList ++ c :: r)) (ht : t.data.toList.all p = true) (hc : p c = false) : runP p s a = a + t.size := by
  unfold runP
  rw [show s.data.toList.drop a = _ from h, tkN_run hc r _ ht]; rfl
theorem At.goS {s : ByteArray} {a : Nat} {t : ByteArray} {r : List UInt8} (h : At s a (t.data.toList ++ r)) : At s (a + t.size) r := h.go
theorem dg_tk {c : UInt8} (h : isDg c = true) : Tk c := by
  have := dg_bounds h
  unfold Tk; omega
theorem let_tk {c : UInt8} (h : letB c.toNat = true) : Tk c := by
  rw [letB_iff] at h
  unfold Tk; omega
theorem first_of {t : ByteArray} (h : 1 ≤ t.size) : ∃ c r, t.data.toList = c :: r := by
  cases ht : t.data.toList with
  | nil => have e : t.data.toList.length = t.size := rfl
           rw [ht] at e; simp at e; omega
  | cons c r => exact ⟨c, r, rfl⟩
theorem tkD_line {s : ByteArray} {c a k : Nat} {x : Rg} {t : ByteArray} {d : UInt8} {r : List UInt8} (hk : skipP s a = k) (h : At s k (t.data.toList ++ d :: r)) (h1 : 1 ≤ t.size) (ht : digsB t = true) (hd : isDg d = false) : tkD s c a x = (true, k + t.size, putF x c t) := by
  unfold tkD
  rw [hk, run_at h ht hd, h.ext, decide_eq_true (by omega)]
theorem tkM_line {s : ByteArray} {b : UInt8} {a k : Nat} {x : Rg} {r : List UInt8} (hk : skipP s a = k) (h : At s k (b :: r)) : tkM s b a x = (true, k + 1, x) := by
  have : mkQ b s k = true := by unfold mkQ; rw [dif_pos h.lt, h.byte]; simp
  unfold tkM
  rw [hk, this]; rfl
theorem name_one {t : ByteArray} (h : nameB t.data.toList = true) : 1 ≤ t.size ∧ t.data.toList.all wrU = true ∧ ∃ c r, t.data.toList = c :: r ∧ letB c.toNat = true := by
  unfold nameB at h
  simp only [Bool.and_eq_true, decide_eq_true_eq] at h
  have e : t.data.toList.length = t.size := rfl
  refine ⟨by omega, h.2, ?_⟩
  obtain ⟨c, r, hc⟩ := first_of (t := t) (by omega)
  refine ⟨c, r, hc, ?_⟩
  have := h.1.2
  rw [hc] at this
  simpa using this
theorem tkW_line {s : ByteArray} {c a k : Nat} {x : Rg} {t : ByteArray} {d : UInt8} {r : List UInt8} (hk : skipP s a = k) (h : At s k (t.data.toList ++ d :: r)) (ht : nameB t.data.toList = true) (hd : wrU d = false) : tkW s c a x = (true, k + t.size, putF x c t) := by
  obtain ⟨h1, h2, z, q, hz, hl⟩ := name_one ht
  have hlt : ltA s k = true := by
    have h' := h
    rw [hz, List.cons_append] at h'
    unfold ltA; rw [dif_pos h'.lt, h'.byte]; exact hl
  unfold tkW
  rw [hk, hlt, run_at h h2 hd, h.ext]; rfl
theorem line_list (r : Rg) : (lineS r).data.toList = r.lo.data.toList ++ (45 :: (r.hi.data.toList ++ (32 :: (r.is.data.toList ++ (32 :: (r.pr.data.toList ++ [59, 10])))))) := by
  unfold lineS
  simp [ByteArray.data_append]
theorem enP_line {s : ByteArray} {a : Nat} {x : Rg} {r : List UInt8} (h : At s a ((lineS x).data.toList ++ r)) (hg : Good x) : ∃ q, enP s a = some (x, q) ∧ At s q (10 :: r) ∧ q + 1 = a + (lineS x).size := by
  rw [line_list] at h
  simp only [List.append_assoc, List.cons_append, List.nil_append] at h
  obtain ⟨c0, r0, e0⟩ := first_of hg.one
  have d0 : isDg c0 = true := by
    have := hg.dlo; unfold digsB at this; rw [e0, List.all_cons, Bool.and_eq_true] at this; exact this.1
  have hh1 : 1 ≤ x.hi.size := by have := hg.one; have := hg.sz; omega
  obtain ⟨c1, r1, e1⟩ := first_of hh1
  have d1 : isDg c1 = true := by
    have := hg.dhi; unfold digsB at this; rw [e1, List.all_cons, Bool.and_eq_true] at this; exact this.1
  obtain ⟨h21, h22, c2, r2, e2, l2⟩ := name_one hg.nis
  obtain ⟨h31, h32, c3, r3, e3, l3⟩ := name_one hg.npr
  have p1 := h.goS
  have p2 := p1.step
  have p3 := p2.goS
  have p4 := p3.step
  have p5 := p4.goS
  have p6 := p5.step
  have p7 := p6.goS
  have p8 := p7.step
  have s0 : skipP s a = a := sk_stay (by have := h; rw [e0, List.cons_append] at this; exact this) (dg_tk d0)
  have t1 := tkD_line (c := 0) (x := zRg) s0 h hg.one hg.dlo (by decide)
  have s1 := sk_stay p1 (by unfold Tk; decide)
  have t2 := tkM_line (x := putF zRg 0 x.lo) s1 p1
  have s2 := sk_stay (by have := p2; rw [e1, List.cons_append] at this; exact this) (dg_tk d1)
  have t3 := tkD_line (c := 1) (x := putF zRg 0 x.lo) s2 p2 hh1 hg.dhi (by decide)
  have s3 := sk_blank (by have := p3; rw [e2, List.cons_append] at this; exact this) (let_tk l2)
  have t4 := tkW_line (c := 2) (x := putF (putF zRg 0 x.lo) 1 x.hi) s3 p4 hg.nis (by decide)
  have s4 := sk_blank (by have := p5; rw [e3, List.cons_append] at this; exact this) (let_tk l3)
  have t5 := tkW_line (c := 3) (x := putF (putF (putF zRg 0 x.lo) 1 x.hi) 2 x.is) s4 p6 hg.npr (by decide)
  have s5 := sk_stay p7 (by unfold Tk; decide)
  have t6 := tkM_line (x := putF (putF (putF (putF zRg 0 x.lo) 1 x.hi) 2 x.is) 3 x.pr) s5 p7
  refine ⟨_, ?_, p8, ?_⟩
  · unfold enP
    simp only [t1, t2, t3, t4, t5, t6]
    rfl
  · rw [lineS_size]; omega
theorem textL_cons (x : Rg) (m : List Rg) : textL (x :: m) = (lineS x).data.toList ++ textL m := by unfold textL; rw [List.flatMap_cons]
theorem parF_text {s : ByteArray} : ∀ (m : List Rg) (g a : Nat) (acc : List Rg), (∀ r ∈ m, Good r) → At s a (textL m) → s.size - a < g → a ≤ s.size → parF s g a acc = some (acc ++ m)
  | [], g, a, acc, _, h, hg, ha => by
    have : ¬ a < s.size := fun q => by
      have h' : s.data.toList.drop a = [] := h
      rw [drop_cons s a q] at h'; cases h'
    rw [parF_end (by omega) this, List.append_nil]
  | x :: m, g, a, acc, hgd, h, hg, ha => by
    have hx := hgd x List.mem_cons_self
    rw [textL_cons] at h
    obtain ⟨q, hq, hat, hqs⟩ := enP_line h hx
    have hlt : a < s.size := by
      obtain ⟨c0, r0, e0⟩ := first_of hx.one
      rw [line_list, e0] at h
      simp only [List.append_assoc, List.cons_append] at h
      exact h.lt
    have hsk : skipP s q = q + 1 := by
      cases m with
      | nil => exact sk_last hat
      | cons y m =>
        have hy := hgd y (List.mem_cons_of_mem _ List.mem_cons_self)
        obtain ⟨c0, r0, e0⟩ := first_of hy.one
        have d0 : isDg c0 = true := by
          have := hy.dlo; unfold digsB at this; rw [e0, List.all_cons, Bool.and_eq_true] at this; exact this.1
        have hat' := hat
        rw [textL_cons, line_list, e0] at hat'
        simp only [List.append_assoc, List.cons_append] at hat'
        exact sk_feed hat' (dg_tk d0)
    have hnx : At s (q + 1) (textL m) := (show At s q ([10] ++ textL m) from hat).go
    have hqe := (enP_some ha hq).1
    have hql : q < s.size := hat.lt
    rw [parF_step (by omega) hlt hq, hsk, parF_text m (g - 1) (q + 1) (acc ++ [x]) (fun r hr => hgd r (List.mem_cons_of_mem _ hr)) hnx (by omega) hql, List.append_assoc]
    rfl
theorem parP_fmt {l : List Rg} (h : TabOK l) : parP (fmtS l) = some l := by
  have hs : fmtS l = ⟨(textL l).toArray⟩ := by unfold fmtS; rw [if_pos ((ck_iff l).2 h)]
  rw [hs]
  have hat : At ⟨(textL l).toArray⟩ 0 (textL l) := by unfold At; simp
  have hsk : skipP ⟨(textL l).toArray⟩ 0 = 0 := by
    cases l with
    | nil => exact sk_none hat
    | cons y m =>
      have hy := h.good y List.mem_cons_self
      obtain ⟨c0, r0, e0⟩ := first_of hy.one
      have d0 : isDg c0 = true := by
        have := hy.dlo; unfold digsB at this; rw [e0, List.all_cons, Bool.and_eq_true] at this; exact this.1
      have hat' := hat
      unfold At at hat'
      rw [List.drop_zero] at hat'
      refine sk_stay (c := c0) (r := r0 ++ (45 :: (y.hi.data.toList ++ (32 :: (y.is.data.toList ++ (32 :: (y.pr.data.toList ++ [59, 10])))))) ++ textL m) ?_ (dg_tk d0)
      unfold At
      rw [List.drop_zero, hat', textL_cons, line_list, e0]
      simp
  unfold parP
  rw [hsk, parF_text l _ 0 [] h.good hat (by omega) (Nat.zero_le _)]
  rfl
end Go.Proofs.YtiegoffdbhmfbaaGreatDoor
