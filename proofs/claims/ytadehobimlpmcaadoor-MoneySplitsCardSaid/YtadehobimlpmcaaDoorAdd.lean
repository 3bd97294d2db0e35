/- The walks of pair, total, Add, Sub and Cmp, of the program and of the reference, and of usd. -/
import Derived.Test.YtadehobimlpmcaaDoorMon
import Derived.Lib.SlicesS
import Derived.Lib.SmallJoins
namespace Go.Proofs.YtadehobimlpmcaaDoor
set_option linter.unusedVariables false
open Go.RowKit

def monV (a : Int) (s : ByteArray) : Value := .agg #[.int .i64 a, .string s]
def zeroM : Value := .agg #[.int .i64 0, .string ⟨#[]⟩]
/-- The error of two amounts that are to be combined. -/
def pairE (a : Int) (s : ByteArray) (b : Int) (t : ByteArray) : Int := if monE a s = 0 then (if monE b t = 0 then (if s = t then 0 else 11) else monE b t) else monE a s
def totE (n : Int) : Int := if inT n = true then 0 else 4
def totV (n : Int) (s : ByteArray) : Value := if inT n = true then monV n s else zeroM
theorem inT_iff (n : Int) : inT n = true ↔ -4503599627370496 ≤ n ∧ n ≤ 4503599627370496 := by unfold inT; rw [Bool.and_eq_true, decide_eq_true_eq, decide_eq_true_eq]
theorem monE_ok {a : Int} {s : ByteArray} (h : monE a s = 0) : curB s = true ∧ inT a = true := by
  unfold monE at h
  cases hc : curB s <;> cases ht : inT a <;> simp_all
theorem ba_same (s t : ByteArray) (h : s = t) : (s.toList == t.toList) = true := by rw [h]; simp
theorem ba_diff (s t : ByteArray) (h : s ≠ t) : (s.toList == t.toList) = false := by
  rw [beq_eq_false_iff_ne]
  intro e
  apply h
  rw [ByteArray.toList_eq, ByteArray.toList_eq] at e
  exact ByteArray.ext (Array.ext' e)
theorem box1 {w w1 : World} {C1 : Array Value} {T1 : TypeId} (hb : Below (w.alloc (.cells C1 T1)).heap.size (w.alloc (.cells C1 T1)) w1) :
    w1.heap[w.heap.size]? = some (.cells C1 T1) ∧ w.heap.size < w1.heap.size ∧ Below w.heap.size w w1 := by
  have hz := hb.size
  simp only [World.alloc, Array.size_push] at hz
  refine ⟨?_, by omega, ((Below.refl _ _).alloc (Nat.le_refl _) _).trans (hb.mono (by simp))⟩
  rw [hb.block _ (by simp)]; exact (MapKept.heap_alloc w _).1
theorem box2 {w w1 : World} {C1 C2 : Array Value} {T1 T2 : TypeId} (hb : Below ((w.alloc (.cells C1 T1)).alloc (.cells C2 T2)).heap.size ((w.alloc (.cells C1 T1)).alloc (.cells C2 T2)) w1) :
    w1.heap[w.heap.size]? = some (.cells C1 T1) ∧ w1.heap[w.heap.size + 1]? = some (.cells C2 T2) ∧ w.heap.size + 1 < w1.heap.size ∧ Below w.heap.size w w1 := by
  obtain ⟨h2, h3, h4⟩ := box1 hb
  have e : (w.alloc (.cells C1 T1)).heap.size = w.heap.size + 1 := by simp
  rw [e] at h2 h3
  refine ⟨?_, h2, h3, ((Below.refl _ _).alloc (Nat.le_refl _) _).trans (h4.mono (by simp))⟩
  rw [h4.block _ (by simp)]; exact (MapKept.heap_alloc w _).1
theorem box3 {w w1 : World} {C1 C2 C3 : Array Value} {T1 T2 T3 : TypeId} (hb : Below (((w.alloc (.cells C1 T1)).alloc (.cells C2 T2)).alloc (.cells C3 T3)).heap.size (((w.alloc (.cells C1 T1)).alloc (.cells C2 T2)).alloc (.cells C3 T3)) w1) :
    w1.heap[w.heap.size]? = some (.cells C1 T1) ∧ w1.heap[w.heap.size + 1]? = some (.cells C2 T2) ∧ w1.heap[w.heap.size + 2]? = some (.cells C3 T3) ∧ w.heap.size + 2 < w1.heap.size ∧ Below w.heap.size w w1 := by
  obtain ⟨h2, h3, h4, h5⟩ := box2 hb
  have e : (w.alloc (.cells C1 T1)).heap.size = w.heap.size + 1 := by simp
  rw [e] at h2 h3 h4
  refine ⟨?_, h2, h3, h4, ((Below.refl _ _).alloc (Nat.le_refl _) _).trans (h5.mono (by simp))⟩
  rw [h5.block _ (by simp)]; exact (MapKept.heap_alloc w _).1
/-- A block that stays. -/
theorem blk_later {w w1 : World} {b : Nat} {o : Obj} (h : w.heap[b]? = some o) (hb : Below w.heap.size w w1) : w1.heap[b]? = some o := by
  rw [hb.block _ (by rcases Nat.lt_or_ge b w.heap.size with q | q; exact q; rw [Array.getElem?_eq_none (by omega)] at h; cases h)]; exact h
theorem cell_c {w : World} {b : Nat} {C : Array Value} {T : TypeId} (h : w.heap[b]? = some (.cells C T)) (o : Nat) : w.cell? ⟨b, o, none⟩ = C[o]? := by simp [World.cell?, h]
theorem cell_f {w : World} {b : Nat} {C : Array Value} {T : TypeId} (h : w.heap[b]? = some (.cells C T)) (o : Nat) : w.frozen? ⟨b, o, none⟩ = false := by simp [World.frozen?, h]
set_option maxHeartbeats 1600000 in
theorem pair_any (a : Int) (s : ByteArray) (b : Int) (t : ByteArray) (w : World) (hs : s.size ≤ maxLen) (ht : t.size ≤ maxLen) :
    Calls Tryd.prog 49 #[.agg #[.int .i64 a, .string s], .agg #[.int .i64 b, .string t]] w fun e w' => e = .returned (.int .i64 (pairE a s b t)) ∧ Below w.heap.size w w' := by
  have HA := Lib.hid (fun W => mon_any a s W hs)
  have HB := Lib.hid (fun W => mon_any b t W ht)
  have HP := Lib.hid (show pairE a s b t = if monE a s = 0 then (if monE b t = 0 then (if s = t then 0 else 11) else monE b t) else monE a s from rfl)
  generalize monE a s = E1 at *
  generalize monE b t = E2 at *
  generalize pairE a s b t = PE at *
  clear hs ht
  by_cases h1 : E1 = 0
  · subst h1
    by_cases h2 : E2 = 0
    · subst h2
      have hcase : ((s.toList == t.toList) = true ∧ PE = 0) ∨ ((s.toList == t.toList) = false ∧ PE = 11) := by
        have HP' := HP.out
        rw [if_pos rfl, if_pos rfl] at HP'
        by_cases h3 : s = t
        · rw [if_pos h3] at HP'; exact .inl ⟨ba_same s t h3, HP'⟩
        · rw [if_neg h3] at HP'; exact .inr ⟨ba_diff s t h3, HP'⟩
      clear HP
      rcases hcase with ⟨h3', HP'⟩ | ⟨h3', HP'⟩
      all_goals
        have HP' := Lib.hid HP'
        go_enter Tryd.func49, Tryd.ntmps49
        go_wp2_with fail
        refine (HA.out _).mono ?_
        rintro e w1 ⟨rfl, hb⟩
        obtain ⟨k1, k2, hz, hb1⟩ := box2 hb
        have d0 := cell_c k2 0
        have d1 := cell_c k2 1
        have HK1 := Lib.hid k1
        have HK2 := Lib.hid k2
        have HB1 := Lib.hid hb1
        clear hb k1 k2 hb1
        go_wp2_with fail
        refine (HB.out _).mono ?_
        rintro e w2 ⟨rfl, hb⟩
        have e1 := cell_c (blk_later HK1.out hb) 1
        have e2 := cell_c (blk_later HK2.out hb) 1
        have HB2 := Lib.hid (HB1.out.trans (hb.mono HB1.out.size))
        clear hb
        go_wp2_with fail
        go_ret
        exact ⟨by rw [HP'.out]; rfl, HB2.out⟩
    · have h2' : (E2 != 0) = true := bne_iff_ne.2 h2
      have HP' := HP.out
      rw [if_pos rfl, if_neg h2] at HP'
      have HP' := Lib.hid HP'
      clear h2 HP
      go_enter Tryd.func49, Tryd.ntmps49
      go_wp2_with fail
      refine (HA.out _).mono ?_
      rintro e w1 ⟨rfl, hb⟩
      obtain ⟨k1, k2, hz, hb1⟩ := box2 hb
      have d0 := cell_c k2 0
      have d1 := cell_c k2 1
      have HB1 := Lib.hid hb1
      clear hb k1 k2 hb1
      go_wp2_with fail
      refine (HB.out _).mono ?_
      rintro e w2 ⟨rfl, hb⟩
      have HB2 := Lib.hid (HB1.out.trans (hb.mono HB1.out.size))
      clear hb
      go_wp2_with fail
      go_ret
      exact ⟨by rw [HP'.out]; rfl, HB2.out⟩
  · have h1' : (E1 != 0) = true := bne_iff_ne.2 h1
    have HP' := HP.out
    rw [if_neg h1] at HP'
    have HP' := Lib.hid HP'
    clear h1 HP
    go_enter Tryd.func49, Tryd.ntmps49
    go_wp2_with fail
    refine (HA.out _).mono ?_
    rintro e w1 ⟨rfl, hb⟩
    obtain ⟨k1, k2, hz, hb1⟩ := box2 hb
    have HB1 := Lib.hid hb1
    clear hb k1 k2 hb1
    go_wp2_with fail
    go_ret
    exact ⟨by rw [HP'.out]; rfl, HB1.out⟩
set_option maxHeartbeats 1600000 in
theorem tot_any (n : Int) (s : ByteArray) (w : World) : Calls Tryd.prog 33 #[.int .i64 n, .string s] w fun e w' => e = .returned (.tuple #[totV n s, .int .i64 (totE n)]) ∧ Below w.heap.size w w' := by
  have HT := Lib.hid (fun W => inT_any n W)
  cases h2 : inT n
  · have he := Lib.hid (show totE n = 4 ∧ totV n s = zeroM by unfold totE totV; rw [h2]; exact ⟨rfl, rfl⟩)
    rw [h2] at HT
    clear h2
    go_enter Tryd.func33, Tryd.ntmps33
    go_wp2_with fail
    refine (HT.out _).mono ?_
    rintro e w1 ⟨rfl, rfl⟩
    go_wp2_with fail
    refine bodyPost_ret (v := .tuple #[zeroM, .int .i64 4]) ?_ rfl ?_
    · have hres : Tryd.f33.results = #[.cell 4 23, .tmp 5] := by kernel_rfl
      simp only [results, hres]
      go_simp
      rfl
    · exact ⟨by rw [he.out.1, he.out.2], (Below.refl _ _).alloc (Nat.le_refl _) _⟩
  · have he := Lib.hid (show totE n = 0 ∧ totV n s = monV n s by unfold totE totV; rw [h2]; exact ⟨rfl, rfl⟩)
    rw [h2] at HT
    clear h2
    go_enter Tryd.func33, Tryd.ntmps33
    go_wp2_with fail
    refine (HT.out _).mono ?_
    rintro e w1 ⟨rfl, rfl⟩
    go_wp2_with fail
    refine bodyPost_ret (v := .tuple #[monV n s, .int .i64 0]) ?_ rfl ?_
    · have hres : Tryd.f33.results = #[.cell 4 23, .tmp 5] := by kernel_rfl
      simp only [results, hres]
      go_simp
      rfl
    · exact ⟨by rw [he.out.1, he.out.2], (Below.refl _ _).alloc (Nat.le_refl _) _⟩
theorem pairE_ok (a : Int) (s : ByteArray) (b : Int) (t : ByteArray) (h : pairE a s b t = 0) : (-4503599627370496 ≤ a ∧ a ≤ 4503599627370496) ∧ (-4503599627370496 ≤ b ∧ b ≤ 4503599627370496) ∧ s = t ∧ curB s = true := by
  unfold pairE at h
  split at h
  · rename_i h1
    split at h
    · rename_i h2
      split at h
      · rename_i h3
        exact ⟨(inT_iff a).1 (monE_ok h1).2, (inT_iff b).1 (monE_ok h2).2, h3, (monE_ok h1).1⟩
      · cases h
    · rename_i h2; exact absurd h h2
  · rename_i h1; exact absurd h h1
def combE (p n : Int) : Int := if p = 0 then totE n else p
def combV (p n : Int) (s : ByteArray) : Value := if p = 0 then totV n s else zeroM
theorem comb_bad {p n : Int} {s : ByteArray} (h : p ≠ 0) : combE p n = p ∧ combV p n s = zeroM := by unfold combE combV; rw [if_neg h, if_neg h]; exact ⟨rfl, rfl⟩
theorem comb_in {n : Int} {s : ByteArray} (h : inT n = true) : combE 0 n = 0 ∧ combV 0 n s = monV n s := by unfold combE combV totE totV; rw [if_pos rfl, if_pos rfl, if_pos h, if_pos h]; exact ⟨rfl, rfl⟩
theorem comb_out {n : Int} {s : ByteArray} (h : inT n = false) : combE 0 n = 4 ∧ combV 0 n s = zeroM := by
  unfold combE combV totE totV; rw [if_pos rfl, if_pos rfl, h]; exact ⟨rfl, rfl⟩
def CombPost (p n : Int) (s : ByteArray) (w : World) (e : Ending) (w' : World) : Prop := e = .returned (.tuple #[combV p n s, .int .i64 (combE p n)]) ∧ Below w.heap.size w w'
set_option maxHeartbeats 1600000 in
theorem add_any (a : Int) (s : ByteArray) (b : Int) (t : ByteArray) (w : World) (hs : s.size ≤ maxLen) (ht : t.size ≤ maxLen) :
    Calls Tryd.prog 20 #[.agg #[.int .i64 a, .string s], .agg #[.int .i64 b, .string t]] w (CombPost (pairE a s b t) (a + b) s w) := by
  have HP := Lib.hid (fun W => pair_any a s b t W hs ht)
  have HR := Lib.hid (pairE_ok a s b t)
  have HT := Lib.hid (fun W => tot_any (a + b) s W)
  obtain ⟨N, hN⟩ : ∃ N, a + b = N := ⟨_, rfl⟩
  rw [hN] at HT ⊢
  generalize pairE a s b t = PE at *
  clear hs ht
  by_cases h1 : PE = 0
  · subst h1
    obtain ⟨⟨r1, r2⟩, ⟨r3, r4⟩, -, -⟩ := HR.out rfl
    clear HR
    have hN' : IntKind.i64.wrap (a + b) = N := by rw [IntWalk.i64_in _ (by omega)]; exact hN
    have HN := Lib.hid hN
    clear hN
    cases hi : inT N
    · have HV := Lib.hid (comb_out (s := s) hi)
      have et : totE N = 4 ∧ totV N s = zeroM := by unfold totE totV; rw [hi]; exact ⟨rfl, rfl⟩
      rw [et.1, et.2] at HT
      clear et
      unfold zeroM at HT
      clear hi r1 r2 r3 r4
      go_enter Tryd.func20, Tryd.ntmps20
      go_wp2_with fail
      refine (HP.out _).mono ?_
      rintro e w1 ⟨rfl, hb⟩
      obtain ⟨k1, k2, k3, hz, hb1⟩ := box3 hb
      have a0 := cell_c k1 0
      have a1 := cell_c k1 1
      have b0 := cell_c k2 0
      have d0 := cell_c k3 0
      have d1 := cell_c k3 1
      have f0 := cell_f k3 0
      have f1 := cell_f k3 1
      have HB1 := Lib.hid hb1
      have HK3 := Lib.hid k3
      clear hb k1 k2 k3 hb1
      go_wp2_with fail
      refine (HT.out _).mono ?_
      rintro e w2 ⟨rfl, hb⟩
      have k3 := blk_later HK3.out hb
      have hz2 : w.heap.size + 2 < w2.heap.size := Nat.lt_of_lt_of_le hz hb.size
      have d0 := cell_c k3 0
      have d1 := cell_c k3 1
      have f0 := cell_f k3 0
      have f1 := cell_f k3 1
      have HB2 := Lib.hid (HB1.out.trans (hb.mono HB1.out.size))
      clear hb k3
      go_wp2_with fail
      refine bodyPost_ret (v := .tuple #[zeroM, .int .i64 4]) ?_ rfl ?_
      · have hres : Tryd.f20.results = #[.cell 4 23, .tmp 5] := by kernel_rfl
        simp only [results, hres]
        go_simp
        rfl
      · exact ⟨by rw [HV.out.1, HV.out.2], (HB2.out.setCell (p := ⟨w.heap.size + 2, 0, none⟩) (by simp) _).setCell (p := ⟨w.heap.size + 2, 1, none⟩) (by simp) _⟩
    · have HV := Lib.hid (comb_in (s := s) hi)
      have et : totE N = 0 ∧ totV N s = monV N s := by unfold totE totV; rw [hi]; exact ⟨rfl, rfl⟩
      rw [et.1, et.2] at HT
      clear et
      unfold monV at HT
      clear hi r1 r2 r3 r4
      go_enter Tryd.func20, Tryd.ntmps20
      go_wp2_with fail
      refine (HP.out _).mono ?_
      rintro e w1 ⟨rfl, hb⟩
      obtain ⟨k1, k2, k3, hz, hb1⟩ := box3 hb
      have a0 := cell_c k1 0
      have a1 := cell_c k1 1
      have b0 := cell_c k2 0
      have d0 := cell_c k3 0
      have d1 := cell_c k3 1
      have f0 := cell_f k3 0
      have f1 := cell_f k3 1
      have HB1 := Lib.hid hb1
      have HK3 := Lib.hid k3
      clear hb k1 k2 k3 hb1
      go_wp2_with fail
      refine (HT.out _).mono ?_
      rintro e w2 ⟨rfl, hb⟩
      have k3 := blk_later HK3.out hb
      have hz2 : w.heap.size + 2 < w2.heap.size := Nat.lt_of_lt_of_le hz hb.size
      have d0 := cell_c k3 0
      have d1 := cell_c k3 1
      have f0 := cell_f k3 0
      have f1 := cell_f k3 1
      have HB2 := Lib.hid (HB1.out.trans (hb.mono HB1.out.size))
      clear hb k3
      go_wp2_with fail
      refine bodyPost_ret (v := .tuple #[monV N s, .int .i64 0]) ?_ rfl ?_
      · have hres : Tryd.f20.results = #[.cell 4 23, .tmp 5] := by kernel_rfl
        simp only [results, hres]
        go_simp
        rfl
      · exact ⟨by rw [HV.out.1, HV.out.2], (HB2.out.setCell (p := ⟨w.heap.size + 2, 0, none⟩) (by simp) _).setCell (p := ⟨w.heap.size + 2, 1, none⟩) (by simp) _⟩
  · have h1' : (PE != 0) = true := bne_iff_ne.2 h1
    have HV := Lib.hid (comb_bad (n := N) (s := s) h1)
    clear h1 HR
    go_enter Tryd.func20, Tryd.ntmps20
    go_wp2_with fail
    refine (HP.out _).mono ?_
    rintro e w1 ⟨rfl, hb⟩
    obtain ⟨k1, k2, k3, hz, hb1⟩ := box3 hb
    have d0 := cell_c k3 0
    have d1 := cell_c k3 1
    have f0 := cell_f k3 0
    have f1 := cell_f k3 1
    have HB1 := Lib.hid hb1
    clear hb k1 k2 k3 hb1
    go_wp2_with fail
    refine bodyPost_ret (v := .tuple #[zeroM, .int .i64 PE]) ?_ rfl ?_
    · have hres : Tryd.f20.results = #[.cell 4 23, .tmp 5] := by kernel_rfl
      simp only [results, hres]
      go_simp
      rfl
    · exact ⟨by rw [HV.out.1, HV.out.2], (HB1.out.setCell (p := ⟨w.heap.size + 2, 0, none⟩) (by simp) _).setCell (p := ⟨w.heap.size + 2, 1, none⟩) (by simp) _⟩
end Go.Proofs.YtadehobimlpmcaaDoor
