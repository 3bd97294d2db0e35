/- Small functions of the law: short, few, bounded; Same of equal files. -/
import Derived.Test.YthflmdgfenojcaaGreatDoorDcd
import Derived.Test.YthflmdgfenojcaaGreatDoorAwk
namespace Go.Proofs.YthflmdgfenojcaaGreatDoor
set_option linter.unusedVariables false
open Go.RowKit Go.Sort

/-- A record whose texts lie in memory that there is. -/
def Rec.Rch (r : Rec) : Prop := r.id.size ≤ 140737488351232 ∧ r.au.size ≤ 140737488351232 ∧ r.aq.size ≤ 140737488351232 ∧ r.iss.size ≤ 140737488351232 ∧ r.me.size ≤ 140737488351232 ∧ r.ca.size ≤ 140737488351232 ∧ r.cu.size ≤ 140737488351232
theorem Rec.Rch.fit {r : Rec} (h : r.Rch) : r.Fit := by
  obtain ⟨h1, h2, h3, h4, h5, h6, h7⟩ := h
  have : ∀ n, n ≤ 140737488351232 → n ≤ maxLen := fun n q => by unfold maxLen; omega
  exact ⟨this _ h1, this _ h2, this _ h3, this _ h4, this _ h5, this _ h6, this _ h7⟩
def sh33 (r : Rec) : Bool := decide (szR r ≤ 500)
set_option maxRecDepth 100000 in
set_option maxHeartbeats 3200000 in
theorem sh33_any (r : Rec) (hr : r.Rch) (w : World) : Calls Tryz.prog 107 #[r.val] w (BPost (sh33 r) w) := by
  have HS : Hid (sh33 r = decide (((((((r.id.size + r.au.size : Nat) + r.aq.size : Nat) + r.iss.size : Nat) + r.me.size : Nat) + r.ca.size : Nat) + r.cu.size : Nat) ≤ 500)) := Lib.hid rfl
  unfold BPost
  generalize sh33 r = S at *
  obtain ⟨K, id, au, aq, iss, me, ca, x, cu, d, c, f⟩ := r
  obtain ⟨h1, h2, h3, h4, h5, h6, h7⟩ := hr
  have HB := Lib.hid (bx w (.cells #[.int .i64 K, .string id, .string au, .string aq, .string iss, .string me, .string ca, .int .i64 x, .string cu, .int .i64 d, .int .i64 c, .bool f] 57))
  unfold Rec.val Rec.cells
  dsimp only at *
  by_cases hq : id.size + au.size + aq.size + iss.size + me.size + ca.size + cu.size ≤ 500
  · have HS2 := Lib.hid (show S = true by rw [HS.out]; exact decide_eq_true hq)
    have hd : decide ((id.size : Int) + (au.size : Int) + (aq.size : Int) + (iss.size : Int) + (me.size : Int) + (ca.size : Int) + (cu.size : Int) ≤ 500) = true := decide_eq_true (by omega)
    clear hq
    go_enter Tryz.func107, Tryz.ntmps107
    go_wp2_with fail
    go_ret
    exact ⟨by rw [HS2.out]; rfl, HB.out⟩
  · have HS2 := Lib.hid (show S = false by rw [HS.out]; exact decide_eq_false hq)
    have hd : decide ((id.size : Int) + (au.size : Int) + (aq.size : Int) + (iss.size : Int) + (me.size : Int) + (ca.size : Int) + (cu.size : Int) ≤ 500) = false := decide_eq_false (by omega)
    clear hq
    go_enter Tryz.func107, Tryz.ntmps107
    go_wp2_with fail
    go_ret
    exact ⟨by rw [HS2.out]; rfl, HB.out⟩
def fewB (l : List Rec) : Bool := decide (l.length ≤ 240) && l.all sh33
theorem few_no (l : List Rec) (k : Nat) (hk : k < l.length) (h : ¬ k < 240 ∨ sh33 (rcAt l k) = false) : fewB l = false := by
  unfold fewB
  rw [Bool.and_eq_false_iff]
  rcases h with h | h
  · exact .inl (decide_eq_false (by omega))
  · refine .inr (List.all_eq_false.2 ⟨rcAt l k, ?_, by rw [h]; decide⟩)
    rw [rcAt_get l k hk]; exact List.getElem_mem hk
theorem few_yes (l : List Rec) (h : ∀ j, j < l.length → j < 240 ∧ sh33 (rcAt l j) = true) : fewB l = true := by
  unfold fewB
  rw [Bool.and_eq_true, decide_eq_true_eq, List.all_eq_true]
  constructor
  · rcases Nat.eq_zero_or_pos l.length with q | q
    · omega
    · have := (h (l.length - 1) (by omega)).1; omega
  · intro x hx
    obtain ⟨j, hj, rfl⟩ := List.getElem_of_mem hx
    have := (h j hj).2
    rwa [rcAt_get l j hj] at this
theorem few_all {l : List Rec} (h : fewB l = true) : l.length ≤ 240 ∧ ∀ x ∈ l, szR x ≤ 500 := by
  unfold fewB at h
  rw [Bool.and_eq_true, decide_eq_true_eq, List.all_eq_true] at h
  exact ⟨h.1, fun x hx => by have := h.2 x hx; unfold sh33 at this; exact of_decide_eq_true this⟩
set_option maxRecDepth 100000 in
set_option maxHeartbeats 6400000 in
theorem few_any (A : Option Addr) (cp : Nat) (l : List Rec) (w : World) (hr : IsRow w A (l.flatMap recF)) (hok : ∀ x ∈ l, x.Rch) (hm : l.length ≤ maxLen) : Calls Tryz.prog 51 #[.slice A l.length cp] w (BPost (fewB l) w) := by
  have HR := Lib.hid hr
  have HOK := Lib.hid hok
  have HNO := Lib.hid (few_no l)
  have HYE := Lib.hid (few_yes l)
  unfold BPost
  unfold maxLen at hm
  clear hr hok
  generalize fewB l = F at *
  go_enter Tryz.func51, Tryz.ntmps51
  go_wp2_with fail
  go_loopw [3] (fun i wr => ∃ k : Nat, k ≤ l.length ∧ i = .int .i64 k ∧ Hid (Below w.heap.size w wr ∧ ∀ j, j < k → j < 240 ∧ sh33 (rcAt l j) = true)) (fun i _ => l.length - (intOf i).toNat)
  case atStart => exact ⟨0, Nat.zero_le _, rfl, Lib.hid ⟨Below.refl _ _, fun j hj => absurd hj (Nat.not_lt_zero _)⟩⟩
  case round =>
    obtain ⟨k, hk, rfl, HW⟩ := hrel
    by_cases hlt : k < l.length
    · have kI : (k : Int) < (l.length : Int) := by omega
      have k0 : (0 : Int) ≤ (k : Int) := by omega
      by_cases h240 : k < 240
      case neg =>
        have h2 : (240 : Int) ≤ (k : Int) := by omega
        have hF := Lib.hid (HNO.out k hlt (.inl h240))
        clear h240
        go_wp2_with fail
        go_ret
        exact ⟨by rw [hF.out]; rfl, HW.out.1⟩
      case pos =>
      have h2 : ¬ (240 : Int) ≤ (k : Int) := by omega
      rcases row_rc HR.out k hlt with ⟨b, off, rfl, hcell⟩
      have HC := Lib.hid ((hcell k hlt).later HW.out.1)
      have hfit : (rcAt l k).Rch := by rw [rcAt_get l k hlt]; exact HOK.out _ (List.getElem_mem hlt)
      have HSH := Lib.hid (fun W => sh33_any (rcAt l k) hfit W)
      have HN2 := Lib.hid (fun h => HNO.out k hlt (.inr h))
      have HNX : Hid (sh33 (rcAt l k) = true → ∀ j, j < k + 1 → j < 240 ∧ sh33 (rcAt l j) = true) := Lib.hid (fun h j hj => by
        rcases Nat.lt_or_ge j k with c | c
        · exact HW.out.2 j c
        · obtain rfl : j = k := by omega
          exact ⟨h240, h⟩)
      unfold BPost at HSH
      clear hcell hfit h240
      generalize sh33 (rcAt l k) = S at *
      generalize rcAt l k = r at *
      obtain ⟨K, id, au, aq, is, me, ca, a, cu, d, c, f⟩ := r
      have c0 := HC.out.c0
      have c1 := HC.out.c1
      have c2 := HC.out.c2
      have c3 := HC.out.c3
      have c4 := HC.out.c4
      have c5 := HC.out.c5
      have c6 := HC.out.c6
      have c7 := HC.out.c7
      have c8 := HC.out.c8
      have c9 := HC.out.c9
      have c10 := HC.out.c10
      have c11 := HC.out.c11
      unfold Rec.val Rec.cells at HSH
      dsimp only at c0 c1 c2 c3 c4 c5 c6 c7 c8 c9 c10 c11 HSH
      cases S with
      | false =>
        have hF := Lib.hid (HN2.out rfl)
        go_wp2_with fail
        refine (HSH.out _).mono ?_
        rintro e w1 ⟨rfl, hb⟩
        have HB := Lib.hid (HW.out.1.trans (hb.mono HW.out.1.size))
        clear hb
        go_wp2_with fail
        go_ret
        exact ⟨by rw [hF.out]; rfl, HB.out⟩
      | true =>
        go_wp2_with fail
        refine (HSH.out _).mono ?_
        rintro e w1 ⟨rfl, hb⟩
        have HB := Lib.hid (HW.out.1.trans (hb.mono HW.out.1.size))
        have HX := Lib.hid (HNX.out (by trivial))
        clear hb
        go_wp2_with fail
        go_roundw
        case rel => exact ⟨k + 1, by omega, by go_num, Lib.hid ⟨HB.out, HX.out⟩⟩
        case measure => simp [intOf]; omega
    · obtain rfl : k = l.length := by omega
      have kI : ¬ (l.length : Int) < (l.length : Int) := by omega
      have hF := Lib.hid (HYE.out HW.out.2)
      go_wp2_with fail
      go_ret
      exact ⟨by rw [hF.out]; rfl, HW.out.1⟩
def boB (b : Bat) : Bool := decide (b.id.size ≤ 500) && (decide (b.sd.size ≤ 500) && fewB b.rs)
structure BatRch (b : Bat) : Prop where
  i : b.id.size ≤ maxLen
  s : b.sd.size ≤ maxLen
  r : ∀ x ∈ b.rs, x.Rch
theorem BatRch.ok {b : Bat} (h : BatRch b) : BatOk b := ⟨h.i, h.s, fun x hx => (h.r x hx).fit⟩
set_option maxRecDepth 100000 in
set_option maxHeartbeats 3200000 in
theorem bo_any (A : Option Addr) (cp : Nat) (b : Bat) (w : World) (hr : IsRow w A (b.rs.flatMap recF)) (hok : BatRch b) (hm : b.rs.length ≤ maxLen) : Calls Tryz.prog 41 #[batV b A cp] w (BPost (boB b) w) := by
  have HF := Lib.hid (fun W h => few_any A cp b.rs W h hok.r hm)
  have HR := Lib.hid hr
  have HB : Hid (boB b = (decide (b.id.size ≤ 500) && (decide (b.sd.size ≤ 500) && fewB b.rs))) := Lib.hid rfl
  unfold BPost at HF
  unfold BPost batV
  generalize boB b = B at *
  generalize fewB b.rs = F at *
  obtain ⟨id, sd, dt, rs⟩ := b
  have i1 := hok.i
  have i2 := hok.s
  dsimp only at *
  unfold maxLen at i1 i2 hm
  clear hr hok
  have HX := Lib.hid (bx w (.cells #[.string id, .string sd, .int .i64 dt, .slice A rs.length cp] 61))
  by_cases h1 : id.size ≤ 500
  case neg =>
    have hB := Lib.hid (show B = false by rw [HB.out, decide_eq_false h1]; rfl)
    have h1I : ¬ (id.size : Int) ≤ 500 := by omega
    clear h1 HB
    go_enter Tryz.func41, Tryz.ntmps41
    go_wp2_with fail
    go_ret
    exact ⟨by rw [hB.out]; rfl, HX.out⟩
  case pos =>
  have h1I : (id.size : Int) ≤ 500 := by omega
  by_cases h2 : sd.size ≤ 500
  case neg =>
    have hB := Lib.hid (show B = false by rw [HB.out, decide_eq_false h2]; simp)
    have h2I : ¬ (sd.size : Int) ≤ 500 := by omega
    clear h1 h2 HB
    go_enter Tryz.func41, Tryz.ntmps41
    go_wp2_with fail
    go_ret
    exact ⟨by rw [hB.out]; rfl, HX.out⟩
  case pos =>
  have h2I : (sd.size : Int) ≤ 500 := by omega
  have hB := Lib.hid (show B = F by rw [HB.out, decide_eq_true h1, decide_eq_true h2]; simp)
  clear h1 h2 HB
  go_enter Tryz.func41, Tryz.ntmps41
  go_wp2_with fail
  refine (HF.out _ (HR.out.below HX.out)).mono ?_
  rintro e w1 ⟨rfl, hb⟩
  have HB := Lib.hid (HX.out.trans (hb.mono HX.out.size))
  clear hb
  go_wp2_with fail
  go_ret
  exact ⟨by rw [hB.out]; rfl, HB.out⟩
set_option maxRecDepth 100000 in
set_option maxHeartbeats 6400000 in
theorem same_any (A B : Option Addr) (cp cq : Nat) (b : Bat) (w : World) (hA : IsRow w A (b.rs.flatMap recF)) (hB : IsRow w B (b.rs.flatMap recF)) (hm : b.rs.length ≤ maxLen) : Calls Tryz.prog 50 #[batV b A cp, batV b B cq] w (BPost true w) := by
  have HA := Lib.hid hA
  have HB := Lib.hid hB
  unfold BPost batV
  obtain ⟨id, sd, dt, rs⟩ := b
  dsimp only at *
  unfold maxLen at hm
  clear hA hB
  have q1 := (str_eq (rfl : id = id)).1
  have q2 := (str_eq (rfl : sd = sd)).1
  go_enter Tryz.func50, Tryz.ntmps50
  go_wp2_with fail
  have HW0 := Lib.hid ((bx w (.cells #[.string id, .string sd, .int .i64 dt, .slice A rs.length cp] 61)).trans ((bx (w.alloc (.cells #[.string id, .string sd, .int .i64 dt, .slice A rs.length cp] 61)) (.cells #[.string id, .string sd, .int .i64 dt, .slice B rs.length cq] 61)).mono (bx w _).size))
  have HK0 := Lib.hid (blk_later (heap_alloc_new w (.cells #[.string id, .string sd, .int .i64 dt, .slice A rs.length cp] 61)) (bx (w.alloc (.cells #[.string id, .string sd, .int .i64 dt, .slice A rs.length cp] 61)) (.cells #[.string id, .string sd, .int .i64 dt, .slice B rs.length cq] 61)))
  have HK1 := Lib.hid (heap_alloc2_new w (.cells #[.string id, .string sd, .int .i64 dt, .slice A rs.length cp] 61) (.cells #[.string id, .string sd, .int .i64 dt, .slice B rs.length cq] 61))
  go_loopw [5] (fun i wr => ∃ k : Nat, k ≤ rs.length ∧ i = .int .i64 k ∧ Hid (Below w.heap.size w wr ∧ wr.heap[w.heap.size]? = some (.cells #[.string id, .string sd, .int .i64 dt, .slice A rs.length cp] 61) ∧ wr.heap[w.heap.size + 1]? = some (.cells #[.string id, .string sd, .int .i64 dt, .slice B rs.length cq] 61))) (fun i _ => rs.length - (intOf i).toNat)
  case atStart => exact ⟨0, Nat.zero_le _, rfl, Lib.hid ⟨HW0.out, HK0.out, HK1.out⟩⟩
  case round =>
    clear HW0 HK0 HK1 q1 q2
    obtain ⟨k, hk, rfl, HW⟩ := hrel
    have a3 : wr.cell? ⟨w.heap.size, 3, none⟩ = some (.slice A rs.length cp) := cell_c HW.out.2.1 3
    have b3 : wr.cell? ⟨w.heap.size + 1, 3, none⟩ = some (.slice B rs.length cq) := cell_c HW.out.2.2 3
    by_cases hlt : k < rs.length
    · have kI : (k : Int) < (rs.length : Int) := by omega
      have k0 : (0 : Int) ≤ (k : Int) := by omega
      rcases row_rc HA.out k hlt with ⟨b, off, rfl, hcell⟩
      rcases row_rc HB.out k hlt with ⟨b', off', rfl, hcell'⟩
      have HC := Lib.hid ((hcell k hlt).later HW.out.1)
      have HD := Lib.hid ((hcell' k hlt).later HW.out.1)
      have hne := fun W => neq_same (rcAt rs k) W
      clear hcell hcell'
      generalize rcAt rs k = r at *
      obtain ⟨K, id, au, aq, is, me, ca, a, cu, d, c, f⟩ := r
      have c0 := HC.out.c0
      have c1 := HC.out.c1
      have c2 := HC.out.c2
      have c3 := HC.out.c3
      have c4 := HC.out.c4
      have c5 := HC.out.c5
      have c6 := HC.out.c6
      have c7 := HC.out.c7
      have c8 := HC.out.c8
      have c9 := HC.out.c9
      have c10 := HC.out.c10
      have c11 := HC.out.c11
      have d0 := HD.out.c0
      have d1 := HD.out.c1
      have d2 := HD.out.c2
      have d3 := HD.out.c3
      have d4 := HD.out.c4
      have d5 := HD.out.c5
      have d6 := HD.out.c6
      have d7 := HD.out.c7
      have d8 := HD.out.c8
      have d9 := HD.out.c9
      have d10 := HD.out.c10
      have d11 := HD.out.c11
      unfold Rec.val Rec.cells at hne
      dsimp only at c0 c1 c2 c3 c4 c5 c6 c7 c8 c9 c10 c11 d0 d1 d2 d3 d4 d5 d6 d7 d8 d9 d10 d11 hne
      go_wp2_with fail
      go_quiet (fail)
      rename Nat => nq
      have HX := Lib.hid (dNb HW.out.1 nq)
      have HX2 : Hid ((wr.drewN nq).heap[w.heap.size]? = some (.cells #[.string _, .string sd, .int .i64 dt, .slice (some ⟨b, off, none⟩) rs.length cp] 61)) := Lib.hid HW.out.2.1
      have HX3 : Hid ((wr.drewN nq).heap[w.heap.size + 1]? = some (.cells #[.string _, .string sd, .int .i64 dt, .slice (some ⟨b', off', none⟩) rs.length cq] 61)) := Lib.hid HW.out.2.2
      go_wp2_with fail
      go_roundw
      case rel => exact ⟨k + 1, by omega, by go_num, Lib.hid ⟨HX.out, HX2.out, HX3.out⟩⟩
      case measure => simp [intOf]; omega
    · obtain rfl : k = rs.length := by omega
      have kI : ¬ (rs.length : Int) < (rs.length : Int) := by omega
      go_wp2_with fail
      go_ret
      exact ⟨rfl, HW.out.1⟩
end Go.Proofs.YthflmdgfenojcaaGreatDoor
