/- Part of the proof over this seat. -/
import Derived.Test.YthflmdgfenojcaaGreatDoorQLCd
import Derived.Test.YthflmdgfenojcaaGreatDoorQIb
namespace Go.Proofs.YthflmdgfenojcaaGreatDoor
set_option linter.unusedVariables false
open Go.RowKit
theorem name_id (s : ByteArray) (h : nameB s.data.toList = true) : idB s = true := by
  have hz : s.data.toList.length = s.size := by simp
  unfold nameB at h
  simp only [Bool.and_eq_true, List.all_eq_true, decide_eq_true_eq] at h
  obtain ⟨⟨⟨h1, h2⟩, h3⟩, h4⟩ := h
  rw [hz] at h1 h2
  refine idB_yes s h1 h2 (fun j hj => ?_)
  have := h4 s[j] (Array.getElem_mem_toList hj)
  rw [wrdB_iff] at this
  rw [idnB_iff]; omega
set_option maxHeartbeats 3200000 in
theorem rid15_any (s : ByteArray) (w : World) (hs : s.size ≤ maxLen) : Calls Tryz.prog 110 #[.string s] w fun e w' => e = .returned (.bool (idB s)) ∧ w = w' := by
  have hno := Lib.hid (idB_no s)
  have hsz := Lib.hid (idB_size s)
  have hyes := Lib.hid (idB_yes s)
  unfold maxLen at hs
  go_enter Tryz.func110, Tryz.ntmps110
  go_wp2_with fail
  go_loop [3] (fun i => ∃ k : Nat, k ≤ s.size ∧ i = .int .i64 k ∧ Hid (∀ j, j < k → (h' : j < s.size) → idnB (s[j]).toNat = true)) (fun i => s.size - (intOf i).toNat)
  case atStart => exact ⟨0, by omega, rfl, Lib.hid (fun j h _ => by omega)⟩
  case round =>
    obtain ⟨k, hk, rfl, hall⟩ := hrel
    by_cases hlt : k < s.size
    · have hstep := Lib.hid (fun (hw : idnB (s[k]).toNat = true) j (h : j < k + 1) (h' : j < s.size) => show idnB (s[j]).toNat = true from by
        rcases Nat.lt_or_ge j k with c | c
        · exact hall.out j c h'
        · obtain rfl : j = k := by omega
          exact hw)
      have hN := Lib.hid (fun h => hno.out k hlt h)
      have hI := Lib.hid (idnB_iff (s[k]).toNat)
      go_wp2_with fail
      all_goals first
        | (refine ⟨⟨k + 1, by omega, by go_num, Lib.hid (hstep.out (hI.out.2 (by simp at *; omega)))⟩, by simp [intOf]; omega⟩)
        | (go_ret
           refine ⟨?_, rfl⟩
           rw [hN.out (by cases hc : idnB (s[k]).toNat; rfl; exfalso; have := hI.out.1 hc; simp at *; omega)]; try rfl)
    · obtain rfl : k = s.size := by omega
      have hA := Lib.hid (fun j (h : j < s.size) => hall.out j h h)
      have hc : (¬ 1 ≤ s.size) ∨ (1 ≤ s.size ∧ ¬ s.size ≤ 16) ∨ (1 ≤ s.size ∧ s.size ≤ 16) := by omega
      rcases hc with q | ⟨q, q'⟩ | ⟨q, q'⟩
      · have hF := Lib.hid (hsz.out (fun h => q h.1))
        have d1 : ¬ (1 : Int) ≤ (s.size : Int) := by omega
        go_wp2_with fail
        go_ret
        exact ⟨by rw [hF.out]; rfl, rfl⟩
      · have hF := Lib.hid (hsz.out (fun h => q' h.2))
        have d1 : (1 : Int) ≤ (s.size : Int) := by omega
        have d2 : ¬ (s.size : Int) ≤ 16 := by omega
        go_wp2_with fail
        go_ret
        exact ⟨by rw [hF.out]; rfl, rfl⟩
      · have hF := Lib.hid (hyes.out q q' (fun j h => hA.out j h))
        have d1 : (1 : Int) ≤ (s.size : Int) := by omega
        have d2 : (s.size : Int) ≤ 16 := by omega
        go_wp2_with fail
        go_ret
        exact ⟨by rw [hF.out]; rfl, rfl⟩
set_option maxHeartbeats 3200000 in
theorem rname15_any (s : ByteArray) (w : World) (hs : s.size ≤ maxLen) : Calls Tryz.prog 57 #[.string s] w fun e w' => e = .returned (.bool (nameB s.data.toList)) ∧ w = w' := by
  have HID := Lib.hid (fun W => rid15_any s W hs)
  unfold maxLen at hs
  cases hi : idB s with
  | false =>
    have HE : Hid (nameB s.data.toList = false) := Lib.hid (by
      cases hc : nameB s.data.toList with
      | false => rfl
      | true => rw [name_id s hc] at hi; cases hi)
    rw [hi] at HID
    clear hi
    go_enter Tryz.func57, Tryz.ntmps57
    go_wp2_with fail
    refine (HID.out _).mono ?_
    rintro e w1 ⟨rfl, rfl⟩
    go_wp2_with fail
    go_ret
    exact ⟨by rw [HE.out]; rfl, rfl⟩
  | true =>
  have h1 : 1 ≤ s.size ∧ s.size ≤ 16 := Decidable.byContradiction (fun q => by rw [idB_size s q] at hi; cases hi)
  obtain ⟨h1, h16⟩ := h1
  have HLT := Lib.hid (fun h => nameB_let s h1 h)
  have HNW : Hid (∀ k (hk : k < s.size), (s[k]).toNat = 45 → nameB s.data.toList = false) := Lib.hid (fun k hk h => nameB_wrd s k hk (by rw [h]; rfl))
  have HYS : Hid (letB (s[0]).toNat = true → (∀ j, (hj : j < s.size) → (s[j]).toNat ≠ 45) → nameB s.data.toList = true) := Lib.hid (fun hl ha => nameB_yes s h1 h16 hl (fun j hj => by
    have q : idnB (s[j]).toNat = true := by
      cases hc : idnB (s[j]).toNat with
      | true => rfl
      | false => rw [idB_no s j hj hc] at hi; cases hi
    have := ha j hj
    rw [idnB_iff] at q
    rw [wrdB_iff]; omega))
  have HLI := Lib.hid (letB_iff (s[0]).toNat)
  rw [hi] at HID
  clear hi
  have hc : (97 ≤ (s[0]).toNat ∧ (s[0]).toNat ≤ 122) ∨ (¬ 97 ≤ (s[0]).toNat ∧ 65 ≤ (s[0]).toNat ∧ (s[0]).toNat ≤ 90) ∨ (122 < (s[0]).toNat) ∨ (¬ 97 ≤ (s[0]).toNat ∧ ¬ (s[0]).toNat ≤ 90) ∨ (¬ 65 ≤ (s[0]).toNat) := by omega
  rcases hc with ⟨q1, q2⟩ | ⟨q1, q2, q3⟩ | q1 | ⟨q1, q2⟩ | q1
  · have HY := Lib.hid (HYS.out (HLI.out.2 (by omega)))
    have i1 : (97 : Int) ≤ ((s[0]).toNat : Int) := by omega
    have i2 : ((s[0]).toNat : Int) ≤ 122 := by omega
    clear HLT HLI HYS
    go_enter Tryz.func57, Tryz.ntmps57
    go_wp2_with fail
    refine (HID.out _).mono ?_
    rintro e w1 ⟨rfl, rfl⟩
    go_wp2_with fail
    go_loop [3] (fun i => ∃ k : Nat, k ≤ s.size ∧ i = .int .i64 k ∧ Hid (∀ j, j < k → (h' : j < s.size) → (s[j]).toNat ≠ 45)) (fun i => s.size - (intOf i).toNat)
    case atStart => exact ⟨0, by omega, rfl, Lib.hid (fun j h _ => by omega)⟩
    case round =>
      obtain ⟨k, hk, rfl, hall⟩ := hrel
      by_cases hlt : k < s.size
      · have HN0 := Lib.hid (HNW.out k hlt)
        have HST := Lib.hid (fun (hw : (s[k]).toNat ≠ 45) j (h : j < k + 1) (h' : j < s.size) => show (s[j]).toNat ≠ 45 from by
          rcases Nat.lt_or_ge j k with c | c
          · exact hall.out j c h'
          · obtain rfl : j = k := by omega
            exact hw)
        by_cases hb : (s[k]).toNat = 45
        · have HE := Lib.hid (HN0.out hb)
          have hbb : (((s[k]).toNat : Int) == 45) = true := by simp; omega
          clear hb HN0 HST
          go_wp2_with fail
          go_ret
          exact ⟨by rw [HE.out]; rfl, rfl⟩
        · have HW2 := Lib.hid (HST.out hb)
          have hbb : (((s[k]).toNat : Int) == 45) = false := by simp; omega
          clear hb HN0 HST
          go_wp2_with fail
          exact ⟨⟨k + 1, by omega, by go_num, HW2⟩, by simp [intOf]; omega⟩
      · obtain rfl : k = s.size := by omega
        have HE := Lib.hid (HY.out (fun j hj => hall.out j hj hj))
        have kI : ¬ (s.size : Int) < (s.size : Int) := by omega
        go_wp2_with fail
        go_ret
        exact ⟨by rw [HE.out]; rfl, rfl⟩
  · have HY := Lib.hid (HYS.out (HLI.out.2 (by omega)))
    have i1 : ¬ (97 : Int) ≤ ((s[0]).toNat : Int) := by omega
    have i2 : (65 : Int) ≤ ((s[0]).toNat : Int) := by omega
    have i3 : ((s[0]).toNat : Int) ≤ 90 := by omega
    clear HLT HLI HYS
    go_enter Tryz.func57, Tryz.ntmps57
    go_wp2_with fail
    refine (HID.out _).mono ?_
    rintro e w1 ⟨rfl, rfl⟩
    go_wp2_with fail
    go_loop [3] (fun i => ∃ k : Nat, k ≤ s.size ∧ i = .int .i64 k ∧ Hid (∀ j, j < k → (h' : j < s.size) → (s[j]).toNat ≠ 45)) (fun i => s.size - (intOf i).toNat)
    case atStart => exact ⟨0, by omega, rfl, Lib.hid (fun j h _ => by omega)⟩
    case round =>
      obtain ⟨k, hk, rfl, hall⟩ := hrel
      by_cases hlt : k < s.size
      · have HN0 := Lib.hid (HNW.out k hlt)
        have HST := Lib.hid (fun (hw : (s[k]).toNat ≠ 45) j (h : j < k + 1) (h' : j < s.size) => show (s[j]).toNat ≠ 45 from by
          rcases Nat.lt_or_ge j k with c | c
          · exact hall.out j c h'
          · obtain rfl : j = k := by omega
            exact hw)
        by_cases hb : (s[k]).toNat = 45
        · have HE := Lib.hid (HN0.out hb)
          have hbb : (((s[k]).toNat : Int) == 45) = true := by simp; omega
          clear hb HN0 HST
          go_wp2_with fail
          go_ret
          exact ⟨by rw [HE.out]; rfl, rfl⟩
        · have HW2 := Lib.hid (HST.out hb)
          have hbb : (((s[k]).toNat : Int) == 45) = false := by simp; omega
          clear hb HN0 HST
          go_wp2_with fail
          exact ⟨⟨k + 1, by omega, by go_num, HW2⟩, by simp [intOf]; omega⟩
      · obtain rfl : k = s.size := by omega
        have HE := Lib.hid (HY.out (fun j hj => hall.out j hj hj))
        have kI : ¬ (s.size : Int) < (s.size : Int) := by omega
        go_wp2_with fail
        go_ret
        exact ⟨by rw [HE.out]; rfl, rfl⟩
  · have HE := Lib.hid (HLT.out (by cases hc : letB (s[0]).toNat; rfl; exfalso; have := HLI.out.1 hc; omega))
    have i1 : (97 : Int) ≤ ((s[0]).toNat : Int) := by omega
    have i2 : decide (((s[0]).toNat : Int) ≤ 122) = false := decide_eq_false (by omega)
    have i3 : (65 : Int) ≤ ((s[0]).toNat : Int) := by omega
    have i4 : decide (((s[0]).toNat : Int) ≤ 90) = false := decide_eq_false (by omega)
    clear HLT HLI HYS HNW
    go_enter Tryz.func57, Tryz.ntmps57
    go_wp2_with fail
    refine (HID.out _).mono ?_
    rintro e w1 ⟨rfl, rfl⟩
    go_wp2_with fail
    go_ret
    exact ⟨by rw [HE.out]; rfl, rfl⟩
  · have HE := Lib.hid (HLT.out (by cases hc : letB (s[0]).toNat; rfl; exfalso; have := HLI.out.1 hc; omega))
    have i1 : ¬ (97 : Int) ≤ ((s[0]).toNat : Int) := by omega
    have i3 : (65 : Int) ≤ ((s[0]).toNat : Int) := by omega
    have i4 : decide (((s[0]).toNat : Int) ≤ 90) = false := decide_eq_false (by omega)
    clear HLT HLI HYS HNW
    go_enter Tryz.func57, Tryz.ntmps57
    go_wp2_with fail
    refine (HID.out _).mono ?_
    rintro e w1 ⟨rfl, rfl⟩
    go_wp2_with fail
    go_ret
    exact ⟨by rw [HE.out]; rfl, rfl⟩
  · have HE := Lib.hid (HLT.out (by cases hc : letB (s[0]).toNat; rfl; exfalso; have := HLI.out.1 hc; omega))
    have i1 : ¬ (97 : Int) ≤ ((s[0]).toNat : Int) := by omega
    have i3 : ¬ (65 : Int) ≤ ((s[0]).toNat : Int) := by omega
    clear HLT HLI HYS HNW
    go_enter Tryz.func57, Tryz.ntmps57
    go_wp2_with fail
    refine (HID.out _).mono ?_
    rintro e w1 ⟨rfl, rfl⟩
    go_wp2_with fail
    go_ret
    exact ⟨by rw [HE.out]; rfl, rfl⟩
end Go.Proofs.YthflmdgfenojcaaGreatDoor
namespace Go.Proofs.YthflmdgfenojcaaGreatDoor
set_option linter.unusedVariables false
open Go.RowKit Go.Sort Go.Maps
theorem rcs_yes {l : List (ByteArray × Rec)} {sd : ByteArray} {k : Nat} (hk : k < l.length) (h : (gAt l k).1 = sd) : recsOf (l.take (k + 1)) sd = recsOf (l.take k) sd ++ [(gAt l k).2] := by
  unfold recsOf
  rw [gAt_get l k hk] at h ⊢
  rw [List.take_succ_eq_append_getElem hk, List.filter_append, List.map_append]
  simp [h]
theorem rcs_no {l : List (ByteArray × Rec)} {sd : ByteArray} {k : Nat} (hk : k < l.length) (h : (gAt l k).1 ≠ sd) : recsOf (l.take (k + 1)) sd = recsOf (l.take k) sd := by
  unfold recsOf
  rw [gAt_get l k hk] at h
  rw [List.take_succ_eq_append_getElem hk, List.filter_append, List.map_append]
  simp [h]
theorem rcs_le (l : List (ByteArray × Rec)) (sd : ByteArray) (k : Nat) : (recsOf (l.take k) sd).length ≤ k := by
  unfold recsOf
  rw [List.length_map]
  refine Nat.le_trans (List.length_filter_le _ _) ?_
  rw [List.length_take]; omega
theorem rcs_in {l : List (ByteArray × Rec)} {sd : ByteArray} {r : Rec} (h : r ∈ recsOf l sd) : (sd, r) ∈ l := by
  unfold recsOf at h
  obtain ⟨x, hx, rfl⟩ := List.mem_map.1 h
  obtain ⟨h1, h2⟩ := List.mem_filter.1 hx
  have h2 : x.1 = sd := by simpa using h2
  rw [← h2]; exact h1
/-- The state of Totals' loop. -/
structure RtS (rs : List Rec) (w W : World) (v : Value) : Prop where
  z : W.heap[w.heap.size]? = some (.cells #[.int .i64 0, .int .i64 0, .int .i64 0, .int .i64 0] 48)
  o : W.ownsRow (w.heap.size + 1) 57 12 v rs.length (rs.flatMap recF)
  b : Below w.heap.size w W
theorem RtS.below {rs : List Rec} {w W W' : World} {v : Value} (h : RtS rs w W v) (hb : Below W.heap.size W W') : RtS rs w W' v := ⟨blk_later h.z hb, own_later h.o hb, h.b.trans (hb.mono h.b.size)⟩
theorem RtS.app {rs : List Rec} {w W W' : World} {v u : Value} (h : RtS rs w W v) (r : Rec) (ho : W'.ownsRow (w.heap.size + 1) 57 12 u (rs.length + 1) (rs.flatMap recF ++ recF r)) (hg : W.grownBy W' v.ownBlock) : RtS (rs ++ [r]) w W' u :=
  ⟨grown_lt (B := 0) hg h.z (own_far h.o (by omega)), by rw [List.length_append, List.flatMap_append]; simpa using ho, h.b.grown hg h.b.size (fun j hj => by have := (h.o.lt j hj).1; omega)⟩
section
variable {w0 : World} {A : Option Addr} {cp : Nat} {st : InS} {G : Nat → Prop} {b : RiB} {W W' : World}
set_option maxRecDepth 1000000 in
set_option maxHeartbeats 6400000 in
theorem rtot_any' (h : InR w0 A cp st G b W) (hn : st.good.length ≤ 1000000) (hf : ∀ x ∈ st.good, x.2.Fit) (sd : ByteArray) : Calls Tryz.prog 27 #[.pointer (some ⟨b.x, 0, none⟩), .string sd] W fun e w' => e = .returned (totOf st.good sd) ∧ Below W.heap.size W w' := by
  have hx := h.xlt
  obtain ⟨Al, cl, hlv, hr, hcl⟩ := own_form h.rg
  have HC : Hid (∀ X, Below W.heap.size W X → X.cell? ⟨b.x, 2, none⟩ = some (.slice Al st.good.length cl)) := Lib.hid (fun X hb => by
    have := h.c2
    rw [hlv] at this
    exact cell_later hb this)
  have HR := Lib.hid hr
  have HFT : Hid (∀ r ∈ recsOf st.good sd, r.Fit) := Lib.hid (fun r hr => hf _ (rcs_in hr))
  have HTT : Hid (totOf st.good sd = totV (recsOf st.good sd).length (debS (recsOf st.good sd) (recsOf st.good sd).length) (creS (recsOf st.good sd) (recsOf st.good sd).length) (C7.totB (cardsOf (recsOf st.good sd)))) := Lib.hid rfl
  obtain ⟨i57, HI⟩ := info_parts mkrec
  have HI := Lib.hid HI
  have HS0 : Hid (RtS (recsOf (st.good.take 0) sd) W (W.alloc (.cells #[.int .i64 0, .int .i64 0, .int .i64 0, .int .i64 0] 48)) (.slice none 0 0)) := Lib.hid ⟨heap_alloc_new W _, World.ownsRow_nil _ _ _ _, bx W _⟩
  generalize totOf st.good sd = TT at *
  generalize st.good = l at *
  clear h hr hlv hf
  have hcx := HC.out _ (bx W (.cells #[.int .i64 0, .int .i64 0, .int .i64 0, .int .i64 0] 48))
  go_enter Tryz.func27, Tryz.ntmps27
  go_wp2_with fail
  clear hcx
  go_loopw [5, 6] (fun v i wr => ∃ k : Nat, k ≤ l.length ∧ i = .int .i64 k ∧ Hid (RtS (recsOf (l.take k) sd) W wr v)) (fun _ i _ => l.length - (intOf i).toNat)
  case atStart => exact ⟨0, Nat.zero_le _, rfl, HS0⟩
  case round =>
    clear HS0
    obtain ⟨k, hk, rfl, HW⟩ := hrel
    have cx := HC.out wr HW.out.b
    have hxw : b.x < wr.heap.size := Nat.lt_of_lt_of_le hx HW.out.b.size
    by_cases hlt : k < l.length
    · have kI : (k : Int) < (l.length : Int) := by omega
      have k0 : (0 : Int) ≤ (k : Int) := by omega
      obtain ⟨bb, off, rfl, hcell⟩ := row_lg HR.out k hlt
      have d0 := cell_later HW.out.b (hcell k hlt 0 _ rfl)
      have e0 := cell_later HW.out.b (hcell k hlt 1 _ rfl)
      have e1 := cell_later HW.out.b (hcell k hlt 2 _ rfl)
      have e2 := cell_later HW.out.b (hcell k hlt 3 _ rfl)
      have e3 := cell_later HW.out.b (hcell k hlt 4 _ rfl)
      have e4 := cell_later HW.out.b (hcell k hlt 5 _ rfl)
      have e5 := cell_later HW.out.b (hcell k hlt 6 _ rfl)
      have e6 := cell_later HW.out.b (hcell k hlt 7 _ rfl)
      have e7 := cell_later HW.out.b (hcell k hlt 8 _ rfl)
      have e8 := cell_later HW.out.b (hcell k hlt 9 _ rfl)
      have e9 := cell_later HW.out.b (hcell k hlt 10 _ rfl)
      have e10 := cell_later HW.out.b (hcell k hlt 11 _ rfl)
      have e11 := cell_later HW.out.b (hcell k hlt 12 _ rfl)
      rw [Nat.add_zero] at d0
      have HTY := Lib.hid (rcs_yes (sd := sd) hlt)
      have HTN := Lib.hid (rcs_no (sd := sd) hlt)
      have hln := rcs_le l sd k
      clear hcell
      generalize gAt l k = x at *
      generalize recsOf (l.take k) sd = rs at *
      obtain ⟨p, K, id, au, aq, is, me, ca, a, cu, dd, cg, ff⟩ := x
      dsimp only at d0 e0 e1 e2 e3 e4 e5 e6 e7 e8 e9 e10 e11 HTY HTN
      by_cases hp : p = sd
      · obtain ⟨t1, -⟩ := str_eq hp
        have HT := Lib.hid (HTY.out hp)
        have HO := Lib.hid (HW.out.below (bx wr (.cells #[.int .i64 K, .string id, .string au, .string aq, .string is, .string me, .string ca, .int .i64 a, .string cu, .int .i64 dd, .int .i64 cg, .bool ff] 57)))
        have hsz := HW.out.b.size
        have hwl : W.heap.size < wr.heap.size := (Array.getElem?_eq_some_iff.1 HW.out.z).1
        clear hp HTY HTN
        go_wp2_with (at_builtin; refine wpList_append_own _ rfl (.tmp 30) (.tmp 39) _ rfl (W.heap.size + 1) 57 i57 _ 12 152 Tryz.underlying34 HI.out.1 HI.out.2.1 HI.out.2.2.1 HI.out.2.2.2 rfl (by omega) _ _ _ rfl HO.out.o ⟨wr.heap.size, 0, none⟩ 1 1 [.int .i64 K, .string id, .string au, .string aq, .string is, .string me, .string ca, .int .i64 a, .string cu, .int .i64 dd, .int .i64 cg, .bool ff] rfl rfl (World.news_of_block (cs := #[.int .i64 K, .string id, .string au, .string aq, .string is, .string me, .string ca, .int .i64 a, .string cu, .int .i64 dd, .int .i64 cg, .bool ff]) (t := 57) (fr := (0, 0)) (heap_alloc_new wr _)) (by simp [Value.oneCell']) (by unfold maxLen; omega) (by omega) (by simp; omega) ?_; intro v2 w2 hown hgrow hnil; have HA := Lib.hid (HO.out.app ⟨K, id, au, aq, is, me, ca, a, cu, dd, cg, ff⟩ hown hgrow); clear hown hgrow hnil)
        have HW2 : Hid (RtS (recsOf (l.take (k + 1)) sd) W w2 v2) := Lib.hid (by rw [HT.out]; exact HA.out)
        exact ⟨⟨k + 1, by omega, by go_num, HW2⟩, by simp [intOf]; omega⟩
      · obtain ⟨t1, -⟩ := str_ne hp
        have HT := Lib.hid (HTN.out hp)
        have HW2 : Hid (RtS (recsOf (l.take (k + 1)) sd) W wr u5) := Lib.hid (by rw [HT.out]; exact HW.out)
        clear hp HTY HTN
        go_wp2_with fail
        exact ⟨⟨k + 1, by omega, by go_num, HW2⟩, by simp [intOf]; omega⟩
    · obtain rfl : k = l.length := by omega
      have kI : ¬ (l.length : Int) < (l.length : Int) := by omega
      have HE := Lib.hid HW.out
      rw [List.take_length] at HE
      obtain ⟨A2, c2, rfl, hrow, hcc⟩ := own_form HE.out.o
      have hlen : (recsOf l sd).length ≤ l.length := by unfold recsOf; rw [List.length_map]; exact List.length_filter_le _ _
      have HSM := Lib.hid (rbsum_any A2 c2 (recsOf l sd) wr hrow HFT.out (by omega))
      unfold RSumPost totV at HSM
      unfold totV at HTT
      clear hrow hcc HW
      generalize hL : (recsOf l sd).length = Ln at *
      generalize debS (recsOf l sd) Ln = DD at *
      generalize creS (recsOf l sd) Ln = CC at *
      generalize C7.totB (cardsOf (recsOf l sd)) = T3 at *
      clear hL
      go_wp2_with fail
      refine HSM.out.mono ?_
      rintro e w3 ⟨rfl, hb⟩
      have HZ3 := Lib.hid (blk_later HE.out.z hb)
      have HB3 := Lib.hid (below_setRow (HE.out.b.trans (hb.mono HE.out.b.size)) (Nat.le_refl _) #[.int .i64 Ln, .int .i64 DD, .int .i64 CC, .int .i64 T3])
      clear hb HSM
      go_wp2_with (refine wpList_store_row rfl 48 _ _ rfl W.heap.size #[.int .i64 Ln, .int .i64 DD, .int .i64 CC, .int .i64 T3] rfl rfl 48 _ HZ3.out (info48 _ _ _ _) rfl (by simp [Value.oneCell']) ?_)
      refine bodyPost_ret (results_row1 (show Tryz.f27.results = #[.cell 4 48] by kernel_rfl) _ _ W.heap.size 48 #[.int .i64 Ln, .int .i64 DD, .int .i64 CC, .int .i64 T3] (0, 0) _ rfl (setRow_heap _ _ _ _ _ _ HZ3.out) Tryz.underlying48 rfl (info48 _ _ _ _)) rfl ?_
      exact ⟨by rw [HTT.out], HB3.out⟩
end
theorem row_take {w : World} {A : Option Addr} {l : List ByteArray} (h : IsRow w A (l.map Value.string)) (k : Nat) : IsRow w A ((l.take k).map Value.string) := by
  rcases h with h | ⟨b, off, rfl, h⟩
  · left
    rw [List.length_map] at h ⊢
    rw [List.length_take]; omega
  · refine .inr ⟨b, off, rfl, fun j v hv => h j v ?_⟩
    rw [List.map_take, List.getElem?_take] at hv
    split at hv
    · exact hv
    · cases hv
/-- What the reference's New leaves. -/
def RnwPost (w0 w : World) (A : Option Addr) (cp : Nat) (l : List ByteArray) (e : Ending) (w' : World) : Prop :=
  (newE l ≠ 0 ∧ e = .returned (.tuple #[.pointer none, .int .i64 (newE l)]) ∧ Below w.heap.size w w') ∨
  (newE l = 0 ∧ ∃ x, e = .returned (.tuple #[.pointer (some ⟨x, 0, none⟩), .int .i64 0]) ∧ w.heap.size ≤ x ∧ InR w0 A cp (inS0 l) (fun k => k = x) ⟨x, noSl, noSl, noSl⟩ w' ∧ Below w.heap.size w w')
theorem rnw_ok {w0 w W : World} {A : Option Addr} {cp : Nat} {l : List ByteArray} (hw : Below w0.heap.size w0 w) (hb : Below w.heap.size w W) (hE : newE l = 0) :
    RnwPost w0 w A cp l (.returned (.tuple #[.pointer (some ⟨W.heap.size, 0, none⟩), .int .i64 0])) (W.alloc (.cells #[.slice A l.length cp, .slice none 0 0, .slice none 0 0, .slice none 0 0] 100)) := by
  have h1 := bx W (.cells #[.slice A l.length cp, .slice none 0 0, .slice none 0 0, .slice none 0 0] 100)
  have h2 := hb.trans (h1.mono hb.size)
  refine .inr ⟨hE, W.heap.size, rfl, hb.size, ⟨hw.trans (h2.mono hw.size), fun k hk => ?_, rfl, (fun g e => by cases e), (fun g e => by cases e), (fun g e => by cases e), heap_alloc_new _ _, World.ownsRow_nil _ _ _ _, World.ownsRow_nil _ _ _ _, World.ownsRow_nil _ _ _ _, (fun k e => by cases e)⟩, h2⟩
  have hk : k = W.heap.size := hk
  rw [hk, World.size_alloc]
  have := hw.size
  have := hb.size
  omega
set_option maxRecDepth 1000000 in
set_option maxHeartbeats 6400000 in
theorem rnew_any' {w0 : World} (w : World) (hw : Below w0.heap.size w0 w) (A : Option Addr) (cp : Nat) (l : List ByteArray) (hr : IsRow w A (l.map Value.string)) (hsz : ∀ x ∈ l, x.size ≤ maxLen) (hm : l.length ≤ maxLen) (hc : l.length ≤ cp) (hcm : cp ≤ maxLen) : Calls Tryz.prog 16 #[.slice A l.length cp] w (RnwPost w0 w A cp l) := by
  unfold maxLen at hm hcm
  by_cases h16 : 16 < l.length
  · have hI : (16 : Int) < (l.length : Int) := by omega
    have HE : Hid (newE l = 3) := Lib.hid (by unfold newE; rw [if_pos h16])
    clear hr hsz
    go_enter Tryz.func16, Tryz.ntmps16
    go_wp2_with fail
    go_ret2
    exact .inl ⟨by rw [HE.out]; decide, by rw [HE.out]; rfl, Below.refl _ _⟩
  have hI : ¬ (16 : Int) < (l.length : Int) := by omega
  have HR := Lib.hid hr
  have HSZ := Lib.hid hsz
  have HAT := Lib.hid (fun k hk h0 h1 => newE_at h16 (k := k) hk h0 h1)
  have HOK := Lib.hid (newE_ok h16)
  have HFN := Lib.hid (fun W hb hE => rnw_ok (A := A) (cp := cp) (l := l) (W := W) hw hb hE)
  have HS0 : Hid (Below w.heap.size w w) := Lib.hid (Below.refl _ _)
  clear hr hsz
  go_enter Tryz.func16, Tryz.ntmps16
  go_wp2_with fail
  go_loopw [4] (fun i wr => ∃ k : Nat, k ≤ l.length ∧ i = .int .i64 k ∧ Hid (Below w.heap.size w wr) ∧ Hid (∀ j, j < k → ptN l j = 0)) (fun i _ => l.length - (intOf i).toNat)
  case atStart => exact ⟨0, Nat.zero_le _, rfl, HS0, Lib.hid (fun j hj => absurd hj (Nat.not_lt_zero _))⟩
  case round =>
    clear HS0
    obtain ⟨k, hk, rfl, HW, HZ⟩ := hrel
    by_cases hlt : k < l.length
    · have kI : (k : Int) < (l.length : Int) := by omega
      have k0 : (0 : Int) ≤ (k : Int) := by omega
      have kc : (k : Int) ≤ (cp : Int) := by omega
      obtain ⟨bb, off, rfl, hcell⟩ := row_st HR.out k hlt
      have d0 := cell_later HW.out (hcell k hlt)
      have HSK : Hid ((stA l k).size ≤ maxLen) := Lib.hid (by rw [stA_get l k hlt]; exact HSZ.out _ (List.getElem_mem hlt))
      have HN := Lib.hid (fun W => rname15_any (stA l k) W HSK.out)
      have HIN : Hid (∀ n, Calls Tryz.prog 58 #[.slice (some ⟨bb, off, none⟩) k cp, .string (stA l k)] (wr.drewN n) fun e w' => e = .returned (.bool (decide (stA l k ∈ l.take k))) ∧ wr.drewN n = w') := Lib.hid (fun n => by
        have h1 := rin58_any (some ⟨bb, off, none⟩) cp (l.take k) (stA l k) (wr.drewN n) (row_take (HR.out.below (HW.out.trans ((below_drewN wr n).mono HW.out.size))) k) (by unfold maxLen; rw [List.length_take]; omega)
        rw [show (l.take k).length = k from by rw [List.length_take]; omega] at h1
        exact h1)
      have H5 := Lib.hid (ptN_5 (l := l) (k := k))
      have H7 := Lib.hid (ptN_7 (l := l) (k := k))
      have H0 := Lib.hid (ptN_0 (l := l) (k := k))
      have HA1 := Lib.hid (HAT.out k hlt HZ.out)
      clear hcell
      cases hnm : nameB (stA l k).data.toList with
      | false =>
        have HE := Lib.hid (H5.out hnm)
        have HEE := Lib.hid ((HA1.out (by rw [HE.out]; decide)).trans HE.out)
        rw [hnm] at HN
        clear H5 H7 H0 hnm HIN
        generalize stA l k = s at *
        go_wp2_with fail
        refine (HN.out _).mono ?_
        rintro e w1 ⟨rfl, rfl⟩
        go_wp2_with fail
        go_ret2
        exact .inl ⟨by rw [HEE.out]; decide, by rw [HEE.out]; rfl, HW.out⟩
      | true =>
        rw [hnm] at HN
        by_cases hin : stA l k ∈ l.take k
        · have HE := Lib.hid (H7.out hnm hin)
          have HEE := Lib.hid ((HA1.out (by rw [HE.out]; decide)).trans HE.out)
          have hd := decide_eq_true hin
          rw [hd] at HIN
          clear H5 H7 H0 hnm hin hd
          generalize stA l k = s at *
          go_wp2_with fail
          refine (HN.out _).mono ?_
          rintro e w1 ⟨rfl, rfl⟩
          go_wp2_with fail
          go_quiet ((go_at_call 58; with_reducible exact quiet_left (HIN.out _)))
          rename Nat => nq
          have HX := Lib.hid (dNb HW.out nq)
          go_wp2_with fail
          go_ret2
          exact .inl ⟨by rw [HEE.out]; decide, by rw [HEE.out]; rfl, HX.out⟩
        · have HE := Lib.hid (H0.out hnm hin)
          have HZ2 : Hid (∀ j, j < k + 1 → ptN l j = 0) := Lib.hid (fun j hj => by
            rcases Nat.lt_or_ge j k with c | c
            · exact HZ.out j c
            · obtain rfl : j = k := by omega
              exact HE.out)
          have hd := decide_eq_false hin
          rw [hd] at HIN
          clear H5 H7 H0 hnm hin hd HE
          generalize stA l k = s at *
          go_wp2_with fail
          refine (HN.out _).mono ?_
          rintro e w1 ⟨rfl, rfl⟩
          go_wp2_with fail
          go_quiet ((go_at_call 58; with_reducible exact quiet_left (HIN.out _)))
          rename Nat => nq
          have HX := Lib.hid (dNb HW.out nq)
          go_wp2_with fail
          go_roundw
          case rel => exact ⟨k + 1, by omega, by go_num, HX, HZ2⟩
          case measure => simp [intOf]; omega
    · obtain rfl : k = l.length := by omega
      have kI : ¬ (l.length : Int) < (l.length : Int) := by omega
      have HE := Lib.hid (HOK.out HZ.out)
      have HF := Lib.hid (HFN.out wr HW.out HE.out)
      go_wp2_with fail
      go_ret2
      exact HF.out
end Go.Proofs.YthflmdgfenojcaaGreatDoor
namespace Go.Proofs.YthflmdgfenojcaaGreatDoor
set_option linter.unusedVariables false
open Go.RowKit Go.Sort Go.Maps
/-- Ahead of the first write. -/
structure RaC (w0 : World) (A : Option Addr) (cp : Nat) (st : InS) (G : Nat → Prop) (b : RiB) (W : World) (BK : Nat) (vi vs : ByteArray) (vd : Int) (A8 : Option Addr) (c8 : Nat) (vr : List Rec) (A9 : Option Addr) (c9 : Nat) (Bd : List Rej) (X : World) : Prop where
  i : InR w0 A cp st G b X
  k : X.heap[BK]? = some (.cells #[.string vi, .string vs, .int .i64 vd, .slice A8 vr.length c8] 61)
  o8 : X.ownsRow W.heap.size 57 12 (.slice A8 vr.length c8) vr.length (vr.flatMap recF)
  o9 : X.ownsRow W.heap.size 65 3 (.slice A9 Bd.length c9) Bd.length (Bd.flatMap rejF)
  be : Below W.heap.size W X
/-- While the lines are treated. -/
structure RtW (w0 : World) (A : Option Addr) (cp : Nat) (st' : InS) (G : Nat → Prop) (bx : Nat) (W : World) (BK : Nat) (C : Array Value) (A8 : Option Addr) (c8 : Nat) (vr : List Rec) (A9 : Option Addr) (c9 : Nat) (Bd : List Rej) (acc : List Rec) (out : List Rej) (vg vo : Value) (G' : Nat → Prop) (b' : RiB) (X : World) : Prop where
  i : InR w0 A cp st' G' b' X
  hw : w0.heap.size ≤ W.heap.size
  hx : b'.x = bx
  fn : ∀ k, G' k → G k ∨ W.heap.size ≤ k
  fm : ∀ k, G k → G' k
  k : KeptE G W X
  bk : X.heap[BK]? = some (.cells C 61)
  nb : ¬ G' BK
  o8 : X.ownsRow W.heap.size 57 12 (.slice A8 vr.length c8) vr.length (vr.flatMap recF)
  o9 : X.ownsRow W.heap.size 65 3 (.slice A9 Bd.length c9) Bd.length (Bd.flatMap rejF)
  og : X.ownsRow W.heap.size 57 12 vg acc.length (acc.flatMap recF)
  oo : X.ownsRow W.heap.size 65 3 vo out.length (out.flatMap rejF)
  n8 : ∀ g, (Value.slice A8 vr.length c8).ownBlock = some g → ¬ G' g
  n9 : ∀ g, (Value.slice A9 Bd.length c9).ownBlock = some g → ¬ G' g
  ng : ∀ g, vg.ownBlock = some g → ¬ G' g
  no : ∀ g, vo.ownBlock = some g → ¬ G' g
  dg : ∀ g, vg.ownBlock = some g → (Value.slice A8 vr.length c8).ownBlock ≠ some g
  dn : ∀ g, vo.ownBlock = some g → (Value.slice A9 Bd.length c9).ownBlock ≠ some g
section
variable {w0 : World} {A : Option Addr} {cp : Nat} {st st' st2 : InS} {G G' G2 : Nat → Prop} {b b' b2 : RiB} {bx : Nat} {W X X' : World} {BK : Nat} {vi vs : ByteArray} {vd : Int} {C : Array Value} {A8 : Option Addr} {c8 : Nat} {vr : List Rec} {A9 : Option Addr} {c9 : Nat} {Bd : List Rej} {acc : List Rec} {out : List Rej} {vg vo u : Value}
theorem RaC.below (h : RaC w0 A cp st G b W BK vi vs vd A8 c8 vr A9 c9 Bd X) (hb : Below X.heap.size X X') : RaC w0 A cp st G b W BK vi vs vd A8 c8 vr A9 c9 Bd X' :=
  ⟨h.i.below hb, blk_later h.k hb, own_later h.o8 hb, own_later h.o9 hb, h.be.trans (hb.mono h.be.size)⟩
theorem RaC.k0 (h : RaC w0 A cp st G b W BK vi vs vd A8 c8 vr A9 c9 Bd X) : X.cell? ⟨BK, 0, none⟩ = some (.string vi) := cell_c h.k 0
theorem RaC.k1 (h : RaC w0 A cp st G b W BK vi vs vd A8 c8 vr A9 c9 Bd X) : X.cell? ⟨BK, 1, none⟩ = some (.string vs) := cell_c h.k 1
theorem RaC.k2 (h : RaC w0 A cp st G b W BK vi vs vd A8 c8 vr A9 c9 Bd X) : X.cell? ⟨BK, 2, none⟩ = some (.int .i64 vd) := cell_c h.k 2
theorem RtW.below (h : RtW w0 A cp st' G bx W BK C A8 c8 vr A9 c9 Bd acc out vg vo G' b' X) (hb : Below X.heap.size X X') : RtW w0 A cp st' G bx W BK C A8 c8 vr A9 c9 Bd acc out vg vo G' b' X' :=
  ⟨h.i.below hb, h.hw, h.hx, h.fn, h.fm, h.k.trans (KeptE.of_below (F := G) hb) (fun _ q => .inl q), blk_later h.bk hb, h.nb, own_later h.o8 hb, own_later h.o9 hb, own_later h.og hb, own_later h.oo hb, h.n8, h.n9, h.ng, h.no, h.dg, h.dn⟩
theorem RtW.mut (h : RtW w0 A cp st' G bx W BK C A8 c8 vr A9 c9 Bd acc out vg vo G' b' X) (hi : InR w0 A cp st2 G2 b2 X') (hx : b2.x = b'.x) (hf : ∀ k, G2 k → G' k ∨ X.heap.size ≤ k) (hm : ∀ k, G' k → G2 k) (hk : KeptE G' X X') :
    RtW w0 A cp st2 G bx W BK C A8 c8 vr A9 c9 Bd acc out vg vo G2 b2 X' := by
  have hsz := h.k.size
  have hno : ∀ k, k < X.heap.size → ¬ G' k → ¬ G2 k := fun k h1 h2 h3 => by rcases hf k h3 with q | q; exact h2 q; omega
  refine ⟨hi, h.hw, hx.trans h.hx, fun k q => ?_, fun k q => hm k (h.fm k q), h.k.trans hk h.fn, hk.heap h.bk h.nb, hno _ (Array.getElem?_eq_some_iff.1 h.bk).1 h.nb, hk.own h.o8 h.n8, hk.own h.o9 h.n9, hk.own h.og h.ng, hk.own h.oo h.no,
    fun g hg => hno g (own_lt h.o8 hg).2 (h.n8 g hg), fun g hg => hno g (own_lt h.o9 hg).2 (h.n9 g hg), fun g hg => hno g (own_lt h.og hg).2 (h.ng g hg), fun g hg => hno g (own_lt h.oo hg).2 (h.no g hg), h.dg, h.dn⟩
  rcases hf k q with q | q
  · exact h.fn k q
  · exact .inr (by omega)
theorem own_typ {B e size n T : Nat} {v : Value} {xs : List Value} {g : Nat} {C : Array Value} {w : World} (ho : w.ownsRow B e size v n xs) (hc : w.heap[g]? = some (.cells C T)) (he : e ≠ T) : some g ≠ v.ownBlock := fun q => by
  obtain ⟨cur, hq⟩ := own_obj ho q.symm
  rw [hc] at hq
  injection hq with hq
  injection hq with _ hq
  exact he hq.symm
theorem own_two {B e size n : Nat} {v v2 : Value} {xs : List Value} {w w' : World} (ho : w.ownsRow B e size v n xs) (hg : w.grownBy w' v2.ownBlock) (hd : ∀ g, v2.ownBlock = some g → v.ownBlock ≠ some g) : w'.ownsRow B e size v n xs :=
  own_same ho (fun g hg' => hg.block g (own_lt ho hg').2 (fun e => hd g e.symm hg'))
theorem RtW.accd (h : RtW w0 A cp st' G bx W BK C A8 c8 vr A9 c9 Bd acc out vg vo G' b' X) (r : Rec) (ho : X'.ownsRow W.heap.size 57 12 u (acc.length + 1) (acc.flatMap recF ++ recF r)) (hg : X.grownBy X' vg.ownBlock) (hwh : u.ownBlock = vg.ownBlock ∨ u.ownBlock = some X.heap.size) :
    RtW w0 A cp st' G bx W BK C A8 c8 vr A9 c9 Bd (acc ++ [r]) out u vo G' b' X' := by
  have hGx : ∀ k, G' k → some k ≠ vg.ownBlock := fun k hk e => h.ng k e.symm hk
  have hub : ∀ g, u.ownBlock = some g → vg.ownBlock = some g ∨ g = X.heap.size := fun g hg' => by
    rcases hwh with q | q
    · exact .inl (by rw [← q]; exact hg')
    · rw [hg'] at q; injection q with q; exact .inr q
  refine ⟨h.i.same (h.i.be.grown hg h.i.be.size (fun j hj => Nat.le_trans h.hw (own_lt h.og hj).1)) hg.size (fun k hk => hg.block k (h.i.fp k hk).2 (hGx k hk)), h.hw, h.hx, h.fn, h.fm,
    h.k.trans (KeptE.of_grown' (F := fun j => vg.ownBlock = some j) hg (fun g e => e)) (fun j hj => .inr (own_lt h.og hj).1), grown_lt (B := 0) hg h.bk (own_typ h.og h.bk (by decide)), h.nb, own_two h.o8 hg h.dg,
    h.o9.kept hg (own_ne h.og h.o9 (by decide)), by rw [List.length_append, List.flatMap_append]; simpa using ho, h.oo.kept hg (own_ne h.og h.oo (by decide)), h.n8, h.n9, fun g hg' => ?_, h.no, fun g hg' => ?_, h.dn⟩
  · rcases hub g hg' with q | rfl
    · exact h.ng g q
    · intro hf; have := (h.i.fp _ hf).2; omega
  · rcases hub g hg' with q | rfl
    · exact h.dg g q
    · intro e; have := (own_lt h.o8 e).2; omega
theorem RtW.outd (h : RtW w0 A cp st' G bx W BK C A8 c8 vr A9 c9 Bd acc out vg vo G' b' X) (r : Rej) (ho : X'.ownsRow W.heap.size 65 3 u (out.length + 1) (out.flatMap rejF ++ rejF r)) (hg : X.grownBy X' vo.ownBlock) (hwh : u.ownBlock = vo.ownBlock ∨ u.ownBlock = some X.heap.size) :
    RtW w0 A cp st' G bx W BK C A8 c8 vr A9 c9 Bd acc (out ++ [r]) vg u G' b' X' := by
  have hGx : ∀ k, G' k → some k ≠ vo.ownBlock := fun k hk e => h.no k e.symm hk
  have hub : ∀ g, u.ownBlock = some g → vo.ownBlock = some g ∨ g = X.heap.size := fun g hg' => by
    rcases hwh with q | q
    · exact .inl (by rw [← q]; exact hg')
    · rw [hg'] at q; injection q with q; exact .inr q
  refine ⟨h.i.same (h.i.be.grown hg h.i.be.size (fun j hj => Nat.le_trans h.hw (own_lt h.oo hj).1)) hg.size (fun k hk => hg.block k (h.i.fp k hk).2 (hGx k hk)), h.hw, h.hx, h.fn, h.fm,
    h.k.trans (KeptE.of_grown' (F := fun j => vo.ownBlock = some j) hg (fun g e => e)) (fun j hj => .inr (own_lt h.oo hj).1), grown_lt (B := 0) hg h.bk (own_typ h.oo h.bk (by decide)), h.nb, h.o8.kept hg (own_ne h.oo h.o8 (by decide)),
    own_two h.o9 hg h.dn, h.og.kept hg (own_ne h.oo h.og (by decide)), by rw [List.length_append, List.flatMap_append]; simpa using ho, h.n8, h.n9, h.ng, fun g hg' => ?_, h.dg, fun g hg' => ?_⟩
  · rcases hub g hg' with q | rfl
    · exact h.no g q
    · intro hf; have := (h.i.fp _ hf).2; omega
  · rcases hub g hg' with q | rfl
    · exact h.dn g q
    · intro e; have := (own_lt h.o9 e).2; omega
theorem RtW.k1 (h : RtW w0 A cp st' G bx W BK #[.string vi, .string vs, .int .i64 vd, .slice A8 vr.length c8] A8 c8 vr A9 c9 Bd acc out vg vo G' b' X) : X.cell? ⟨BK, 1, none⟩ = some (.string vs) := cell_c h.bk 1
theorem RtW.k3 (h : RtW w0 A cp st' G bx W BK #[.string vi, .string vs, .int .i64 vd, .slice A8 vr.length c8] A8 c8 vr A9 c9 Bd acc out vg vo G' b' X) : X.cell? ⟨BK, 3, none⟩ = some (.slice A8 vr.length c8) := cell_c h.bk 3
/-- The loop's start: a file has been laid. -/
theorem RtW.start (h : RaC w0 A cp st G b W BK vi vs vd A8 c8 vr A9 c9 Bd X) (hw : w0.heap.size ≤ W.heap.size) (hGW : ∀ k, G k → k < W.heap.size) (hBK : W.heap.size ≤ BK) (hi : InR w0 A cp st2 G2 b2 X') (hx : b2.x = b.x) (hf : ∀ k, G2 k → G k ∨ X.heap.size ≤ k) (hm : ∀ k, G k → G2 k) (hk : KeptE G X X') :
    RtW w0 A cp st2 G b.x W BK #[.string vi, .string vs, .int .i64 vd, .slice A8 vr.length c8] A8 c8 vr A9 c9 Bd [] [] (.slice none 0 0) (.slice none 0 0) G2 b2 X' := by
  have hno : ∀ k, W.heap.size ≤ k → ¬ G k := fun k h1 h2 => by have := hGW k h2; omega
  have hno2 : ∀ k, W.heap.size ≤ k → k < X.heap.size → ¬ G2 k := fun k h1 h2 h3 => by
    rcases hf k h3 with q | q
    · exact hno k h1 q
    · omega
  have hsz := h.be.size
  refine ⟨hi, hw, hx, fun k q => ?_, hm, (KeptE.of_below (F := G) h.be).trans hk (fun _ q => .inl q), hk.heap h.k (hno _ hBK), hno2 _ hBK (Array.getElem?_eq_some_iff.1 h.k).1, hk.own h.o8 (fun g hg => hno g (own_lt h.o8 hg).1), hk.own h.o9 (fun g hg => hno g (own_lt h.o9 hg).1), World.ownsRow_nil _ _ _ _, World.ownsRow_nil _ _ _ _,
    fun g hg => hno2 g (own_lt h.o8 hg).1 (own_lt h.o8 hg).2, fun g hg => hno2 g (own_lt h.o9 hg).1 (own_lt h.o9 hg).2, (fun g hg => by cases hg), (fun g hg => by cases hg), (fun g hg => by cases hg), (fun g hg => by cases hg)⟩
  rcases hf k q with q | q
  · exact .inl q
  · exact .inr (by omega)
end
/-- What the reference's Accept leaves. -/
def RacPost (w0 : World) (A : Option Addr) (cp : Nat) (st : InS) (date : Int) (s : ByteArray) (G : Nat → Prop) (b : RiB) (W : World) (e : Ending) (W' : World) : Prop :=
  ∃ v8 v9 G' b', e = .returned (.tuple #[v8, v9, .int .i64 (accE st date s)]) ∧ InR w0 A cp (accS st date s) G' b' W' ∧ b'.x = b.x ∧ (∀ k, G' k → G k ∨ W.heap.size ≤ k) ∧ (∀ k, G k → G' k) ∧ KeptE G W W' ∧
    W'.ownsRow W.heap.size 57 12 v8 (accG st date s).length ((accG st date s).flatMap recF) ∧ W'.ownsRow W.heap.size 65 3 v9 (accB st date s).length ((accB st date s).flatMap rejF) ∧ (∀ g, v8.ownBlock = some g → ¬ G' g) ∧ (∀ g, v9.ownBlock = some g → ¬ G' g)
theorem rac_bad {w0 : World} {A : Option Addr} {cp : Nat} {st : InS} {G : Nat → Prop} {b : RiB} {W W' : World} (h : InR w0 A cp st G b W) {date : Int} {s : ByteArray} {E : Int} (he : accE st date s = E) (h0 : E ≠ 0) (hb : Below W.heap.size W W') :
    RacPost w0 A cp st date s G b W (.returned (.tuple #[.slice none 0 0, .slice none 0 0, .int .i64 E])) W' := by
  have e1 : accS st date s = st := by unfold accS; rw [if_neg (by rw [he]; exact h0)]
  have e2 : accG st date s = [] := by unfold accG; rw [if_neg (by rw [he]; exact h0)]
  have e3 : accB st date s = [] := by unfold accB; rw [if_neg (by rw [he]; exact h0)]
  exact ⟨_, _, G, b, by rw [he], by rw [e1]; exact h.below hb, rfl, fun k q => .inl q, fun k q => q, KeptE.of_below hb, by rw [e2]; exact World.ownsRow_nil _ _ _ _, by rw [e3]; exact World.ownsRow_nil _ _ _ _, (fun g q => by cases q), (fun g q => by cases q)⟩
theorem rac_end {w0 : World} {A : Option Addr} {cp : Nat} {st : InS} {G : Nat → Prop} {b : RiB} {W : World} {date : Int} {s : ByteArray} {fs' : List (ByteArray × ByteArray)} {BK : Nat} {C : Array Value} {A8 A9 : Option Addr} {c8 c9 : Nat} {vr : List Rec} {Bd : List Rej} {T : TreS} {vg vo : Value} {G3 : Nat → Prop} {b3 : RiB} {Y : World} {AE : Int} {S' : InS} {G' : List Rec} {B' : List Rej}
    (h : RtW w0 A cp ⟨st.sds, fs', T.good, T.bad⟩ G b.x W BK C A8 c8 vr A9 c9 Bd T.acc T.out vg vo G3 b3 Y) (hE : AE = 0) (hS : S' = ⟨st.sds, fs', T.good, T.bad⟩) (hG : G' = T.acc) (hB : B' = T.out) :
    ∃ v8 v9 G2 b', (Ending.returned (.tuple #[vg, vo, .int .i64 0]) = .returned (.tuple #[v8, v9, .int .i64 AE])) ∧ InR w0 A cp S' G2 b' Y ∧ b'.x = b.x ∧ (∀ k, G2 k → G k ∨ W.heap.size ≤ k) ∧ (∀ k, G k → G2 k) ∧ KeptE G W Y ∧
      Y.ownsRow W.heap.size 57 12 v8 G'.length (G'.flatMap recF) ∧ Y.ownsRow W.heap.size 65 3 v9 B'.length (B'.flatMap rejF) ∧ (∀ g, v8.ownBlock = some g → ¬ G2 g) ∧ (∀ g, v9.ownBlock = some g → ¬ G2 g) := by
  rw [hE, hS, hG, hB]
  exact ⟨_, _, G3, b3, rfl, h.i, h.hx, h.fn, h.fm, h.k, h.og, h.oo, h.ng, h.no⟩
theorem rac_fin {w0 : World} {A : Option Addr} {cp : Nat} {st : InS} {G : Nat → Prop} {b : RiB} {W : World} {date : Int} {s : ByteArray} {BK : Nat} {C : Array Value} {A8 A9 : Option Addr} {c8 c9 : Nat} {vr : List Rec} {Bd : List Rej} {vg vo : Value} {G3 : Nat → Prop} {b3 : RiB} {Y : World}
    (h : RtW w0 A cp ⟨st.sds, st.fs ++ [((fileV s).sd, (fileV s).id)], (accT st s).good, (accT st s).bad⟩ G b.x W BK C A8 c8 vr A9 c9 Bd (accT st s).acc (accT st s).out vg vo G3 b3 Y) (hE : accE st date s = 0) : RacPost w0 A cp st date s G b W (.returned (.tuple #[vg, vo, .int .i64 0])) Y := by
  unfold RacPost
  exact rac_end (date := date) (s := s) h hE (by unfold accS; rw [if_pos hE]) (by unfold accG; rw [if_pos hE]) (by unfold accB; rw [if_pos hE])
theorem reads_cells (w : World) (cs : Array Value) (T size : Nat) (hs : cs.toList.length = 1 * size) : Reads (w.alloc (.cells cs T)) (w.alloc (.cells cs T)).heap.size size (some ⟨w.heap.size, 0, none⟩) 1 cs.toList :=
  ⟨hs, fun _ => ⟨_, rfl, by rw [World.size_alloc]; exact Nat.lt_succ_self _, fun j u hj => by
    have e : ({ block := w.heap.size, off := 0, spot := none } : Addr).add j = ⟨w.heap.size, 0 + j, none⟩ := by unfold Addr.add; split <;> simp_all
    rw [e, cell_c (heap_alloc_new w _), Nat.zero_add, ← Array.getElem?_toList]
    exact hj⟩⟩
theorem inf_yes {l : List (ByteArray × ByteArray)} {sd id : ByteArray} {k : Nat} (hk : k < l.length) (h1 : (fAt l k).1 = sd) (h2 : (fAt l k).2 = id) : inF l sd id = true := by
  unfold inF
  rw [fAt_get l k hk] at h1 h2
  exact List.any_eq_true.2 ⟨l[k], List.getElem_mem hk, by simp [h1, h2]⟩
theorem inf_no {l : List (ByteArray × ByteArray)} {sd id : ByteArray} (h : ∀ j, j < l.length → ¬ ((fAt l j).1 = sd ∧ (fAt l j).2 = id)) : inF l sd id = false := by
  unfold inF
  rw [List.any_eq_false]
  intro x hx
  obtain ⟨j, hj, rfl⟩ := List.getElem_of_mem hx
  have := h j hj
  rw [fAt_get l j hj] at this
  simp only [Bool.and_eq_true, decide_eq_true_eq]
  exact this
theorem put_len (sd : ByteArray) (r : Rej) : ∀ l, (putB sd r l).length ≤ l.length + 1
  | [] => by simp [putB]
  | x :: l => by
    have := put_len sd r l
    unfold putB
    split <;> simp <;> omega
/-- Bounds of what is open and good while the lines are treated. -/
theorem trS_bd (sd : ByteArray) (rs : List Rec) (bad : List Rej) (t0 : TreS) : ∀ i, (trK sd rs bad t0 i).t.good.length ≤ t0.good.length + i ∧ (trK sd rs bad t0 i).t.bad.length ≤ t0.bad.length + i ∧ (trK sd rs bad t0 i).t.acc.length ≤ t0.acc.length + i ∧ (trK sd rs bad t0 i).t.out.length ≤ t0.out.length + i
  | 0 => ⟨Nat.le_refl _, Nat.le_refl _, Nat.le_refl _, Nat.le_refl _⟩
  | i + 1 => by
    obtain ⟨h1, h2, h3, h4⟩ := trS_bd sd rs bad t0 i
    rw [trK_succ]
    generalize trK sd rs bad t0 i = s at *
    unfold trStep
    split
    · refine ⟨by show s.t.good.length ≤ _; omega, ?_, by show s.t.acc.length ≤ _; omega, by show (s.t.out ++ [rejAt bad s.r]).length ≤ _; simp; omega⟩
      show (keepB s.t.good sd (rejAt bad s.r) s.t.bad).length ≤ _
      unfold keepB
      split
      · omega
      · have := put_len sd (rejAt bad s.r) s.t.bad; omega
    · unfold trGood
      split
      · refine ⟨by show s.t.good.length ≤ _; omega, by show s.t.bad.length ≤ _; omega, by show s.t.acc.length ≤ _; omega, by simp; omega⟩
      · refine ⟨by simp; omega, ?_, by simp; omega, by show s.t.out.length ≤ _; omega⟩
        show (delB sd (rcAt rs s.k).id s.t.bad).length ≤ _
        unfold delB
        have := List.length_filter_le (fun x : ByteArray × Rej => !(decide (x.1 = sd) && decide (x.2.2.1 = (rcAt rs s.k).id))) s.t.bad
        omega
end Go.Proofs.YthflmdgfenojcaaGreatDoor
