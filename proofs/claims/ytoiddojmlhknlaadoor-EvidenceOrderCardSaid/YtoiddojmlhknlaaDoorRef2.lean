/- The reference's folder: Items, kind, Missing, Verify, Digest; the comparisons of lists. -/
import Derived.Test.YtoiddojmlhknlaaDoorRef
namespace Go.Proofs.YtoiddojmlhknlaaDoor
set_option linter.unusedVariables false
open Go.RowKit Go.Maps
attribute [local go_sem ↓] Go.wp_at_zero Go.wp_at_succ

set_option maxHeartbeats 800000 in
theorem ritems_any (B bf : Nat) (ob : Option Nat) (l : List Itm) (w : World) (hf : RFolderW w B bf ob l) (hl : l.length ≤ 1000) : Calls Tryd.prog 14 #[.pointer (some ⟨bf, 0, none⟩)] w (ItemsPost w.heap.size l w) := by
  obtain ⟨A, c, hblk, hob, hrow, hlc, hown⟩ := hf.open_
  obtain ⟨i0, hi0, hz0, hz1, hz2⟩ := info_parts info24
  have hlt := hf.lt
  have c0 : (w.alloc (.cells #[] 35)).cell? ⟨bf, 0, none⟩ = some (.slice A l.length c) := (World.cell?_alloc_lt w _ ⟨bf, 0, none⟩ hlt).trans (cell_blk hblk).1
  have hn := own_addr hown
  have HR := Lib.hid hrow
  have HI := Lib.hid hi0
  clear hblk hob hrow hown hf hi0
  rcases A with _ | ad
  · obtain rfl := hn rfl
    obtain rfl : l = [] := List.eq_nil_of_length_eq_zero (by omega)
    clear hn
    go_enter Tryd.func14, Tryd.ntmps14
    go_wp2_with fail
    go_ret
    exact ⟨some ⟨w.heap.size, 0, none⟩, 0, rfl, .inl rfl, Nat.le_refl _, (Below.refl _ _).alloc (Nat.le_refl _) _⟩
  · clear hn
    go_enter Tryd.func14, Tryd.ntmps14
    go_wp2_with (at_builtin; refine wpList_append_own _ rfl (.tmp 5) (.tmp 9) _ rfl w.heap.size 35 i0 _ 3 32 Tryd.underlying22 HI.out hz0 hz1 hz2 rfl (by omega) (.slice (some ⟨w.heap.size, 0, none⟩) 0 0) 0 [] rfl (World.ownsRow_made w #[] 0 (Nat.le_refl _) (by decide) rfl) ad l.length c (cellsOf l) rfl (cellsOf_length l) ((HR.out.below ((Below.refl _ _).alloc (Nat.le_refl _) _)).addr ad rfl) (cellsOf_one' l) (by unfold maxLen; omega) (by omega) (by simp) ?_; intro v w1 hown hgrow hnil)
    go_ret
    obtain ⟨A', c', rfl, hrow, hc'⟩ := own_form hown
    exact ⟨A', c', by simp, by simpa using hrow, by omega, ((Below.refl _ _).alloc (Nat.le_refl _) _).grown hgrow (by simp) (fun k hk => by simp [Value.ownBlock] at hk; omega)⟩
theorem kind_take (l : List Itm) (s : ByteArray) (j : Nat) (h : j < l.length) : hasB (ksOf (l.take (j + 1))) s = (hasB (ksOf (l.take j)) s || (l[j].k.toList == s.toList)) := by
  rw [List.take_succ_eq_append_getElem h]
  unfold ksOf
  rw [List.map_append, hasB_append]
  congr 1
  show hasB [l[j].k] s = _
  rw [hasB_one, bytes_eq, Bool.eq_iff_iff, beqB_iff]
  simp only [decide_eq_true_eq]
  exact ⟨fun h => h.symm, fun h => h.symm⟩
theorem kind_yes (l : List Itm) (s : ByteArray) (j : Nat) (h : j < l.length) (he : (l[j].k.toList == s.toList) = true) : hasB (ksOf l) s = true := by
  rw [hasB_iff]
  unfold ksOf
  rw [bytes_eq] at he
  have := of_decide_eq_true he
  exact List.mem_map.2 ⟨l[j], List.getElem_mem h, this⟩
set_option maxHeartbeats 800000 in
theorem rkind_any (B bf : Nat) (ob : Option Nat) (l : List Itm) (s : ByteArray) (w : World) (hf : RFolderW w B bf ob l) (hl : l.length ≤ 1000) :
    Calls Tryd.prog 32 #[.pointer (some ⟨bf, 0, none⟩), .string s] w fun e w' => e = .returned (.bool (hasB (ksOf l) s)) ∧ w = w' := by
  obtain ⟨A, c, hblk, hob, hrow, hlc, hown⟩ := hf.open_
  have HR := Lib.hid hrow
  have c0 := (cell_blk hblk).1
  clear hblk hob hrow hown hf
  go_enter Tryd.func32, Tryd.ntmps32
  go_wp2_with fail
  go_loop [5] (fun i => ∃ k : Nat, k ≤ l.length ∧ i = .int .i64 k ∧ Hid (hasB (ksOf (l.take k)) s = false)) (fun i => l.length - (intOf i).toNat)
  case atStart => exact ⟨0, Nat.zero_le _, rfl, Lib.hid (by simp [ksOf, hasB])⟩
  case round =>
    obtain ⟨k, hk, rfl, hno⟩ := hrel
    by_cases hlt : k < l.length
    · rcases HR.out with h0 | ⟨b, off, rfl, hc⟩
      · rw [cellsOf_length] at h0; omega
      obtain ⟨d0, d1, d2⟩ := row_item hc k hlt
      clear hc
      have hst := Lib.hid (kind_take l s k hlt)
      have hof := Lib.hid (kind_yes l s k hlt)
      generalize l[k] = y at d0 d1 d2 hst hof
      cases hd : (y.k.toList == s.toList)
      all_goals
        have HD := Lib.hid hd
        clear hd
        have hd := HD.out
        go_wp2_with fail
      · go_round
        case rel => exact ⟨k + 1, by omega, by go_num, Lib.hid (by rw [hst.out, hno.out, HD.out]; rfl)⟩
        case measure => simp [intOf]; omega
      · go_ret
        exact ⟨by rw [hof.out HD.out]; rfl, rfl⟩
    · obtain rfl : k = l.length := by omega
      have hend : Hid (hasB (ksOf l) s = false) := Lib.hid (by have := hno.out; rw [List.take_length] at this; exact this)
      go_wp2_with fail
      go_ret
      exact ⟨by rw [hend.out]; rfl, rfl⟩
set_option maxHeartbeats 800000 in
theorem rverify_any (B bf : Nat) (ob : Option Nat) (l : List Itm) (k c : ByteArray) (w : World) (hf : RFolderW w B bf ob l) (hl : l.length ≤ 1000) (hk : k.size ≤ maxLen) (hc : c.size ≤ maxLen) :
    Calls Tryd.prog 21 #[.pointer (some ⟨bf, 0, none⟩), .string k, .string c] w fun e w' => e = .returned (.bool (verB l k c)) ∧ Below w.heap.size w w' := by
  have hd := Lib.hid (rdescribe_any k c w hk hc)
  have HF := Lib.hid hf
  clear hf
  go_enter Tryd.func21, Tryd.ntmps21
  go_wp2_with fail
  refine hd.out.mono ?_
  rintro e w1 ⟨rfl, hb⟩
  have HB := Lib.hid hb
  have hv := descV_val k c
  have hvb := Lib.hid (show verB l k c = (decide (descE k c = 0) && hasI l (descI k c)) from rfl)
  have HF1 := Lib.hid (HF.out.below HB.out)
  clear hb
  rw [hv]
  clear hv
  have hb1 : Hid (Below w.heap.size w (w1.alloc (.cells #[.string (descI k c).k, .int .i64 (descI k c).n, .int .u64 (descI k c).h] 35))) := Lib.hid (HB.out.alloc HB.out.size _)
  have hcon := Lib.hid (rhas_any B bf ob l (descI k c) (w1.alloc (.cells #[.string (descI k c).k, .int .i64 (descI k c).n, .int .u64 (descI k c).h] 35)) (HF1.out.below ((Below.refl _ _).alloc (Nat.le_refl _) _)) hl)
  unfold Itm.val at hcon
  generalize descI k c = x at *
  cases hz : decide (descE k c = 0)
  · have hz2 : (((descE k c : Nat) : Int) == 0) = false := by
      have := of_decide_eq_false hz
      exact beq_eq_false_iff_ne.2 (by omega)
    have HZ := Lib.hid hz
    clear hz
    generalize descE k c = ec at *
    go_wp2_with fail
    go_ret
    exact ⟨by rw [hvb.out, HZ.out]; rfl, hb1.out⟩
  · have hz3 := of_decide_eq_true hz
    have HZ := Lib.hid hz
    clear hz
    rw [hz3]
    clear hz3
    go_wp2_with fail
    refine hcon.out.mono ?_
    rintro e w3 ⟨rfl, hb3⟩
    have HB3 := Lib.hid (hb1.out.trans (hb3.mono hb1.out.size))
    clear hb3
    go_wp2_with fail
    go_ret
    exact ⟨by rw [hvb.out, HZ.out]; rfl, HB3.out⟩
theorem neq_item (x : Itm) (w : World) : (binOp .neq 35 (.agg #[.string x.k, .int .i64 x.n, .int .u64 x.h]) (.agg #[.string x.k, .int .i64 x.n, .int .u64 x.h])).run Tryd.prog w = .ok (.bool false) w := by
  rw [run_neq_struct]
  rw [run_equalIn_struct _ _ _ _ _ Tryd.underlying35 Tryd.stoodInHeld35]
  go_simp
set_option maxHeartbeats 800000 in
theorem rsame_any (A1 A2 : Option Addr) (c1 c2 : Nat) (l : List Itm) (w : World) (hr1 : IsRow w A1 (cellsOf l)) (hr2 : IsRow w A2 (cellsOf l)) (hl : l.length ≤ 1000) :
    Calls Tryd.prog 12 #[.slice A1 l.length c1, .slice A2 l.length c2] w fun e w' => e = .returned (.bool true) ∧ Below w.heap.size w w' := by
  have HR1 := Lib.hid hr1
  have HR2 := Lib.hid hr2
  clear hr1 hr2
  go_enter Tryd.func12, Tryd.ntmps12
  go_wp2_with fail
  go_loopw [5] (fun i wr => ∃ k m : Nat, k ≤ l.length ∧ i = .int .i64 k ∧ wr = w.drewN m) (fun i _ => l.length - (intOf i).toNat)
  case atStart => exact ⟨0, 0, Nat.zero_le _, rfl, rfl⟩
  case round =>
    obtain ⟨k, m, hk, rfl, rfl⟩ := hrel
    by_cases hlt : k < l.length
    · rcases HR1.out with h0 | ⟨b1, off1, rfl, hc1⟩
      · rw [cellsOf_length] at h0; omega
      rcases HR2.out with h0 | ⟨b2, off2, rfl, hc2⟩
      · rw [cellsOf_length] at h0; omega
      obtain ⟨d0, d1, d2⟩ := row_item hc1 k hlt
      obtain ⟨f0, f1, f2⟩ := row_item hc2 k hlt
      clear hc1 hc2
      have g1 : (0 : Int) ≤ (k : Int) := by omega
      have g2 : (k : Int) < (l.length : Int) := by omega
      generalize l[k] = y at *
      have hneq := neq_item y
      go_wp2_with fail
      go_quiet (fail)
      go_wp2_with fail
      go_roundw
      case rel => exact ⟨k + 1, _, by omega, by go_num, rfl⟩
      case measure => simp [intOf]; omega
    · obtain rfl : k = l.length := by omega
      go_wp2_with fail
      go_ret
      exact ⟨rfl, below_drewN (Below.refl _ _) _⟩
set_option maxHeartbeats 800000 in
theorem same_any (A1 A2 : Option Addr) (c1 c2 : Nat) (l : List ByteArray) (w : World) (hr1 : IsRow w A1 (strsOf l)) (hr2 : IsRow w A2 (strsOf l)) (hl : l.length ≤ 1000) :
    Calls Tryd.prog 17 #[.slice A1 l.length c1, .slice A2 l.length c2] w fun e w' => e = .returned (.bool true) ∧ Below w.heap.size w w' := by
  have HR1 := Lib.hid hr1
  have HR2 := Lib.hid hr2
  clear hr1 hr2
  go_enter Tryd.func17, Tryd.ntmps17
  go_wp2_with fail
  go_loopw [5] (fun i wr => ∃ k m : Nat, k ≤ l.length ∧ i = .int .i64 k ∧ wr = w.drewN m) (fun i _ => l.length - (intOf i).toNat)
  case atStart => exact ⟨0, 0, Nat.zero_le _, rfl, rfl⟩
  case round =>
    obtain ⟨k, m, hk, rfl, rfl⟩ := hrel
    by_cases hlt : k < l.length
    · rcases HR1.out with h0 | ⟨b1, off1, rfl, hc1⟩
      · rw [strsOf_length] at h0; omega
      rcases HR2.out with h0 | ⟨b2, off2, rfl, hc2⟩
      · rw [strsOf_length] at h0; omega
      have d0 := strs_at hc1 k hlt
      have f0 := strs_at hc2 k hlt
      clear hc1 hc2
      have g1 : (0 : Int) ≤ (k : Int) := by omega
      have g2 : (k : Int) < (l.length : Int) := by omega
      generalize l[k] = y at *
      go_wp2_with fail
      go_quiet (fail)
      go_wp2_with fail
      go_roundw
      case rel => exact ⟨k + 1, _, by omega, by go_num, rfl⟩
      case measure => simp [intOf]; omega
    · obtain rfl : k = l.length := by omega
      go_wp2_with fail
      go_ret
      exact ⟨rfl, below_drewN (Below.refl _ _) _⟩
end Go.Proofs.YtoiddojmlhknlaaDoor
