/- The reference's folder: Missing. -/
import Derived.Test.YtoiddojmlhknlaaDoorRef2
namespace Go.Proofs.YtoiddojmlhknlaaDoor
set_option linter.unusedVariables false
open Go.RowKit Go.Maps

theorem beqB_list (x y : ByteArray) : (y.toList == x.toList) = beqB x y := by
  rw [bytes_eq, Bool.eq_iff_iff, beqB_iff]
  simp only [decide_eq_true_eq]
  exact ⟨fun h => h.symm, fun h => h.symm⟩
theorem hasB_take (ks : List ByteArray) (x : ByteArray) (j : Nat) (h : j < ks.length) : hasB (ks.take (j + 1)) x = (hasB (ks.take j) x || (ks[j].toList == x.toList)) := by
  rw [List.take_succ_eq_append_getElem h, hasB_append, hasB_one, beqB_list]
/-- The state of Missing behind k needs. -/
def RRel (w wr : World) (l : List Itm) (needs : List ByteArray) (k : Nat) (v : Value) : Prop :=
  Below w.heap.size w wr ∧ wr.ownsRow w.heap.size 9 1 v (missL (ksOf l) (needs.take k)).length (strsOf (missL (ksOf l) (needs.take k)))
theorem rrel_step (w wr : World) (l : List Itm) (needs : List ByteArray) (k : Nat) (v : Value) (hk : k < needs.length) (h : RRel w wr l needs k v) :
    ((hasB (ksOf l) needs[k] || hasB (missL (ksOf l) (needs.take k)) needs[k]) = true → ∀ n, RRel w (wr.drewN n) l needs (k + 1) v) ∧
    ((hasB (ksOf l) needs[k] || hasB (missL (ksOf l) (needs.take k)) needs[k]) = false → ∀ (v' : Value) (w3 : World) (n : Nat) (o : Obj),
      w3.ownsRow w.heap.size 9 1 v' ((missL (ksOf l) (needs.take k)).length + 1) (strsOf (missL (ksOf l) (needs.take k)) ++ [.string needs[k]]) → ((wr.drewN n).alloc o).grownBy w3 v.ownBlock → RRel w w3 l needs (k + 1) v') := by
  obtain ⟨h2, h3⟩ := h
  have e : missL (ksOf l) (needs.take (k + 1)) = missStep (ksOf l) (missL (ksOf l) (needs.take k)) needs[k] := by
    rw [needs_take needs k hk, missL_snoc]
  constructor
  · intro hb n
    have e2 : missL (ksOf l) (needs.take (k + 1)) = missL (ksOf l) (needs.take k) := by rw [e]; unfold missStep; rw [if_pos hb]
    unfold RRel
    rw [e2]
    exact ⟨below_drewN h2 n, h3⟩
  · intro hb v' w3 n o ho hgrow
    have e2 : missL (ksOf l) (needs.take (k + 1)) = missL (ksOf l) (needs.take k) ++ [needs[k]] := by rw [e]; unfold missStep; rw [if_neg (by simp [hb])]
    unfold RRel
    rw [e2]
    have hlt : ∀ g, v.ownBlock = some g → w.heap.size ≤ g := fun g hg' => (h3.lt g hg').1
    refine ⟨?_, ?_⟩
    · have hz := h2.size
      have hb2 := below_drewN h2 n
      exact (hb2.alloc hb2.size o).grown hgrow (by have := hb2.size; simp; omega) (fun x hx => hlt _ hx)
    · have : strsOf (missL (ksOf l) (needs.take k) ++ [needs[k]]) = strsOf (missL (ksOf l) (needs.take k)) ++ [.string needs[k]] := by simp [strsOf]
      rw [this, List.length_append]; exact ho
set_option maxHeartbeats 3200000 in
theorem rmissing_any (B bf : Nat) (ob : Option Nat) (l : List Itm) (needs : List ByteArray) (A : Option Addr) (c : Nat) (w : World) (hf : RFolderW w B bf ob l) (hl : l.length ≤ 1000)
    (hr : IsRow w A (strsOf needs)) (hn : needs.length ≤ 1000) :
    Calls Tryd.prog 19 #[.pointer (some ⟨bf, 0, none⟩), .slice A needs.length c] w (StrsPost (missL (ksOf l) needs) w) := by
  obtain ⟨i0, hi0, hz0, hz1, hz2⟩ := info_parts info9
  have HI := Lib.hid hi0
  have HZ := Lib.hid hz0
  have HZ1 := Lib.hid hz1
  have HZ2 := Lib.hid hz2
  have HF := Lib.hid hf
  have HR := Lib.hid hr
  have hlt := hf.lt
  clear hr hf hi0 hz0 hz1 hz2
  go_enter Tryd.func19, Tryd.ntmps19
  go_wp2_with fail
  go_loopw [5, 6] (fun v i wr => ∃ k : Nat, k ≤ needs.length ∧ i = .int .i64 k ∧ RRel w wr l needs k v) (fun _ i _ => needs.length - (intOf i).toNat)
  case atStart => exact ⟨0, Nat.zero_le _, rfl, Below.refl _ _, World.ownsRow_nil _ _ _ _⟩
  case round =>
    obtain ⟨k, hk, rfl, hrel⟩ := hrel
    by_cases hlt2 : k < needs.length
    · rcases HR.out.below hrel.1 with h0 | ⟨b, off, ha, hc⟩
      · rw [strsOf_length] at h0; omega
      subst ha
      have d0 := strs_at hc k hlt2
      have hst := Lib.hid (rrel_step w wr l needs k u5 hlt2 hrel)
      have hlen := missL_len (ksOf l) (needs.take k)
      rw [List.length_take] at hlen
      have hkind := Lib.hid (rkind_any B bf ob l needs[k] wr (HF.out.below hrel.1) hl)
      have g1 : (0 : Int) ≤ (k : Int) := by omega
      have g2 : (k : Int) < (needs.length : Int) := by omega
      obtain ⟨A5, c5, hv5, hrow5, hc5⟩ := own_form hrel.2
      have HROW5 := Lib.hid hrow5
      have HOWN := Lib.hid hrel.2
      have HSZ := hrel.1.size
      clear hc hrow5 hrel
      generalize needs[k] = x at *
      generalize missL (ksOf l) (needs.take k) = ms at *
      subst hv5
      generalize hkb : hasB (ksOf l) x = kb at *
      clear hkb
      go_wp2_with fail
      refine hkind.out.mono ?_
      rintro e w' ⟨rfl, rfl⟩
      obtain ⟨wo, hwo⟩ : ∃ wo : World, wo = wr := ⟨_, rfl⟩
      subst hwo
      go_wp2_with fail
      go_loopw [7, 8] (fun t i wr => ∃ j m : Nat, j ≤ ms.length ∧ i = .int .i64 j ∧ t = .bool (kb || hasB (ms.take j) x) ∧ wr = wo.drewN m) (fun _ i _ => ms.length - (intOf i).toNat)
      case atStart => exact ⟨0, 0, Nat.zero_le _, rfl, by simp [hasB], rfl⟩
      case round =>
        obtain ⟨j, m, hj, rfl, rfl, rfl⟩ := hrel
        by_cases hlj : j < ms.length
        · rcases HROW5.out with h0 | ⟨b5, off5, ha5, hc5'⟩
          · rw [strsOf_length] at h0; omega
          subst ha5
          have e0 := strs_at hc5' j hlj
          have hst2 := Lib.hid (hasB_take ms x j hlj)
          have gj0 : (0 : Int) ≤ (j : Int) := by omega
          have gj1 : (j : Int) < (ms.length : Int) := by omega
          clear hc5'
          generalize ms[j] = y at *
          cases hb0 : (kb || hasB (ms.take j) x)
          · have HB0 := Lib.hid hb0
            clear hb0
            cases hbe : (y.toList == x.toList)
            all_goals
              have HE := Lib.hid hbe
              clear hbe
              have hbe := HE.out
              go_wp2_with fail
              go_quiet (fail)
              go_wp2_with fail
              go_roundw
              case rel => exact ⟨j + 1, _, by omega, by go_num, by rw [hst2.out, ← Bool.or_assoc, HB0.out, HE.out]; rfl, rfl⟩
              case measure => simp [intOf]; omega
          · have HB0 := Lib.hid hb0
            clear hb0
            go_wp2_with fail
            go_quiet (fail)
            go_wp2_with fail
            go_roundw
            case rel => exact ⟨j + 1, _, by omega, by go_num, by rw [hst2.out, ← Bool.or_assoc, HB0.out]; rfl, rfl⟩
            case measure => simp [intOf]; omega
        · obtain rfl : j = ms.length := by omega
          rw [List.take_length]
          have ho2 : Hid ((wo.drewN m).ownsRow w.heap.size 9 1 (.slice A5 ms.length c5) ms.length (strsOf ms)) := Lib.hid HOWN.out
          have d0' : (wo.drewN m).cell? ⟨b, off + k, none⟩ = some (.string x) := by simpa using d0
          have hszm : wo.heap.size = (wo.drewN m).heap.size := by simp
          cases hb0 : (kb || hasB ms x)
          · have HST := Lib.hid (fun v' w3 o => hst.out.2 hb0 v' w3 m o)
            clear hb0
            generalize hWW : wo.drewN m = WW at *
            clear hWW
            rw [hszm] at HSZ
            clear hszm
            go_wp2_with (at_builtin; refine wpList_append_own _ rfl (.tmp 45) (.tmp 50) _ rfl w.heap.size 9 i0 _ 1 16 Tryd.underlying23 HI.out HZ.out HZ1.out HZ2.out rfl (by omega) (.slice A5 ms.length c5) ms.length (strsOf ms) rfl (ho2.out.alloc _) ⟨WW.heap.size, 0, none⟩ 1 1 [.string x] rfl rfl (World.news_of_block (cs := #[.string x]) (t := 9) (fr := (0, 0)) (heap_alloc_new WW _)) (by simp [Value.oneCell']) (by unfold maxLen; omega) (by omega) (by simp; omega) ?_; intro v' w3 hown' hgrow hnil)
            have HN := Lib.hid (HST.out v' w3 _ hown' hgrow)
            clear HST hown' hgrow hnil
            go_wp2_with fail
            go_roundw
            case rel => exact ⟨k + 1, by omega, by go_num, HN.out⟩
            case measure => simp [intOf]; omega
          · have HN := Lib.hid (hst.out.1 hb0 m)
            clear hb0
            go_wp2_with fail
            go_roundw
            case rel => exact ⟨k + 1, by omega, by go_num, HN.out⟩
            case measure => simp [intOf]; omega
    · obtain rfl : k = needs.length := by omega
      obtain ⟨A', c', hv, hrow', hc'⟩ := own_form hrel.2
      have hfin : needs.take needs.length = needs := by simp
      rw [hfin] at hv hrow' hc'
      have HROW' := Lib.hid hrow'
      have HB' := Lib.hid hrel.1
      clear hrel hrow' hfin
      subst hv
      go_wp2_with fail
      go_ret
      exact ⟨A', c', rfl, HROW'.out, hc', HB'.out⟩
end Go.Proofs.YtoiddojmlhknlaaDoor
