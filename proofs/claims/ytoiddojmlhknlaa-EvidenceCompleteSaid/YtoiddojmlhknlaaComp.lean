/- The walk of EvidenceComplete. -/
import Derived.Test.YtoiddojmlhknlaaFew
namespace Go.Proofs.Ytoiddojmlhknlaa
set_option linter.unusedVariables false
open Go.RowKit Go.Maps

def addAll (l : List Itm) : List Itm := l.foldl addL []
theorem addAll_snoc (l : List Itm) (x : Itm) : addAll (l ++ [x]) = addL (addAll l) x := by simp [addAll]
theorem addL_len (l : List Itm) (x : Itm) (h : l.length ≤ 16) : (addL l x).length ≤ 16 := by
  unfold addL
  split
  · rename_i he
    unfold addE at he
    split at he
    · omega
    · split at he
      · omega
      · simp; omega
  · exact h
theorem addL_mem (l : List Itm) (x y : Itm) (h : y ∈ addL l x) : y ∈ l ∨ y = x := by
  unfold addL at h
  split at h
  · simpa using h
  · exact .inl h
theorem addAll_inv (l : List Itm) : (addAll l).length ≤ 16 ∧ ∀ y ∈ addAll l, y ∈ l := by
  have key : ∀ (m r : List Itm), r.length ≤ 16 → (m.foldl addL r).length ≤ 16 ∧ ∀ y ∈ m.foldl addL r, y ∈ r ∨ y ∈ m := by
    intro m
    induction m with
    | nil => intro r h; exact ⟨h, fun y hy => .inl hy⟩
    | cons x m ih =>
      intro r h
      obtain ⟨a, b⟩ := ih (addL r x) (addL_len r x h)
      refine ⟨a, fun y hy => ?_⟩
      rcases b y hy with h1 | h1
      · rcases addL_mem r x y h1 with h2 | h2
        · exact .inl h2
        · exact .inr (by simp [h2])
      · exact .inr (by simp [h1])
  obtain ⟨a, b⟩ := key l [] (by simp)
  exact ⟨a, fun y hy => by rcases b y hy with h | h; simp at h; exact h⟩
theorem items_take (l : List Itm) (k : Nat) (h : k < l.length) : l.take (k + 1) = l.take k ++ [l[k]] := List.take_succ_eq_append_getElem h
def CRel (w wr : World) (l : List Itm) (k : Nat) : Prop := ∃ ob, FolderW wr w.heap.size w.heap.size ob (addAll (l.take k)) ∧ Below w.heap.size w wr
theorem CRel.step {w wr w' : World} {l : List Itm} {k : Nat} (hk : k < l.length) {ob : Option Nat} (hf : FolderW wr w.heap.size w.heap.size ob (addAll (l.take k))) (hb : Below w.heap.size w wr) {e : Ending}
    (h : AddPost w.heap.size w.heap.size ob (addAll (l.take k)) l[k] wr e w') : CRel w w' l (k + 1) := by
  obtain ⟨_, hO, ob', hf', _⟩ := h
  refine ⟨ob', by rw [items_take l k hk, addAll_snoc]; exact hf', hb.trans (hO.below _ hb.size (fun j hj hs => ?_))⟩
  rcases hs with hs | hs
  · omega
  · have := (hf.ge.2 j hs).1; omega
theorem beqB_list (x y : ByteArray) : (y.toList == x.toList) = beqB x y := by
  rw [bytes_eq, Bool.eq_iff_iff, beqB_iff]
  simp only [decide_eq_true_eq]
  exact ⟨fun h => h.symm, fun h => h.symm⟩
theorem hasB_take (ks : List ByteArray) (x : ByteArray) (j : Nat) (h : j < ks.length) : hasB (ks.take (j + 1)) x = (hasB (ks.take j) x || (ks[j].toList == x.toList)) := by
  rw [List.take_succ_eq_append_getElem h, hasB_append, hasB_one, beqB_list]
theorem cntB_take (ks : List ByteArray) (x : ByteArray) (j : Nat) (h : j < ks.length) : cntB (ks.take (j + 1)) x = cntB (ks.take j) x + (if (ks[j].toList == x.toList) = true then 1 else 0) := by
  rw [List.take_succ_eq_append_getElem h, cntB_append, cntB_one, beqB_list]
theorem cntB_le (ks : List ByteArray) (x : ByteArray) : cntB ks x ≤ ks.length := by unfold cntB; exact List.length_filter_le _ _
set_option maxHeartbeats 3200000 in
theorem complete_go (w : World) (A : Option Addr) (c : Nat) (l : List Itm) (hr : IsRow w A (cellsOf l)) (hs : ∀ x ∈ l, x.k.size ≤ maxLen) (hl : l.length ≤ maxLen)
    (A2 : Option Addr) (c2 : Nat) (needs : List ByteArray) (hr2 : IsRow w A2 (strsOf needs)) (hs2 : ∀ x ∈ needs, x.size ≤ maxLen) (hn : needs.length ≤ maxLen) (h1 : fewB l = true) (h2 : shortB needs = true) :
    Calls Try.prog 4 #[.slice A l.length c, .slice A2 needs.length c2] w fun e w' => e = .returned (.bool true) ∧ Below w.heap.size w w' := by
  have hfew := Lib.hid (few_any A c l w hr hl hs)
  have hsh := Lib.hid (shorts_any A2 c2 needs w hr2 hn hs2)
  have HR := Lib.hid hr
  have HR2 := Lib.hid hr2
  have HS := Lib.hid hs
  have HS2 := Lib.hid hs2
  have hl40 := (of_decide_eq_true h1).1
  have hn40 := (of_decide_eq_true h2).1
  have H1 := Lib.hid h1
  have H2 := Lib.hid h2
  clear hr hr2 hs hs2 h1 h2
  unfold maxLen at hl hn
  go_enter Try.func4, Try.ntmps4
  go_wp2_with fail
  refine hfew.out.mono ?_
  rintro e w' ⟨rfl, rfl⟩
  rw [H1.out]
  go_wp2_with fail
  refine hsh.out.mono ?_
  rintro e w' ⟨rfl, rfl⟩
  rw [H2.out]
  go_wp2_with fail
  refine (new_any _).mono ?_
  rintro e w1 ⟨rfl, hf1, hb1⟩
  have HC0 : Hid (CRel w w1 l 0) := Lib.hid ⟨none, by simpa [addAll] using hf1, hb1⟩
  clear hf1 hb1
  go_wp2_with fail
  go_loopw [6] (fun i wr => ∃ k : Nat, k ≤ l.length ∧ i = .int .i64 k ∧ CRel w wr l k) (fun i _ => l.length - (intOf i).toNat)
  case atStart => exact ⟨0, Nat.zero_le _, rfl, HC0.out⟩
  case round =>
    obtain ⟨k, hk, rfl, ob, hf, hb⟩ := hrel
    by_cases hlt : k < l.length
    · rcases HR.out.below (hb.mono (Nat.le_refl _)) with h0 | ⟨b, off, ha, hc⟩
      · rw [cellsOf_length] at h0; omega
      subst ha
      obtain ⟨d0, d1, d2⟩ := row_item hc k hlt
      have hst := Lib.hid (fun (w' : World) (e : Ending) h => CRel.step (w' := w') (e := e) hlt hf hb h)
      have hadd := Lib.hid (add_any w.heap.size w.heap.size ob (addAll (l.take k)) l[k] wr hf hb.size (HS.out l[k] (List.getElem_mem hlt)) (addAll_inv (l.take k)).1)
      unfold Itm.val at hadd
      clear hc hf hb
      generalize l[k] = x at *
      go_wp2_with fail
      refine hadd.out.mono ?_
      rintro e w' hp
      have HN := Lib.hid (hst.out w' e hp)
      obtain ⟨rfl, _⟩ := hp
      go_wp2_with fail
      go_roundw
      case rel => exact ⟨k + 1, by omega, by go_num, HN.out⟩
      case measure => simp [intOf]; omega
    · obtain rfl : k = l.length := by omega
      rw [List.take_length] at hf
      have hinv := addAll_inv l
      have HLs : Hid (∀ i ∈ addAll l, i.k.size ≤ maxLen) := Lib.hid (fun i hi => HS.out i (hinv.2 i hi))
      have hL16 := hinv.1
      clear hinv
      generalize addAll l = L at *
      have HF := Lib.hid hf
      have HB := Lib.hid hb
      clear hf hb HC0
      go_wp2_with fail
      refine (items_any _ _ ob L _ HF.out (by omega)).mono ?_
      rintro e w2 ⟨A3, c3, rfl, hr3, hc3, hb2⟩
      have HR3 := Lib.hid hr3
      have HB2 := Lib.hid (HB.out.trans (hb2.mono HB.out.size))
      have HF2 := Lib.hid (HF.out.below hb2)
      clear hr3 hb2
      go_wp2_with fail
      refine (missing_any _ _ ob L needs A2 c2 w2 HF2.out (by omega) HLs.out (HR2.out.below HB2.out) (by omega) HS2.out).mono ?_
      rintro e w3 ⟨A4, c4, rfl, hr4, hc4, hb3⟩
      have HR4 := Lib.hid hr4
      have HB3 := Lib.hid (HB2.out.trans (hb3.mono HB2.out.size))
      have HR3' := Lib.hid (HR3.out.below hb3)
      have HCNT := Lib.hid (miss_count (ksOf L) needs)
      have hml := missL_len (ksOf L) needs
      clear hr4 hb3 HF2
      generalize missL (ksOf L) needs = ms at *
      go_wp2_with fail
      have HK : Hid ((ksOf L).length = L.length) := Lib.hid (by simp [ksOf])
      obtain ⟨wo, hwo⟩ : ∃ wo : World, wo = w3 := ⟨_, rfl⟩
      subst hwo
      go_loopw [9] (fun i wr => ∃ k n : Nat, k ≤ needs.length ∧ i = .int .i64 k ∧ wr = wo.drewN n) (fun i _ => needs.length - (intOf i).toNat)
      case atStart => exact ⟨0, 0, Nat.zero_le _, rfl, rfl⟩
      case round =>
        obtain ⟨k, n, hk, rfl, rfl⟩ := hrel
        by_cases hlt : k < needs.length
        · rcases HR2.out.below HB3.out with h0 | ⟨b2, off2, ha2, hc2⟩
          · rw [strsOf_length] at h0; omega
          subst ha2
          have dn := strs_at hc2 k hlt
          have HX := Lib.hid (HCNT.out needs[k] (List.getElem_mem hlt))
          have gk0 : (0 : Int) ≤ (k : Int) := by omega
          have gk1 : (k : Int) < (needs.length : Int) := by omega
          clear hc2
          generalize needs[k] = x at *
          go_wp2_with fail
          go_loopw [10, 11] (fun t i wr => ∃ j m : Nat, j ≤ L.length ∧ i = .int .i64 j ∧ t = .bool (hasB ((ksOf L).take j) x) ∧ wr = wo.drewN m) (fun _ i _ => L.length - (intOf i).toNat)
          case atStart => exact ⟨0, n, Nat.zero_le _, rfl, rfl, rfl⟩
          case round =>
            obtain ⟨j, m, hj, rfl, rfl, rfl⟩ := hrel
            by_cases hlj : j < L.length
            · rcases HR3'.out with h0 | ⟨b3, off3, ha3, hc3'⟩
              · rw [cellsOf_length] at h0; omega
              subst ha3
              obtain ⟨d0, _, _⟩ := row_item hc3' j hlj
              have hst := Lib.hid (hasB_take (ksOf L) x j (by rw [HK.out]; exact hlj))
              have hkj : Hid ((ksOf L)[j]'(by rw [HK.out]; exact hlj) = L[j].k) := Lib.hid (by simp [ksOf])
              rw [hkj.out] at hst
              have gj0 : (0 : Int) ≤ (j : Int) := by omega
              have gj1 : (j : Int) < (L.length : Int) := by omega
              clear hc3' hkj
              generalize L[j] = y at *
              cases hb0 : hasB ((ksOf L).take j) x
              · have HB0 := Lib.hid hb0
                clear hb0
                cases hbe : (y.k.toList == x.toList)
                all_goals
                  have HE := Lib.hid hbe
                  clear hbe
                  have hbe := HE.out
                  go_wp2_with fail
                  go_quiet (fail)
                  go_wp2_with fail
                  go_roundw
                  case rel => exact ⟨j + 1, _, by omega, by go_num, by rw [hst.out, HB0.out, HE.out]; rfl, rfl⟩
                  case measure => simp [intOf]; omega
              · have HB0 := Lib.hid hb0
                clear hb0
                go_wp2_with fail
                go_quiet (fail)
                go_wp2_with fail
                go_roundw
                case rel => exact ⟨j + 1, _, by omega, by go_num, by rw [hst.out, HB0.out]; rfl, rfl⟩
                case measure => simp [intOf]; omega
            · obtain rfl : j = L.length := by omega
              have htk : Hid ((ksOf L).take L.length = ksOf L) := Lib.hid (List.take_of_length_le (by rw [HK.out]; exact Nat.le_refl _))
              rw [htk.out]
              generalize hhb : hasB (ksOf L) x = hb at *
              clear hhb
              go_wp2_with fail
              go_loopw [12, 13] (fun t i wr => ∃ j m : Nat, j ≤ ms.length ∧ i = .int .i64 j ∧ t = .int .i64 (cntB (ms.take j) x) ∧ wr = wo.drewN m) (fun _ i _ => ms.length - (intOf i).toNat)
              case atStart => exact ⟨0, m, Nat.zero_le _, rfl, rfl, rfl⟩
              case round =>
                obtain ⟨j, m2, hj2, rfl, rfl, rfl⟩ := hrel
                by_cases hlj2 : j < ms.length
                · rcases HR4.out with h0 | ⟨b4, off4, ha4, hc4'⟩
                  · rw [strsOf_length] at h0; omega
                  subst ha4
                  have d0 := strs_at hc4' j hlj2
                  have hst := Lib.hid (cntB_take ms x j hlj2)
                  have hle := cntB_le (ms.take j) x
                  rw [List.length_take] at hle
                  have gj0 : (0 : Int) ≤ (j : Int) := by omega
                  have gj1 : (j : Int) < (ms.length : Int) := by omega
                  clear hc4'
                  generalize ms[j] = y at *
                  generalize cntB (ms.take j) x = cn at *
                  have hcn : cn ≤ 1000 := by omega
                  clear hle
                  cases hbe : (y.toList == x.toList)
                  all_goals
                    have HE := Lib.hid hbe
                    clear hbe
                    have hbe := HE.out
                    go_wp2_with fail
                    go_quiet (fail)
                    go_wp2_with fail
                    go_roundw
                    case rel => exact ⟨j + 1, _, by omega, by go_num, by rw [hst.out, HE.out]; first | rfl | go_num, rfl⟩
                    case measure => simp [intOf]; omega
                · obtain rfl : j = ms.length := by omega
                  have hfin := HX.out
                  rw [List.take_length, hfin]
                  clear hfin
                  cases hb
                  all_goals
                    go_wp2_with fail
                    go_roundw
                    case rel => exact ⟨k + 1, _, by omega, by go_num, rfl⟩
                    case measure => simp [intOf]; omega
        · obtain rfl : k = needs.length := by omega
          have hb5 : Below w.heap.size w (wo.drewN n) := below_drewN HB3.out _
          have HB5 := Lib.hid hb5
          clear hb5
          generalize wo.drewN n = w5 at *
          go_wp2_with fail
          refine (awake_any _).mono ?_
          rintro e w6 ⟨rfl, hb6⟩
          have HB6 := Lib.hid (HB5.out.trans (hb6.mono HB5.out.size))
          clear hb6
          go_wp2_with fail
          go_ret
          exact ⟨rfl, HB6.out⟩
set_option maxHeartbeats 800000 in
theorem evidenceComplete_walk (w : World) (A : Option Addr) (c : Nat) (l : List Itm)
    (h : IsRow w A (cellsOf l) ∧ (∀ x ∈ l, x.k.size ≤ maxLen ∧ (Lit.int .i64 x.n).wf = true ∧ (Lit.int .u64 x.h).wf = true) ∧ l.length ≤ c ∧ (A = none → c = 0) ∧ c ≤ maxLen)
    (A2 : Option Addr) (c2 : Nat) (needs : List ByteArray) (h' : IsRow w A2 (strsOf needs) ∧ (∀ s ∈ needs, s.size ≤ maxLen) ∧ needs.length ≤ c2 ∧ (A2 = none → c2 = 0) ∧ c2 ≤ maxLen) :
    Calls Try.prog 4 #[.slice A l.length c, .slice A2 needs.length c2] w fun e w' => e = .returned (.bool true) ∧ Below w.heap.size w w' := by
  obtain ⟨hr, hs0, hlc, _, hcm⟩ := h
  obtain ⟨hr2, hs2, hlc2, _, hcm2⟩ := h'
  have hs : ∀ x ∈ l, x.k.size ≤ maxLen := fun x hx => (hs0 x hx).1
  have hl : l.length ≤ maxLen := Nat.le_trans hlc hcm
  have hn : needs.length ≤ maxLen := Nat.le_trans hlc2 hcm2
  cases h1 : fewB l
  · have hfew := Lib.hid (few_any A c l w hr hl hs)
    have H1 := Lib.hid h1
    clear h1 hr hr2 hs0 hs hs2
    unfold maxLen at *
    go_enter Try.func4, Try.ntmps4
    go_wp2_with fail
    refine hfew.out.mono ?_
    rintro e w' ⟨rfl, rfl⟩
    rw [H1.out]
    go_wp2_with fail
    refine (awake_any _).mono ?_
    rintro e w1 ⟨rfl, hb⟩
    go_wp2_with fail
    go_ret
    exact ⟨rfl, hb⟩
  · cases h2 : shortB needs
    · have hfew := Lib.hid (few_any A c l w hr hl hs)
      have hsh := Lib.hid (shorts_any A2 c2 needs w hr2 hn hs2)
      have H1 := Lib.hid h1
      have H2 := Lib.hid h2
      clear h1 h2 hr hr2 hs0 hs hs2
      unfold maxLen at *
      go_enter Try.func4, Try.ntmps4
      go_wp2_with fail
      refine hfew.out.mono ?_
      rintro e w' ⟨rfl, rfl⟩
      rw [H1.out]
      go_wp2_with fail
      refine hsh.out.mono ?_
      rintro e w' ⟨rfl, rfl⟩
      rw [H2.out]
      go_wp2_with fail
      refine (awake_any _).mono ?_
      rintro e w1 ⟨rfl, hb⟩
      go_wp2_with fail
      go_ret
      exact ⟨rfl, hb⟩
    · exact complete_go w A c l hr hs hl A2 c2 needs hr2 hs2 hn h1 h2
end Go.Proofs.Ytoiddojmlhknlaa
