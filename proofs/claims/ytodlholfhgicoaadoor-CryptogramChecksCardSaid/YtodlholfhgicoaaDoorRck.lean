/- The reference's checker: counters, Last, Used. -/
import Derived.Test.YtodlholfhgicoaaDoorChp
import Derived.Test.YtodlholfhgicoaaDoorRds
import Derived.Deep.QuietTactic
import Derived.BigQuiet
namespace Go.Proofs.YtodlholfhgicoaaDoor
set_option linter.unusedVariables false
open Go.RowKit Go.Sort Go.Maps

abbrev nums (l : List Int) : List Value := l.map (Value.int .i64)
/-- Block br is a reference's checker in the state rs. -/
def RefW (w : World) (B br key : Nat) (win : Int) (rs : RSt) : Prop :=
  ∃ tv cv vs, B ≤ br ∧ w.heap[br]? = some (.cells #[.int .u64 key, .int .i64 win, tv, cv] 68) ∧ w.ownsRow B 9 1 tv rs.length (rs.map (fun x => Value.string x.1)) ∧ w.ownsRow B 75 1 cv rs.length vs ∧
    ∀ i, (h : i < rs.length) → ∃ v, vs[i]? = some v ∧ w.ownsRow B 3 1 v rs[i].2.length (nums rs[i].2)
theorem own_keep {w w' : World} {B e size n : Nat} {v : Value} {xs : List Value} (h : w.ownsRow B e size v n xs) (hk : KeepC w w') : w'.ownsRow B e size v n xs := by
  refine ⟨h.1, ?_⟩
  rcases h.2 with hn | ⟨g, cap, cur, rfl, hb, hgg, rest⟩
  · exact .inl hn
  · exact .inr ⟨g, cap, cur, rfl, hb, hk g cur e hgg, rest⟩
theorem keepC_below {w w' : World} (hb : Below w.heap.size w w') : KeepC w w' := fun b cs t h => blk_later h hb
theorem RefW.keep {w w' : World} {B br key : Nat} {win : Int} {rs : RSt} (h : RefW w B br key win rs) (hk : KeepC w w') : RefW w' B br key win rs := by
  obtain ⟨tv, cv, vs, h1, h2, h3, h4, h5⟩ := h
  refine ⟨tv, cv, vs, h1, hk _ _ _ h2, own_keep h3 hk, own_keep h4 hk, fun i hi => ?_⟩
  obtain ⟨v, e1, e2⟩ := h5 i hi
  exact ⟨v, e1, own_keep e2 hk⟩
theorem RefW.below {w w' : World} {B br key : Nat} {win : Int} {rs : RSt} (h : RefW w B br key win rs) (hb : Below w.heap.size w w') : RefW w' B br key win rs := h.keep (keepC_below hb)
def CntPost (B : Nat) (l : List Int) (w : World) (e : Ending) (w' : World) : Prop := w = w' ∧ ∃ A c, e = .returned (.slice A l.length c) ∧ IsRow w A (nums l) ∧ l.length ≤ c
theorem cnt_drop {rs : RSt} {k : Nat} (h : k < rs.length) (t : ByteArray) : cntO (rs.drop k) t = if rs[k].1 = t then some rs[k].2 else cntO (rs.drop (k + 1)) t := by
  rw [List.drop_eq_getElem_cons h, cntO]
theorem row_at {w : World} {A : Option Addr} {xs : List Value} (h : IsRow w A xs) (k : Nat) (v : Value) (hk : xs[k]? = some v) : ∃ b off, A = some ⟨b, off, none⟩ ∧ w.cell? ⟨b, off + k, none⟩ = some v := by
  rcases h with h | ⟨b, off, e, hc⟩
  · have := (List.getElem?_eq_some_iff.1 hk).1; omega
  · exact ⟨b, off, e, hc k v hk⟩
set_option maxRecDepth 100000 in
set_option maxHeartbeats 3200000 in
theorem cnt_any (B br key : Nat) (win : Int) (rs : RSt) (t : ByteArray) (w : World) (hr : RefW w B br key win rs) (hn : rs.length ≤ 1000) :
    Calls Tryd.prog 39 #[.pointer (some ⟨br, 0, none⟩), .string t] w (CntPost B (cntR rs t) w) := by
  obtain ⟨tv, cv, vs, h1, h2, h3, h4, h5⟩ := hr
  obtain ⟨TA, tc, rfl, hT, htc⟩ := own_form h3
  obtain ⟨CA, cc, rfl, hC, hcc⟩ := own_form h4
  have HT := Lib.hid hT
  have HC := Lib.hid hC
  have H5 := Lib.hid h5
  have HEND := Lib.hid (show cntR rs t = (cntO rs t).getD [] from rfl)
  have b2 := cell_c h2 2
  have b3 := cell_c h2 3
  unfold CntPost
  clear h1 h2 h3 h4 h5 hT hC
  go_enter Tryd.func39, Tryd.ntmps39
  go_wp2_with fail
  go_loop [5] (fun i => ∃ k : Nat, k ≤ rs.length ∧ i = .int .i64 k ∧ Hid (cntO (rs.drop k) t = cntO rs t)) (fun i => rs.length - (intOf i).toNat)
  case atStart => exact ⟨0, Nat.zero_le _, rfl, Lib.hid rfl⟩
  case round =>
    obtain ⟨k, hk, rfl, hd⟩ := hrel
    by_cases hlt : k < rs.length
    · have hst := cnt_drop hlt t
      rw [hd.out] at hst
      obtain ⟨vk, hv1, hv2⟩ := H5.out k hlt
      obtain ⟨VA, vc, rfl, hV, hvc⟩ := own_form hv2
      obtain ⟨tb, toff, rfl, ct⟩ := row_at HT.out k (.string rs[k].1) (by simp [hlt])
      obtain ⟨cb, coff, rfl, cc'⟩ := row_at HC.out k _ hv1
      have k0 : (0 : Int) ≤ (k : Int) := by omega
      have kI : (k : Int) < (rs.length : Int) := by omega
      have HV := Lib.hid hV
      have HVC := Lib.hid hvc
      by_cases he : rs[k].1 = t
      · rw [if_pos he] at hst
        have q := ba_same _ _ he
        have q2 : rs[k].1.toList = t.toList := by rw [he]
        have HR := Lib.hid (show cntR rs t = rs[k].2 by rw [HEND.out, hst]; rfl)
        clear hst he hv1 hv2 hV hvc hd
        generalize rs[k].1 = X at *
        generalize rs[k].2 = Y at *
        go_wp2_with fail
        go_ret
        exact ⟨rfl, VA, vc, by rw [HR.out]; rfl, by rw [HR.out]; exact HV.out, by rw [HR.out]; exact HVC.out⟩
      · rw [if_neg he] at hst
        have q := ba_diff _ _ he
        have q2 : ¬ rs[k].1.toList = t.toList := by simpa using q
        have HD := Lib.hid hst.symm
        clear hst he hv1 hv2 hV hvc hd cc'
        generalize rs[k].1 = X at *
        go_wp2_with fail
        go_round
        case rel => exact ⟨k + 1, by omega, by go_num, HD⟩
        case measure => simp [intOf]; omega
    · obtain rfl : k = rs.length := by omega
      have HR := Lib.hid (show cntR rs t = [] by rw [HEND.out, ← hd.out, List.drop_length]; rfl)
      clear hd
      go_wp2_with fail
      go_ret
      exact ⟨rfl, none, 0, by rw [HR.out]; rfl, .inl (by rw [HR.out]; rfl), by rw [HR.out]; exact Nat.le_refl _⟩
theorem maxL_take (l : List Int) (k : Nat) (h : k < l.length) : maxL (l.take (k + 1)) = max (maxL (l.take k)) l[k] := by
  unfold maxL
  rw [List.take_succ_eq_append_getElem h, List.foldl_append]; rfl
set_option maxRecDepth 100000 in
set_option maxHeartbeats 3200000 in
theorem rlast_any (B br key : Nat) (win : Int) (rs : RSt) (t : ByteArray) (w : World) (hr : RefW w B br key win rs) (hn : rs.length ≤ 1000) (hl : (cntR rs t).length ≤ 1000) :
    Calls Tryd.prog 17 #[.pointer (some ⟨br, 0, none⟩), .string t] w fun e w' => e = .returned (.int .i64 (maxL (cntR rs t))) ∧ w = w' := by
  have HC := Lib.hid (cnt_any B br key win rs t w hr hn)
  unfold CntPost at HC
  generalize cntR rs t = l at *
  clear hr
  go_enter Tryd.func17, Tryd.ntmps17
  go_wp2_with fail
  refine HC.out.mono ?_
  rintro e w' ⟨rfl, A, c, rfl, hrow, hc⟩
  have HR := Lib.hid hrow
  clear hrow
  go_wp2_with fail
  go_loop [6, 7] (fun m i => ∃ k : Nat, k ≤ l.length ∧ i = .int .i64 k ∧ m = .int .i64 (maxL (l.take k))) (fun _ i => l.length - (intOf i).toNat)
  case atStart => exact ⟨0, Nat.zero_le _, rfl, rfl⟩
  case round =>
    obtain ⟨k, hk, rfl, rfl⟩ := hrel
    by_cases hlt : k < l.length
    · obtain ⟨b, off, rfl, ck⟩ := row_at HR.out k (.int .i64 l[k]) (by simp [hlt])
      have HM := Lib.hid (maxL_take l k hlt)
      have k0 : (0 : Int) ≤ (k : Int) := by omega
      have kI : (k : Int) < (l.length : Int) := by omega
      generalize l[k] = x at *
      go_wp2_with fail
      go_round
      case rel => exact ⟨k + 1, by omega, by go_num, by rw [HM.out]⟩
      case measure => simp [intOf]; omega
    · obtain rfl : k = l.length := by omega
      rw [List.take_length]
      go_wp2_with fail
      go_ret
      exact ⟨rfl, rfl⟩
end Go.Proofs.YtodlholfhgicoaaDoor
