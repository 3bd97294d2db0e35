/- The walk of the reference's total. -/
import Derived.Test.YtfhiepcjkocnlaaWhl
import Derived.Lib.SlicesS
namespace Go.Proofs.Ytfhiepcjkocnlaa
set_option linter.unusedVariables false
open Go.RowKit

def totE (v : List Vol) : Int := if 16 < v.length then 3 else volE v
def totV (v : List Vol) : Int := if totE v = 0 then sumC v v.length else 0
theorem has_yes {v : List Vol} {k j : Nat} (hk : k < v.length) (hj : j < k) (h : (v.getD j default).s = (v.getD k default).s) : hasB (namesV v k) (v.getD k default).s = true := by
  rw [hasB_iff, ← h, getV_at v j (by omega)]
  refine List.mem_map.2 ⟨v[j], ?_, rfl⟩
  rw [List.mem_iff_getElem]
  exact ⟨j, by rw [List.length_take]; omega, by rw [List.getElem_take]⟩
theorem has_not {v : List Vol} {k : Nat} (hk : k < v.length) (h : ∀ j, j < k → (v.getD j default).s ≠ (v.getD k default).s) : hasB (namesV v k) (v.getD k default).s = false := by
  cases hh : hasB (namesV v k) (v.getD k default).s
  · rfl
  · rw [hasB_iff] at hh
    obtain ⟨x, hx, hxs⟩ := List.mem_map.1 hh
    obtain ⟨j, hj, rfl⟩ := List.mem_iff_getElem.1 hx
    rw [List.length_take] at hj
    rw [List.getElem_take] at hxs
    exact absurd (by rw [getV_at v j (by omega)]; exact hxs) (h j (by omega))
set_option maxRecDepth 100000 in
set_option maxHeartbeats 6400000 in
theorem rtotal_any (B : Option Addr) (d : Nat) (v : List Vol) (w : World) (hv : IsRow w B (cellsV v)) (hvl : v.length ≤ 1000000) (hns : ∀ x ∈ v, x.s.size ≤ maxLen) :
    Calls Try.prog 27 #[.slice B v.length d] w fun e w' => e = .returned (.tuple #[.int .i64 (totV v), .int .i64 (totE v)]) ∧ Below w.heap.size w w' := by
  have HV := Lib.hid hv
  have HNS := Lib.hid hns
  clear hv hns
  by_cases h16 : 16 < v.length
  · have hE := Lib.hid (show totE v = 3 by unfold totE; rw [if_pos h16])
    have hV := Lib.hid (show totV v = 0 by unfold totV; rw [hE.out, if_neg (by omega)])
    go_enter Try.func27, Try.ntmps27
    go_wp2_with fail
    go_ret2
    exact ⟨by rw [hE.out, hV.out]; rfl, Below.refl _ _⟩
  · have hE := Lib.hid (fun (h : volE v ≠ 0) => show totE v = volE v ∧ totV v = 0 by
      have : totE v = volE v := by unfold totE; rw [if_neg h16]
      exact ⟨this, by unfold totV; rw [this, if_neg h]⟩)
    have hO := Lib.hid (fun (h : volE v = 0) => show totE v = 0 ∧ totV v = sumC v v.length by
      have : totE v = 0 := by unfold totE; rw [if_neg h16, h]
      exact ⟨this, by unfold totV; rw [this, if_pos rfl]⟩)
    have HW := Lib.hid (Below.refl w.heap.size w)
    go_enter Try.func27, Try.ntmps27
    go_wp2_with fail
    go_loopw [4, 5] (fun s i wr => ∃ k : Nat, k ≤ v.length ∧ i = .int .i64 k ∧ s = .int .i64 (sumC v k) ∧ Hid (∀ j, j < k → badV v j = 0) ∧ Hid (Below w.heap.size w wr)) (fun _ i _ => v.length - (intOf i).toNat)
    case atStart => exact ⟨0, Nat.zero_le _, rfl, rfl, Lib.hid (fun j h => by omega), HW⟩
    case round =>
      obtain ⟨k, hk, rfl, rfl, hall, hbel⟩ := hrel
      by_cases hlt : k < v.length
      · rcases HV.out.below hbel.out with h0 | ⟨b, off, ha, hc⟩
        · rw [cellsV_length] at h0; omega
        obtain ⟨d0, d1⟩ := row_vol hc k hlt
        have hsz := Lib.hid (HNS.out (v.getD k default) (by rw [getV_at v k hlt]; exact List.getElem_mem hlt))
        have hst := Lib.hid (show ∀ (h : badV v k = 0) j, j < k + 1 → badV v j = 0 from fun h j hj => by
          rcases Nat.lt_or_ge j k with q | q
          · exact hall.out j q
          · obtain rfl : j = k := by omega
            exact h)
        have hbd := Lib.hid (volE_bad k hlt hall.out)
        have hsb := sumC_bd k hall.out
        have hdef := Lib.hid (show badV v k = if nameB (v.getD k default).s.data.toList = true then (if hasB (namesV v k) (v.getD k default).s = true then 7 else if (v.getD k default).c < 0 ∨ 1000000000 < (v.getD k default).c then 4 else 0) else 5 from rfl)
        have hyes := Lib.hid (fun j h1 h2 => has_yes (j := j) hlt h1 h2)
        have hnot := Lib.hid (fun h => has_not hlt h)
        have hsm := Lib.hid (show sumC v (k + 1) = sumC v k + (v.getD k default).c from rfl)
        have HCC := Lib.hid (fun j hj => (row_vol hc j hj).1)
        subst ha
        clear hc
        obtain ⟨xs, hxs⟩ : ∃ xs, (v.getD k default).s = xs := ⟨_, rfl⟩
        obtain ⟨xc, hxc⟩ : ∃ xc, (v.getD k default).c = xc := ⟨_, rfl⟩
        rw [hxs] at d0 hsz hdef hyes
        rw [hxs] at hnot
        rw [hxc] at d1 hsm hdef
        clear hxs hxc
        cases hn : nameB xs.data.toList
        case false =>
          have hb5 : badV v k = 5 := by rw [hdef.out, hn]; rfl
          have he5 : volE v = 5 := by rw [hbd.out (by omega), hb5]
          have hE5 := hE.out (by omega)
          rw [he5] at hE5
          have HE5 := Lib.hid hE5
          have HN := Lib.hid hn
          clear hn hb5 he5 hE5
          go_wp2_with fail
          refine (rname_any xs _ hsz.out).mono ?_
          rintro e w2 ⟨rfl, rfl⟩
          rw [HN.out]
          go_wp2_with fail
          go_ret2
          exact ⟨by rw [HE5.out.1, HE5.out.2]; rfl, hbel.out⟩
        case true =>
          have HN := Lib.hid hn
          clear hn
          go_wp2_with fail
          refine (rname_any xs _ hsz.out).mono ?_
          rintro e w2 ⟨rfl, rfl⟩
          rw [HN.out]
          go_wp2_with fail
          go_loopw [6] (fun i ws => ∃ j m : Nat, j ≤ k ∧ i = .int .i64 j ∧ Hid (∀ q, q < j → (v.getD q default).s ≠ xs) ∧ ws = wr.drewN m) (fun i _ => k - (intOf i).toNat)
          case atStart => exact ⟨0, 0, Nat.zero_le _, rfl, Lib.hid (fun q h => by omega), rfl⟩
          case round =>
            obtain ⟨j, m, hj, rfl, hno, rfl⟩ := hrel
            by_cases hjk : j < k
            · have dj := HCC.out j (by omega)
              obtain ⟨ys, hys⟩ : ∃ ys, (v.getD j default).s = ys := ⟨_, rfl⟩
              rw [hys] at dj
              have i1 : (j : Int) < (v.length : Int) := by omega
              have i2 : (k : Int) < (v.length : Int) := by omega
              by_cases heq : ys = xs
              · have hb5 : badV v k = 7 := by rw [hdef.out, HN.out, hyes.out j hjk (hys.trans heq)]; rfl
                have he5 : volE v = 7 := by rw [hbd.out (by omega), hb5]
                have hE5 := hE.out (by omega)
                rw [he5] at hE5
                have HE5 := Lib.hid hE5
                have hq : (ys.toList == xs.toList) = true := (Lib.bytes_beq_iff ys xs).2 heq
                clear hb5 he5 hE5 heq hys
                go_wp2_with fail
                go_quiet (fail)
                go_wp2_with fail
                go_ret2
                exact ⟨by rw [HE5.out.1, HE5.out.2]; rfl, (dNb (dNb hbel.out m) _)⟩
              · have hq : (ys.toList == xs.toList) = false := (Lib.bytes_beq_false_iff ys xs).2 heq
                have HNX := Lib.hid (show ∀ q, q < j + 1 → (v.getD q default).s ≠ xs from fun q hq => by
                  rcases Nat.lt_or_ge q j with p | p
                  · exact hno.out q p
                  · obtain rfl : q = j := by omega
                    rw [hys]; exact heq)
                clear heq hys
                go_wp2_with fail
                go_quiet (fail)
                go_wp2_with fail
                go_roundw
                case rel => exact ⟨j + 1, _, by omega, by go_num, HNX, rfl⟩
                case measure => simp [intOf]; omega
            · obtain rfl : j = k := by omega
              have hh := hnot.out hno.out
              have hdef0 : badV v j = if xc < 0 ∨ 1000000000 < xc then 4 else 0 := by rw [hdef.out, HN.out, hh]; rfl
              clear hh hdef
              by_cases hr : xc < 0 ∨ 1000000000 < xc
              · have hb5 : badV v j = 4 := by rw [hdef0, if_pos hr]
                have he5 : volE v = 4 := by rw [hbd.out (by omega), hb5]
                have hE5 := hE.out (by omega)
                rw [he5] at hE5
                have HE5 := Lib.hid hE5
                have hcs : xc < 0 ∨ (0 ≤ xc ∧ 1000000000 < xc) := by omega
                clear hb5 he5 hE5 hdef0 hr
                rcases hcs with q | ⟨q, q'⟩
                all_goals
                  go_wp2_with fail
                  go_ret2
                  exact ⟨by rw [HE5.out.1, HE5.out.2]; rfl, (dNb hbel.out m)⟩
              · have hb0 : badV v j = 0 := by rw [hdef0, if_neg hr]
                have HALL := Lib.hid (hst.out hb0)
                have q1 : 0 ≤ xc := by omega
                have q2 : xc ≤ 1000000000 := by omega
                have HB2 := Lib.hid (dNb hbel.out m)
                clear hb0 hdef0 hr
                obtain ⟨sk, hsk⟩ : ∃ sk, sumC v j = sk := ⟨_, rfl⟩
                have HSM := hsm
                rw [hsk] at hsb HSM ⊢
                clear hsk hsm
                go_wp2_with fail
                go_roundw
                case rel => exact ⟨j + 1, by omega, by go_num, by rw [HSM.out], HALL, HB2⟩
                case measure => simp [intOf]; omega
      · obtain rfl : k = v.length := by omega
        have he := volE_ok hall.out
        have hOO := Lib.hid (hO.out he)
        clear he
        generalize sumC v v.length = sk at *
        go_wp2_with fail
        go_ret2
        exact ⟨by rw [hOO.out.1, hOO.out.2]; rfl, hbel.out⟩
end Go.Proofs.Ytfhiepcjkocnlaa
