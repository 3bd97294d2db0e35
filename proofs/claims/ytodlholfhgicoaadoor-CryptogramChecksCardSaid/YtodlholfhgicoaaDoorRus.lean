/- The reference's Used. -/
import Derived.Test.YtodlholfhgicoaaDoorRck
import Derived.Test.YtodlholfhgicoaaDoorMak2
namespace Go.Proofs.YtodlholfhgicoaaDoor
set_option linter.unusedVariables false
open Go.RowKit Go.Sort Go.Maps

def UsedPost (v : Bool) (w : World) (e : Ending) (w' : World) : Prop := e = .returned (.bool v) ∧ ∃ n, w' = w.drewN n
theorem maxL_rng {l : List Int} (h : ∀ x ∈ l, x ≤ 1000000) : 0 ≤ maxL l ∧ maxL l ≤ 1000000 := by
  obtain ⟨h1, h2, h3⟩ := maxL_aux l 0
  unfold maxL
  refine ⟨h2, ?_⟩
  rcases h3 with h3 | h3
  · omega
  · exact h _ h3
set_option maxRecDepth 100000 in
set_option maxHeartbeats 3200000 in
theorem rused_any (B br key : Nat) (win : Int) (rs : RSt) (t : ByteArray) (c : Int) (w : World) (hr : RefW w B br key win rs) (hn : rs.length ≤ 1000) (hl : (cntR rs t).length ≤ 1000) (hx : ∀ x ∈ cntR rs t, x ≤ 1000000) (w0 : 0 ≤ win) (w1 : win ≤ 63) :
    Calls Tryd.prog 19 #[.pointer (some ⟨br, 0, none⟩), .string t, .int .i64 c] w (UsedPost (usedR rs t c win) w) := by
  have HC := Lib.hid (cnt_any B br key win rs t w hr hn)
  have HLA := Lib.hid (fun W (h : RefW W B br key win rs) => rlast_any B br key win rs t W h hn hl)
  have HR0 := Lib.hid hr
  have HU : Hid (usedR rs t c win = (decide (c ∈ cntR rs t) || (decide (0 < (cntR rs t).length) && decide (c < maxL (cntR rs t) - win)))) := Lib.hid rfl
  obtain ⟨m0, m1⟩ := maxL_rng hx
  have k1 : w.cell? ⟨br, 1, none⟩ = some (.int .i64 win) := by obtain ⟨tv, cv, vs, h1, h2, -⟩ := hr; exact cell_c h2 1
  unfold CntPost at HC
  unfold UsedPost
  generalize usedR rs t c win = U at *
  generalize hcr : cntR rs t = l at *
  clear hr hcr hx
  go_enter Tryd.func19, Tryd.ntmps19
  go_wp2_with fail
  refine HC.out.mono ?_
  rintro e w' ⟨rfl, A, cp, rfl, hrow, hc⟩
  have HR := Lib.hid hrow
  clear hrow
  go_wp2_with fail
  go_loop [8] (fun i => ∃ k : Nat, k ≤ l.length ∧ i = .int .i64 k ∧ Hid (∀ j, j < k → (h : j < l.length) → l[j] ≠ c)) (fun i => l.length - (intOf i).toNat)
  case atStart => exact ⟨0, Nat.zero_le _, rfl, Lib.hid (fun j h => by omega)⟩
  case round =>
    obtain ⟨k, hk, rfl, hall⟩ := hrel
    by_cases hlt : k < l.length
    · obtain ⟨b, off, rfl, ck⟩ := row_at HR.out k (.int .i64 l[k]) (by simp [hlt])
      have k0 : (0 : Int) ≤ (k : Int) := by omega
      have kI : (k : Int) < (l.length : Int) := by omega
      by_cases he : l[k] = c
      · have HF := Lib.hid (show U = true by rw [HU.out, decide_eq_true (by rw [← he]; exact List.getElem_mem hlt)]; rfl)
        have q : (l[k] == c) = true := by simpa using he
        clear hall he
        generalize l[k] = x at *
        go_wp2_with fail
        go_ret
        exact ⟨by rw [HF.out]; rfl, 0, rfl⟩
      · have HN := Lib.hid (fun j (h : j < k + 1) (h' : j < l.length) => show l[j] ≠ c from by
          rcases Nat.lt_or_ge j k with z | z
          · exact hall.out j z h'
          · obtain rfl : j = k := by omega
            exact he)
        have q : (l[k] == c) = false := by simpa using he
        clear hall he
        generalize l[k] = x at *
        go_wp2_with fail
        go_round
        case rel => exact ⟨k + 1, by omega, by go_num, HN⟩
        case measure => simp [intOf]; omega
    · obtain rfl : k = l.length := by omega
      have hnot : ¬ c ∈ l := fun h => by
        obtain ⟨j, hj, e⟩ := List.getElem_of_mem h
        exact hall.out j hj hj e
      by_cases hz : 0 < l.length
      · have d1 : decide ((0 : Int) < (l.length : Int)) = true := decide_eq_true (by omega)
        have HF := Lib.hid (show U = decide (c < maxL l - win) by rw [HU.out, decide_eq_false hnot, decide_eq_true hz]; rfl)
        have d2 : decide (0 < l.length) = true := decide_eq_true hz
        clear hall hnot
        generalize maxL l = M at *
        go_wp2_with fail
        go_quiet ((go_at_call 17; with_reducible exact quiet_left (HLA.out _ (HR0.out.below (below_drewN _ _)))))
        go_wp2_with fail
        go_ret
        exact ⟨by rw [HF.out]; rfl, _, rfl⟩
      · have d1 : decide ((0 : Int) < (l.length : Int)) = false := decide_eq_false (by omega)
        have HF := Lib.hid (show U = false by rw [HU.out, decide_eq_false hnot, decide_eq_false hz]; rfl)
        have d2 : decide (0 < l.length) = false := decide_eq_false hz
        clear hall hnot
        go_wp2_with fail
        go_quiet (fail)
        go_wp2_with fail
        go_ret
        exact ⟨by rw [HF.out]; rfl, _, rfl⟩
end Go.Proofs.YtodlholfhgicoaaDoor
