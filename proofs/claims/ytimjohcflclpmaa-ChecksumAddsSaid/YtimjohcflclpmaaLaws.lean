/- The walks of the laws on sums, totals and seals. -/
import Derived.Test.YtimjohcflclpmaaAwake
import Derived.ProofKit
import Derived.OpenShut
import Derived.SliceStrings
namespace Go.Proofs.Ytimjohcflclpmaa
set_option linter.unusedVariables false
open Go.RowKit Go.ChangeShapes Go.WideShapes Go.ChangeAt

theorem strs_open {H : Type} {enc : TypeId × Value → H} {P : Program} {W : World} {t e : TypeId} (ht : P.underlying t = some (.slice e)) (he : P.underlying e = some .string) (hc : P.cellsOf e = 1)
    {a : Option Addr} {len cap : Nat} {d : DataW H} {p : List MemPlace} (h : DataW.Trod enc P W 0 (fun _ => true) true t (.slice a len cap) d p) :
    ∃ ss : List ByteArray, ss.length = len ∧ IsStrs W a ss ∧ ss.length ≤ maxLen ∧ (∀ j, j < ss.length → (ss.getD j ByteArray.empty).size ≤ maxLen) := by
  obtain ⟨fuel, hf⟩ := h
  rcases Go.ChangeShapes.open_strings ht he hc hf with ⟨hcs, _⟩ | ⟨x, l, c, ss, hcs, _, hl, hm, hz, _, hcell, hwz⟩
  · simp [Value.cells] at hcs
    obtain ⟨rfl, rfl, rfl⟩ := hcs
    exact ⟨[], rfl, .inl rfl, by simp, by simp⟩
  · simp [Value.cells] at hcs
    obtain ⟨rfl, rfl, rfl⟩ := hcs
    simp only [if_true] at hz
    have hlen : (ss.take len).length = len := by rw [List.length_take]; omega
    have hget : ∀ j, j < len → (ss.take len).getD j ByteArray.empty = ss.getD j ByteArray.empty := by
      intro j hj; simp [List.getD, hj]
    refine ⟨ss.take len, hlen, ?_, by omega, ?_⟩
    · by_cases h0 : len = 0
      · left; omega
      · right
        obtain ⟨b, off, spot⟩ := x
        have hspot : spot = none := by simpa [Addr.add] using World.cell?_spot (hcell 0 (by omega))
        subst hspot
        refine ⟨b, off, rfl, fun i hi => ?_⟩
        rw [hget i (by omega)]
        have := hcell i (by omega)
        have hplain : (⟨b, off, none⟩ : Addr).add i = ⟨b, off + i, none⟩ := by unfold Addr.add; split <;> simp_all
        rw [hplain] at this
        exact this
    · intro j hj
      rw [hget j (by omega)]
      have hj' : j < ss.length := by omega
      simp only [List.getD, List.getElem?_eq_getElem hj', Option.getD_some]
      exact hwz _ (List.getElem_mem hj')

set_option maxHeartbeats 800000 in
theorem checksumTotals_walk (w : World) (a : Option Addr) (cap : Nat) (l : List ByteArray) (hr : IsStrs w a l) (hl : l.length ≤ maxLen) (hb : ∀ j, j < l.length → (l.getD j ByteArray.empty).size ≤ maxLen) :
    Calls Try.prog 3 #[.slice a l.length cap] w fun e w' => e = .returned (.bool true) ∧ Below w.heap.size w w' := by
  have hf := few_any a cap l w hl hr hb
  have ht := total_any a cap l w hl hr hb
  have hrt := rtotal_any a cap l w hl hr hb
  have hF := Lib.hid hf
  have hT := Lib.hid ht
  have hR := Lib.hid hrt
  clear hf ht hrt hr hb hl
  cases hfb : fewB l
  · have hFF := Lib.hid hfb
    clear hfb
    go_enter Try.func3, Try.ntmps3
    go_wp2_with fail
    refine hF.out.mono ?_
    rintro e w' ⟨rfl, rfl⟩
    rw [hFF.out]
    go_wp2_with fail
    refine (awake_any _).mono ?_
    rintro e w' ⟨rfl, hb⟩
    go_wp2_with fail
    go_ret
    exact ⟨rfl, hb⟩
  · have hFF := Lib.hid hfb
    clear hfb
    go_enter Try.func3, Try.ntmps3
    go_wp2_with fail
    refine hF.out.mono ?_
    rintro e w' ⟨rfl, rfl⟩
    rw [hFF.out]
    go_wp2_with fail
    refine hT.out.mono ?_
    rintro e w' ⟨rfl, rfl⟩
    go_wp2_with fail
    refine hR.out.mono ?_
    rintro e w' ⟨rfl, rfl⟩
    go_wp2_with fail
    refine (awake_any _).mono ?_
    rintro e w' ⟨rfl, hb⟩
    go_wp2_with fail
    go_ret
    exact ⟨rfl, hb⟩
set_option maxHeartbeats 800000 in
theorem checksumSums_walk (w : World) (p : Int) (hp : (Lit.int .u64 p).wf = true) (s : ByteArray) (hs : s.size ≤ maxLen) :
    Calls Try.prog 7 #[.int .u64 p, .string s] w fun e w' => e = .returned (.bool true) ∧ Below w.heap.size w w' := by
  obtain ⟨h, rfl, hh⟩ : ∃ h : Nat, p = (h : Int) ∧ h < M64 := by
    have hb := bounds_u64 hp
    refine ⟨p.toNat, by omega, ?_⟩
    unfold M64; omega
  clear hp
  unfold maxLen at hs
  by_cases hk : 1000 < s.size
  · go_enter Try.func7, Try.ntmps7
    go_wp2_with fail
    refine (awake_any _).mono ?_
    rintro e w' ⟨rfl, hb⟩
    go_wp2_with fail
    go_ret
    exact ⟨rfl, hb⟩
  · go_enter Try.func7, Try.ntmps7
    go_wp2_with fail
    refine (crc_any _ _ (by unfold maxLen; omega)).mono ?_
    rintro e w' ⟨rfl, rfl⟩
    go_wp2_with fail
    refine (rcrc_any _ _ (by unfold maxLen; omega)).mono ?_
    rintro e w' ⟨rfl, rfl⟩
    go_wp2_with fail
    refine (hash_any _ _ (by unfold maxLen; omega)).mono ?_
    rintro e w' ⟨rfl, rfl⟩
    go_wp2_with fail
    refine (rhash_any _ _ (by unfold maxLen; omega)).mono ?_
    rintro e w' ⟨rfl, rfl⟩
    go_wp2_with fail
    refine (chain_any h s _ (by omega) hh).mono ?_
    rintro e w1 ⟨rfl, hb1⟩
    go_wp2_with fail
    refine (rchain_any h s _ (by omega) hh).mono ?_
    rintro e w2 ⟨rfl, hb2⟩
    go_wp2_with fail
    refine (awake_any _).mono ?_
    rintro e w3 ⟨rfl, hb3⟩
    go_wp2_with fail
    go_ret
    exact ⟨rfl, below2 (below2 hb1 hb2) hb3⟩
set_option maxHeartbeats 800000 in
theorem checksumSeals_walk (w : World) (s : ByteArray) (hs : s.size ≤ maxLen) :
    Calls Try.prog 4 #[.string s] w fun e w' => e = .returned (.bool true) ∧ Below w.heap.size w w' := by
  unfold maxLen at hs
  by_cases hk : 1000 < s.size
  · go_enter Try.func4, Try.ntmps4
    go_wp2_with fail
    refine (awake_any _).mono ?_
    rintro e w' ⟨rfl, hb⟩
    go_wp2_with fail
    go_ret
    exact ⟨rfl, hb⟩
  · obtain ⟨x, n, hxn⟩ : ∃ (x : ByteArray) (n : Int), openV s = .tuple #[.string x, .int .i64 n] := by
      unfold openV; split
      · exact ⟨_, _, rfl⟩
      · split
        · exact ⟨_, _, rfl⟩
        · exact ⟨_, _, rfl⟩
    have hX := Lib.hid hxn
    clear hxn
    go_enter Try.func4, Try.ntmps4
    go_wp2_with fail
    refine (open_any _ _ (by omega)).mono ?_
    rintro e w1 ⟨rfl, hb1⟩
    rw [hX.out]
    go_wp2_with fail
    refine (ropen_any _ _ (by omega)).mono ?_
    rintro e w2 ⟨rfl, rfl⟩
    rw [hX.out]
    go_wp2_with fail
    refine (seal_any _ _ (by omega)).mono ?_
    rintro e w2 ⟨rfl, hb2⟩
    go_wp2_with fail
    refine (rseal_any _ _ (by omega)).mono ?_
    rintro e w3 ⟨rfl, rfl⟩
    go_wp2_with fail
    refine (awake_any _).mono ?_
    rintro e w3 ⟨rfl, hb3⟩
    go_wp2_with fail
    go_ret
    exact ⟨rfl, below2 (below2 hb1 hb2) hb3⟩
end Go.Proofs.Ytimjohcflclpmaa
