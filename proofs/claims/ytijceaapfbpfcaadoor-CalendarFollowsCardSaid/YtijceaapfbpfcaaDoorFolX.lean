/- The walk of CalendarFollows, every input. -/
import Derived.Test.YtijceaapfbpfcaaDoorFolW
import Derived.ChangeSlices
import Derived.Lib.SmallJoins
namespace Go.Proofs.YtijceaapfbpfcaaDoor
set_option linter.unusedVariables false
open Go.RowKit

theorem ints_open {H : Type} {enc : TypeId × Value → H} {P : Program} {W : World} {t e : TypeId} (ht : P.underlying t = some (.slice e)) (he : P.underlying e = some (.int .i64)) (hc : P.cellsOf e = 1)
    {a : Option Addr} {len cap : Nat} {d : DataW H} {p : List MemPlace} (h : DataW.Trod enc P W 0 (fun _ => true) true t (.slice a len cap) d p) :
    ∃ l : List Int, l.length = len ∧ IsInts W a l ∧ l.length ≤ maxLen := by
  obtain ⟨fuel, hf⟩ := h
  rcases Go.ChangeShapes.open_ints ht he hc hf with ⟨hcs, _⟩ | ⟨x, l, c, zs, hcs, _, hl, hm, hz, _, hcell, hwz⟩
  · simp [Value.cells] at hcs
    obtain ⟨rfl, rfl, rfl⟩ := hcs
    exact ⟨[], rfl, .inl rfl, by simp⟩
  · simp [Value.cells] at hcs
    obtain ⟨rfl, rfl, rfl⟩ := hcs
    simp only [if_true] at hz
    have hlen : (zs.take len).length = len := by rw [List.length_take]; omega
    refine ⟨zs.take len, hlen, ?_, by omega⟩
    by_cases h0 : len = 0
    · left; omega
    · right
      obtain ⟨b, off, spot⟩ := x
      have hspot : spot = none := by simpa [Addr.add] using World.cell?_spot (hcell 0 (by omega))
      subst hspot
      refine ⟨b, off, rfl, fun i hi => ?_⟩
      have := hcell i (by omega)
      rw [Addr.add_lit] at this
      rw [this]
      have hi' : i < len := by omega
      simp [List.getD, hi']
theorem byte_of_wf {z : Int} (h : (Lit.int .u8 z).wf = true) : 0 ≤ z ∧ z ≤ 255 := by
  simp [Lit.wf] at h
  exact h
set_option maxRecDepth 100000 in
set_option maxHeartbeats 1600000 in
theorem calendarFollows_walk (w : World) (hm : MD w) (ht : TabW w) (A : Option Addr) (cap : Nat) (l : List Int) (h : IsInts w A l ∧ l.length ≤ maxLen) (d : Int) (n : Int) (hn : (Lit.int .u8 n).wf = true) (m : Int) (hm2 : (Lit.int .u8 m).wf = true) :
    Calls Tryd.prog 6 #[.slice A l.length cap, .int .i64 d, .int .u8 n, .int .u8 m] w fun e w' => e = .returned (.bool true) ∧ Below w.heap.size w w' := by
  have bn := byte_of_wf hn
  have bm := byte_of_wf hm2
  obtain ⟨hr, hl⟩ := h
  obtain ⟨n, rfl⟩ : ∃ k : Nat, n = k := ⟨n.toNat, by omega⟩
  obtain ⟨m, rfl⟩ : ∃ k : Nat, m = k := ⟨m.toNat, by omega⟩
  cases hok : okHol l
  case true =>
    by_cases hd : 0 ≤ d ∧ d ≤ 97999
    · exact follows_go w hm ht A cap l hr hl d n m (by omega) (by omega) hd.1 hd.2 hok
    · have hmh := Lib.hid hm
      have hth := Lib.hid ht
      have hnew := Lib.hid (new_any A cap l w hr hl)
      have h400 := (of_decide_eq_true hok).1
      have HOK := Lib.hid hok
      clear hm ht hr hok hn hm2 bn bm
      unfold maxLen at hl
      have key : d < 0 ∨ (0 ≤ d ∧ 97999 < d) := by omega
      clear hd
      rcases key with hk | ⟨hk0, hk⟩
      all_goals
        go_enter Tryd.func6, Tryd.ntmps6
        go_wp2_with fail
        refine hnew.out.mono ?_
        rintro e w1 ⟨hb1, h⟩
        have HB := Lib.hid hb1
        clear hb1
        rcases h with ⟨_, bc, rfl, hcal⟩ | ⟨hno, _⟩
        case inr => rw [HOK.out] at hno; cases hno
        clear hcal
        go_wp2_with fail
        refine (awake_any w1 (hmh.out.below HB.out) (hth.out.below HB.out)).mono ?_
        rintro e w5 ⟨rfl, hb5⟩
        go_wp2_with fail
        go_ret
        exact ⟨rfl, below2 HB.out hb5⟩
  case false =>
    have hmh := Lib.hid hm
    have hth := Lib.hid ht
    have hnew := Lib.hid (new_any A cap l w hr hl)
    have HOK := Lib.hid hok
    clear hm ht hr hok hn hm2 bn bm
    unfold maxLen at hl
    go_enter Tryd.func6, Tryd.ntmps6
    go_wp2_with fail
    refine hnew.out.mono ?_
    rintro e w1 ⟨hb1, h⟩
    have HB := Lib.hid hb1
    clear hb1
    rcases h with ⟨hno, _⟩ | ⟨_, er, her, rfl⟩
    case inl => rw [HOK.out] at hno; cases hno
    have HE := Lib.hid (show ((er : Int) == 0) = false from beq_eq_false_iff_ne.2 (by omega))
    have HE2 := Lib.hid (show ((er : Int) != 0) = true from bne_iff_ne.2 (by omega))
    clear her
    have he := HE.out
    have he2 := HE2.out
    go_wp2_with fail
    refine (awake_any w1 (hmh.out.below HB.out) (hth.out.below HB.out)).mono ?_
    rintro e w5 ⟨rfl, hb5⟩
    go_wp2_with fail
    go_ret
    exact ⟨rfl, below2 HB.out hb5⟩
end Go.Proofs.YtijceaapfbpfcaaDoor
