/- Calendars: the map of holidays, and the walks of New, Business, Next and Count. -/
import Derived.Test.YtijceaapfbpfcaaDoorWalk4
import Derived.Maps.Own
import Derived.Maps.OwnSet
import Derived.Maps.Views
import Derived.OneCell
namespace Go.Proofs.YtijceaapfbpfcaaDoor
set_option linter.unusedVariables false
open Go.RowKit Go.Maps

theorem law3 : Keyed Tryd.prog 3 := int_keyed Tryd.underlying3
theorem zero4 (w : World) : (zeroValue 4).run Tryd.prog w = .ok (.bool false) w := by kernel_rfl
theorem isKey_int (d : Int) : WideAt.IsKeyLit (.int .i64 d) := trivial
/-- Block b is a map that holds true at the numbers of l, and at no other. -/
def HSet (w : World) (b : Nat) (l : List Int) : Prop :=
  ∃ (n : Nat) (D : DataW Unit), w.ownsMap Tryd.prog 3 (plainElem Tryd.prog 4) b n D ∧ IsMap D ∧ n ≤ l.length ∧ ∀ d : Int, D.atKey (.int .i64 d) (.lit (.bool false)) = .lit (.bool (decide (d ∈ l)))
theorem HSet.made (w : World) : HSet (w.alloc (.map #[] 0)) w.heap.size [] :=
  ⟨0, .map [], World.ownsMap_made _ _ _ _, isMap_empty, by simp, fun d => rfl⟩
theorem HSet.kept {w w' : World} {b : Nat} {l : List Int} (h : HSet w b l) {row : Option Nat} (hg : w.grownBy w' row) (hne : some b ≠ row) : HSet w' b l := by
  obtain ⟨n, D, h1, h2, h3, h4⟩ := h
  exact ⟨n, D, h1.kept hg hne, h2, h3, h4⟩
theorem HSet.lt {w : World} {b : Nat} {l : List Int} (h : HSet w b l) : b < w.heap.size := by
  obtain ⟨n, D, h1, h2, h3, h4⟩ := h
  exact h1.lt
theorem HSet.look {w : World} {b : Nat} {l : List Int} (h : HSet w b l) (d : Int) (hd : (Lit.int .i64 d).wf = true) :
    (Instr.lookup 46 (.map (some b)) (.int .i64 d) false).run Tryd.prog w = .ok (.bool (decide (d ∈ l))) w := by
  obtain ⟨n, D, h1, h2, h3, h4⟩ := h
  obtain ⟨v, ps, hrun, hv⟩ := h1.lookup law3 Tryd.underlying46 (zero4 w) (plainElem_bool Tryd.underlying4 false) (keyOf_int_mk Tryd.underlying3 hd)
  rw [h4 d] at hv
  rw [hrun]
  unfold plainElem at hv
  rw [Tryd.underlying4] at hv
  cases v <;> simp at hv
  rw [hv.1]
theorem HSet.put {w : World} {b : Nat} {l : List Int} (h : HSet w b l) (hl : l.length < 1000) (d : Int) (hd : (Lit.int .i64 d).wf = true) :
    ∃ w', (Instr.mapUpdate 46 (.map (some b)) (.int .i64 d) (.bool true)).run Tryd.prog w = .ok () w' ∧ HSet w' b (l ++ [d]) ∧ w.grownBy w' (some b) := by
  obtain ⟨n, D, h1, h2, h3, h4⟩ := h
  obtain ⟨w', hrun, hown, hg⟩ := h1.update law3 Tryd.underlying46 (by unfold maxLen; omega) (keyOf_int_mk Tryd.underlying3 hd) (plainElem_bool Tryd.underlying4 true)
  refine ⟨w', hrun, ⟨n + 1, _, hown, h2.put _ _, by simp; omega, fun x => ?_⟩, hg⟩
  by_cases hx : x = d
  · subst hx
    rw [atKey_put_same h2 (isKey_int x)]; simp
  · rw [atKey_put_other (by intro e; cases e; exact hx rfl), h4 x]; simp [hx]

/-- The pointer leads to a calendar with these holidays. -/
def CalW (w : World) (bc : Nat) (l : List Int) : Prop := ∃ b, b ≠ bc ∧ w.cell? ⟨bc, 0, none⟩ = some (.map (some b)) ∧ HSet w b l
theorem CalW.below {w w' : World} {bc : Nat} {l : List Int} (h : CalW w bc l) (hb : Below w.heap.size w w') : CalW w' bc l := by
  obtain ⟨b, h0, h1, h2⟩ := h
  refine ⟨b, h0, ?_, h2.kept (row := none) ⟨hb.os, hb.tape, hb.output, hb.size, fun k hk _ => hb.block k hk⟩ (by simp)⟩
  rw [hb.cell (p := ⟨bc, 0, none⟩) (World.block_lt_of_cell? w _ h1)]; exact h1
/-- Is it a business day? -/
def bus (l : List Int) (d : Int) : Bool := decide (0 ≤ d ∧ d ≤ 99999) && (decide (wkd d < 5) && !decide (d ∈ l))
theorem bus_date (l : List Int) (d : Int) (h : ¬ (0 ≤ d ∧ d ≤ 99999)) : bus l d = false := by unfold bus; rw [decide_eq_false h]; rfl
theorem bus_wk (l : List Int) (d : Int) (h : ¬ wkd d < 5) : bus l d = false := by unfold bus; rw [decide_eq_false h]; simp
theorem bus_yes (l : List Int) (d : Int) (h : 0 ≤ d ∧ d ≤ 99999) (h2 : wkd d < 5) : bus l d = !decide (d ∈ l) := by unfold bus; rw [decide_eq_true h, decide_eq_true h2]; rfl
theorem wf_date (d : Int) (h : 0 ≤ d ∧ d ≤ 99999) : (Lit.int .i64 d).wf = true := WalkArith.wf_i64 (by omega)
set_option maxHeartbeats 400000 in
theorem business_any (bc : Nat) (l : List Int) (d : Int) (w : World) (hc : CalW w bc l) :
    Calls Tryd.prog 27 #[.pointer (some ⟨bc, 0, none⟩), .int .i64 d] w fun e w' => e = .returned (.bool (bus l d)) ∧ w = w' := by
  have hid := Lib.hid (isDate_any d w)
  by_cases h : 0 ≤ d ∧ d ≤ 99999
  case neg =>
    have hdd := Lib.hid (decide_eq_false h)
    have hv := Lib.hid (bus_date l d h)
    clear h hc
    go_enter Tryd.func27, Tryd.ntmps27
    go_wp2_with fail
    refine hid.out.mono ?_
    rintro e w' ⟨rfl, rfl⟩
    rw [hdd.out]
    go_wp2_with fail
    go_ret
    exact ⟨by rw [hv.out]; rfl, rfl⟩
  have hdd := Lib.hid (decide_eq_true h)
  have hwk := Lib.hid (weekday_any d w)
  by_cases h2 : wkd d < 5
  case neg =>
    have hv := Lib.hid (bus_wk l d h2)
    clear h hc
    go_enter Tryd.func27, Tryd.ntmps27
    go_wp2_with fail
    refine hid.out.mono ?_
    rintro e w' ⟨rfl, rfl⟩
    rw [hdd.out]
    go_wp2_with fail
    refine hwk.out.mono ?_
    rintro e w' ⟨rfl, rfl⟩
    go_wp2_with fail
    go_ret
    exact ⟨by rw [hv.out]; rfl, rfl⟩
  have hv := Lib.hid (bus_yes l d h h2)
  obtain ⟨b, _, hcell, hset⟩ := hc
  have hlook := hset.look d (wf_date d h)
  clear hset h
  generalize hmem : decide (d ∈ l) = mb at hlook hv
  clear hmem
  go_enter Tryd.func27, Tryd.ntmps27
  go_wp2_with fail
  refine hid.out.mono ?_
  rintro e w' ⟨rfl, rfl⟩
  rw [hdd.out]
  go_wp2_with fail
  refine hwk.out.mono ?_
  rintro e w' ⟨rfl, rfl⟩
  go_wp2_with fail
  go_ret
  exact ⟨by rw [hv.out]; rfl, rfl⟩
/-- What Next returns. -/
def NextPost (l : List Int) (d : Int) (w : World) (e : Ending) (w' : World) : Prop :=
  w = w' ∧ ((∃ x : Int, d ≤ x ∧ x ≤ 99999 ∧ bus l x = true ∧ (∀ y, d ≤ y → y < x → bus l y = false) ∧ e = .returned (.tuple #[.int .i64 x, .int .i64 0])) ∨
    ((∀ y, d ≤ y → y ≤ 99999 → bus l y = false) ∧ e = .returned (.tuple #[.int .i64 0, .int .i64 4])))
set_option maxHeartbeats 400000 in
theorem next_no (bc : Nat) (l : List Int) (d : Int) (w : World) (h : ¬ (0 ≤ d ∧ d ≤ 99999)) :
    Calls Tryd.prog 26 #[.pointer (some ⟨bc, 0, none⟩), .int .i64 d] w fun e w' => e = .returned (.tuple #[.int .i64 0, .int .i64 4]) ∧ w = w' := by
  have hid := Lib.hid (isDate_any d w)
  have hdd := Lib.hid (decide_eq_false h)
  clear h
  go_enter Tryd.func26, Tryd.ntmps26
  go_wp2_with fail
  refine hid.out.mono ?_
  rintro e w' ⟨rfl, rfl⟩
  rw [hdd.out]
  go_wp2_with fail
  go_ret2
  exact ⟨rfl, rfl⟩
set_option maxHeartbeats 400000 in
theorem next_yes (bc : Nat) (l : List Int) (d : Int) (w : World) (hc : CalW w bc l) (h0 : 0 ≤ d) (h1 : d ≤ 99999) :
    Calls Tryd.prog 26 #[.pointer (some ⟨bc, 0, none⟩), .int .i64 d] w (NextPost l d w) := by
  have hid := Lib.hid (isDate_any d w)
  have hdd := Lib.hid (decide_eq_true (show 0 ≤ d ∧ d ≤ 99999 from ⟨h0, h1⟩))
  have hbu := Lib.hid (fun x => business_any bc l x w hc)
  clear hc
  go_enter Tryd.func26, Tryd.ntmps26
  go_wp2_with fail
  refine hid.out.mono ?_
  rintro e w' ⟨rfl, rfl⟩
  rw [hdd.out]
  go_wp2_with fail
  go_loop [1] (fun i => ∃ x : Int, d ≤ x ∧ x ≤ 100000 ∧ i = .int .i64 x ∧ Hid (∀ y, d ≤ y → y < x → bus l y = false)) (fun i => (100000 - intOf i).toNat)
  case atStart => exact ⟨d, by omega, by omega, rfl, Lib.hid (fun y a b => by omega)⟩
  case round =>
    obtain ⟨x, hx1, hx2, rfl, hall⟩ := hrel
    by_cases hlt : x ≤ 99999
    · cases hb : bus l x
      · have hbh := Lib.hid hb
        clear hb
        go_wp2_with fail
        refine (hbu.out _).mono ?_
        rintro e w' ⟨rfl, rfl⟩
        rw [hbh.out]
        go_wp2_with fail
        go_round
        case rel => exact ⟨x + 1, by omega, by omega, rfl, Lib.hid (fun y a b => by
          rcases Int.lt_or_eq_of_le (show y ≤ x by omega) with c | c
          · exact hall.out y a c
          · rw [c]; exact hbh.out)⟩
        case measure => simp [intOf]; omega
      · have hbh := Lib.hid hb
        clear hb
        go_wp2_with fail
        refine (hbu.out _).mono ?_
        rintro e w' ⟨rfl, rfl⟩
        rw [hbh.out]
        go_wp2_with fail
        go_ret2
        exact ⟨rfl, .inl ⟨x, hx1, hlt, hbh.out, hall.out, rfl⟩⟩
    · go_wp2_with fail
      go_ret2
      exact ⟨rfl, .inr ⟨fun y a b => hall.out y a (by omega), rfl⟩⟩
/-- The number of business days among n dates from d on. -/
def cntN (l : List Int) (d : Int) : Nat → Nat
  | 0 => 0
  | n + 1 => cntN l d n + (if bus l (d + n) then 1 else 0)
theorem cntN_le (l : List Int) (d : Int) (n : Nat) : cntN l d n ≤ n := by
  induction n with
  | zero => exact Nat.le_refl _
  | succ n ih => simp only [cntN]; split <;> omega
/-- What Count returns between dates. -/
def cnt (l : List Int) (a b : Int) : Nat := cntN l a (b - a).toNat
set_option maxHeartbeats 400000 in
theorem count_yes (bc : Nat) (l : List Int) (a b : Int) (w : World) (hc : CalW w bc l) (h0 : 0 ≤ a) (h1 : a ≤ 99999) (h2 : 0 ≤ b) (h3 : b ≤ 99999) :
    Calls Tryd.prog 28 #[.pointer (some ⟨bc, 0, none⟩), .int .i64 a, .int .i64 b] w fun e w' => e = .returned (.int .i64 (cnt l a b)) ∧ w = w' := by
  have hid := Lib.hid (isDate_any a w)
  have hdd := Lib.hid (decide_eq_true (show 0 ≤ a ∧ a ≤ 99999 from ⟨h0, h1⟩))
  have hid2 := Lib.hid (isDate_any b w)
  have hdd2 := Lib.hid (decide_eq_true (show 0 ≤ b ∧ b ≤ 99999 from ⟨h2, h3⟩))
  have hbu := Lib.hid (fun x => business_any bc l x w hc)
  clear hc
  go_enter Tryd.func28, Tryd.ntmps28
  go_wp2_with fail
  refine hid.out.mono ?_
  rintro e w' ⟨rfl, rfl⟩
  rw [hdd.out]
  go_wp2_with fail
  refine hid2.out.mono ?_
  rintro e w' ⟨rfl, rfl⟩
  rw [hdd2.out]
  go_wp2_with fail
  by_cases hab : a ≤ b
  · go_loop [7, 8] (fun c i => ∃ n : Nat, a + n ≤ b ∧ i = .int .i64 (a + n) ∧ c = .int .i64 (cntN l a n)) (fun _ i => (b - intOf i).toNat)
    case atStart => exact ⟨0, by omega, i64_eq (by omega), rfl⟩
    case round =>
      obtain ⟨n, hn, rfl, rfl⟩ := hrel
      have hcl := cntN_le l a n
      rcases Int.lt_or_eq_of_le hn with hlt | heq
      · have hs := Lib.hid (show cntN l a (n + 1) = cntN l a n + (if bus l (a + n) then 1 else 0) from rfl)
        generalize cntN l a n = c at hcl hs
        cases hb : bus l (a + n)
        all_goals
          have hbh := Lib.hid hb
          clear hb
          go_wp2_with fail
          refine (hbu.out _).mono ?_
          rintro e w' ⟨rfl, rfl⟩
          rw [hbh.out]
          go_wp2_with fail
          go_round
          case rel => exact ⟨n + 1, by omega, i64_eq (by omega), i64_eq (by rw [hs.out, hbh.out]; simp)⟩
          case measure => simp [intOf]; omega
      · have hfin := Lib.hid (show cnt l a b = cntN l a n by unfold cnt; rw [show (b - a).toNat = n by omega])
        have hnl : ¬ a + (n : Int) < b := by omega
        clear heq
        go_wp2_with fail
        go_ret
        exact ⟨ret_int (by rw [hfin.out]), rfl⟩
  · have hfin := Lib.hid (show cnt l a b = 0 by unfold cnt; rw [show (b - a).toNat = 0 by omega]; rfl)
    refine wp_loop_rounds 1 ?_
    rw [rounds_succ]
    go_wp2_with fail
    go_ret
    exact ⟨ret_int (by rw [hfin.out]; rfl), rfl⟩
end Go.Proofs.YtijceaapfbpfcaaDoor
