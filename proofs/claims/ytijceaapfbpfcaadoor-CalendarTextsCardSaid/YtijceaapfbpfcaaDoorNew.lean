/- The walk of New. -/
import Derived.Test.YtijceaapfbpfcaaDoorCal
namespace Go.Proofs.YtijceaapfbpfcaaDoor
set_option linter.unusedVariables false
open Go.RowKit Go.Maps

/-- The slice reads as these numbers. -/
def IsInts (w : World) (a : Option Addr) (l : List Int) : Prop := l.length = 0 ∨ ∃ b off, a = some ⟨b, off, none⟩ ∧ ∀ i, i < l.length → w.cell? ⟨b, off + i, none⟩ = some (.int .i64 (l.getD i 0))
def okHol (l : List Int) : Bool := decide (l.length ≤ 400 ∧ ∀ d ∈ l, 0 ≤ d ∧ d ≤ 99999)
def NewPost (l : List Int) (w : World) (e : Ending) (w' : World) : Prop :=
  Below w.heap.size w w' ∧ ((okHol l = true ∧ ∃ bc, e = .returned (.tuple #[.pointer (some ⟨bc, 0, none⟩), .int .i64 0]) ∧ CalW w' bc l) ∨
    (okHol l = false ∧ ∃ er : Int, (er = 3 ∨ er = 4) ∧ e = .returned (.tuple #[.pointer none, .int .i64 er])))
theorem takeI_snoc (l : List Int) (k : Nat) (h : k < l.length) : l.take (k + 1) = l.take k ++ [l.getD k 0] := by
  rw [List.take_succ_eq_append_getElem h]; simp [List.getD, h]
/-- The loop's state behind k rounds. -/
def NewRel (w wr : World) (l : List Int) (k : Nat) : Prop :=
  HSet wr w.heap.size (l.take k) ∧ wr.cell? ⟨w.heap.size + 1, 0, none⟩ = some (.map (some w.heap.size)) ∧ Below w.heap.size w wr ∧ ∀ d ∈ l.take k, 0 ≤ d ∧ d ≤ 99999
theorem newRel_start (w : World) (l : List Int) : NewRel w ((w.alloc (.map #[] 0)).alloc (.cells #[.map (some w.heap.size)] 48)) l 0 := by
  refine ⟨?_, ?_, ((Below.refl _ _).alloc (Nat.le_refl _) _).alloc (by simp) _, by simp⟩
  · exact (HSet.made w).kept (World.grownBy_alloc _ _ none) (by simp)
  · have := World.cell?_alloc_mark (w.alloc (.map #[] 0)) #[.map (some w.heap.size)] 48 (0, 0) 0
    simp
theorem newRel_step (w wr w' : World) (l : List Int) (k : Nat) (hk : k < l.length) (h : NewRel w wr l k) (hd : 0 ≤ l.getD k 0 ∧ l.getD k 0 ≤ 99999)
    (hs : HSet w' w.heap.size (l.take k ++ [l.getD k 0])) (hg : wr.grownBy w' (some w.heap.size)) : NewRel w w' l (k + 1) := by
  obtain ⟨h1, h2, h3, h4⟩ := h
  refine ⟨by rw [takeI_snoc l k hk]; exact hs, hg.cell h2 (by simp), h3.grown hg h3.size (fun x hx => by cases hx; exact Nat.le_refl _), ?_⟩
  rw [takeI_snoc l k hk]
  intro d hd'
  rcases List.mem_append.1 hd' with h | h
  · exact h4 d h
  · simp at h; subst h; simpa [List.getD] using hd
set_option maxHeartbeats 800000 in
theorem new_any (a : Option Addr) (cap : Nat) (l : List Int) (w : World) (hr : IsInts w a l) (hl : l.length ≤ maxLen) : Calls Tryd.prog 24 #[.slice a l.length cap] w (NewPost l w) := by
  unfold maxLen at hl
  by_cases h4 : l.length ≤ 400
  case neg =>
    have hno := Lib.hid (show okHol l = false from decide_eq_false (fun h => h4 h.1))
    clear hr
    go_enter Tryd.func24, Tryd.ntmps24
    go_wp2_with fail
    go_ret2
    exact ⟨Below.refl _ _, .inr ⟨hno.out, 3, .inl rfl, rfl⟩⟩
  have HR := Lib.hid hr
  clear hr
  have hmm := @run_makeMap Tryd.prog
  go_enter Tryd.func24, Tryd.ntmps24
  go_wp2_with fail
  go_loopw [15] (fun i wr => ∃ k : Nat, k ≤ l.length ∧ i = .int .i64 k ∧ NewRel w wr l k) (fun i _ => l.length - (intOf i).toNat)
  case atStart => exact ⟨0, Nat.zero_le _, rfl, newRel_start w l⟩
  case round =>
    obtain ⟨k, hk, rfl, hrel⟩ := hrel
    by_cases hlt : k < l.length
    · rcases HR.out with h0 | ⟨b, off, ha, hc⟩
      · omega
      subst ha
      have hcell := hc k hlt
      have hcw : wr.cell? ⟨b, off + k, none⟩ = some (.int .i64 (l.getD k 0)) := by
        rw [hrel.2.2.1.cell (p := ⟨b, off + k, none⟩) (World.block_lt_of_cell? w _ hcell)]; exact hcell
      clear hc hcell
      have hc2 := hrel.2.1
      have HREL := Lib.hid hrel
      clear hrel
      have hid := Lib.hid (isDate_any (l.getD k 0) wr)
      have hmem := Lib.hid (show l.getD k 0 ∈ l by simp [List.getD, hlt])
      have hstep := Lib.hid (fun w' hd hs hg => newRel_step w wr w' l k hlt HREL.out hd hs hg)
      by_cases hd : 0 ≤ l.getD k 0 ∧ l.getD k 0 ≤ 99999
      · obtain ⟨w2, hrun, hs2, hg2⟩ := HREL.out.1.put (by simp; omega) (l.getD k 0) (wf_date _ hd)
        have hdd := Lib.hid (decide_eq_true hd)
        have HN := Lib.hid (hstep.out w2 hd hs2 hg2)
        clear hs2 hg2 hd hstep
        generalize l.getD k 0 = d at *
        go_wp2_with fail
        refine hid.out.mono ?_
        rintro e w' ⟨rfl, rfl⟩
        rw [hdd.out]
        go_wp2_with fail
        go_roundw
        case rel => exact ⟨k + 1, by omega, by go_num, HN.out⟩
        case measure => simp [intOf]; omega
      · have hdd := Lib.hid (decide_eq_false hd)
        have hno := Lib.hid (show okHol l = false from decide_eq_false (fun h => hd (h.2 _ hmem.out)))
        clear hd hstep
        generalize l.getD k 0 = d at *
        go_wp2_with fail
        refine hid.out.mono ?_
        rintro e w' ⟨rfl, rfl⟩
        rw [hdd.out]
        go_wp2_with fail
        go_ret2
        exact ⟨HREL.out.2.2.1, .inr ⟨hno.out, 4, .inr rfl, rfl⟩⟩
    · obtain rfl : k = l.length := by omega
      have HREL := Lib.hid hrel
      clear hrel
      have hyes := Lib.hid (show okHol l = true from decide_eq_true ⟨h4, by have := HREL.out.2.2.2; rwa [List.take_length] at this⟩)
      have hcal := Lib.hid (show CalW wr (w.heap.size + 1) l from ⟨w.heap.size, by omega, HREL.out.2.1, by have := HREL.out.1; rwa [List.take_length] at this⟩)
      go_wp2_with fail
      go_ret2
      exact ⟨HREL.out.2.2.1, .inl ⟨hyes.out, _, rfl, hcal.out⟩⟩
end Go.Proofs.YtijceaapfbpfcaaDoor
