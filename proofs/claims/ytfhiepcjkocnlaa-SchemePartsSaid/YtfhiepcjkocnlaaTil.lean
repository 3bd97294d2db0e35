/- The walk of tiers; words for rows of the call's own. -/
import Derived.Test.YtfhiepcjkocnlaaChk
import Derived.Laws.OwnMore
import Derived.Deep.AppendLies
import Derived.Deep.Draws
import Derived.OwnWalk
import Derived.OneCell
namespace Go.Proofs.Ytfhiepcjkocnlaa
set_option linter.unusedVariables false
open Go.RowKit

theorem IsRow.of_own {w : World} {base : Nat} {e : TypeId} {size n c : Nat} {A : Option Addr} {xs : List Value} (h : w.ownsRow base e size (.slice A n c) n xs) : IsRow w A xs := by
  obtain ⟨h1, h2⟩ := h
  rcases h2 with ⟨hv, hn⟩ | ⟨g, cap, cur, hv, hb, hg, r1, r2, r3, r4⟩
  · exact .inl (by rw [h1, hn]; omega)
  · refine .inr ⟨g, 0, by injection hv, fun j v hj => ?_⟩
    rw [cell_of_row w g (0 + j) cur e (0, 0) hg, Nat.zero_add]
    rw [← r4, List.getElem?_take] at hj
    split at hj
    · simpa using hj
    · cases hj
/-- The value of a row of one's own. -/
theorem own_form {w : World} {base : Nat} {e : TypeId} {size n : Nat} {v : Value} {xs : List Value} (h : w.ownsRow base e size v n xs) : ∃ A c, v = .slice A n c ∧ IsRow w A xs ∧ n ≤ c := by
  rcases h.2 with ⟨hv, hn⟩ | ⟨g, cap, cur, hv, hb, hg, r1, r⟩
  · subst hn
    exact ⟨none, 0, hv, .inl (by rw [h.1]; omega), Nat.le_refl _⟩
  · exact ⟨_, cap, hv, IsRow.of_own (c := cap) (by rw [← hv]; exact h), r1⟩
theorem info62 : (Try.prog.info? 62).map (fun i => (i.zero, i.size, i.bytes)) = some (some (.agg #[.int .i64 0, .int .i64 0]), 2, 16) := by kernel_rfl
/-- A new slice that reads as these tiers. -/
def TilPost (l : List Tr) (w : World) (e : Ending) (w' : World) : Prop := ∃ A c, e = .returned (.slice A l.length c) ∧ IsRow w' A (cellsT l) ∧ Below w.heap.size w w'
theorem cellsT_take (l : List Tr) (k : Nat) (hk : k < l.length) : cellsT (l.take (k + 1)) = cellsT (l.take k) ++ [.int .i64 (l.getD k default).f, .int .i64 (l.getD k default).p] := by
  rw [List.take_succ_eq_append_getElem hk, cellsT, List.flatMap_append, getD_at l k hk]; rfl
set_option maxHeartbeats 1600000 in
theorem tiers_any (A : Option Addr) (c : Nat) (l : List Tr) (w : World) (hr : IsRow w A (cellsT l)) (hl : l.length ≤ 100) :
    Calls Try.prog 12 #[.slice A l.length c] w (TilPost l w) := by
  have HR := Lib.hid hr
  clear hr
  obtain ⟨i0, hi, hz0, hz1, hz2⟩ := info_parts info62
  go_enter Try.func12, Try.ntmps12
  go_wp2_with fail
  go_loopw [3, 4] (fun v i wr => ∃ k : Nat, k ≤ l.length ∧ i = .int .i64 k ∧ wr.ownsRow w.heap.size 62 2 v k (cellsT (l.take k)) ∧ Below w.heap.size w wr) (fun _ i _ => l.length - (intOf i).toNat)
  case atStart => exact ⟨0, Nat.zero_le _, rfl, World.ownsRow_nil _ _ _ _, Below.refl _ _⟩
  case round =>
    obtain ⟨k, hk, rfl, hown, hbel⟩ := hrel
    by_cases hlt : k < l.length
    · rcases HR.out.below hbel with h0 | ⟨b, off, ha, hc⟩
      · rw [cellsT_length] at h0; omega
      subst ha
      obtain ⟨c0, c1⟩ := row_tier hc k hlt
      rw [← getD_at l k hlt] at c0 c1
      clear hc
      have HST := Lib.hid (cellsT_take l k hlt)
      have HSZ := Lib.hid hbel.size
      obtain ⟨fk, hfk⟩ : ∃ fk, (l.getD k default).f = fk := ⟨_, rfl⟩
      obtain ⟨pk, hpk⟩ : ∃ pk, (l.getD k default).p = pk := ⟨_, rfl⟩
      rw [hfk] at c0 HST
      rw [hpk] at c1 HST
      clear hfk hpk
      go_wp2_with (at_builtin; refine wpList_append_own _ rfl (.tmp 11) (.tmp 16) _ rfl w.heap.size 62 i0 _ 2 16 Try.underlying34 hi hz0 hz1 hz2 rfl (by decide) _ _ _ rfl (hown.alloc _) ⟨wr.heap.size, 0, none⟩ 1 1 [.int .i64 fk, .int .i64 pk] rfl rfl (World.news_of_block (cs := #[.int .i64 fk, .int .i64 pk]) (t := 62) (fr := (0, 0)) (heap_alloc_new wr _)) (by simp [Value.oneCell']) (by unfold maxLen; omega) (by omega) (by have := HSZ.out; simp; omega) ?_; intro v' w1 hown' hgrow _)
      exact ⟨⟨k + 1, by omega, by go_num, by rw [HST.out]; exact hown', (hbel.alloc HSZ.out _).grown hgrow (by have := HSZ.out; simp; omega) (fun k hk => (hown.lt k hk).1)⟩, by simp [intOf]; omega⟩
    · obtain rfl : k = l.length := by omega
      rw [List.take_length] at hown
      obtain ⟨A', c', rfl, hrow, _⟩ := own_form hown
      clear hown
      go_wp2_with fail
      go_ret
      exact ⟨A', c', rfl, hrow, hbel⟩
theorem info51 : (Try.prog.info? 51).map (fun i => (i.zero, i.size, i.bytes)) = some (some (.agg #[.int .i64 0, .int .i64 0]), 2, 16) := by kernel_rfl
/-- The tiers of the chapter's example. -/
def smp : List Tr := [⟨1, 50⟩, ⟨101, 30⟩]
set_option maxHeartbeats 1600000 in
theorem sample_any (w : World) : Calls Try.prog 23 #[] w (TilPost smp w) := by
  go_enter Try.func23, Try.ntmps23
  go_wp2_with fail
  go_ret
  refine ⟨_, 2, rfl, .inr ⟨w.heap.size, 0, rfl, fun j v hj => ?_⟩, (Below.refl _ _).alloc (Nat.le_refl _) _⟩
  have := World.news_of_block (heap_alloc_new w (.cells #[.int .i64 1, .int .i64 50, .int .i64 101, .int .i64 30] 51)) j v hj
  rwa [Addr.add_lit] at this
end Go.Proofs.Ytfhiepcjkocnlaa
