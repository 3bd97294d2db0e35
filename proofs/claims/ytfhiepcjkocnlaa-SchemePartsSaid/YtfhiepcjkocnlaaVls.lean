/- The walks of volumes and same. -/
import Derived.Test.YtfhiepcjkocnlaaTil
import Derived.Test.YtfhiepcjkocnlaaWhl
namespace Go.Proofs.Ytfhiepcjkocnlaa
set_option linter.unusedVariables false
open Go.RowKit

theorem info64 : (Try.prog.info? 64).map (fun i => (i.zero, i.size, i.bytes)) = some (some (.agg #[.string ⟨#[]⟩, .int .i64 0]), 2, 24) := by kernel_rfl
def VlsPost (l : List Vol) (w : World) (e : Ending) (w' : World) : Prop := ∃ A c, e = .returned (.slice A l.length c) ∧ IsRow w' A (cellsV l) ∧ Below w.heap.size w w'
theorem cellsV_take (l : List Vol) (k : Nat) (hk : k < l.length) : cellsV (l.take (k + 1)) = cellsV (l.take k) ++ [.string (l.getD k default).s, .int .i64 (l.getD k default).c] := by
  rw [List.take_succ_eq_append_getElem hk, cellsV, List.flatMap_append, getV_at l k hk]; rfl
set_option maxHeartbeats 1600000 in
theorem vols_any (A : Option Addr) (c : Nat) (l : List Vol) (w : World) (hr : IsRow w A (cellsV l)) (hl : l.length ≤ 100) :
    Calls Try.prog 19 #[.slice A l.length c] w (VlsPost l w) := by
  have HR := Lib.hid hr
  clear hr
  obtain ⟨i0, hi, hz0, hz1, hz2⟩ := info_parts info64
  go_enter Try.func19, Try.ntmps19
  go_wp2_with fail
  go_loopw [3, 4] (fun v i wr => ∃ k : Nat, k ≤ l.length ∧ i = .int .i64 k ∧ wr.ownsRow w.heap.size 64 2 v k (cellsV (l.take k)) ∧ Below w.heap.size w wr) (fun _ i _ => l.length - (intOf i).toNat)
  case atStart => exact ⟨0, Nat.zero_le _, rfl, World.ownsRow_nil _ _ _ _, Below.refl _ _⟩
  case round =>
    obtain ⟨k, hk, rfl, hown, hbel⟩ := hrel
    by_cases hlt : k < l.length
    · rcases HR.out.below hbel with h0 | ⟨b, off, ha, hc⟩
      · rw [cellsV_length] at h0; omega
      subst ha
      obtain ⟨c0, c1⟩ := row_vol hc k hlt
      clear hc
      have HST := Lib.hid (cellsV_take l k hlt)
      have HSZ := Lib.hid hbel.size
      obtain ⟨fk, hfk⟩ : ∃ fk, (l.getD k default).s = fk := ⟨_, rfl⟩
      obtain ⟨pk, hpk⟩ : ∃ pk, (l.getD k default).c = pk := ⟨_, rfl⟩
      rw [hfk] at c0 HST
      rw [hpk] at c1 HST
      clear hfk hpk
      go_wp2_with (at_builtin; refine wpList_append_own _ rfl (.tmp 11) (.tmp 16) _ rfl w.heap.size 64 i0 _ 2 24 Try.underlying43 hi hz0 hz1 hz2 rfl (by decide) _ _ _ rfl (hown.alloc _) ⟨wr.heap.size, 0, none⟩ 1 1 [.string fk, .int .i64 pk] rfl rfl (World.news_of_block (cs := #[.string fk, .int .i64 pk]) (t := 64) (fr := (0, 0)) (heap_alloc_new wr _)) (by simp [Value.oneCell']) (by unfold maxLen; omega) (by omega) (by have := HSZ.out; simp; omega) ?_; intro v' w1 hown' hgrow _)
      exact ⟨⟨k + 1, by omega, by go_num, by rw [HST.out]; exact hown', (hbel.alloc HSZ.out _).grown hgrow (by have := HSZ.out; simp; omega) (fun k hk => (hown.lt k hk).1)⟩, by simp [intOf]; omega⟩
    · obtain rfl : k = l.length := by omega
      rw [List.take_length] at hown
      obtain ⟨A', c', rfl, hrow, _⟩ := own_form hown
      clear hown
      go_wp2_with fail
      go_ret
      exact ⟨A', c', rfl, hrow, hbel⟩
/-- A slice of numbers that reads as f. -/
def RowF (w : World) (A : Option Addr) (n : Nat) (f : Nat → Int) : Prop := n = 0 ∨ ∃ b off, A = some ⟨b, off, none⟩ ∧ ∀ k, k < n → w.cell? ⟨b, off + k, none⟩ = some (.int .i64 (f k))
set_option maxHeartbeats 1600000 in
theorem same_any (A : Option Addr) (c : Nat) (B : Option Addr) (d n : Nat) (f : Nat → Int) (w : World) (ha : RowF w A n f) (hb : RowF w B n f) (hn : n ≤ 1000000) :
    Calls Try.prog 22 #[.slice A n c, .slice B n d] w fun e w' => e = .returned (.bool true) ∧ Below w.heap.size w w' := by
  have HA := Lib.hid ha
  have HB := Lib.hid hb
  clear ha hb
  have hnn : ((n : Int) != (n : Int)) = false := by simp
  go_enter Try.func22, Try.ntmps22
  go_wp2_with fail
  clear hnn
  go_loopw [5] (fun i wr => ∃ k m : Nat, k ≤ n ∧ i = .int .i64 k ∧ wr = w.drewN m) (fun i _ => n - (intOf i).toNat)
  case atStart => exact ⟨0, 0, Nat.zero_le _, rfl, rfl⟩
  case round =>
    obtain ⟨k, m, hk, rfl, rfl⟩ := hrel
    by_cases hlt : k < n
    · rcases HA.out with h0 | ⟨b, off, rfl, hc⟩
      · omega
      rcases HB.out with h0 | ⟨b', off', rfl, hc'⟩
      · omega
      have c0 := hc k hlt
      have c1 := hc' k hlt
      obtain ⟨x, hx⟩ : ∃ x, f k = x := ⟨_, rfl⟩
      rw [hx] at c0 c1
      have hq : (x != x) = false := by simp
      have i1 : (k : Int) < (n : Int) := by omega
      clear hc hc' hx
      go_wp2_with fail
      go_quiet (fail)
      go_wp2_with fail
      go_roundw
      case rel => exact ⟨k + 1, _, by omega, by go_num, rfl⟩
      case measure => simp [intOf]; omega
    · obtain rfl : k = n := by omega
      go_wp2_with fail
      go_ret
      exact ⟨rfl, below_drewN w m⟩
end Go.Proofs.Ytfhiepcjkocnlaa
