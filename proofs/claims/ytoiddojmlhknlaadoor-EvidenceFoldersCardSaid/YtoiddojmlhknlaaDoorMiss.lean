/- The walks of Items, Missing and Verify. -/
import Derived.Test.YtoiddojmlhknlaaDoorFold
import Derived.Maps.OwnOps
import Derived.Lib.SliceRun
namespace Go.Proofs.YtoiddojmlhknlaaDoor
set_option linter.unusedVariables false
open Go.RowKit Go.Maps

theorem IsRow.addr {w : World} {A : Option Addr} {xs : List Value} (h : IsRow w A xs) (ad : Addr) (hA : A = some ad) : ∀ j u, xs[j]? = some u → w.cell? (ad.add j) = some u := by
  intro j u hu
  rcases h with h | ⟨b, off, he, h⟩
  · have : xs = [] := List.eq_nil_of_length_eq_zero h
    subst this; simp at hu
  · rw [he] at hA
    obtain rfl := Option.some.inj hA
    rw [Addr.add_lit]; exact h j u hu
def ItemsPost (B : Nat) (l : List Itm) (w : World) (e : Ending) (w' : World) : Prop := ∃ A c, e = .returned (.slice A l.length c) ∧ IsRow w' A (cellsOf l) ∧ l.length ≤ c ∧ Below w.heap.size w w'
set_option maxHeartbeats 800000 in
theorem clone_any (A : Option Addr) (c : Nat) (l : List Itm) (w : World) (hr : IsRow w A (cellsOf l)) (hl : l.length ≤ 1000) (hlc : l.length ≤ c) (hn : A = none → c = 0) :
    Calls Tryd.prog 27 #[.slice A l.length c] w (ItemsPost w.heap.size l w) := by
  obtain ⟨i0, hi0, hz0, hz1, hz2⟩ := info_parts info24
  have hE := fun (w : World) => Lib.run_eql_slice_nil (P := Tryd.prog) w 22 35 A l.length c 0 0 Tryd.underlying22
  have HR := Lib.hid hr
  clear hr
  rcases A with _ | ad
  · obtain rfl := hn rfl
    obtain rfl : l = [] := List.eq_nil_of_length_eq_zero (by omega)
    clear hn hE
    have hE := fun (w : World) => Lib.run_eql_slice_nil (P := Tryd.prog) w 22 35 none 0 0 0 0 Tryd.underlying22
    go_enter Tryd.func27, Tryd.ntmps27
    go_wp2_with fail
    go_ret
    exact ⟨none, 0, rfl, .inl rfl, Nat.le_refl _, Below.refl _ _⟩
  · clear hn
    have HI := Lib.hid hi0
    clear hi0
    go_enter Tryd.func27, Tryd.ntmps27
    go_wp2_with (at_builtin; refine wpList_append_own _ rfl (.tmp 5) (.tmp 6) _ rfl w.heap.size 35 i0 _ 3 32 Tryd.underlying22 HI.out hz0 hz1 hz2 rfl (by omega) (.slice (some ⟨w.heap.size, 0, none⟩) 0 0) 0 [] rfl (World.ownsRow_made w #[] 0 (Nat.le_refl _) (by decide) rfl) ad l.length c (cellsOf l) rfl (cellsOf_length l) ((HR.out.below ((Below.refl _ _).alloc (Nat.le_refl _) _)).addr ad rfl) (cellsOf_one' l) (by unfold maxLen; omega) (by omega) (by simp) ?_; intro v w1 hown hgrow hnil)
    go_ret
    obtain ⟨A', c', rfl, hrow, hc'⟩ := own_form hown
    exact ⟨A', c', by simp, by simpa using hrow, by omega, ((Below.refl _ _).alloc (Nat.le_refl _) _).grown hgrow (by simp) (fun k hk => by simp [Value.ownBlock] at hk; omega)⟩
theorem own_addr {w : World} {base : Nat} {e : TypeId} {size n c : Nat} {A : Option Addr} {xs : List Value} (h : w.ownsRow base e size (.slice A n c) n xs) : A = none → c = 0 := by
  intro hA
  rcases h.2 with ⟨hv, hn⟩ | ⟨g, cap, cur, hv, _⟩
  · simp at hv; exact hv.2.2
  · simp at hv; rw [hA] at hv; cases hv.1
set_option maxHeartbeats 800000 in
theorem items_any (B bf : Nat) (ob : Option Nat) (l : List Itm) (w : World) (hf : FolderW w B bf ob l) (hl : l.length ≤ 1000) : Calls Tryd.prog 13 #[.pointer (some ⟨bf, 0, none⟩)] w (ItemsPost w.heap.size l w) := by
  obtain ⟨A, c, hblk, hob, hrow, hlc, hown⟩ := hf.open_
  have hcl := Lib.hid (clone_any A c l w hrow hl hlc (own_addr hown))
  have c0 := (cell_blk hblk).1
  clear hblk hob hrow hown hf
  go_enter Tryd.func13, Tryd.ntmps13
  go_wp2_with fail
  refine hcl.out.mono ?_
  rintro e w' ⟨A', c', rfl, h⟩
  have H := Lib.hid h
  clear h
  go_wp2_with fail
  go_ret
  exact ⟨A', c', rfl, H.out⟩
end Go.Proofs.YtoiddojmlhknlaaDoor
