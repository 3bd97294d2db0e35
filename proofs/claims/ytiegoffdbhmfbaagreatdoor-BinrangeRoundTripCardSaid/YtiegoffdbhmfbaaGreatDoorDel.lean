/- slices.Delete of one range; a store into a row. -/
import Derived.Test.YtiegoffdbhmfbaaGreatDoorSor
import Derived.Deep.RegionLaw
import Derived.Lib.SliceRun
namespace Go.Proofs.YtiegoffdbhmfbaaGreatDoor
set_option linter.unusedVariables false
open Go.RowKit

theorem heap_setCells {b : Nat} {T : TypeId} : ∀ (vs : List Value) (o : Nat) (w : World) (C : Array Value), w.heap[b]? = some (.cells C T) →
    ∃ C', (w.setCells b o vs).heap[b]? = some (.cells C' T) ∧ C'.size = C.size ∧ (∀ i, i < C.size → C'[i]? = if o ≤ i ∧ i < o + vs.length then vs[i - o]? else C[i]?)
  | [], o, w, C, h => ⟨C, h, rfl, fun i hi => by rw [if_neg (by simp)]⟩
  | v :: vs, o, w, C, h => by
    obtain ⟨C', h1, h2, h3⟩ := heap_setCells vs (o + 1) (w.setCell ⟨b, o, none⟩ v) (C.setIfInBounds o v) (heap_set1 h o v)
    refine ⟨C', h1, by rw [h2]; simp, fun i hi => ?_⟩
    rw [h3 i (by simpa using hi), List.length_cons]
    by_cases q : o + 1 ≤ i ∧ i < o + 1 + vs.length
    · rw [if_pos q, if_pos (by omega), show i - o = (i - (o + 1)) + 1 by omega, List.getElem?_cons_succ]
    · rw [if_neg q]
      by_cases q2 : i = o
      · subst q2
        rw [if_pos (by omega), Nat.sub_self, List.getElem?_cons_zero, Array.getElem?_setIfInBounds_self_of_lt hi]
      · rw [if_neg (by omega), Array.getElem?_setIfInBounds_ne (by omega)]
theorem below_sets {B : Nat} {a : World} (b : Nat) (hb : B ≤ b) : ∀ (vs : List Value) (o : Nat) {w : World}, Below B a w → Below B a (w.setCells b o vs)
  | [], _, _, h => h
  | v :: vs, o, _, h => below_sets b hb vs (o + 1) (h.setCell (p := ⟨b, o, none⟩) hb v)
theorem zero29 (w : World) : (zeroValue 26).run Tryz.prog w = .ok (.agg #[.string ⟨#[]⟩, .string ⟨#[]⟩, .string ⟨#[]⟩, .string ⟨#[]⟩]) w := by kernel_rfl
def em4 : List Value := [.string ⟨#[]⟩, .string ⟨#[]⟩, .string ⟨#[]⟩, .string ⟨#[]⟩]
theorem clear_one (b o c : Nat) (ty : TypeId) (w : World) (hc : ∀ j, j < 4 → (w.cell? ⟨b, o + j, none⟩).isSome = true) (hf : ∀ j, j < 4 → w.frozen? ⟨b, o + j, none⟩ = false) :
    (Builtin.clear_ #[22] ty #[.slice (some ⟨b, o, none⟩) 1 c]).run Tryz.prog w = .ok (.tuple #[]) (w.setCells b o em4) := by
  have hz : (Builtin.zeroCells #[Value.string ⟨#[]⟩, .string ⟨#[]⟩, .string ⟨#[]⟩, .string ⟨#[]⟩] 1).toList = em4 := by
    simp [Builtin.zeroCells, em4]
    rfl
  have hst := run_storeCells_cells (P := Tryz.prog) b o em4 0 w (by simpa [em4] using hc) (by simpa [em4] using hf) (by intro v hv; simp [em4] at hv; subst hv; rfl)
  simp only [Nat.add_zero] at hst
  simp [Builtin.clear_, run_underlying Tryz.underlying22, Value.cells, hz, hst]
/-- The cells behind place k. -/
def movedR (l : List Rg) (k : Nat) : List Value := (l.drop (k + 1)).flatMap rgF
theorem movedR_length (l : List Rg) (k : Nat) : (movedR l k).length = (l.length - (k + 1)) * 4 := by unfold movedR; rw [rgs_length, List.length_drop]
def DelPost (g cap : Nat) (w0 : World) (l : List Rg) (k : Nat) (e : Ending) (w' : World) : Prop := e = .returned (.slice (some ⟨g, 0, none⟩) (l.length - 1) cap) ∧ RowL g w0 (l.eraseIdx k) cap w'
set_option maxRecDepth 1000000 in
set_option maxHeartbeats 4000000 in
theorem del_any (g cap k : Nat) (l : List Rg) (w0 w : World) (h : RowL g w0 l cap w) (hk : k < l.length) (hc : l.length ≤ cap) (hm : cap ≤ maxLen) :
    Calls Tryz.prog 33 #[.slice (some ⟨g, 0, none⟩) l.length cap, .int .i64 k, .int .i64 ((k : Int) + 1)] w (DelPost g cap w0 l k) := by
  unfold maxLen at hm
  obtain ⟨i0, hi0, hz0, hz1, hz2⟩ := info_parts info29
  have HH := Lib.hid h
  obtain ⟨n, hn⟩ : ∃ n, l.length = n := ⟨_, rfl⟩
  rw [hn] at hk hc ⊢
  have hne : ((k : Int) == (k : Int) + 1) = false := by simp; omega
  have hne' : ¬ (k : Int) = (k : Int) + 1 := by omega
  have hp0 : (0 : Int) ≤ (k : Int) + 1 := by omega
  have hp1 : (k : Int) + 1 ≤ (n : Int) := by omega
  have hp2 : ((k : Int) + 1).toNat = k + 1 := by omega
  have hp3 : (k : Int) ≤ (k : Int) + 1 := by omega
  have hp4 : (n : Int) ≤ (cap : Int) := by omega
  have hp5 : k ≤ cap := by omega
  have hp6 : k + 1 ≤ n := by omega
  obtain ⟨C, g1, g2, g3, g4⟩ := h
  have hCz : ∀ j, j < n → j * 4 + 3 < C.size := fun j hj => (g3 j (by omega)).size
  have hmv : (movedR l k).length = (n - (k + 1)) * 4 := by rw [movedR_length, hn]
  have hmg : ∀ t u, (movedR l k)[t]? = some u → C[(k + 1) * 4 + t]? = some u := fun t u hu => by
    obtain ⟨q1, q2⟩ := flat_at _ hu
    rw [List.length_drop, hn] at q1
    have e : rgAt (l.drop (k + 1)) (t / 4) = rgAt l (k + 1 + t / 4) := by
      rw [rgAt_get _ _ (by rw [List.length_drop]; omega), rgAt_get _ _ (by omega), List.getElem_drop]
    rw [e] at q2
    obtain ⟨c0, c1, c2, c3⟩ := g3 (k + 1 + t / 4) (by omega)
    rw [show (k + 1) * 4 + t = (k + 1 + t / 4) * 4 + t % 4 by omega]
    have hm : t % 4 = 0 ∨ t % 4 = 1 ∨ t % 4 = 2 ∨ t % 4 = 3 := by omega
    rcases hm with m | m | m | m <;> rw [m] at q2 ⊢ <;> simp only [rgF, List.getElem?_cons_zero, List.getElem?_cons_succ, Option.some.injEq] at q2 <;> subst q2
    · exact c0
    · exact c1
    · exact c2
    · exact c3
  obtain ⟨A, hA, hsrc⟩ : ∃ A : Addr, (if cap = k + 1 then some (⟨g, 0, none⟩ : Addr) else some ⟨g, (k + 1) * 4, none⟩) = some A ∧ Hid (∀ t u, (movedR l k)[t]? = some u → w.drew.cell? (A.add t) = some u) := by
    by_cases q : cap = k + 1
    · refine ⟨⟨g, 0, none⟩, by simp [q], fun t u hu => ?_⟩
      have h0 : (movedR l k).length = 0 := by rw [hmv]; omega
      rw [List.length_eq_zero_iff.1 h0] at hu
      simp at hu
    · refine ⟨⟨g, (k + 1) * 4, none⟩, by simp [q], fun t u hu => ?_⟩
      rw [Addr.add_lit]
      exact (cell_c g1 _).trans (hmg t u hu)
  have s1 : Hid ((movedR l k).length = (n - (k + 1)) * 4) := hmv
  have s2 : Hid (∀ u ∈ movedR l k, u.oneCell' = true) := rgs_one _
  have s3 : Hid (∀ t, t < (movedR l k).length → (w.drew.cell? ⟨g, 0 + k * 4 + t, none⟩).isSome = true ∧ w.drew.frozen? ⟨g, 0 + k * 4 + t, none⟩ = false) := fun t ht => by
    rw [hmv] at ht
    have := hCz (n - 1) (by omega)
    refine ⟨?_, cell_f g1 _⟩
    show (w.cell? _).isSome = true
    rw [cell_c g1, Array.getElem?_eq_getElem (by omega)]; rfl
  obtain ⟨W1, hW1⟩ : ∃ W1, W1 = w.drew.setCells g (0 + k * 4) (movedR l k) := ⟨_, rfl⟩
  obtain ⟨C1, e1, e2, e3⟩ := heap_setCells (movedR l k) (0 + k * 4) w.drew C g1
  rw [← hW1] at e1
  have hb1 : Below g w0 W1 := by rw [hW1]; exact below_sets g (Nat.le_refl _) _ _ (g4.trans ⟨rfl, rfl, rfl, Nat.le_refl _, fun _ _ => rfl⟩)
  have en : n - (k + (n - (k + 1))) = 1 := by omega
  have hcl : ∀ ty c, (Builtin.clear_ #[22] ty #[.slice (some ⟨g, (k + (n - (k + 1))) * 4, none⟩) (n - (k + (n - (k + 1)))) c]).run Tryz.prog W1 = .ok (.tuple #[]) (W1.setCells g ((k + (n - (k + 1))) * 4) em4) := fun ty c => by
    rw [en]
    refine clear_one g _ c ty W1 (fun j hj => ?_) (fun j hj => cell_f e1 _)
    have := hCz (n - 1) (by omega)
    rw [cell_c e1, Array.getElem?_eq_getElem (by omega)]; rfl
  have HW : Hid (W1 = w.drew.setCells g (0 + k * 4) (movedR l k)) := hW1
  have HFIN : Hid (RowL g w0 (l.eraseIdx k) cap (W1.setCells g ((k + (n - (k + 1))) * 4) em4)) := Lib.hid (by
    obtain ⟨C2, r1, r2, r3⟩ := heap_setCells em4 ((k + (n - (k + 1))) * 4) W1 C1 e1
    refine ⟨C2, r1, by rw [r2, e2, g2], fun j hj => ?_, below_sets g (Nat.le_refl _) _ _ hb1⟩
    rw [List.length_eraseIdx_of_lt (by omega), hn] at hj
    have hz := hCz (n - 1) (by omega)
    have old : ∀ i, i < (n - 1) * 4 → C2[i]? = C1[i]? := fun i hi => by
      rw [r3 i (by omega), if_neg (by simp [em4]; omega)]
    by_cases q : j < k
    · have ea : rgAt (l.eraseIdx k) j = rgAt l j := by
        rw [rgAt_get _ _ (by rw [List.length_eraseIdx_of_lt (by omega)]; omega), rgAt_get _ _ (by omega), List.getElem_eraseIdx_of_lt (h' := q)]
      rw [ea]
      obtain ⟨c0, c1, c2, c3⟩ := g3 j (by omega)
      have keep : ∀ i, i < k * 4 → C2[i]? = C[i]? := fun i hi => by rw [old i (by omega), e3 i (by omega), if_neg (by omega)]
      exact ⟨(keep _ (by omega)).trans c0, (keep _ (by omega)).trans c1, (keep _ (by omega)).trans c2, (keep _ (by omega)).trans c3⟩
    · have ea : rgAt (l.eraseIdx k) j = rgAt l (j + 1) := by
        rw [rgAt_get _ _ (by rw [List.length_eraseIdx_of_lt (by omega)]; omega), rgAt_get _ _ (by omega), List.getElem_eraseIdx_of_ge (h' := by omega)]
      rw [ea]
      obtain ⟨c0, c1, c2, c3⟩ := g3 (j + 1) (by omega)
      have move : ∀ i, k * 4 ≤ i → i < (n - 1) * 4 → C2[i]? = C[i + 4]? := fun i hi hi2 => by
        rw [old i hi2, e3 i (by omega), if_pos (by rw [hmv]; omega)]
        have hlt : i - (0 + k * 4) < (movedR l k).length := by rw [hmv]; omega
        rw [List.getElem?_eq_getElem hlt]
        have := hmg _ _ (List.getElem?_eq_getElem hlt)
        rw [← this]; congr 1; omega
      exact ⟨(move _ (by omega) (by omega)).trans (by rw [show j * 4 + 4 = (j + 1) * 4 by omega]; exact c0), (move _ (by omega) (by omega)).trans (by rw [show j * 4 + 1 + 4 = (j + 1) * 4 + 1 by omega]; exact c1), (move _ (by omega) (by omega)).trans (by rw [show j * 4 + 2 + 4 = (j + 1) * 4 + 2 by omega]; exact c2), (move _ (by omega) (by omega)).trans (by rw [show j * 4 + 3 + 4 = (j + 1) * 4 + 3 by omega]; exact c3)⟩)
  have hx1 : ¬ cap = k + (n - (k + 1)) := by omega
  have hx2 : k + (n - (k + 1)) ≤ cap := by omega
  have hx3 : k + (n - (k + 1)) ≤ n := by omega
  have HK1 : Hid (k + (n - (k + 1)) = l.length - 1) := Lib.hid (by rw [hn]; omega)
  have hroom : k + (n - (k + 1)) ≤ cap := by omega
  have HI := Lib.hid hi0
  clear hmg hCz hW1 e1 e2 e3 g1 g2 g3 g4 hb1 en hmv hi0 HH hn
  go_enter Tryz.func33, Tryz.ntmps33
  go_wp2_with fail
  go_region_law (refine step_append_room rfl (.tmp 22) (.tmp 25) 22 rfl 26 i0 4 Tryz.underlying22 HI.out hz1 g 0 k cap (by simp [Act.eval, Act.put]) A (n - (k + 1)) (cap - (k + 1)) (movedR l k) (by simp [Act.eval, Act.put]) s1.out hsrc.out s2.out hroom s3.out ?_; rw [← HW.out])
  go_wp2_with fail
  go_ret
  exact ⟨congrArg (fun m => Ending.returned (.slice (some ⟨g, 0, none⟩) m cap)) HK1.out, HFIN.out⟩
/-- The upper end of one range is replaced. -/
def setHi (l : List Rg) (i : Nat) (h : ByteArray) : List Rg := l.set i { rgAt l i with hi := h }
theorem RowL.setHi {g cap : Nat} {w0 w : World} {l : List Rg} (h : RowL g w0 l cap w) (i : Nat) (hi : i < l.length) (s : ByteArray) : RowL g w0 (setHi l i s) cap (w.setCell ⟨g, i * 4 + 1, none⟩ (.string s)) := by
  obtain ⟨C, h1, hz, h2, h3⟩ := h
  refine ⟨_, heap_set1 h1 _ _, by simpa using hz, fun k hk => ?_, h3.setCell (p := ⟨g, i * 4 + 1, none⟩) (Nat.le_refl _) _⟩
  unfold Go.Proofs.YtiegoffdbhmfbaaGreatDoor.setHi at hk ⊢
  rw [List.length_set] at hk
  obtain ⟨c0, c1, c2, c3⟩ := h2 k hk
  have hs := (h2 k hk).size
  by_cases q : k = i
  · subst q
    have e : rgAt (l.set k { rgAt l k with hi := s }) k = { rgAt l k with hi := s } := by rw [rgAt_get _ _ (by simpa using hk)]; simp
    rw [e]
    exact ⟨by rw [Array.getElem?_setIfInBounds_ne (by omega)]; exact c0, by rw [Array.getElem?_setIfInBounds_self_of_lt (by omega)], by rw [Array.getElem?_setIfInBounds_ne (by omega)]; exact c2, by rw [Array.getElem?_setIfInBounds_ne (by omega)]; exact c3⟩
  · have e : rgAt (l.set i { rgAt l i with hi := s }) k = rgAt l k := by rw [rgAt_get _ _ (by simpa using hk), rgAt_get _ _ hk, List.getElem_set_ne (fun q' => q q'.symm)]
    rw [e]
    exact ⟨by rw [Array.getElem?_setIfInBounds_ne (by omega)]; exact c0, by rw [Array.getElem?_setIfInBounds_ne (by omega)]; exact c1, by rw [Array.getElem?_setIfInBounds_ne (by omega)]; exact c2, by rw [Array.getElem?_setIfInBounds_ne (by omega)]; exact c3⟩
end Go.Proofs.YtiegoffdbhmfbaaGreatDoor
