/- Sort: a copy, sorted; what it answers. -/
import Derived.Test.YtiegoffdbhmfbaaGreatDoorSo7
import Derived.Test.YtiegoffdbhmfbaaGreatDoorCmp
import Derived.Lib.SlicesS
namespace Go.Proofs.YtiegoffdbhmfbaaGreatDoor
set_option linter.unusedVariables false
open Go.RowKit

theorem rgs_length (l : List Rg) : (l.flatMap rgF).length = l.length * 4 := by
  induction l with
  | nil => rfl
  | cons a l ih => rw [List.flatMap_cons, List.length_append, ih, List.length_cons]; show 4 + _ = _; omega
theorem rgs_one (l : List Rg) : ∀ u ∈ l.flatMap rgF, u.oneCell' = true := by
  intro u hu
  obtain ⟨i, _, hi⟩ := List.mem_flatMap.1 hu
  simp [rgF] at hi
  rcases hi with rfl | rfl | rfl | rfl <;> rfl
theorem IsRow.addr {w : World} {A : Option Addr} {xs : List Value} (h : IsRow w A xs) (ad : Addr) (hA : A = some ad) : ∀ j u, xs[j]? = some u → w.cell? (ad.add j) = some u := by
  intro j u hu
  rcases h with h | ⟨b, off, he, h⟩
  · have : xs = [] := List.eq_nil_of_length_eq_zero h
    subst this; simp at hu
  · rw [he] at hA
    obtain rfl := Option.some.inj hA
    rw [Addr.add_lit]; exact h j u hu
/-- The ranges of a list, in a row of their own: places from which f reads. -/
def RowL (g : Nat) (w0 : World) (l : List Rg) (cap : Nat) (w : World) : Prop := ∃ C, w.heap[g]? = some (.cells C 26) ∧ C.size = cap * 4 ∧ (∀ k, k < l.length → RowAt C k (rgAt l k)) ∧ Below g w0 w
theorem RowL.later {g cap : Nat} {w0 w w' : World} {l : List Rg} (h : RowL g w0 l cap w) (hb : Below w.heap.size w w') : RowL g w0 l cap w' := by
  obtain ⟨C, h1, hz, h2, h3⟩ := h
  exact ⟨C, blk_later h1 hb, hz, h2, h3.trans (hb.mono (Nat.le_of_lt (Array.getElem?_eq_some_iff.1 h1).1))⟩
theorem RowL.lt {g cap : Nat} {w0 w : World} {l : List Rg} (h : RowL g w0 l cap w) : g < w.heap.size := by
  obtain ⟨C, h1, h2⟩ := h
  exact (Array.getElem?_eq_some_iff.1 h1).1
theorem RowL.free {g cap : Nat} {w0 w : World} {l : List Rg} (h : RowL g w0 l cap w) (o : Nat) : w.frozen? ⟨g, o, none⟩ = false := by
  obtain ⟨C, h1, h2⟩ := h
  exact cell_f h1 _
theorem RowL.cells {g cap : Nat} {w0 w : World} {l : List Rg} (h : RowL g w0 l cap w) (k : Nat) (hk : k < l.length) :
    w.cell? ⟨g, k * 4, none⟩ = some (.string (rgAt l k).lo) ∧ w.cell? ⟨g, k * 4 + 1, none⟩ = some (.string (rgAt l k).hi) ∧ w.cell? ⟨g, k * 4 + 2, none⟩ = some (.string (rgAt l k).is) ∧ w.cell? ⟨g, k * 4 + 3, none⟩ = some (.string (rgAt l k).pr) := by
  obtain ⟨C, h1, hz, h2, h3⟩ := h
  obtain ⟨c0, c1, c2, c3⟩ := h2 k hk
  exact ⟨(cell_c h1 _).trans c0, (cell_c h1 _).trans c1, (cell_c h1 _).trans c2, (cell_c h1 _).trans c3⟩
theorem flat_at (l : List Rg) {j : Nat} {v : Value} (h : (l.flatMap rgF)[j]? = some v) : j / 4 < l.length ∧ (rgF (rgAt l (j / 4)))[j % 4]? = some v := by
  have hl := (List.getElem?_eq_some_iff.1 h).1
  rw [rgs_length] at hl
  have hk : j / 4 < l.length := by omega
  refine ⟨hk, ?_⟩
  rw [rgAt_get l _ hk, ← rg_cells l (j / 4) hk (j % 4) (by omega), show j / 4 * 4 + j % 4 = j by omega]
  exact h
theorem RowL.isRow {g cap : Nat} {w0 w : World} {l : List Rg} (h : RowL g w0 l cap w) : IsRow w (some ⟨g, 0, none⟩) (l.flatMap rgF) := by
  refine .inr ⟨g, 0, rfl, fun j v hj => ?_⟩
  obtain ⟨hk, hv⟩ := flat_at l hj
  obtain ⟨c0, c1, c2, c3⟩ := h.cells _ hk
  rw [Nat.zero_add, show j = j / 4 * 4 + j % 4 by omega]
  have hm : j % 4 = 0 ∨ j % 4 = 1 ∨ j % 4 = 2 ∨ j % 4 = 3 := by omega
  rcases hm with m | m | m | m <;> rw [m] at hv ⊢ <;> simp only [rgF, List.getElem?_cons_zero, List.getElem?_cons_succ, Option.some.injEq] at hv <;> subst hv
  · exact c0
  · exact c1
  · exact c2
  · exact c3
theorem RowL.of_own {w : World} {B : Nat} {l : List Rg} {v : Value} (h : w.ownsRow B 26 4 v l.length (l.flatMap rgF)) (h0 : 0 < l.length) : ∃ g cap, v = .slice (some ⟨g, 0, none⟩) l.length cap ∧ B ≤ g ∧ l.length ≤ cap ∧ cap ≤ maxLen ∧ RowL g w l cap w := by
  rcases h.2 with ⟨_, hn⟩ | ⟨g, cap, cur, hv, hb, hg, r1, r2, r3, r4⟩
  · omega
  · refine ⟨g, cap, hv, hb, r1, r2, cur, hg, r3, fun k hk => ?_, Below.refl _ _⟩
    have hc : ∀ j, j < 4 → cur[k * 4 + j]? = (rgF l[k])[j]? := fun j hj => by
      rw [← rg_cells l k hk j hj, ← r4, List.getElem?_take, if_pos (by omega), Array.getElem?_toList]
    rw [rgAt_get l k hk]
    exact ⟨(hc 0 (by omega)), (hc 1 (by omega)), (hc 2 (by omega)), (hc 3 (by omega))⟩
theorem info29 : (Tryz.prog.info? 26).map (fun i => (i.zero, i.size, i.bytes)) = some (some (.agg #[.string ⟨#[]⟩, .string ⟨#[]⟩, .string ⟨#[]⟩, .string ⟨#[]⟩]), 4, 64) := by kernel_rfl
def ClnPost (l : List Rg) (w : World) (e : Ending) (w' : World) : Prop := ∃ v, e = .returned v ∧ w'.ownsRow w.heap.size 26 4 v l.length (l.flatMap rgF) ∧ Below w.heap.size w w'
set_option maxRecDepth 100000 in
set_option maxHeartbeats 1600000 in
theorem clone_any (A : Option Addr) (cp : Nat) (l : List Rg) (w : World) (hr : IsRow w A (l.flatMap rgF)) (hc : l.length ≤ cp) (hm : l.length ≤ 1000000) (hn : A = none → cp = 0) :
    Calls Tryz.prog 26 #[.slice A l.length cp] w (ClnPost l w) := by
  unfold ClnPost
  obtain ⟨i0, hi0, hz0, hz1, hz2⟩ := info_parts info29
  have HR := Lib.hid hr
  clear hr
  rcases A with _ | ad
  · obtain rfl := hn rfl
    obtain rfl : l = [] := List.eq_nil_of_length_eq_zero (by omega)
    clear hn
    have hE := fun (w : World) => Lib.run_eql_slice_nil (P := Tryz.prog) w 22 26 none 0 0 0 0 Tryz.underlying22
    go_enter Tryz.func26, Tryz.ntmps26
    go_wp2_with fail
    go_ret
    exact ⟨_, rfl, World.ownsRow_nil _ _ _ _, Below.refl _ _⟩
  · clear hn
    have hE := fun (w : World) => Lib.run_eql_slice_nil (P := Tryz.prog) w 22 26 (some ad) l.length cp 0 0 Tryz.underlying22
    have HI := Lib.hid hi0
    clear hi0
    go_enter Tryz.func26, Tryz.ntmps26
    go_wp2_with (at_builtin; refine wpList_append_own _ rfl (.tmp 5) (.tmp 6) _ rfl w.heap.size 26 i0 _ 4 64 Tryz.underlying22 HI.out hz0 hz1 hz2 rfl (by omega) (.slice (some ⟨w.heap.size, 0, none⟩) 0 0) 0 [] rfl (World.ownsRow_made w #[] 0 (Nat.le_refl _) (by decide) rfl) ad l.length cp (l.flatMap rgF) rfl (rgs_length l) ((HR.out.below ((Below.refl _ _).alloc (Nat.le_refl _) _)).addr ad rfl) (rgs_one l) (by unfold maxLen; omega) (by omega) (by simp) ?_; intro v w1 hown hgrow hnil)
    go_ret
    exact ⟨v, rfl, by simpa using hown, ((Below.refl _ _).alloc (Nat.le_refl _) _).grown hgrow (by simp) (fun k hk => by simp [Value.ownBlock] at hk; omega)⟩
/-- m is l in the stable order. -/
def SrtOf (l m : List Rg) : Prop := ∃ d, Ord (rkR (rgAt l) l.length) l.length d ∧ m = d.toList.map (rgAt l)
theorem SrtOf.length {l m : List Rg} (h : SrtOf l m) : m.length = l.length := by
  obtain ⟨d, h1, rfl⟩ := h
  rw [List.length_map, Array.length_toList, h1.size]
/-- A slice of ranges as a value. -/
structure SlR (w : World) (v : Value) (l : List Rg) : Prop where
  form : ∃ A c, v = .slice A l.length c ∧ IsRow w A (l.flatMap rgF) ∧ l.length ≤ c ∧ c ≤ maxLen ∧ (A = none → c = 0)
theorem SlR.nil (w : World) : SlR w (.slice none 0 0) [] := ⟨none, 0, rfl, .inl rfl, Nat.le_refl _, by decide, fun _ => rfl⟩
theorem SlR.below {w w' : World} {v : Value} {l : List Rg} (h : SlR w v l) (hb : Below w.heap.size w w') : SlR w' v l := by
  obtain ⟨A, c, h1, h2, h3⟩ := h.form
  exact ⟨A, c, h1, h2.below hb, h3⟩
theorem SlR.of_own {w : World} {B : Nat} {l : List Rg} {v : Value} (h : w.ownsRow B 26 4 v l.length (l.flatMap rgF)) : SlR w v l := by
  by_cases h0 : 0 < l.length
  · obtain ⟨g, cap, rfl, -, h2, h3, h4⟩ := RowL.of_own h h0
    exact ⟨_, cap, rfl, h4.isRow, h2, h3, fun q => by cases q⟩
  · obtain rfl : l = [] := List.eq_nil_of_length_eq_zero (by omega)
    rcases h.2 with ⟨hv, _⟩ | ⟨g, cap, cur, hv, hb, hg, r1, r2, r3, r4⟩
    · exact ⟨none, 0, hv, .inl rfl, Nat.le_refl _, by decide, fun _ => rfl⟩
    · exact ⟨_, cap, hv, .inl rfl, r1, r2, fun q => by cases q⟩
theorem SlR.of_rowL {g cap : Nat} {w0 w : World} {l : List Rg} (h : RowL g w0 l cap w) (h1 : l.length ≤ cap) (h2 : cap ≤ maxLen) : SlR w (.slice (some ⟨g, 0, none⟩) l.length cap) l := ⟨_, cap, rfl, h.isRow, h1, h2, fun q => by cases q⟩
def SrtPost (l : List Rg) (w : World) (e : Ending) (w' : World) : Prop := ∃ v m, e = .returned v ∧ SrtOf l m ∧ SlR w' v m ∧ Below w.heap.size w w'
theorem map_at (d : Array Nat) (l : List Rg) (k : Nat) (hk : k < d.size) : rgAt (d.toList.map (rgAt l)) k = rgAt l d[k]! := by
  rw [rgAt_get _ k (by simpa using hk), List.getElem_map, Array.getElem_toList, getElem!_pos d k hk]
set_option maxRecDepth 100000 in
set_option maxHeartbeats 1600000 in
/-- slices.SortStableFunc over nothing. -/
theorem sorts_none (A : Option Addr) (cp : Nat) (w : World) : Calls Tryz.prog 27 #[.slice A 0 cp, .func (.func 28) #[] #[]] w fun e w' => e = .returned (.tuple #[]) ∧ w' = w := by
  have h2 : ∀ W, Calls Tryz.prog 62 #[.slice A 0 cp, .int .i64 0, .int .i64 0, .func (.func 28) #[] #[]] W fun e w' => e = .returned (.tuple #[]) ∧ w' = W := fun W => by
    go_enter Tryz.func62, Tryz.ntmps62
    go_wp2_with fail
    refine wp_loop_rounds 1 ?_
    rw [rounds_succ]
    go_wp2_with fail
    go_end0
    exact ⟨rfl, rfl⟩
  have h1 : ∀ W, Calls Tryz.prog 45 #[.slice A 0 cp, .int .i64 0, .func (.func 28) #[] #[]] W fun e w' => e = .returned (.tuple #[]) ∧ w' = W := fun W => by
    have H2 := Lib.hid h2
    clear h2
    go_enter Tryz.func45, Tryz.ntmps45
    go_wp2_with fail
    refine wp_loop_rounds 1 ?_
    rw [rounds_succ]
    go_wp2_with fail
    refine (H2.out _).mono ?_
    rintro e w1 ⟨rfl, rfl⟩
    go_wp2_with fail
    refine wp_loop_rounds 1 ?_
    rw [rounds_succ]
    go_wp2_with fail
    go_end0
    exact ⟨rfl, rfl⟩
  have H1 := Lib.hid h1
  clear h1 h2
  go_enter Tryz.func27, Tryz.ntmps27
  go_wp2_with fail
  refine (H1.out _).mono ?_
  rintro e w1 ⟨rfl, rfl⟩
  go_wp2_with fail
  go_end0
  exact ⟨rfl, rfl⟩
set_option maxRecDepth 100000 in
set_option maxHeartbeats 1600000 in
theorem sort_any (v : Value) (l : List Rg) (w : World) (hv : SlR w v l) (hok : ∀ x ∈ l, RgOk x) (hm : l.length ≤ 100000) :
    Calls Tryz.prog 13 #[v] w (SrtPost l w) := by
  obtain ⟨A, cp, rfl, hr, hc, hcm, hn⟩ := hv.form
  unfold SrtPost
  have HCL := Lib.hid (clone_any A cp l w hr hc (by omega) hn)
  unfold ClnPost at HCL
  by_cases h0 : 0 < l.length
  · have HS := Lib.hid (fun (g cap : Nat) (w1 : World) (h : RowL g w1 l cap w1) => sorts_any (rgAt l) (fun x y => cmpRg (rgAt l x) (rgAt l y)) g cap l.length (rkR (rgAt l) l.length) w1 w1 (cmpr_any (rgAt l) l.length (fun x hx => by rw [rgAt_get l x hx]; exact hok _ (List.getElem_mem hx))) (fun x y hx hy => rkR_lt (rgAt l) l.length hx hy)
      (by
        obtain ⟨C, h1, hz, h2, h3⟩ := h
        refine ⟨C, h1, fun k hk => ?_, h3⟩
        have hk' : k < l.length := by simpa using hk
        rw [range_get hk']
        exact h2 k hk') (by omega))
    have H0 := Lib.hid h0
    clear hv hr hc hcm hn hok hm h0
    go_enter Tryz.func13, Tryz.ntmps13
    go_wp2_with fail
    refine HCL.out.mono ?_
    rintro e w1 ⟨v, rfl, hown, hb⟩
    obtain ⟨g, cap, rfl, hg, h2, h3, h4⟩ := RowL.of_own hown H0.out
    have HB := Lib.hid (And.intro hb hg)
    have HC := Lib.hid (And.intro h2 h3)
    have HSS := Lib.hid (HS.out g cap w1 h4)
    have HCS : Hid (∃ C, w1.heap[g]? = some (.cells C 26) ∧ C.size = cap * 4) := Lib.hid (by obtain ⟨C, q1, q2, _⟩ := h4; exact ⟨C, q1, q2⟩)
    clear hown hb hg h2 h3 h4 HS
    go_wp2_with fail
    refine HSS.out.mono ?_
    rintro e w2 ⟨rfl, d, ho, hs⟩
    have HO := Lib.hid ho
    have HR := Lib.hid hs
    clear ho hs
    go_wp2_with fail
    go_ret
    obtain ⟨C, q1, q2, q3⟩ := HR.out
    have hz := HO.out.size
    have hml : (d.toList.map (rgAt l)).length = l.length := by rw [List.length_map, Array.length_toList, hz]
    refine ⟨_, d.toList.map (rgAt l), rfl, ⟨d, HO.out, rfl⟩, ?_, HB.out.1.trans (q3.mono HB.out.2)⟩
    refine ⟨some ⟨g, 0, none⟩, cap, congrArg (fun n => Value.slice (some ⟨g, 0, none⟩) n cap) hml.symm, .inr ⟨g, 0, rfl, fun j v hj => ?_⟩, by rw [hml]; exact HC.out.1, HC.out.2, fun q => by cases q⟩
    obtain ⟨hk, hvv⟩ := flat_at _ hj
    rw [hml, ← hz] at hk
    rw [map_at d l _ hk] at hvv
    obtain ⟨c0, c1, c2, c3⟩ := HR.out.cells _ hk
    rw [Nat.zero_add, show j = j / 4 * 4 + j % 4 by omega]
    have hm : j % 4 = 0 ∨ j % 4 = 1 ∨ j % 4 = 2 ∨ j % 4 = 3 := by omega
    rcases hm with m | m | m | m <;> rw [m] at hvv ⊢ <;> simp only [rgF, List.getElem?_cons_zero, List.getElem?_cons_succ, Option.some.injEq] at hvv <;> subst hvv
    · exact c0
    · exact c1
    · exact c2
    · exact c3
  · obtain rfl : l = [] := List.eq_nil_of_length_eq_zero (by omega)
    have HN := Lib.hid (fun A cp W => sorts_none A cp W)
    clear hv hr hc hcm hn hok hm h0
    go_enter Tryz.func13, Tryz.ntmps13
    go_wp2_with fail
    refine HCL.out.mono ?_
    rintro e w1 ⟨v, rfl, hown, hb⟩
    obtain ⟨A', c', rfl, q1, q2, q3, q4⟩ := (SlR.of_own hown).form
    have HB := Lib.hid hb
    have HSL := Lib.hid (SlR.of_own hown)
    clear hown hb q1 q2 q3 q4
    simp only [List.length_nil] at HSL ⊢
    go_wp2_with fail
    refine (HN.out _ _ _).mono ?_
    rintro e w2 ⟨rfl, rfl⟩
    go_wp2_with fail
    go_ret
    exact ⟨_, [], rfl, ⟨#[], ⟨Go.Sort.permIn_refl _ _ _, fun i j h1 h2 h3 => absurd h3 (Nat.not_lt_zero _)⟩, rfl⟩, HSL.out, HB.out⟩
end Go.Proofs.YtiegoffdbhmfbaaGreatDoor
