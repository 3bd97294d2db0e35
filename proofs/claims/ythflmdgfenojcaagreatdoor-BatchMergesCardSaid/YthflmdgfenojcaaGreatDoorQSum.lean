/- Part of the proof over this seat. -/
import Derived.Laws.Rows
import Derived.Test.YthflmdgfenojcaaGreatDoorQRws
namespace Go.Proofs.YthflmdgfenojcaaGreatDoor
set_option linter.unusedVariables false
open Go.RowKit
theorem info9 : (Tryz.prog.info? 9).map (fun i => (i.zero, i.size, i.bytes)) = some (some (.string ⟨#[]⟩), 1, 16) := by kernel_rfl
/-- The totals as a value. -/
def totV (n d c h : Int) : Value := .agg #[.int .i64 n, .int .i64 d, .int .i64 c, .int .i64 h]
def SumPost (l : List Rec) (w : World) (e : Ending) (w' : World) : Prop := e = .returned (totV l.length (debS l l.length) (creS l l.length) (C7.totB (cardsOf l))) ∧ Below w.heap.size w w'
structure SumW (l : List Rec) (k : Nat) (w W : World) (v4 : Value) : Prop where
  z : W.heap[w.heap.size]? = some (.cells #[.int .i64 0, .int .i64 0, .int .i64 0, .int .i64 0] 46)
  t : W.heap[w.heap.size + 1]? = some (.cells #[.int .i64 l.length, .int .i64 (debS l k), .int .i64 (creS l k), .int .i64 0] 46)
  o : W.ownsRow (w.heap.size + 2) 9 1 v4 k ((cardsOf (l.take k)).map Value.string)
  b : Below w.heap.size w W
theorem SumW.tl {l : List Rec} {k : Nat} {w W : World} {v : Value} (h : SumW l k w W v) : w.heap.size + 1 < W.heap.size := (Array.getElem?_eq_some_iff.1 h.t).1
/-- Behind a new block and an append. -/
theorem SumW.app {l : List Rec} {k : Nat} {w W W' : World} {v v' : Value} {o o2 : Obj} {s : ByteArray} (h : SumW l k w W v) (hk : k < l.length) (hs : s = (rcAt l k).ca)
    (hn : W'.ownsRow (w.heap.size + 2) 9 1 v' (k + 1) (((cardsOf (l.take k)).map Value.string) ++ [.string s])) (hg : ((W.alloc o).alloc o2).grownBy W' v.ownBlock) :
    W'.heap[W.heap.size]? = some o ∧ W'.heap[w.heap.size]? = some (.cells #[.int .i64 0, .int .i64 0, .int .i64 0, .int .i64 0] 46) ∧ W'.heap[w.heap.size + 1]? = some (.cells #[.int .i64 l.length, .int .i64 (debS l k), .int .i64 (creS l k), .int .i64 0] 46) ∧ W'.ownsRow (w.heap.size + 2) 9 1 v' (k + 1) ((cardsOf (l.take (k + 1))).map Value.string) ∧ Below w.heap.size w W' := by
  have hlt : ∀ g, v.ownBlock = some g → w.heap.size + 2 ≤ g ∧ g < W.heap.size := fun g hg => h.o.lt g hg
  have htl := h.tl
  have hn1 := heap_alloc_new W o
  have hbb : Below W.heap.size W ((W.alloc o).alloc o2) := (bx W o).trans ((bx (W.alloc o) o2).mono (bx W o).size)
  have hsz : W.heap.size < ((W.alloc o).alloc o2).heap.size := Nat.lt_of_lt_of_le (Array.getElem?_eq_some_iff.1 hn1).1 (bx (W.alloc o) o2).size
  refine ⟨?_, ?_, ?_, ?_, ?_⟩
  · rw [hg.block _ hsz (fun e => by have := hlt _ e.symm; omega)]; exact blk_later hn1 (bx (W.alloc o) o2)
  · rw [hg.block _ (by omega) (fun e => by have := hlt _ e.symm; omega)]; exact blk_later h.z hbb
  · rw [hg.block _ (by omega) (fun e => by have := hlt _ e.symm; omega)]; exact blk_later h.t hbb
  · have : cardsOf (l.take (k + 1)) = cardsOf (l.take k) ++ [s] := by
      unfold cardsOf; rw [List.take_succ_eq_append_getElem hk, List.map_append, hs, rcAt_get l k hk]; rfl
    rw [this, List.map_append]; exact hn
  · exact (h.b.trans (hbb.mono h.b.size)).grown hg (by omega) (fun j hj => by have := hlt j hj; omega)
/-- Behind a round. -/
theorem SumW.round {l : List Rec} {k : Nat} {w W : World} {v : Value} {d c : Int} (hk : k < l.length) (hz : W.heap[w.heap.size]? = some (.cells #[.int .i64 0, .int .i64 0, .int .i64 0, .int .i64 0] 46)) (ht : W.heap[w.heap.size + 1]? = some (.cells #[.int .i64 l.length, .int .i64 d, .int .i64 c, .int .i64 0] 46)) (ho : W.ownsRow (w.heap.size + 2) 9 1 v (k + 1) ((cardsOf (l.take (k + 1))).map Value.string)) (hb : Below w.heap.size w W) (hd : d = debS l k + debR (rcAt l k)) (hc : c = creS l k + creR (rcAt l k)) : SumW l (k + 1) w W v :=
  ⟨hz, by rw [debS_succ l k hk, creS_succ l k hk, ← hd, ← hc]; exact ht, ho, hb⟩
theorem own_set {base e size n b o : Nat} {v u : Value} {xs : List Value} {W : World} (h : W.ownsRow base e size v n xs) (hb : b < base) : (W.setCell ⟨b, o, none⟩ u).ownsRow base e size v n xs :=
  h.kept (row := some b) ⟨rfl, rfl, rfl, by simp [World.setCell], fun k _ hk => Below.heap_setCell _ _ _ _ (fun e => hk (by rw [e]))⟩ (by
    cases hv : v.ownBlock with
    | none => exact .inl rfl
    | some g => exact .inr (fun he => by have := (h.lt g hv).1; injection he with he; omega))
theorem heap_set1 {w : World} {b : Nat} {C : Array Value} {T : TypeId} (h : w.heap[b]? = some (.cells C T)) (o : Nat) (v : Value) :
    (w.setCell ⟨b, o, none⟩ v).heap[b]? = some (.cells (C.setIfInBounds o v) T) := by
  simp [World.setCell, h, Array.getElem?_modify]
theorem SumW.set1 {l : List Rec} {k : Nat} {w W : World} {v : Value} {d : Int} (hk : k < l.length) (hz : W.heap[w.heap.size]? = some (.cells #[.int .i64 0, .int .i64 0, .int .i64 0, .int .i64 0] 46)) (ht : W.heap[w.heap.size + 1]? = some (.cells #[.int .i64 l.length, .int .i64 (debS l k), .int .i64 (creS l k), .int .i64 0] 46)) (ho : W.ownsRow (w.heap.size + 2) 9 1 v (k + 1) ((cardsOf (l.take (k + 1))).map Value.string)) (hb : Below w.heap.size w W) (hd : d = debS l k + debR (rcAt l k)) (hc : creR (rcAt l k) = 0) : SumW l (k + 1) w (W.setCell ⟨w.heap.size + 1, 1, none⟩ (.int .i64 d)) v :=
  SumW.round (d := d) (c := creS l k) hk ((Below.heap_setCell _ _ _ _ (by simp)).trans hz) (by rw [heap_set1 ht 1 _]; rfl) (own_set ho (by omega)) (hb.setCell (p := ⟨w.heap.size + 1, 1, none⟩) (Nat.le_succ _) _) hd (by omega)
theorem SumW.set2 {l : List Rec} {k : Nat} {w W : World} {v : Value} {c : Int} (hk : k < l.length) (hz : W.heap[w.heap.size]? = some (.cells #[.int .i64 0, .int .i64 0, .int .i64 0, .int .i64 0] 46)) (ht : W.heap[w.heap.size + 1]? = some (.cells #[.int .i64 l.length, .int .i64 (debS l k), .int .i64 (creS l k), .int .i64 0] 46)) (ho : W.ownsRow (w.heap.size + 2) 9 1 v (k + 1) ((cardsOf (l.take (k + 1))).map Value.string)) (hb : Below w.heap.size w W) (hd : debR (rcAt l k) = 0) (hc : c = creS l k + creR (rcAt l k)) : SumW l (k + 1) w (W.setCell ⟨w.heap.size + 1, 2, none⟩ (.int .i64 c)) v :=
  SumW.round (d := debS l k) (c := c) hk ((Below.heap_setCell _ _ _ _ (by simp)).trans hz) (by rw [heap_set1 ht 2 _]; rfl) (own_set ho (by omega)) (hb.setCell (p := ⟨w.heap.size + 1, 2, none⟩) (Nat.le_succ _) _) (by omega) hc
theorem SumW.plain {l : List Rec} {k : Nat} {w W : World} {v : Value} (hk : k < l.length) (hz : W.heap[w.heap.size]? = some (.cells #[.int .i64 0, .int .i64 0, .int .i64 0, .int .i64 0] 46)) (ht : W.heap[w.heap.size + 1]? = some (.cells #[.int .i64 l.length, .int .i64 (debS l k), .int .i64 (creS l k), .int .i64 0] 46)) (ho : W.ownsRow (w.heap.size + 2) 9 1 v (k + 1) ((cardsOf (l.take (k + 1))).map Value.string)) (hb : Below w.heap.size w W) (hd : debR (rcAt l k) = 0) (hc : creR (rcAt l k) = 0) : SumW l (k + 1) w W v :=
  SumW.round (d := debS l k) (c := creS l k) hk hz ht ho hb (by omega) (by omega)
theorem wrap_fit {x : Int} (h0 : 0 ≤ x) (h1 : x ≤ 9000000000000000000) : wrap64 x = x := by unfold wrap64; omega
theorem sum_end {w W : World} {x0 x1 x2 x3 y0 y1 y2 y3 y4 : Value} (hz : W.heap[w.heap.size]? = some (.cells #[x0, x1, x2, x3] 46)) (hb : Below w.heap.size w W) :
    (((((W.setCell ⟨w.heap.size + 1, 3, none⟩ y4).setCell ⟨w.heap.size, 0, none⟩ y0).setCell ⟨w.heap.size, 1, none⟩ y1).setCell ⟨w.heap.size, 2, none⟩ y2).setCell ⟨w.heap.size, 3, none⟩ y3).heap[w.heap.size]? = some (.cells #[y0, y1, y2, y3] 46) ∧ Below w.heap.size w (((((W.setCell ⟨w.heap.size + 1, 3, none⟩ y4).setCell ⟨w.heap.size, 0, none⟩ y0).setCell ⟨w.heap.size, 1, none⟩ y1).setCell ⟨w.heap.size, 2, none⟩ y2).setCell ⟨w.heap.size, 3, none⟩ y3) := by
  constructor
  · have h0 : (W.setCell ⟨w.heap.size + 1, 3, none⟩ y4).heap[w.heap.size]? = some (.cells #[x0, x1, x2, x3] 46) := (Below.heap_setCell _ _ _ _ (by simp)).trans hz
    rw [heap_set1 (heap_set1 (heap_set1 (heap_set1 h0 0 y0) 1 y1) 2 y2) 3 y3]; rfl
  · exact ((((hb.setCell (p := ⟨w.heap.size + 1, 3, none⟩) (Nat.le_succ _) _).setCell (p := ⟨w.heap.size, 0, none⟩) (Nat.le_refl _) _).setCell (p := ⟨w.heap.size, 1, none⟩) (Nat.le_refl _) _).setCell (p := ⟨w.heap.size, 2, none⟩) (Nat.le_refl _) _).setCell (p := ⟨w.heap.size, 3, none⟩) (Nat.le_refl _) _
theorem cards_strs {W : World} {A : Option Addr} {l : List ByteArray} (h : IsRow W A (l.map Value.string)) : C7.IsStrs W A l := by
  rcases h with h | ⟨b, off, rfl, h⟩
  · exact .inl (by simpa using h)
  · refine .inr ⟨b, off, rfl, fun i hi => h i _ ?_⟩
    rw [List.getElem?_map, List.getElem?_eq_getElem hi, List.getD_eq_getElem?_getD, List.getElem?_eq_getElem hi]; rfl
set_option maxRecDepth 1000000 in
set_option maxHeartbeats 25600000 in
theorem bsum_any (A : Option Addr) (cp : Nat) (l : List Rec) (w : World) (hr : IsRow w A (l.flatMap recF)) (hok : ∀ x ∈ l, x.Fit) (hc : l.length ≤ cp) (hm : l.length ≤ 1000000) : Calls Tryz.prog 45 #[.slice A l.length cp] w (SumPost l w) := by
  obtain ⟨i9, hi9, hy0, hy1, hy2⟩ := info_parts info9
  have HI := Lib.hid (And.intro hi9 (And.intro hy0 (And.intro hy1 hy2)))
  have HR := Lib.hid hr
  clear hi9 hy0 hy1 hy2 hr
  have HOK := Lib.hid hok
  clear hok
  go_enter Tryz.func45, Tryz.ntmps45
  go_wp2_with (at_make; refine wpList_make_own _ rfl (.const (.int .i64 0)) (.tmp 12) 22 rfl (w.heap.size + 2) 9 i9 _ 1 Tryz.underlying22 HI.out.1 HI.out.2.1 HI.out.2.2.1 .i64 .i64 _ l.length rfl rfl rfl (by rw [HI.out.2.2.2]; omega) (by unfold maxLen; omega) (by simp) ?_; intro w1 hown hgrow; have HO := Lib.hid hown; have HG := Lib.hid hgrow; clear hown hgrow)
  have HW0 : Hid (SumW l 0 w w1 (.slice (some ⟨w.heap.size + 2, 0, none⟩) 0 l.length)) := Lib.hid (by
    have hb := box2 (Below.refl _ ((w.alloc (.cells #[.int .i64 0, .int .i64 0, .int .i64 0, .int .i64 0] 46)).alloc (.cells #[.int .i64 l.length, .int .i64 0, .int .i64 0, .int .i64 0] 46)))
    refine ⟨?_, ?_, by have := HO.out; simp only [World.alloc, Array.size_push] at this; exact this, hb.2.2.grown HG.out (by simp; omega) (fun j hj => by cases hj)⟩
    · rw [HG.out.block _ (by simp; omega) (by simp)]; exact hb.1
    · rw [HG.out.block _ (by simp) (by simp)]; exact hb.2.1)
  clear HO HG
  go_loopw [4, 16] (fun v4 i wr => ∃ k : Nat, k ≤ l.length ∧ i = .int .i64 k ∧ Hid (SumW l k w wr v4)) (fun _ i _ => l.length - (intOf i).toNat)
  case atStart => exact ⟨0, Nat.zero_le _, rfl, HW0⟩
  case round =>
    clear HW0
    obtain ⟨k, hk, rfl, HW⟩ := hrel
    by_cases hlt : k < l.length
    · rcases row_rc HR.out k hlt with ⟨b, off, rfl, hcell⟩
      have HC := Lib.hid ((hcell k hlt).later HW.out.b)
      have hrr : ∃ r, rcAt l k = r := ⟨_, rfl⟩
      obtain ⟨r, hrk⟩ := hrr
      have HRK := Lib.hid hrk
      rw [hrk] at HC
      obtain ⟨K, id, au, aq, is, me, ca, a, cu, d, c, f⟩ := r
      have c0 := HC.out.c0
      have c1 := HC.out.c1
      have c2 := HC.out.c2
      have c3 := HC.out.c3
      have c4 := HC.out.c4
      have c5 := HC.out.c5
      have c6 := HC.out.c6
      have c7 := HC.out.c7
      have c8 := HC.out.c8
      have c9 := HC.out.c9
      have c10 := HC.out.c10
      have c11 := HC.out.c11
      simp only at c0 c1 c2 c3 c4 c5 c6 c7 c8 c9 c10 c11
      clear hcell hrk
      have kI : (k : Int) < (l.length : Int) := by omega
      have k0 : (0 : Int) ≤ (k : Int) := by omega
      have hwl := HW.out.tl
      have HD := Lib.hid (debS_bd l k (by omega))
      have HE := Lib.hid (creS_bd l k (by omega))
      go_wp2_with (first | (at_builtin; refine wpList_append_own _ rfl (.tmp 20) (.tmp 23) _ rfl (w.heap.size + 2) 9 i9 _ 1 16 Tryz.underlying22 HI.out.1 HI.out.2.1 HI.out.2.2.1 HI.out.2.2.2 rfl (by omega) _ _ _ rfl ((HW.out.o.alloc _).alloc _) ⟨wr.heap.size + 1, 0, none⟩ 1 1 [.string ca] rfl rfl (World.news_of_block (cs := #[.string ca]) (t := 9) (fr := (0, 0)) (heap_alloc2_new wr _ _)) (by simp [Value.oneCell']) (by unfold maxLen; omega) (by omega) (by simp; omega) ?_; intro v9 w3 hown hgrow hnil; have HC2 := Lib.hid hown; have HG2 := Lib.hid hgrow; clear hown hgrow hnil c0 c1 c2 c3 c4 c5 c6 c7 c8 c9 c10 c11; obtain ⟨g1, g2, g3, g4, g5⟩ := HW.out.app hlt (by rw [HRK.out]) HC2.out HG2.out; have d7 := cell_c g1 7; have d0 := cell_c g1 0; have t1 := cell_c g3 1; have t2 := cell_c g3 2; have p1 := cell_f g3 1; have p2 := cell_f g3 2; have hw3 : w.heap.size + 1 < w3.heap.size := (Array.getElem?_eq_some_iff.1 g3).1; have G1 := Lib.hid g1; have G2 := Lib.hid g2; have G3 := Lib.hid g3; have G4 := Lib.hid g4; have G5 := Lib.hid g5; clear g1 g2 g3 g4 g5; simp at d7 d0 t1 t2))
      all_goals (clear d7 d0 t1 t2 p1 p2; try simp only [beq_iff_eq, beq_eq_false_iff_ne, ne_eq] at *)
      all_goals first
        | (refine ⟨⟨k + 1, hlt, by go_num, Lib.hid (SumW.plain hlt G2.out G3.out G4.out G5.out (by rw [HRK.out]; unfold debR amtR; dsimp only; (repeat' split) <;> omega) (by rw [HRK.out]; unfold creR amtR; dsimp only; (repeat' split) <;> omega))⟩, by simp [intOf]; omega⟩; done)
        | (refine ⟨⟨k + 1, hlt, by go_num, Lib.hid (SumW.set1 hlt G2.out G3.out G4.out G5.out (by have := HD.out; rw [wrap_fit (by omega) (by omega), HRK.out]; unfold debR amtR; dsimp only; (repeat' split) <;> omega) (by rw [HRK.out]; unfold creR amtR; dsimp only; (repeat' split) <;> omega))⟩, by simp [intOf]; omega⟩; done)
        | (refine ⟨⟨k + 1, hlt, by go_num, Lib.hid (SumW.set2 hlt G2.out G3.out G4.out G5.out (by rw [HRK.out]; unfold debR amtR; dsimp only; (repeat' split) <;> omega) (by have := HE.out; rw [wrap_fit (by omega) (by omega), HRK.out]; unfold creR amtR; dsimp only; (repeat' split) <;> omega))⟩, by simp [intOf]; omega⟩; done)
    · obtain rfl : k = l.length := by omega
      obtain ⟨A2, c2, rfl, hrow, hcc⟩ := own_form HW.out.o
      rw [List.take_length] at hrow
      have HT := Lib.hid (C7.total_any A2 c2 (cardsOf l) wr (by unfold maxLen cardsOf; rw [List.length_map]; omega) (cards_strs hrow) (fun i hi => by
        unfold cardsOf at hi ⊢
        rw [List.length_map] at hi
        rw [List.getD_eq_getElem?_getD, List.getElem?_map, List.getElem?_eq_getElem hi]
        exact (HOK.out _ (List.getElem_mem hi)).2.2.2.2.2.1))
      rw [show (cardsOf l).length = l.length from by unfold cardsOf; rw [List.length_map]] at HT
      have t0 := cell_c HW.out.t 0
      have t1 := cell_c HW.out.t 1
      have t2 := cell_c HW.out.t 2
      have t3 := cell_c HW.out.t 3
      have p3 := cell_f HW.out.t 3
      have hwl := HW.out.tl
      have z0 := cell_c HW.out.z 0
      have z1 := cell_c HW.out.z 1
      have z2 := cell_c HW.out.z 2
      have z3 := cell_c HW.out.z 3
      have f0 := cell_f HW.out.z 0
      have f1 := cell_f HW.out.z 1
      have f2 := cell_f HW.out.z 2
      have f3 := cell_f HW.out.z 3
      simp at t0 t1 t2 t3 z0 z1 z2 z3
      clear hrow hcc
      go_wp2_with fail
      refine HT.out.mono ?_
      rintro e w' ⟨rfl, rfl⟩
      go_wp2_with fail
      have hE := sum_end (y0 := .int .i64 l.length) (y1 := .int .i64 (debS l l.length)) (y2 := .int .i64 (creS l l.length)) (y3 := .int .i64 (C7.totB (cardsOf l))) (y4 := .int .i64 (C7.totB (cardsOf l))) HW.out.z HW.out.b
      refine bodyPost_ret (results_cell_row (show Tryz.f45.results = #[.cell 2 46] by kernel_rfl) _ _ w.heap.size 46 #[.int .i64 l.length, .int .i64 (debS l l.length), .int .i64 (creS l l.length), .int .i64 (C7.totB (cardsOf l))] (0, 0) _ rfl hE.1 Tryz.underlying46 rfl (by kernel_rfl)) rfl ?_
      exact ⟨rfl, hE.2⟩
end Go.Proofs.YthflmdgfenojcaaGreatDoor
