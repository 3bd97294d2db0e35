/- The reference's folder: its state, and the walks of its methods. -/
import Derived.Test.YtoiddojmlhknlaaDoorDig
import Derived.Deep.RegionLaw
namespace Go.Proofs.YtoiddojmlhknlaaDoor
set_option linter.unusedVariables false
open Go.RowKit Go.Maps

/-- Block bf is a folder of the reference with these items. -/
def RFolderW (w : World) (B bf : Nat) (ob : Option Nat) (l : List Itm) : Prop := ∃ v, B ≤ bf ∧ v.ownBlock = ob ∧ w.heap[bf]? = some (.cells #[v] 49 (0, 0)) ∧ w.ownsRow B 35 3 v l.length (cellsOf l)
theorem RFolderW.lt {w : World} {B bf : Nat} {ob : Option Nat} {l : List Itm} (h : RFolderW w B bf ob l) : bf < w.heap.size := by
  obtain ⟨v, h0, hv, h1, h2⟩ := h
  exact (Array.getElem?_eq_some_iff.1 h1).1
theorem RFolderW.ge {w : World} {B bf : Nat} {ob : Option Nat} {l : List Itm} (h : RFolderW w B bf ob l) : B ≤ bf ∧ ∀ g, ob = some g → B ≤ g ∧ g < w.heap.size ∧ g ≠ bf := by
  obtain ⟨v, h0, rfl, h1, h2⟩ := h
  refine ⟨h0, fun g hg => ⟨(h2.lt g hg).1, (h2.lt g hg).2, ?_⟩⟩
  rintro rfl
  rcases h2.2 with ⟨rfl, _⟩ | ⟨g', cap, cur, rfl, _, hh, _⟩
  · cases hg
  · have e : g' = g := by simpa [Value.ownBlock] using hg
    subst e
    rw [h1] at hh
    injection hh with hh
    injection hh with _ ht
    cases ht
theorem RFolderW.only {S : Nat → Prop} {w w' : World} {B bf : Nat} {ob : Option Nat} {l : List Itm} (h : RFolderW w B bf ob l) (hb : Only S w w') (h1 : ¬ S bf) (h2 : ∀ g, ob = some g → ¬ S g) : RFolderW w' B bf ob l := by
  have hlt := h.lt
  obtain ⟨v, a, rfl, b, c⟩ := h
  exact ⟨v, a, rfl, by rw [hb.block bf hlt h1]; exact b, own_only c hb h2⟩
theorem RFolderW.below {w w' : World} {B bf : Nat} {ob : Option Nat} {l : List Itm} (h : RFolderW w B bf ob l) (hb : Below w.heap.size w w') : RFolderW w' B bf ob l :=
  h.only (S := fun _ => False) (Only.of_below hb) (fun h => h) (fun _ _ h => h)
/-- What a folder's cell holds, and where its items lie. -/
theorem RFolderW.open_ {w : World} {B bf : Nat} {ob : Option Nat} {l : List Itm} (h : RFolderW w B bf ob l) : ∃ A c, w.heap[bf]? = some (.cells #[.slice A l.length c] 49 (0, 0)) ∧ (Value.slice A l.length c).ownBlock = ob ∧ IsRow w A (cellsOf l) ∧ l.length ≤ c ∧ w.ownsRow B 35 3 (.slice A l.length c) l.length (cellsOf l) := by
  obtain ⟨v, h0, hv, h1, h2⟩ := h
  obtain ⟨A, c, rfl, hr, hc⟩ := own_form h2
  exact ⟨A, c, h1, hv, hr, hc, h2⟩
set_option maxHeartbeats 800000 in
theorem rhas_any (B bf : Nat) (ob : Option Nat) (l : List Itm) (x : Itm) (w : World) (hf : RFolderW w B bf ob l) (hl : l.length ≤ 1000) :
    Calls Tryd.prog 26 #[.pointer (some ⟨bf, 0, none⟩), x.val] w fun e w' => e = .returned (.bool (hasI l x)) ∧ Below w.heap.size w w' := by
  obtain ⟨A, c, hblk, hob, hrow, hlc, hown⟩ := hf.open_
  have HR := Lib.hid hrow
  have hlt := hf.lt
  have c00 := (cell_blk hblk).1
  clear hblk hob hrow hown hf
  unfold Itm.val
  go_enter Tryd.func26, Tryd.ntmps26
  go_wp2_with fail
  generalize hW : w.alloc (Obj.cells #[Value.string x.k, Value.int IntKind.i64 x.n, Value.int IntKind.u64 x.h] 35) = W
  have hB : Hid (Below w.heap.size w W) := Lib.hid (by rw [← hW]; exact (Below.refl _ _).alloc (Nat.le_refl _) _)
  have hx0 : W.cell? ⟨w.heap.size, 0, none⟩ = some (.string x.k) := by rw [← hW]; simp
  have hx1 : W.cell? ⟨w.heap.size, 1, none⟩ = some (.int .i64 x.n) := by rw [← hW]; simp
  have hx2 : W.cell? ⟨w.heap.size, 2, none⟩ = some (.int .u64 x.h) := by rw [← hW]; simp
  have c0 : W.cell? ⟨bf, 0, none⟩ = some (.slice A l.length c) := by rw [← hW]; exact (World.cell?_alloc_lt w _ ⟨bf, 0, none⟩ hlt).trans c00
  have hR : Hid (IsRow W A (cellsOf l)) := Lib.hid (HR.out.below hB.out)
  clear hW c00
  go_loopw [5] (fun i wr => ∃ k m : Nat, k ≤ l.length ∧ i = .int .i64 k ∧ wr = W.drewN m ∧ Hid (hasI (l.take k) x = false)) (fun i _ => l.length - (intOf i).toNat)
  case atStart => exact ⟨0, 0, Nat.zero_le _, rfl, rfl, Lib.hid (by simp [hasI])⟩
  case round =>
    obtain ⟨k, m, hk, rfl, rfl, hno⟩ := hrel
    by_cases hlt : k < l.length
    · rcases hR.out with h0 | ⟨b, off, rfl, hc⟩
      · rw [cellsOf_length] at h0; omega
      obtain ⟨d0, d1, d2⟩ := row_item hc k hlt
      clear hc
      have g1 : (0 : Int) ≤ (k : Int) := by omega
      have g2 : (k : Int) < (l.length : Int) := by omega
      have hst := Lib.hid (take_has l x k hlt)
      have hof := Lib.hid (hasI_of l x k hlt)
      generalize l[k] = y at d0 d1 d2 hst hof
      have heq := eq_item y x
      rw [show decide (y = x) = decide (x = y) from by rw [decide_eq_decide]; exact ⟨fun h => h.symm, fun h => h.symm⟩] at heq
      cases hd : decide (x = y)
      all_goals
        rw [hd] at heq
        have HD := Lib.hid hd
        clear hd
        go_wp2_with fail
        go_quiet (fail)
        go_wp2_with fail
      · go_roundw
        case rel => exact ⟨k + 1, _, by omega, by go_num, rfl, Lib.hid (by rw [hst.out, hno.out, HD.out]; rfl)⟩
        case measure => simp [intOf]; omega
      · go_ret
        exact ⟨by rw [hof.out HD.out]; rfl, below_drewN (below_drewN hB.out _) _⟩
    · obtain rfl : k = l.length := by omega
      have hend : Hid (hasI l x = false) := Lib.hid (by have := hno.out; rw [List.take_length] at this; exact this)
      go_wp2_with fail
      go_ret
      exact ⟨by rw [hend.out]; rfl, below_drewN hB.out _⟩
theorem rnew_any (w : World) : Calls Tryd.prog 9 #[] w fun e w' => e = .returned (.pointer (some ⟨w.heap.size, 0, none⟩)) ∧ RFolderW w' w.heap.size w.heap.size none [] ∧ Below w.heap.size w w' := by
  go_enter Tryd.func9, Tryd.ntmps9
  go_wp2_with fail
  go_ret
  exact ⟨rfl, ⟨.slice none 0 0, Nat.le_refl _, rfl, heap_alloc_new w _, World.ownsRow_nil _ _ _ _⟩, (Below.refl _ _).alloc (Nat.le_refl _) _⟩
def RAddPost (B bf : Nat) (ob : Option Nat) (l : List Itm) (x : Itm) (w : World) (e : Ending) (w' : World) : Prop :=
  e = .returned (.int .i64 (addE l x)) ∧ Only (fun k => k = bf ∨ ob = some k) w w' ∧ ∃ ob', RFolderW w' B bf ob' (addL l x) ∧ (ob' = ob ∨ ∃ g, ob' = some g ∧ w.heap.size ≤ g)
theorem RAddPost.same {B bf : Nat} {ob : Option Nat} {l : List Itm} {x : Itm} {w w' : World} (hf : RFolderW w B bf ob l) (hb : Below w.heap.size w w') {n : Nat} (h : addE l x = n ∧ addL l x = l) : RAddPost B bf ob l x w (.returned (.int .i64 n)) w' :=
  ⟨by rw [h.1], Only.of_below hb, ob, by rw [h.2]; exact hf.below hb, .inl rfl⟩
theorem RAddPost.ok {B bf : Nat} {ob : Option Nat} {l : List Itm} {x : Itm} {w w3 w4 : World} {v : Value} {gg cap : Nat} (hf : RFolderW w B bf ob l) (hb : Below w.heap.size w w3)
    (hblk : w3.heap[bf]? = some (.cells #[v] 49 (0, 0))) (hob : v.ownBlock = ob) (o : Obj)
    (hown : w4.ownsRow B 35 3 (.slice (some ⟨gg, 0, none⟩) (l.length + 1) cap) (l.length + 1) (cellsOf l ++ [.string x.k, .int .i64 x.n, .int .u64 x.h]))
    (hg : (w3.alloc o).drew.grownBy w4 v.ownBlock) (hat : v.ownBlock = some gg ∨ gg = w3.heap.size + 1) (hne : v.ownBlock ≠ some bf) (he : addE l x = 0 ∧ addL l x = l ++ [x]) :
    RAddPost B bf ob l x w (.returned (.int .i64 0)) (w4.setCell ⟨bf, 0, none⟩ (.slice (some ⟨gg, 0, none⟩) (l.length + 1) cap)) := by
  have hlt := hf.lt
  have hlt3 : bf < w3.heap.size := (Array.getElem?_eq_some_iff.1 hblk).1
  have hgne : gg ≠ bf := by
    rcases hat with h | h
    · intro e; subst e; exact hne h
    · omega
  have h3 : ∀ k, k < w3.heap.size → some k ≠ v.ownBlock → w4.heap[k]? = w3.heap[k]? := fun k hk hn =>
    (hg.block k (by show k < (w3.alloc o).heap.size; simp; omega) hn).trans (Below.heap_alloc w3 o k hk)
  have hs4 : w3.heap.size ≤ w4.heap.size := by
    have := hg.size
    have e : (w3.alloc o).drew.heap.size = w3.heap.size + 1 := by show (w3.alloc o).heap.size = _; simp
    omega
  refine ⟨by rw [he.1]; rfl, ⟨?_, ?_, ?_, ?_, ?_⟩, some gg, ?_, ?_⟩
  · exact hg.os.trans hb.os
  · exact hg.tape.trans hb.tape
  · exact hg.output.trans hb.output
  · have := hb.size
    simp [World.setCell]; omega
  · intro k hk hS
    rw [Below.heap_setCell _ _ _ _ (fun e => hS (.inl e)), h3 k (by have := hb.size; omega) (fun e => hS (.inr (by rw [← hob, e]))), hb.block k hk]
  · rw [he.2]
    refine ⟨.slice (some ⟨gg, 0, none⟩) (l.length + 1) cap, hf.ge.1, rfl, ?_, ?_⟩
    · have e := (h3 bf hlt3 (fun e => hne e.symm)).trans hblk
      simp [World.setCell, Array.getElem?_modify, e]
    · rw [List.length_append, cellsOf_append, cellsOf_one]
      obtain ⟨a1, a2⟩ := hown
      refine ⟨a1, ?_⟩
      rcases a2 with a2 | ⟨g, cap', cur, hv, hbb, hgg, rest⟩
      · exact .inl a2
      · have hge : g = gg := by simp at hv; exact hv.1.symm
        refine .inr ⟨g, cap', cur, hv, hbb, ?_, rest⟩
        rw [Below.heap_setCell _ _ _ _ (by rw [hge]; exact hgne)]; exact hgg
  · rcases hat with h | h
    · exact .inl (by rw [← hob, h])
    · exact .inr ⟨gg, rfl, by have := hb.size; omega⟩
set_option maxHeartbeats 1600000 in
theorem radd_any (B bf : Nat) (ob : Option Nat) (l : List Itm) (x : Itm) (w : World) (hf : RFolderW w B bf ob l) (hB : B ≤ w.heap.size) (hk : x.k.size ≤ maxLen) (hl : l.length ≤ 16) :
    Calls Tryd.prog 11 #[.pointer (some ⟨bf, 0, none⟩), x.val] w (RAddPost B bf ob l x w) := by
  have hch := Lib.hid (fun w => rcheck_any x.k x.n x.h w hk)
  have HF := Lib.hid hf
  clear hf
  unfold itemZ at hch
  unfold Itm.val
  unfold maxLen at hk
  go_enter Tryd.func11, Tryd.ntmps11
  go_wp2_with fail
  refine (hch.out _).mono ?_
  rintro e w1 ⟨rfl, hb⟩
  have hcell : w1.heap[w.heap.size]? = some (Obj.cells #[.string x.k, .int .i64 x.n, .int .u64 x.h] 35) := by
    rw [hb.block _ (by simp)]; exact (MapKept.heap_alloc w _).1
  have hb' : Hid (Below w.heap.size w w1) := Lib.hid ((Joins.below_alloc1 w _).trans (hb.mono (by simp)))
  clear hb
  have HC := Lib.hid (show chkE x.k x.n = 0 ∨ chkE x.k x.n = 4 ∨ chkE x.k x.n = 5 by unfold chkE; split; simp; split <;> simp)
  have HE := Lib.hid (fun h => addE_chk l x h)
  have HE0 := Lib.hid (fun h => addE_full l x h)
  have HE1 := Lib.hid (fun h => addE_has l x h)
  have HE2 := Lib.hid (fun h => addE_ok l x h)
  generalize hcv : chkE x.k x.n = cv at HC HE HE0 HE1 HE2
  clear hcv
  have HW1 := Lib.hid (HF.out.below hb'.out)
  rcases HC.out with rfl | rfl | rfl
  case inr.inl =>
    go_wp2_with fail
    go_ret
    exact RAddPost.same HF.out hb'.out (HE.out (by omega))
  case inr.inr =>
    go_wp2_with fail
    go_ret
    exact RAddPost.same HF.out hb'.out (HE.out (by omega))
  obtain ⟨A, c, hblk, hob, hrow, hlc, hown⟩ := HW1.out.open_
  have HO := Lib.hid hob
  have HR := Lib.hid hrow
  have HN := Lib.hid hown
  have HBK := Lib.hid hblk
  have c0 := (cell_blk hblk).1
  clear hblk hob hrow hown
  by_cases h16 : 16 ≤ l.length
  · go_wp2_with fail
    go_ret
    exact RAddPost.same HF.out hb'.out (HE0.out (by trivial) h16)
  have hx0 : w1.cell? ⟨w.heap.size, 0, none⟩ = some (.string x.k) := by simp [World.cell?, hcell]
  have hx1 : w1.cell? ⟨w.heap.size, 1, none⟩ = some (.int .i64 x.n) := by simp [World.cell?, hcell]
  have hx2 : w1.cell? ⟨w.heap.size, 2, none⟩ = some (.int .u64 x.h) := by simp [World.cell?, hcell]
  have HX := Lib.hid hcell
  clear hcell
  have hb2 : Hid (Below w.heap.size w w1) := Lib.hid hb'.out
  have hblk2 : w1.heap[bf]? = some (.cells #[.slice A l.length c] 49 (0, 0)) := HBK.out
  have hx2' : w1.heap[w.heap.size]? = some (Obj.cells #[.string x.k, .int .i64 x.n, .int .u64 x.h] 35) := HX.out
  have hr2 : IsRow w1 A (cellsOf l) := HR.out
  have ho2 : w1.ownsRow B 35 3 (.slice A l.length c) l.length (cellsOf l) := HN.out
  have hcon := Lib.hid (rhas_any B bf ob l x w1 HW1.out (by omega))
  clear HX HBK HR HN HW1 hb'
  unfold Itm.val at hcon
  go_wp2_with fail
  refine hcon.out.mono ?_
  rintro e w3 ⟨rfl, hb3⟩
  have hb4 : Hid (Below w.heap.size w w3) := Lib.hid (hb2.out.trans (hb3.mono hb2.out.size))
  have hlt := HF.out.lt
  have hblk3 : Hid (w3.heap[bf]? = some (.cells #[.slice A l.length c] 49 (0, 0))) := Lib.hid (by rw [hb3.block bf (by have := hb2.out.size; omega)]; exact hblk2)
  have hx3 : Hid (w3.heap[w.heap.size]? = some (Obj.cells #[.string x.k, .int .i64 x.n, .int .u64 x.h] 35)) := Lib.hid (by rw [hb3.block _ (by exact (Array.getElem?_eq_some_iff.1 hx2').1)]; exact hx2')
  have ho3 := Lib.hid (own_below (B := B) ho2 hb3)
  clear hb3 hblk2 hx2' hr2 ho2
  cases hh : hasI l x
  case true =>
    have HH := Lib.hid hh
    clear hh
    go_wp2_with fail
    go_ret
    exact RAddPost.same HF.out hb4.out (HE1.out (by trivial) h16 HH.out)
  case false =>
    have HH := Lib.hid (HE2.out (by trivial) h16 hh)
    clear hh HE HE0 HE1 HE2
    obtain ⟨c0, f0⟩ := cell_blk hblk3.out
    have hx0 : w3.cell? ⟨w.heap.size, 0, none⟩ = some (.string x.k) := by simp [World.cell?, hx3.out]
    have hx1 : w3.cell? ⟨w.heap.size, 1, none⟩ = some (.int .i64 x.n) := by simp [World.cell?, hx3.out]
    have hx2 : w3.cell? ⟨w.heap.size, 2, none⟩ = some (.int .u64 x.h) := by simp [World.cell?, hx3.out]
    have hlt3 : bf < w3.heap.size := (Array.getElem?_eq_some_iff.1 hblk3.out).1
    have hltx : w.heap.size < w3.heap.size := (Array.getElem?_eq_some_iff.1 hx3.out).1
    have hne : (Value.slice A l.length c).ownBlock ≠ some bf := own_blk_ne ho3.out hblk3.out (by decide)
    have hnex : Hid ((Value.slice A l.length c).ownBlock ≠ some w.heap.size) := Lib.hid (by
      rw [HO.out]; intro e
      have := (HF.out.ge.2 _ e).2.1; omega)
    obtain ⟨i0, hi0, hz0, hz1, hz2⟩ := info_parts info24
    go_wp2_with fail
    go_region_law
      ((refine step_append_lies _ (by rfl) _ _ _ (by rfl) B 35 i0 _ 3 32 Tryd.underlying22 hi0 hz0 hz1 hz2 rfl (by omega) (.slice A l.length c) l.length (cellsOf l) (by rfl) ((ho3.out.alloc _).drew)
          ⟨w3.heap.size, 0, none⟩ 1 1 [.string x.k, .int .i64 x.n, .int .u64 x.h] (by rfl) (by rfl) (World.news_of_block (cs := #[.string x.k, .int .i64 x.n, .int .u64 x.h]) (t := 35) (fr := (0, 0)) (heap_alloc_new w3 _)) (by simp [Value.oneCell'])
          (by omega) (by unfold maxLen; omega) (by omega) (by simp; omega) (w3.heap.size + 1) (by simp) ?_; intro gg cap w4 hown4 hgrow hat hlt4; have cf4 : w4.cell? ⟨bf, 0, none⟩ = some (.slice A l.length c) := (by rw [hgrow.cell_far _ (by simp; omega) (Ne.symm hne)]; exact (World.cell?_alloc_lt w3 _ ⟨bf, 0, none⟩ hlt3).trans c0); have ff4 : w4.frozen? ⟨bf, 0, none⟩ = false := (by rw [hgrow.frozen_far _ (by simp; omega) (Ne.symm hne)]; show World.frozen? (World.alloc _ _) _ = false; rw [frozen?_alloc_cells]; assumption)))
    all_goals
      go_wp2_with fail
      go_ret
      exact RAddPost.ok HF.out hb4.out hblk3.out HO.out _ hown4 hgrow hat hne HH.out
end Go.Proofs.YtoiddojmlhknlaaDoor
