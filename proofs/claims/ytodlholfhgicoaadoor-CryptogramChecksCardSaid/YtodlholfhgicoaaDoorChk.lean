/- The walks of New, Last and Used. -/
import Derived.Test.YtodlholfhgicoaaDoorMap
import Derived.Carry
namespace Go.Proofs.YtodlholfhgicoaaDoor
set_option linter.unusedVariables false
open Go.RowKit Go.Sort Go.Maps

/-- What is known of the histories of a checker. -/
def GoodM (m : ByteArray → Option Hst) : Prop := ∀ t h, m t = some h → 1 ≤ h.1 ∧ h.1 ≤ 999999
/-- Block bc is a checker. -/
def CkW (w : World) (B bc : Nat) (key : Nat) (win : Int) (m : ByteArray → Option Hst) (sz : Nat) : Prop :=
  ∃ bm, B ≤ bc ∧ B ≤ bm ∧ w.heap[bc]? = some (.cells #[.int .u64 key, .int .i64 win, .map (some bm)] 64) ∧ HMap w bm m sz
theorem CkW.below {w w' : World} {B bc key : Nat} {win : Int} {m : ByteArray → Option Hst} {sz : Nat} (h : CkW w B bc key win m sz) (hb : Below w.heap.size w w') : CkW w' B bc key win m sz := by
  obtain ⟨bm, h1, h2, h3, h4⟩ := h
  exact ⟨bm, h1, h2, blk_later h3 hb, h4.below hb⟩
def NewPost (key : Nat) (win : Int) (w : World) (e : Ending) (w' : World) : Prop := ∃ bc, e = .returned (.tuple #[.pointer (some ⟨bc, 0, none⟩), .int .i64 0]) ∧ CkW w' w.heap.size bc key win (fun _ => none) 0 ∧ Below w.heap.size w w'
set_option maxRecDepth 100000 in
set_option maxHeartbeats 1600000 in
theorem new_ok (key : Nat) (win : Int) (w : World) (h0 : 0 ≤ win) (h1 : win ≤ 63) : Calls Tryd.prog 12 #[.int .u64 key, .int .i64 win] w (NewPost key win w) := by
  have hmm := @run_makeMap Tryd.prog
  have h0' : ¬ win < 0 := by omega
  have h1' : ¬ 63 < win := by omega
  have HM := Lib.hid ((HMap.made w).below (alloc_lt (w.alloc (.map #[] 0)) (.cells #[.int .u64 key, .int .i64 win, .map (some w.heap.size)] 64)))
  have HK : Hid (((w.alloc (.map #[] 0)).alloc (.cells #[.int .u64 key, .int .i64 win, .map (some w.heap.size)] 64)).heap[w.heap.size + 1]? = some (.cells #[.int .u64 key, .int .i64 win, .map (some w.heap.size)] 64)) := Lib.hid (heap_alloc2_new w _ _)
  go_enter Tryd.func12, Tryd.ntmps12
  go_wp2_with fail
  go_ret2
  exact ⟨w.heap.size + 1, rfl, ⟨w.heap.size, by omega, Nat.le_refl _, HK.out, HM.out⟩, (alloc_lt _ _).alloc (by simp) _⟩
set_option maxRecDepth 100000 in
theorem new_bad (key : Nat) (win : Int) (w : World) (h0 : win < 0 ∨ 63 < win) : Calls Tryd.prog 12 #[.int .u64 key, .int .i64 win] w fun e w' => e = .returned (.tuple #[.pointer none, .int .i64 4]) ∧ w = w' := by
  have hc : win < 0 ∨ (¬ win < 0 ∧ 63 < win) := by omega
  clear h0
  rcases hc with h | ⟨h, h'⟩
  all_goals
    go_enter Tryd.func12, Tryd.ntmps12
    go_wp2_with fail
    go_ret2
    exact ⟨rfl, rfl⟩
set_option maxRecDepth 100000 in
theorem field_last (cs : Array Value) (v : Value) (hv : cs[0]? = some v) (w : World) : (Instr.field 71 (.agg cs) 0).run Tryd.prog w = .ok v w := by
  simp [Instr.field, run_underlying Tryd.underlying71, go_sem, asAgg, Result.andThen, hv]
def lastM (m : ByteArray → Option Hst) (t : ByteArray) : Int := (histOf (m t)).1
set_option maxRecDepth 100000 in
set_option maxHeartbeats 1600000 in
theorem last_any (B bc key : Nat) (win : Int) (m : ByteArray → Option Hst) (sz : Nat) (t : ByteArray) (w : World) (hck : CkW w B bc key win m sz) (ht : t.size ≤ maxLen) :
    Calls Tryd.prog 16 #[.pointer (some ⟨bc, 0, none⟩), .string t] w fun e w' => e = .returned (.int .i64 (lastM m t)) ∧ w = w' := by
  obtain ⟨bm, -, -, h3, h4⟩ := hck
  have hlk := h4.look t ht
  have c2 := cell_c h3 2
  have hf : ∀ W, (Instr.field 71 (.agg (histC (histOf (m t)).1 (histOf (m t)).2)) 0).run Tryd.prog W = .ok (.int .i64 (lastM m t)) W := fun W => field_last _ _ (histC_0 _ _) W
  clear h3 h4
  go_enter Tryd.func16, Tryd.ntmps16
  go_wp2_with fail
  go_ret
  exact ⟨rfl, rfl⟩
theorem last_nil (t : ByteArray) (w : World) : Calls Tryd.prog 16 #[.pointer none, .string t] w fun e w' => e = .returned (.int .i64 0) ∧ w = w' := by
  go_enter Tryd.func16, Tryd.ntmps16
  go_wp2_with fail
  go_ret
  exact ⟨rfl, rfl⟩
theorem used_nil (t : ByteArray) (c : Int) (w : World) : Calls Tryd.prog 18 #[.pointer none, .string t, .int .i64 c] w fun e w' => e = .returned (.bool false) ∧ w = w' := by
  go_enter Tryd.func18, Tryd.ntmps18
  go_wp2_with fail
  go_ret
  exact ⟨rfl, rfl⟩
theorem load71 (n : Int) (f : Nat → Bool) (b : Nat) (W : World) (h : W.heap[b]? = some (.cells (histC n f) 71)) : (Instr.loadAt 71 (.pointer (some ⟨b, 0, none⟩))).run Tryd.prog W = .ok (.agg (histC n f)) W := by
  simp only [Instr.loadAt, Instr.sureAddr, Sem.run_bind, Sem.run_pure, Result.andThen_ok, run_loadVar_row W b 71 71 (histC n f) _ _ h Tryd.underlying71 rfl (info71h n f)]
theorem yields_row {ops : Array Oper} {S : World → Prop} {op : Oper} {a : Act} (hw : Region.wanted op (yielded ops a.tmps) = true) (x : Operand) (ho : op.op = .load 71 x)
    (b : Nat) (hx : a.eval x = .pointer (some ⟨b, 0, none⟩)) (n : Int) (f : Nat → Bool) (hS : ∀ w, S w → w.heap[b]? = some (.cells (histC n f) 71)) : YieldsIf Tryd.prog ops S op (.agg (histC n f)) a :=
  .inl ⟨hw, fun w hw' => by
    unfold execOp
    simp only [ho, hx, load71 n f b w (hS w hw'), Sem.run_bind, Sem.run_pure, Result.andThen_ok]⟩
theorem keep18 {W w' : World} {b bc : Nat} {cs ds : Array Value} {t u : TypeId} {win : Int} (hb : Below W.heap.size W w') (h1 : W.heap[b]? = some (.cells cs t)) (h2 : W.heap[bc]? = some (.cells ds u)) (h3 : ds[1]? = some (.int .i64 win) := by rfl) :
    Below W.heap.size W w' ∧ w'.heap[b]? = some (.cells cs t) ∧ w'.cell? ⟨bc, 1, none⟩ = some (.int .i64 win) :=
  ⟨hb, blk_later h1 hb, (cell_c (blk_later h2 hb) 1).trans h3⟩
def usedM (m : ByteArray → Option Hst) (t : ByteArray) (c win : Int) : Bool := (m t).isSome && usedB (histOf (m t)).1 (histOf (m t)).2 c win
set_option maxRecDepth 100000 in
set_option maxHeartbeats 3200000 in
theorem usedM_any (B bc key : Nat) (win : Int) (m : ByteArray → Option Hst) (sz : Nat) (t : ByteArray) (c : Int) (w : World) (hck : CkW w B bc key win m sz) (hg : GoodM m) (ht : t.size ≤ maxLen) (h0 : 0 ≤ win) (h1 : win ≤ 63) (hc : -9223372036854775808 ≤ c) :
    Calls Tryd.prog 18 #[.pointer (some ⟨bc, 0, none⟩), .string t, .int .i64 c] w fun e w' => e = .returned (.bool (usedM m t c win)) ∧ Below w.heap.size w w' := by
  obtain ⟨bm, -, -, h3, h4⟩ := hck
  have hlk := h4.look_ok t ht
  have c2 := cell_c h3 2
  have hU : usedM m t c win = ((m t).isSome && usedB (histOf (m t)).1 (histOf (m t)).2 c win) := rfl
  have hgood : (m t).isSome = true → 1 ≤ (histOf (m t)).1 ∧ (histOf (m t)).1 ≤ 999999 := fun h => by
    obtain ⟨x, hx⟩ := Option.isSome_iff_exists.1 h
    rw [hx]; exact hg t x hx
  generalize (histOf (m t)).1 = n at *
  generalize (histOf (m t)).2 = f at *
  have HA := Lib.hid (MapKept.heap_alloc w (.cells Tryd.zeroCells71 71)).1
  have hk3 := blk_later h3 (alloc_lt w (.cells Tryd.zeroCells71 71))
  obtain ⟨W, hW⟩ : ∃ W, (w.alloc (.cells Tryd.zeroCells71 71)).setRow w.heap.size (histC n f) = W := ⟨_, rfl⟩
  have hbW : Below w.heap.size w W := by rw [← hW]; exact below_setRow (alloc_lt _ _) (Nat.le_refl _) _
  have hrow : W.heap[w.heap.size]? = some (.cells (histC n f) 71) := by rw [← hW]; exact setRow_heap _ _ _ _ _ _ HA.out
  have HROW := Lib.hid hrow
  have k1 := cell_c (blk_later h3 hbW) 1
  have HBW0 := Lib.hid hbW
  have HK3 := Lib.hid (blk_later h3 hbW)
  have HW := Lib.hid hW
  cases hs : (m t).isSome
  · rw [hs] at hU hlk
    have HU := Lib.hid hU
    clear hU hs hgood h3 h4 hk3 hrow hbW hW
    go_enter Tryd.func18, Tryd.ntmps18
    go_wp2_with (refine wpList_store_row rfl 71 _ _ rfl w.heap.size (histC n f) rfl rfl 71 _ HA.out (info71h n _) (by rw [histC_size, zero_hist, histC_size]) (histC_one n _) ?_)
    rw [HW.out]
    go_quiet (fail)
    go_wp2_with fail
    go_ret
    exact ⟨by rw [HU.out]; rfl, dNb HBW0.out _⟩
  · rw [hs] at hU hlk hgood
    obtain ⟨g1, g2⟩ := hgood rfl
    have HUS := Lib.hid (fun W => used_any n f c win W (by omega) (by omega) hc h0 h1)
    have HU : Hid (usedM m t c win = usedB n f c win) := Lib.hid (by rw [hU]; rfl)
    have HBW : Hid (Below W.heap.size W W) := Lib.hid ⟨rfl, rfl, rfl, Nat.le_refl _, fun _ _ => rfl⟩
    clear hU hs hgood h3 h4 hk3 hrow hbW hW
    go_enter Tryd.func18, Tryd.ntmps18
    go_wp2_with (refine wpList_store_row rfl 71 _ _ rfl w.heap.size (histC n f) rfl rfl 71 _ HA.out (info71h n _) (by rw [histC_size, zero_hist, histC_size]) (histC_one n _) ?_)
    rw [HW.out]
    refine wp_region_held_drew (S := fun w' => Below W.heap.size W w' ∧ w'.heap[w.heap.size]? = some (.cells (histC n f) 71) ∧ w'.cell? ⟨bc, 1, none⟩ = some (.int .i64 win)) (by kernel_rfl) ?_ (fun hHeld => ?_)
    · exact keep18 (dNb HBW.out 1) HROW.out HK3.out
    have HH := Lib.hid hHeld
    refine wpAnyH_take (i := 0) (oi := { dst := some 20, op := Op.move (Operand.tmp 8), type := 4, pos := "cryptogram.go:139", after := #[], guard := none }) (v := .bool true) rfl (by kernel_rfl) (by kernel_rfl) (by kernel_rfl) (fun _ _ _ h => h) (Or.inl ⟨by rfl, by intro w hSw; (try dsimp only at hSw); go_simp⟩) (by assumption) ?_
    simp only [Act.put, List.setIfInBounds_toArray, List.set_cons_zero, List.set_cons_succ]
    refine wpAnyH_take (i := 1) (oi := { dst := some 21, op := Op.move (Operand.tmp 20), type := 4, pos := "cryptogram.go:139", after := #[{ on := 0, ground := Ground.data }], guard := none }) (v := .bool true) rfl (by kernel_rfl) (by kernel_rfl) (by kernel_rfl) (fun _ _ _ h => h) (Or.inl ⟨by rfl, by intro w hSw; (try dsimp only at hSw); go_simp⟩) (by assumption) ?_
    simp only [Act.put, List.setIfInBounds_toArray, List.set_cons_zero, List.set_cons_succ]
    refine wpAnyH_take (i := 2) (oi := { dst := some 22, op := Op.load 71 (Operand.tmp 7), type := 71, pos := "cryptogram.go:139", after := #[{ on := 1, ground := Ground.guard }], guard := some (1, true) }) (v := _) rfl (by kernel_rfl) (by kernel_rfl) (by kernel_rfl) (fun _ _ _ h => h) (yields_row (by rfl) _ rfl w.heap.size rfl n f (fun _ h => h.2.1)) (by assumption) ?_
    simp only [Act.put, List.setIfInBounds_toArray, List.set_cons_zero, List.set_cons_succ]
    refine wpAnyH_take (i := 3) (oi := { dst := some 23, op := Op.move (Operand.tmp 2), type := 3, pos := "cryptogram.go:139", after := #[{ on := 1, ground := Ground.guard }], guard := some (1, true) }) (v := .int .i64 c) rfl (by kernel_rfl) (by kernel_rfl) (by kernel_rfl) (fun _ _ _ h => h) (Or.inl ⟨by rfl, by intro w hSw; (try dsimp only at hSw); go_simp⟩) (by assumption) ?_
    simp only [Act.put, List.setIfInBounds_toArray, List.set_cons_zero, List.set_cons_succ]
    refine wpAnyH_take (i := 4) (oi := { dst := some 24, op := Op.move (Operand.tmp 0), type := 32, pos := "cryptogram.go:139", after := #[{ on := 1, ground := Ground.guard }], guard := some (1, true) }) (v := .pointer (some ⟨bc, 0, none⟩)) rfl (by kernel_rfl) (by kernel_rfl) (by kernel_rfl) (fun _ _ _ h => h) (Or.inl ⟨by rfl, by intro w hSw; (try dsimp only at hSw); go_simp⟩) (by assumption) ?_
    simp only [Act.put, List.setIfInBounds_toArray, List.set_cons_zero, List.set_cons_succ]
    refine wpAnyH_take (i := 5) (oi := { dst := some 25, op := Op.nilCheck (Operand.tmp 24), type := 0, pos := "cryptogram.go:139", after := #[{ on := 4, ground := Ground.data }, { on := 1, ground := Ground.guard }], guard := some (1, true) }) (v := .pointer (some ⟨bc, 0, none⟩)) rfl (by kernel_rfl) (by kernel_rfl) (by kernel_rfl) (fun _ _ _ h => h) (Or.inl ⟨by rfl, by intro w hSw; (try dsimp only at hSw); go_simp⟩) (by assumption) ?_
    simp only [Act.put, List.setIfInBounds_toArray, List.set_cons_zero, List.set_cons_succ]
    refine wpAnyH_take (i := 6) (oi := { dst := some 26, op := Op.fieldAddr 64 (Operand.tmp 25) 1, type := 0, pos := "cryptogram.go:139", after := #[{ on := 5, ground := Ground.data }, { on := 1, ground := Ground.guard }], guard := some (1, true) }) (v := .pointer (some ⟨bc, 1, none⟩)) rfl (by kernel_rfl) (by kernel_rfl) (by kernel_rfl) (fun _ _ _ h => h) (Or.inl ⟨by rfl, by intro w hSw; (try dsimp only at hSw); go_simp⟩) (by assumption) ?_
    simp only [Act.put, List.setIfInBounds_toArray, List.set_cons_zero, List.set_cons_succ]
    refine wpAnyH_take (i := 7) (oi := { dst := some 27, op := Op.load 3 (Operand.tmp 26), type := 3, pos := "cryptogram.go:139", after := #[{ on := 6, ground := Ground.data }, { on := 1, ground := Ground.guard }], guard := some (1, true) }) (v := .int .i64 win) rfl (by kernel_rfl) (by kernel_rfl) (by kernel_rfl) (fun _ _ _ h => h) (Or.inl ⟨by rfl, by intro w hSw; (try dsimp only at hSw); go_simp⟩) (by assumption) ?_
    simp only [Act.put, List.setIfInBounds_toArray, List.set_cons_zero, List.set_cons_succ]
    refine wpAnyH_ready (rs := [8]) (by kernel_rfl) (by simp) ?_
    refine AllReadyH.cons (o := { dst := some 28, op := Op.call { callee := Callee.value (Operand.func 37), args := #[Operand.tmp 22, Operand.tmp 23, Operand.tmp 27], argTypes := #[71, 3, 3] }, type := 4, pos := "cryptogram.go:139", after := #[{ on := 2, ground := Ground.data }, { on := 3, ground := Ground.data }, { on := 7, ground := Ground.data }, { on := 1, ground := Ground.chain }, { on := 1, ground := Ground.guard }], guard := some (1, true) }) rfl (fun K hK => ?_) AllReadyH.nil
    go_simp
    go_at_call 37
    refine (HUS.out _).mono ?_
    rintro e w' ⟨rfl, hb⟩
    have HB2 := Lib.hid (HBW.out.trans ((dNb HBW.out 1).trans hb))
    clear hb
    go_wp2_with fail
    refine hK.out _ _ ?_ (fun hHeld => ?_)
    · exact keep18 HB2.out HROW.out HK3.out
    clear hK K
    try simp only [Act.put, List.setIfInBounds_toArray, List.set_cons_zero, List.set_cons_succ]
    refine wpAnyH_take (i := 9) (oi := { dst := some 29, op := Op.pick (Operand.tmp 21) (Operand.tmp 28) (Operand.const (Value.bool false)), type := 4, pos := "cryptogram.go:139", after := #[{ on := 1, ground := Ground.data }, { on := 8, ground := Ground.data }], guard := none }) (v := .bool (usedB n f c win)) rfl (by kernel_rfl) (by kernel_rfl) (by kernel_rfl) (fun _ _ _ h => h) (Or.inl ⟨by rfl, by intro w hSw; (try dsimp only at hSw); go_simp⟩) (by assumption) ?_
    simp only [Act.put, List.setIfInBounds_toArray, List.set_cons_zero, List.set_cons_succ]
    refine wpAnyH_take (i := 10) (oi := { dst := some 6, op := Op.assign (Operand.tmp 29), type := 4, pos := "cryptogram.go:139", after := #[{ on := 9, ground := Ground.data }, { on := 8, ground := Ground.chain }, { on := 0, ground := Ground.phase }, { on := 1, ground := Ground.phase }, { on := 2, ground := Ground.phase }, { on := 3, ground := Ground.phase }, { on := 4, ground := Ground.phase }, { on := 5, ground := Ground.phase }, { on := 6, ground := Ground.phase }, { on := 7, ground := Ground.phase }, { on := 8, ground := Ground.phase }, { on := 9, ground := Ground.phase }], guard := none }) (v := .bool (usedB n f c win)) rfl (by kernel_rfl) (by kernel_rfl) (by kernel_rfl) (fun _ _ _ h => h) (Or.inl ⟨by rfl, by intro w hSw; (try dsimp only at hSw); go_simp⟩) (by assumption) ?_
    simp only [Act.put, List.setIfInBounds_toArray, List.set_cons_zero, List.set_cons_succ]
    refine wpAnyH_done (by kernel_rfl) ?_ _
    go_wp2_with fail
    go_ret
    exact ⟨by rw [HU.out]; rfl, HBW0.out.trans (HB2.out.mono HBW0.out.size)⟩
end Go.Proofs.YtodlholfhgicoaaDoor
