/- The walk of Check. -/
import Derived.Test.YtodlholfhgicoaaDoorChk
import Derived.Test.YtodlholfhgicoaaDoorMak2
namespace Go.Proofs.YtodlholfhgicoaaDoor
set_option linter.unusedVariables false
open Go.RowKit Go.Sort Go.Maps

theorem ba_same (s t : ByteArray) (h : s = t) : (s.toList == t.toList) = true := by rw [h]; simp
theorem ba_diff (s t : ByteArray) (h : s ≠ t) : (s.toList == t.toList) = false := by
  rw [beq_eq_false_iff_ne]
  intro e
  apply h
  rw [ByteArray.toList_eq, ByteArray.toList_eq] at e
  exact ByteArray.ext (Array.ext' e)
theorem HMap.isMap {w : World} {b : Nat} {m : ByteArray → Option Hst} {sz : Nat} (h : HMap w b m sz) : ∃ es clock, w.heap[b]? = some (.map es clock) := by
  obtain ⟨D, h1, _⟩ := h
  obtain ⟨es, clock, hb, _⟩ := h1
  exact ⟨es, clock, hb⟩
/-- What a history is after counter c. -/
def newH (h : Hst) (c : Int) : Hst := if c ≤ h.1 then (h.1, fun i => if i = (h.1 - c).toNat then true else h.2 i) else (c, accF (c - h.1).toNat h.2)
def CkPost (B bc key : Nat) (win : Int) (m : ByteArray → Option Hst) (sz : Nat) (token : ByteArray) (c : Int) (E : Int) (w : World) (e : Ending) (w' : World) : Prop :=
  e = .returned (.int .i64 E) ∧ CkW w' B bc key win (if E = 0 then updM m token (newH (histOf (m token)) c) else m) (if E = 0 ∧ (m token).isSome = false then sz + 1 else sz) ∧ Below B w w'
theorem acc_any (n : Int) (f : Nat → Bool) (c : Int) (w : World) (hn : 0 ≤ n) (hn2 : n ≤ 999999) (c1 : 1 ≤ c) (c2 : c ≤ 999999) (hd : c ≤ n → n - c < 64) :
    Calls Tryd.prog 38 #[.agg (histC n f), .int .i64 c] w fun e w' => e = .returned (.agg (histC (newH (n, f) c).1 (newH (n, f) c).2)) ∧ Below w.heap.size w w' := by
  unfold newH
  by_cases h : c ≤ n
  · rw [if_pos h]
    have := hd h
    exact acc_low n f c w (n - c).toNat (by omega) (by omega) hn (by omega)
  · rw [if_neg h]
    exact acc_high n f c w (c - n).toNat (by omega) (by omega) hn (by omega)
theorem grown_below {w w5 w6 : World} {B bq : Nat} (hb : Below w.heap.size w w5) (hg : w5.grownBy w6 (some bq)) (h1 : B ≤ bq) (h2 : B ≤ w.heap.size) : Below B w w6 := by
  refine (hb.mono h2).trans ⟨hg.os, hg.tape, hg.output, hg.size, fun k hk => hg.block k ?_ ?_⟩
  · have := hb.size; omega
  · intro e; injection e with e; omega
theorem grown_blk {w5 w6 : World} {b bq : Nat} {o : Obj} (hg : w5.grownBy w6 (some bq)) (h : w5.heap[b]? = some o) (hne : b ≠ bq) : w6.heap[b]? = some o := by
  rw [hg.block b (Array.getElem?_eq_some_iff.1 h).1 (fun e => hne (Option.some.inj e))]; exact h
theorem ck_put {w w5 w6 : World} {B bc bq key : Nat} {win : Int} {m : ByteArray → Option Hst} {sz : Nat} {token : ByteArray} {c : Int} {h : Hst} (b1 : B ≤ bc) (b2 : B ≤ bq) (hbc : bc < w.heap.size) (hb : Below w.heap.size w w5) (hg : w5.grownBy w6 (some bq))
    (h6 : w6.heap[bc]? = some (.cells #[.int .u64 key, .int .i64 win, .map (some bq)] 64)) (hm : HMap w6 bq (updM m token h) (if (m token).isSome then sz else sz + 1)) (hh : newH (histOf (m token)) c = h) :
    CkPost B bc key win m sz token c 0 w (.returned (.int .i64 0)) w6 := by
  refine ⟨rfl, ⟨bq, b1, b2, h6, ?_⟩, grown_below hb hg b2 (by omega)⟩
  rw [if_pos rfl, hh]
  have e : (if (0 : Int) = 0 ∧ (m token).isSome = false then sz + 1 else sz) = if (m token).isSome then sz else sz + 1 := by
    cases (m token).isSome <;> simp
  rw [e]; exact hm
theorem check_nil (token : ByteArray) (c a : Int) (cur nonce code : ByteArray) (w : World) : Calls Tryd.prog 14 #[.pointer none, .string token, .int .i64 c, .agg #[.int .i64 a, .string cur], .string nonce, .string code] w fun e w' => e = .returned (.int .i64 6) ∧ Below w.heap.size w w' := by
  have HB := Lib.hid (alloc_lt w (.cells #[.int .i64 a, .string cur] 24))
  go_enter Tryd.func14, Tryd.ntmps14
  go_wp2_with fail
  go_ret
  exact ⟨rfl, HB.out⟩
def ckE (key : Nat) (win : Int) (m : ByteArray → Option Hst) (sz : Nat) (token : ByteArray) (c a : Int) (cur nonce code : ByteArray) : Int :=
  if mkE token c a cur nonce ≠ 0 then mkE token c a cur nonce else if code ≠ mkV key token c a cur nonce then 19 else if usedM m token c win = true then 15 else if (m token).isSome = false ∧ 64 ≤ sz then 12 else 0
theorem ck_same {w w' : World} {B bc key : Nat} {win : Int} {m : ByteArray → Option Hst} {sz : Nat} {token : ByteArray} {c E : Int} (h : CkW w B bc key win m sz) (hb : Below w.heap.size w w') (hE : E ≠ 0) : CkPost B bc key win m sz token c E w (.returned (.int .i64 E)) w' := by
  refine ⟨rfl, ?_, hb.mono ?_⟩
  · rw [if_neg hE, if_neg (fun q => hE q.1)]; exact h.below hb
  · obtain ⟨bm, q1, q2, q3, q4⟩ := h
    have := (Array.getElem?_eq_some_iff.1 q3).1
    omega
theorem keep14 {W w' : World} {bb bc : Nat} {ds : Array Value} {u t : TypeId} {key : Nat} {a : Int} {cur : ByteArray} (hb : Below W.heap.size W w') (h1 : W.heap[bb]? = some (.cells #[.int .i64 a, .string cur] t)) (h2 : W.heap[bc]? = some (.cells ds u)) (h3 : ds[0]? = some (.int .u64 key) := by rfl) :
    Below W.heap.size W w' ∧ w'.cell? ⟨bb, 0, none⟩ = some (.int .i64 a) ∧ w'.cell? ⟨bb, 1, none⟩ = some (.string cur) ∧ w'.cell? ⟨bc, 0, none⟩ = some (.int .u64 key) :=
  ⟨hb, cell_c (blk_later h1 hb) 0, cell_c (blk_later h1 hb) 1, (cell_c (blk_later h2 hb) 0).trans h3⟩
/-- Blocks of cells are kept. -/
def KeepC (w w' : World) : Prop := ∀ (b : Nat) (cs : Array Value) (t : TypeId), w.heap[b]? = some (.cells cs t) → w'.heap[b]? = some (.cells cs t)
def CkPost2 (B bc key : Nat) (win : Int) (m : ByteArray → Option Hst) (sz : Nat) (token : ByteArray) (c : Int) (E : Int) (w : World) (e : Ending) (w' : World) : Prop := CkPost B bc key win m sz token c E w e w' ∧ KeepC w w'
theorem ck_same2 {w w' : World} {B bc key : Nat} {win : Int} {m : ByteArray → Option Hst} {sz : Nat} {token : ByteArray} {c E : Int} (h : CkW w B bc key win m sz) (hb : Below w.heap.size w w') (hE : E ≠ 0) : CkPost2 B bc key win m sz token c E w (.returned (.int .i64 E)) w' :=
  ⟨ck_same h hb hE, fun b cs t hh => blk_later hh hb⟩
theorem ck_put2 {w w5 w6 : World} {B bc bq key : Nat} {win : Int} {m : ByteArray → Option Hst} {sz : Nat} {token : ByteArray} {c : Int} {h : Hst} (hmap : ∃ es cl, w5.heap[bq]? = some (.map es cl)) (b1 : B ≤ bc) (b2 : B ≤ bq) (hbc : bc < w.heap.size) (hb : Below w.heap.size w w5) (hg : w5.grownBy w6 (some bq))
    (h6 : w6.heap[bc]? = some (.cells #[.int .u64 key, .int .i64 win, .map (some bq)] 64)) (hm : HMap w6 bq (updM m token h) (if (m token).isSome then sz else sz + 1)) (hh : newH (histOf (m token)) c = h) :
    CkPost2 B bc key win m sz token c 0 w (.returned (.int .i64 0)) w6 := by
  refine ⟨ck_put b1 b2 hbc hb hg h6 hm hh, fun b cs t q => ?_⟩
  have q5 := blk_later q hb
  refine grown_blk hg q5 (fun e => ?_)
  obtain ⟨es, cl, h5⟩ := hmap
  rw [e, h5] at q5; cases q5
set_option maxRecDepth 100000 in
set_option maxHeartbeats 6400000 in
theorem check_any2 (B bc key : Nat) (win : Int) (m : ByteArray → Option Hst) (sz : Nat) (token : ByteArray) (c a : Int) (cur nonce code : ByteArray) (w : World) (hck : CkW w B bc key win m sz) (hg : GoodM m) (hw : KW w) (hk : key < M64)
    (w0 : 0 ≤ win) (w1 : win ≤ 63) (h1 : token.size ≤ maxLen) (h2 : cur.size ≤ maxLen) (h3 : nonce.size ≤ maxLen) (h4 : code.size ≤ maxLen) (hsz : sz ≤ 64) :
    Calls Tryd.prog 14 #[.pointer (some ⟨bc, 0, none⟩), .string token, .int .i64 c, .agg #[.int .i64 a, .string cur], .string nonce, .string code] w (CkPost2 B bc key win m sz token c (ckE key win m sz token c a cur nonce code) w) := by
  have HMK := Lib.hid (fun W hW => make_any key token c a cur nonce W hW hk h1 h2 h3)
  have HE : Hid (ckE key win m sz token c a cur nonce code = if mkE token c a cur nonce ≠ 0 then mkE token c a cur nonce else if code ≠ mkV key token c a cur nonce then 19 else if usedM m token c win = true then 15 else if (m token).isSome = false ∧ 64 ≤ sz then 12 else 0) := Lib.hid rfl
  have hcE : mkE token c a cur nonce = 0 → 1 ≤ c ∧ c ≤ 999999 := fun h => by
    unfold mkE at h
    split at h
    · omega
    · split at h
      · omega
      · omega
  have HCE := Lib.hid hcE
  unfold MkPost at HMK
  have HLT := Lib.hid (show bc < w.heap.size by obtain ⟨_, _, _, q, _⟩ := hck; exact (Array.getElem?_eq_some_iff.1 q).1)
  have HCK := Lib.hid hck
  have HKW := Lib.hid hw
  obtain ⟨bm, b1, b2, b3, b4⟩ := hck
  have HB1 := Lib.hid (alloc_lt w (.cells #[.int .i64 a, .string cur] 24))
  have K1 := Lib.hid (heap_alloc_new w (.cells #[.int .i64 a, .string cur] 24))
  have K2 := Lib.hid (blk_later b3 HB1.out)
  have a0 := cell_c K1.out 0
  have a1 := cell_c K1.out 1
  have a2 := cell_c K2.out 0
  have HBM := Lib.hid (And.intro b1 b2)
  have HG := Lib.hid hg
  clear hw b1 b2 b3 b4 hcE hg
  generalize mkE token c a cur nonce = E at *
  generalize mkV key token c a cur nonce = V at *
  generalize hW : w.alloc (.cells #[.int .i64 a, .string cur] 24) = W at *
  go_enter Tryd.func14, Tryd.ntmps14
  go_wp2_with fail
  have HBW : Hid (Below W.heap.size W W.drew) := Lib.hid ((Below.refl _ _).drew)
  go_region_held3 (fun w' => Below W.heap.size W w' ∧ w'.cell? ⟨w.heap.size, 0, none⟩ = some (.int .i64 a) ∧ w'.cell? ⟨w.heap.size, 1, none⟩ = some (.string cur) ∧ w'.cell? ⟨bc, 0, none⟩ = some (.int .u64 key))
    (exact keep14 HBW.out K1.out K2.out)
    ((go_at_call 10; refine (HMK.out _ (HKW.out.below (HB1.out.trans (HBW.out.mono HB1.out.size)))).mono ?_; rintro e w' ⟨rfl, hb⟩; have HBW := Lib.hid (HBW.out.trans (hb.mono HBW.out.size)); clear hb))
  rename_i w2 _
  have HB2 := Lib.hid (HB1.out.trans (HBW.out.mono HB1.out.size))
  have HCK2 := Lib.hid (HCK.out.below HB2.out)
  clear a0 a1 a2
  by_cases hE : E = 0
  · subst hE
    obtain ⟨c1, c2⟩ := HCE.out rfl
    by_cases hV : code = V
    · subst hV
      have HE : Hid (ckE key win m sz token c a cur nonce code = if usedM m token c win = true then 15 else if (m token).isSome = false ∧ 64 ≤ sz then 12 else 0) := Lib.hid (by rw [HE.out, if_neg (by simp), if_neg (by simp)])
      have hq := ba_same code code rfl
      have HCKc := HCK2.out
      obtain ⟨bq, b1, b2, b3, b4⟩ := HCKc
      have hlk := b4.look_ok token h1
      have c2' := cell_c b3 2
      have hU : usedM m token c win = ((m token).isSome && usedB (histOf (m token)).1 (histOf (m token)).2 c win) := rfl
      have hgood : (m token).isSome = true → 1 ≤ (histOf (m token)).1 ∧ (histOf (m token)).1 ≤ 999999 := fun h => by
        obtain ⟨x, hx⟩ := Option.isSome_iff_exists.1 h
        rw [hx]; exact HG.out token x hx
      have hnone : (m token).isSome = false → (histOf (m token)).1 = 0 := fun h => by
        rw [Option.isSome_eq_false_iff, Option.isNone_iff_eq_none] at h
        rw [h]; rfl
      have HNEW : Hid (newH (histOf (m token)) c = newH ((histOf (m token)).1, (histOf (m token)).2) c) := Lib.hid rfl
      generalize (histOf (m token)).1 = n at *
      generalize (histOf (m token)).2 = f at *
      have HA := Lib.hid (MapKept.heap_alloc w' (.cells Tryd.zeroCells71 71)).1
      obtain ⟨W3, hW3⟩ : ∃ W3, (w'.alloc (.cells Tryd.zeroCells71 71)).setRow w'.heap.size (histC n f) = W3 := ⟨_, rfl⟩
      have hbW : Below w'.heap.size w' W3 := by rw [← hW3]; exact below_setRow (alloc_lt _ _) (Nat.le_refl _) _
      have hrow : W3.heap[w'.heap.size]? = some (.cells (histC n f) 71) := by rw [← hW3]; exact setRow_heap _ _ _ _ _ _ HA.out
      have HROW := Lib.hid hrow
      have HB3 := Lib.hid (HB2.out.trans (hbW.mono HB2.out.size))
      have HK3 := Lib.hid (blk_later b3 hbW)
      have k1 := cell_c HK3.out 1
      have k2 := cell_c HK3.out 2
      have HMP := Lib.hid (b4.below hbW)
      have hlen : ∀ k ty, (Builtin.len_ #[62] ty #[.map (some bq)]).run Tryd.prog (W3.drewN k) = .ok (.int .i64 sz) (W3.drewN k) := fun k ty => (HMP.out.below (dNb (Below.refl _ W3) k)).len ty
      have HW3 := Lib.hid hW3
      have HBQ := Lib.hid (And.intro b1 b2)
      have hmq : ∀ W, (binOp .eql 62 (.map (some bq)) (.map none)).run Tryd.prog W = .ok (.bool false) W := fun W => run_eql_map_nil W _ _ _ (some bq) Tryd.underlying62
      cases hs : (m token).isSome
      · rw [hs] at hU hlk
        have hn0 := hnone hs
        subst hn0
        have HE : Hid (ckE key win m sz token c a cur nonce code = if 64 ≤ sz then 12 else 0) := Lib.hid (by
          rw [HE.out, hU, hs]
          by_cases q : 64 ≤ sz
          · rw [if_pos q, if_neg (by simp), if_pos ⟨rfl, q⟩]
          · rw [if_neg q, if_neg (by simp), if_neg (fun x => q x.2)])
        have HS := Lib.hid hs
        clear hU hs hgood hnone b1 b2 b3 b4 hrow hbW hW3
        go_wp2_with (refine wpList_store_row rfl 71 _ _ rfl w'.heap.size (histC 0 f) rfl rfl 71 _ HA.out (info71h 0 _) (by rw [histC_size, zero_hist, histC_size]) (histC_one 0 _) ?_)
        rw [HW3.out]
        go_quiet (fail)
        by_cases q : 64 ≤ sz
        · have q' : (64 : Int) ≤ (sz : Int) := by omega
          go_wp2_with fail
          go_ret
          have HE : Hid (ckE key win m sz token c a cur nonce code = 12) := Lib.hid (by rw [HE.out, if_pos q])
          rw [HE.out]
          exact ck_same2 HCK.out (dNb HB3.out _) (by decide)
        · have q' : ¬ (64 : Int) ≤ (sz : Int) := by omega
          go_wp2_with fail
          have HE0 : Hid (ckE key win m sz token c a cur nonce code = 0) := Lib.hid (by rw [HE.out, if_neg q])
          have HCN : Hid (c ≤ 0 → 0 - c < 64) := Lib.hid (fun h => by omega)
          have HV := Lib.hid (dNb (Below.refl W3.heap.size W3) nq)
          have HAC := Lib.hid (fun W => acc_any 0 f c W (by omega) (by omega) c1 c2 HCN.out)
          refine wp_region_held_drew (S := fun x => x.heap[w'.heap.size]? = some (.cells (histC 0 f) 71) ∧ x.cell? ⟨bc, 2, none⟩ = some (.map (some bq))) (by kernel_rfl) ?_ (fun hHeld => ?_)
          · exact ⟨blk_later HROW.out (dNb HV.out 1), cell_c (blk_later HK3.out (dNb HV.out 1)) 2⟩
          refine wpAnyH_take (i := 0) (oi := { dst := some 75, op := Op.move (Operand.tmp 0), type := 32, pos := "cryptogram.go:121", after := #[], guard := none }) (v := .pointer (some ⟨bc, 0, none⟩)) rfl (by kernel_rfl) (by kernel_rfl) (by kernel_rfl) (fun _ _ _ h => h) (Or.inl ⟨by rfl, by intro w hSw; (try dsimp only at hSw); go_simp⟩) (by assumption) ?_
          simp only [Act.put, List.setIfInBounds_toArray, List.set_cons_zero, List.set_cons_succ]
          refine wpAnyH_take (i := 1) (oi := { dst := some 76, op := Op.nilCheck (Operand.tmp 75), type := 0, pos := "cryptogram.go:121", after := #[{ on := 0, ground := Ground.data }], guard := none }) (v := .pointer (some ⟨bc, 0, none⟩)) rfl (by kernel_rfl) (by kernel_rfl) (by kernel_rfl) (fun _ _ _ h => h) (Or.inl ⟨by rfl, by intro w hSw; (try dsimp only at hSw); go_simp⟩) (by assumption) ?_
          simp only [Act.put, List.setIfInBounds_toArray, List.set_cons_zero, List.set_cons_succ]
          refine wpAnyH_take (i := 2) (oi := { dst := some 77, op := Op.fieldAddr 64 (Operand.tmp 76) 2, type := 0, pos := "cryptogram.go:121", after := #[{ on := 1, ground := Ground.data }], guard := none }) (v := .pointer (some ⟨bc, 2, none⟩)) rfl (by kernel_rfl) (by kernel_rfl) (by kernel_rfl) (fun _ _ _ h => h) (Or.inl ⟨by rfl, by intro w hSw; (try dsimp only at hSw); go_simp⟩) (by assumption) ?_
          simp only [Act.put, List.setIfInBounds_toArray, List.set_cons_zero, List.set_cons_succ]
          refine wpAnyH_take (i := 3) (oi := { dst := some 78, op := Op.load 62 (Operand.tmp 77), type := 62, pos := "cryptogram.go:121", after := #[{ on := 2, ground := Ground.data }], guard := none }) (v := .map (some bq)) rfl (by kernel_rfl) (by kernel_rfl) (by kernel_rfl) (fun _ _ _ h => h) (Or.inl ⟨by rfl, by intro w hSw; (try dsimp only at hSw); go_simp⟩) (by assumption) ?_
          simp only [Act.put, List.setIfInBounds_toArray, List.set_cons_zero, List.set_cons_succ]
          refine wpAnyH_take (i := 4) (oi := { dst := some 79, op := Op.move (Operand.tmp 1), type := 9, pos := "cryptogram.go:121", after := #[], guard := none }) (v := .string token) rfl (by kernel_rfl) (by kernel_rfl) (by kernel_rfl) (fun _ _ _ h => h) (Or.inl ⟨by rfl, by intro w hSw; (try dsimp only at hSw); go_simp⟩) (by assumption) ?_
          simp only [Act.put, List.setIfInBounds_toArray, List.set_cons_zero, List.set_cons_succ]
          refine wpAnyH_take (i := 5) (oi := { dst := some 80, op := Op.load 71 (Operand.tmp 15), type := 71, pos := "cryptogram.go:121", after := #[], guard := none }) (v := _) rfl (by kernel_rfl) (by kernel_rfl) (by kernel_rfl) (fun _ _ _ h => h) (yields_row (by rfl) _ rfl w'.heap.size rfl 0 f (fun _ h => h.1)) (by assumption) ?_
          simp only [Act.put, List.setIfInBounds_toArray, List.set_cons_zero, List.set_cons_succ]
          refine wpAnyH_take (i := 6) (oi := { dst := some 81, op := Op.move (Operand.tmp 2), type := 3, pos := "cryptogram.go:121", after := #[], guard := none }) (v := .int .i64 c) rfl (by kernel_rfl) (by kernel_rfl) (by kernel_rfl) (fun _ _ _ h => h) (Or.inl ⟨by rfl, by intro w hSw; (try dsimp only at hSw); go_simp⟩) (by assumption) ?_
          simp only [Act.put, List.setIfInBounds_toArray, List.set_cons_zero, List.set_cons_succ]
          refine wpAnyH_ready (rs := [7]) (by kernel_rfl) (by simp) ?_
          refine AllReadyH.cons (o := { dst := some 82, op := Op.call { callee := Callee.value (Operand.func 38), args := #[Operand.tmp 80, Operand.tmp 81], argTypes := #[71, 3] }, type := 71, pos := "cryptogram.go:121", after := #[{ on := 5, ground := Ground.data }, { on := 6, ground := Ground.data }], guard := none }) rfl (fun K hK => ?_) AllReadyH.nil
          go_simp
          go_at_call 38
          refine (HAC.out _).mono ?_
          rintro e w5 ⟨rfl, hb⟩
          have HB5 := Lib.hid ((dNb HV.out 1).trans (hb.mono (dNb HV.out 1).size))
          clear hb
          go_wp2_with fail
          refine hK.out _ _ ?_ (fun hHeld => ?_)
          · exact ⟨blk_later HROW.out HB5.out, cell_c (blk_later HK3.out HB5.out) 2⟩
          clear hK K
          try simp only [Act.put, List.setIfInBounds_toArray, List.set_cons_zero, List.set_cons_succ]
          have HP5 := Lib.hid (HMP.out.below HB5.out)
          obtain ⟨w6, hrun, hm6, hg6⟩ := HP5.out.store (by omega) token h1 (newH (0, f) c)
          obtain ⟨es, clk, hmb⟩ := HP5.out.isMap
          have hne1 : bc ≠ bq := fun e => by
            have q := blk_later HK3.out HB5.out
            rw [e, hmb] at q; cases q
          have hne2 : w'.heap.size ≠ bq := fun e => by
            have q := blk_later HROW.out HB5.out
            rw [e, hmb] at q; cases q
          have HR6 := Lib.hid (grown_blk hg6 (blk_later HROW.out HB5.out) hne2)
          have HK6 := Lib.hid (grown_blk hg6 (blk_later HK3.out HB5.out) hne1)
          have HM6 := Lib.hid hm6
          have HG6 := Lib.hid hg6
          clear hm6 hg6 hmb hne1 hne2
          refine wpAnyH_ready (rs := [8]) (by kernel_rfl) (by simp) ?_
          refine AllReadyH.cons (o := { dst := none, op := Op.mapUpdate 62 (Operand.tmp 78) (Operand.tmp 79) (Operand.tmp 82), type := 0, pos := "cryptogram.go:121", after := #[{ on := 3, ground := Ground.data }, { on := 4, ground := Ground.data }, { on := 7, ground := Ground.data }, { on := 7, ground := Ground.chain }, { on := 0, ground := Ground.phase }, { on := 1, ground := Ground.phase }, { on := 2, ground := Ground.phase }, { on := 3, ground := Ground.phase }, { on := 4, ground := Ground.phase }, { on := 5, ground := Ground.phase }, { on := 6, ground := Ground.phase }, { on := 7, ground := Ground.phase }], guard := none }) rfl (fun K hK => ?_) AllReadyH.nil
          go_simp
          refine hK.out _ _ ?_ (fun hHeld => ?_)
          · exact ⟨HR6.out, cell_c HK6.out 2⟩
          clear hK K
          refine wpAnyH_done (by kernel_rfl) ?_ _
          go_wp2_with fail
          go_ret
          rw [HE0.out]
          exact ck_put2 HP5.out.isMap HBQ.out.1 HBQ.out.2 HLT.out (HB3.out.trans (HB5.out.mono HB3.out.size)) HG6.out HK6.out HM6.out HNEW.out
      · rw [hs] at hU hlk hgood
        obtain ⟨g1, g2⟩ := hgood rfl
        have HUS := Lib.hid (fun W => used_any n f c win W (by omega) (by omega) (by omega) w0 w1)
        have HU : Hid (usedM m token c win = usedB n f c win) := Lib.hid (by rw [hU]; rfl)
        have HS := Lib.hid hs
        clear hU hs hgood hnone b1 b2 b3 b4 hrow hbW hW3
        go_wp2_with (refine wpList_store_row rfl 71 _ _ rfl w'.heap.size (histC n f) rfl rfl 71 _ HA.out (info71h n _) (by rw [histC_size, zero_hist, histC_size]) (histC_one n _) ?_)
        rw [HW3.out]
        refine wp_region_held_drew (S := fun x => Below W3.heap.size W3 x ∧ x.heap[w'.heap.size]? = some (.cells (histC n f) 71) ∧ x.cell? ⟨bc, 1, none⟩ = some (.int .i64 win)) (by kernel_rfl) ?_ (fun hHeld => ?_)
        · exact keep18 (dNb (Below.refl _ W3) 1) HROW.out HK3.out
        refine wpAnyH_take (i := 0) (oi := { dst := some 46, op := Op.move (Operand.tmp 16), type := 4, pos := "cryptogram.go:112", after := #[], guard := none }) (v := .bool true) rfl (by kernel_rfl) (by kernel_rfl) (by kernel_rfl) (fun _ _ _ h => h) (Or.inl ⟨by rfl, by intro w hSw; (try dsimp only at hSw); go_simp⟩) (by assumption) ?_
        simp only [Act.put, List.setIfInBounds_toArray, List.set_cons_zero, List.set_cons_succ]
        refine wpAnyH_take (i := 1) (oi := { dst := some 47, op := Op.move (Operand.tmp 46), type := 4, pos := "cryptogram.go:112", after := #[{ on := 0, ground := Ground.data }], guard := none }) (v := .bool true) rfl (by kernel_rfl) (by kernel_rfl) (by kernel_rfl) (fun _ _ _ h => h) (Or.inl ⟨by rfl, by intro w hSw; (try dsimp only at hSw); go_simp⟩) (by assumption) ?_
        simp only [Act.put, List.setIfInBounds_toArray, List.set_cons_zero, List.set_cons_succ]
        refine wpAnyH_take (i := 2) (oi := { dst := some 48, op := Op.load 71 (Operand.tmp 15), type := 71, pos := "cryptogram.go:112", after := #[{ on := 1, ground := Ground.guard }], guard := some (1, true) }) (v := _) rfl (by kernel_rfl) (by kernel_rfl) (by kernel_rfl) (fun _ _ _ h => h) (yields_row (by rfl) _ rfl w'.heap.size rfl n f (fun _ h => h.2.1)) (by assumption) ?_
        simp only [Act.put, List.setIfInBounds_toArray, List.set_cons_zero, List.set_cons_succ]
        refine wpAnyH_take (i := 3) (oi := { dst := some 49, op := Op.move (Operand.tmp 2), type := 3, pos := "cryptogram.go:112", after := #[{ on := 1, ground := Ground.guard }], guard := some (1, true) }) (v := .int .i64 c) rfl (by kernel_rfl) (by kernel_rfl) (by kernel_rfl) (fun _ _ _ h => h) (Or.inl ⟨by rfl, by intro w hSw; (try dsimp only at hSw); go_simp⟩) (by assumption) ?_
        simp only [Act.put, List.setIfInBounds_toArray, List.set_cons_zero, List.set_cons_succ]
        refine wpAnyH_take (i := 4) (oi := { dst := some 50, op := Op.move (Operand.tmp 0), type := 32, pos := "cryptogram.go:112", after := #[{ on := 1, ground := Ground.guard }], guard := some (1, true) }) (v := .pointer (some ⟨bc, 0, none⟩)) rfl (by kernel_rfl) (by kernel_rfl) (by kernel_rfl) (fun _ _ _ h => h) (Or.inl ⟨by rfl, by intro w hSw; (try dsimp only at hSw); go_simp⟩) (by assumption) ?_
        simp only [Act.put, List.setIfInBounds_toArray, List.set_cons_zero, List.set_cons_succ]
        refine wpAnyH_take (i := 5) (oi := { dst := some 51, op := Op.nilCheck (Operand.tmp 50), type := 0, pos := "cryptogram.go:112", after := #[{ on := 4, ground := Ground.data }, { on := 1, ground := Ground.guard }], guard := some (1, true) }) (v := .pointer (some ⟨bc, 0, none⟩)) rfl (by kernel_rfl) (by kernel_rfl) (by kernel_rfl) (fun _ _ _ h => h) (Or.inl ⟨by rfl, by intro w hSw; (try dsimp only at hSw); go_simp⟩) (by assumption) ?_
        simp only [Act.put, List.setIfInBounds_toArray, List.set_cons_zero, List.set_cons_succ]
        refine wpAnyH_take (i := 6) (oi := { dst := some 52, op := Op.fieldAddr 64 (Operand.tmp 51) 1, type := 0, pos := "cryptogram.go:112", after := #[{ on := 5, ground := Ground.data }, { on := 1, ground := Ground.guard }], guard := some (1, true) }) (v := .pointer (some ⟨bc, 1, none⟩)) rfl (by kernel_rfl) (by kernel_rfl) (by kernel_rfl) (fun _ _ _ h => h) (Or.inl ⟨by rfl, by intro w hSw; (try dsimp only at hSw); go_simp⟩) (by assumption) ?_
        simp only [Act.put, List.setIfInBounds_toArray, List.set_cons_zero, List.set_cons_succ]
        refine wpAnyH_take (i := 7) (oi := { dst := some 53, op := Op.load 3 (Operand.tmp 52), type := 3, pos := "cryptogram.go:112", after := #[{ on := 6, ground := Ground.data }, { on := 1, ground := Ground.guard }], guard := some (1, true) }) (v := .int .i64 win) rfl (by kernel_rfl) (by kernel_rfl) (by kernel_rfl) (fun _ _ _ h => h) (Or.inl ⟨by rfl, by intro w hSw; (try dsimp only at hSw); go_simp⟩) (by assumption) ?_
        simp only [Act.put, List.setIfInBounds_toArray, List.set_cons_zero, List.set_cons_succ]
        refine wpAnyH_ready (rs := [8]) (by kernel_rfl) (by simp) ?_
        refine AllReadyH.cons (o := { dst := some 54, op := Op.call { callee := Callee.value (Operand.func 37), args := #[Operand.tmp 48, Operand.tmp 49, Operand.tmp 53], argTypes := #[71, 3, 3] }, type := 4, pos := "cryptogram.go:112", after := #[{ on := 2, ground := Ground.data }, { on := 3, ground := Ground.data }, { on := 7, ground := Ground.data }, { on := 1, ground := Ground.chain }, { on := 1, ground := Ground.guard }], guard := some (1, true) }) rfl (fun K hK => ?_) AllReadyH.nil
        go_simp
        go_at_call 37
        refine (HUS.out _).mono ?_
        rintro e w4 ⟨rfl, hb⟩
        have HB4 := Lib.hid ((Below.refl _ W3).trans ((dNb (Below.refl _ W3) 1).trans hb))
        clear hb
        go_wp2_with fail
        refine hK.out _ _ ?_ (fun hHeld => ?_)
        · exact keep18 HB4.out HROW.out HK3.out
        clear hK K
        try simp only [Act.put, List.setIfInBounds_toArray, List.set_cons_zero, List.set_cons_succ]
        refine wpAnyH_take (i := 9) (oi := { dst := some 55, op := Op.pick (Operand.tmp 47) (Operand.tmp 54) (Operand.const (Value.bool false)), type := 4, pos := "cryptogram.go:112", after := #[{ on := 1, ground := Ground.data }, { on := 8, ground := Ground.data }], guard := none }) (v := .bool (usedB n f c win)) rfl (by kernel_rfl) (by kernel_rfl) (by kernel_rfl) (fun _ _ _ h => h) (Or.inl ⟨by rfl, by intro w hSw; (try dsimp only at hSw); go_simp⟩) (by assumption) ?_
        simp only [Act.put, List.setIfInBounds_toArray, List.set_cons_zero, List.set_cons_succ]
        refine wpAnyH_done (by kernel_rfl) ?_ _
        cases hub : usedB n f c win
        · have k4 := cell_c (blk_later HK3.out HB4.out) 2
          go_wp2_with fail
          have HE0 : Hid (ckE key win m sz token c a cur nonce code = 0) := Lib.hid (by rw [HE.out, HU.out, hub, if_neg (by simp), if_neg (fun x => by rw [HS.out] at x; cases x.1)])
          have HCN : Hid (c ≤ n → n - c < 64) := Lib.hid (fun h => by
            unfold usedB at hub
            rw [if_neg (by omega)] at hub
            by_cases q : c < n - win
            · rw [if_pos q] at hub; cases hub
            · omega)
          have HV := Lib.hid (HB4.out)
          have HAC := Lib.hid (fun W => acc_any n f c W (by omega) (by omega) c1 c2 HCN.out)
          refine wp_region_held_drew (S := fun x => x.heap[w'.heap.size]? = some (.cells (histC n f) 71) ∧ x.cell? ⟨bc, 2, none⟩ = some (.map (some bq))) (by kernel_rfl) ?_ (fun hHeld => ?_)
          · exact ⟨blk_later HROW.out (dNb HV.out 1), cell_c (blk_later HK3.out (dNb HV.out 1)) 2⟩
          refine wpAnyH_take (i := 0) (oi := { dst := some 75, op := Op.move (Operand.tmp 0), type := 32, pos := "cryptogram.go:121", after := #[], guard := none }) (v := .pointer (some ⟨bc, 0, none⟩)) rfl (by kernel_rfl) (by kernel_rfl) (by kernel_rfl) (fun _ _ _ h => h) (Or.inl ⟨by rfl, by intro w hSw; (try dsimp only at hSw); go_simp⟩) (by assumption) ?_
          simp only [Act.put, List.setIfInBounds_toArray, List.set_cons_zero, List.set_cons_succ]
          refine wpAnyH_take (i := 1) (oi := { dst := some 76, op := Op.nilCheck (Operand.tmp 75), type := 0, pos := "cryptogram.go:121", after := #[{ on := 0, ground := Ground.data }], guard := none }) (v := .pointer (some ⟨bc, 0, none⟩)) rfl (by kernel_rfl) (by kernel_rfl) (by kernel_rfl) (fun _ _ _ h => h) (Or.inl ⟨by rfl, by intro w hSw; (try dsimp only at hSw); go_simp⟩) (by assumption) ?_
          simp only [Act.put, List.setIfInBounds_toArray, List.set_cons_zero, List.set_cons_succ]
          refine wpAnyH_take (i := 2) (oi := { dst := some 77, op := Op.fieldAddr 64 (Operand.tmp 76) 2, type := 0, pos := "cryptogram.go:121", after := #[{ on := 1, ground := Ground.data }], guard := none }) (v := .pointer (some ⟨bc, 2, none⟩)) rfl (by kernel_rfl) (by kernel_rfl) (by kernel_rfl) (fun _ _ _ h => h) (Or.inl ⟨by rfl, by intro w hSw; (try dsimp only at hSw); go_simp⟩) (by assumption) ?_
          simp only [Act.put, List.setIfInBounds_toArray, List.set_cons_zero, List.set_cons_succ]
          refine wpAnyH_take (i := 3) (oi := { dst := some 78, op := Op.load 62 (Operand.tmp 77), type := 62, pos := "cryptogram.go:121", after := #[{ on := 2, ground := Ground.data }], guard := none }) (v := .map (some bq)) rfl (by kernel_rfl) (by kernel_rfl) (by kernel_rfl) (fun _ _ _ h => h) (Or.inl ⟨by rfl, by intro w hSw; (try dsimp only at hSw); go_simp⟩) (by assumption) ?_
          simp only [Act.put, List.setIfInBounds_toArray, List.set_cons_zero, List.set_cons_succ]
          refine wpAnyH_take (i := 4) (oi := { dst := some 79, op := Op.move (Operand.tmp 1), type := 9, pos := "cryptogram.go:121", after := #[], guard := none }) (v := .string token) rfl (by kernel_rfl) (by kernel_rfl) (by kernel_rfl) (fun _ _ _ h => h) (Or.inl ⟨by rfl, by intro w hSw; (try dsimp only at hSw); go_simp⟩) (by assumption) ?_
          simp only [Act.put, List.setIfInBounds_toArray, List.set_cons_zero, List.set_cons_succ]
          refine wpAnyH_take (i := 5) (oi := { dst := some 80, op := Op.load 71 (Operand.tmp 15), type := 71, pos := "cryptogram.go:121", after := #[], guard := none }) (v := _) rfl (by kernel_rfl) (by kernel_rfl) (by kernel_rfl) (fun _ _ _ h => h) (yields_row (by rfl) _ rfl w'.heap.size rfl n f (fun _ h => h.1)) (by assumption) ?_
          simp only [Act.put, List.setIfInBounds_toArray, List.set_cons_zero, List.set_cons_succ]
          refine wpAnyH_take (i := 6) (oi := { dst := some 81, op := Op.move (Operand.tmp 2), type := 3, pos := "cryptogram.go:121", after := #[], guard := none }) (v := .int .i64 c) rfl (by kernel_rfl) (by kernel_rfl) (by kernel_rfl) (fun _ _ _ h => h) (Or.inl ⟨by rfl, by intro w hSw; (try dsimp only at hSw); go_simp⟩) (by assumption) ?_
          simp only [Act.put, List.setIfInBounds_toArray, List.set_cons_zero, List.set_cons_succ]
          refine wpAnyH_ready (rs := [7]) (by kernel_rfl) (by simp) ?_
          refine AllReadyH.cons (o := { dst := some 82, op := Op.call { callee := Callee.value (Operand.func 38), args := #[Operand.tmp 80, Operand.tmp 81], argTypes := #[71, 3] }, type := 71, pos := "cryptogram.go:121", after := #[{ on := 5, ground := Ground.data }, { on := 6, ground := Ground.data }], guard := none }) rfl (fun K hK => ?_) AllReadyH.nil
          go_simp
          go_at_call 38
          refine (HAC.out _).mono ?_
          rintro e w5 ⟨rfl, hb⟩
          have HB5 := Lib.hid ((dNb HV.out 1).trans (hb.mono (dNb HV.out 1).size))
          clear hb
          go_wp2_with fail
          refine hK.out _ _ ?_ (fun hHeld => ?_)
          · exact ⟨blk_later HROW.out HB5.out, cell_c (blk_later HK3.out HB5.out) 2⟩
          clear hK K
          try simp only [Act.put, List.setIfInBounds_toArray, List.set_cons_zero, List.set_cons_succ]
          have HP5 := Lib.hid (HMP.out.below HB5.out)
          obtain ⟨w6, hrun, hm6, hg6⟩ := HP5.out.store (by omega) token h1 (newH (n, f) c)
          obtain ⟨es, clk, hmb⟩ := HP5.out.isMap
          have hne1 : bc ≠ bq := fun e => by
            have q := blk_later HK3.out HB5.out
            rw [e, hmb] at q; cases q
          have hne2 : w'.heap.size ≠ bq := fun e => by
            have q := blk_later HROW.out HB5.out
            rw [e, hmb] at q; cases q
          have HR6 := Lib.hid (grown_blk hg6 (blk_later HROW.out HB5.out) hne2)
          have HK6 := Lib.hid (grown_blk hg6 (blk_later HK3.out HB5.out) hne1)
          have HM6 := Lib.hid hm6
          have HG6 := Lib.hid hg6
          clear hm6 hg6 hmb hne1 hne2
          refine wpAnyH_ready (rs := [8]) (by kernel_rfl) (by simp) ?_
          refine AllReadyH.cons (o := { dst := none, op := Op.mapUpdate 62 (Operand.tmp 78) (Operand.tmp 79) (Operand.tmp 82), type := 0, pos := "cryptogram.go:121", after := #[{ on := 3, ground := Ground.data }, { on := 4, ground := Ground.data }, { on := 7, ground := Ground.data }, { on := 7, ground := Ground.chain }, { on := 0, ground := Ground.phase }, { on := 1, ground := Ground.phase }, { on := 2, ground := Ground.phase }, { on := 3, ground := Ground.phase }, { on := 4, ground := Ground.phase }, { on := 5, ground := Ground.phase }, { on := 6, ground := Ground.phase }, { on := 7, ground := Ground.phase }], guard := none }) rfl (fun K hK => ?_) AllReadyH.nil
          go_simp
          refine hK.out _ _ ?_ (fun hHeld => ?_)
          · exact ⟨HR6.out, cell_c HK6.out 2⟩
          clear hK K
          refine wpAnyH_done (by kernel_rfl) ?_ _
          go_wp2_with fail
          go_ret
          rw [HE0.out]
          exact ck_put2 HP5.out.isMap HBQ.out.1 HBQ.out.2 HLT.out (HB3.out.trans (HB5.out.mono HB3.out.size)) HG6.out HK6.out HM6.out HNEW.out
        · go_wp2_with fail
          go_ret
          have HE : Hid (ckE key win m sz token c a cur nonce code = 15) := Lib.hid (by rw [HE.out, HU.out, hub, if_pos rfl])
          rw [HE.out]
          exact ck_same2 HCK.out (HB3.out.trans (HB4.out.mono HB3.out.size)) (by decide)
    · have HE : Hid (ckE key win m sz token c a cur nonce code = 19) := Lib.hid (by rw [HE.out, if_neg (by simp), if_pos hV])
      have hq := ba_diff code V hV
      clear hV
      go_wp2_with fail
      go_ret
      rw [HE.out]
      exact ck_same2 HCK.out HB2.out (by decide)
  · go_wp2_with fail
    go_ret
    have HE : Hid (ckE key win m sz token c a cur nonce code = E) := Lib.hid (by rw [HE.out, if_pos hE])
    rw [HE.out]
    exact ck_same2 HCK.out HB2.out hE
theorem check_any (B bc key : Nat) (win : Int) (m : ByteArray → Option Hst) (sz : Nat) (token : ByteArray) (c a : Int) (cur nonce code : ByteArray) (w : World) (hck : CkW w B bc key win m sz) (hg : GoodM m) (hw : KW w) (hk : key < M64)
    (w0 : 0 ≤ win) (w1 : win ≤ 63) (h1 : token.size ≤ maxLen) (h2 : cur.size ≤ maxLen) (h3 : nonce.size ≤ maxLen) (h4 : code.size ≤ maxLen) (hsz : sz ≤ 64) :
    Calls Tryd.prog 14 #[.pointer (some ⟨bc, 0, none⟩), .string token, .int .i64 c, .agg #[.int .i64 a, .string cur], .string nonce, .string code] w (CkPost B bc key win m sz token c (ckE key win m sz token c a cur nonce code) w) :=
  (check_any2 B bc key win m sz token c a cur nonce code w hck hg hw hk w0 w1 h1 h2 h3 h4 hsz).mono fun _ _ h => h.1
end Go.Proofs.YtodlholfhgicoaaDoor
