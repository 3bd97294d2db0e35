/- Payments in a slice; the state of the run of the law Checks. -/
import Derived.Test.YtodlholfhgicoaaDoorRck2
import Derived.Test.YtodlholfhgicoaaDoorLMak
import Derived.Test.YtodlholfhgicoaaDoorTryO
namespace Go.Proofs.YtodlholfhgicoaaDoor
set_option linter.unusedVariables false
open Go.RowKit Go.Maps Go.ChangeShapes Go.WideShapes Go.Deep Go.Joins Go.Sort

abbrev PayT := ByteArray × Int × Int × ByteArray × ByteArray × ByteArray × Bool
def payF (x : PayT) : List Value := [.string x.1, .int .i64 x.2.1, .int .i64 x.2.2.1, .string x.2.2.2.1, .string x.2.2.2.2.1, .string x.2.2.2.2.2.1, .bool x.2.2.2.2.2.2]
set_option maxRecDepth 100000 in
theorem pay_read {H : Type} {enc : TypeId × Value → H} {W : World} (cs : List Value) (m : Nat) (y) (hl : cs.length = 7) (h : DataW.trod enc Tryd.prog W 0 (fun _ => true) true m 26 cs = some y) : ∃ x : PayT, cs = payF x ∧ PayOk x := by
  match cs, hl with
  | [c0, c1, c2, c3, c4, c5, c6], _ =>
    obtain ⟨y0, y1, y2, y3, y4, y5, n, h0, h1, h2, h3, h4, h5⟩ := trod_struct6 Tryd.underlying26 h
    have k9 : Tryd.prog.cellsOf 9 = 1 := by kernel_rfl
    have k2 : Tryd.prog.cellsOf 2 = 1 := by kernel_rfl
    have k3 : Tryd.prog.cellsOf 3 = 1 := by kernel_rfl
    have k24 : Tryd.prog.cellsOf 24 = 2 := by kernel_rfl
    obtain ⟨s0, e0, _, w0⟩ := DataW.trod_string Tryd.underlying9 (show DataW.trod enc Tryd.prog W 0 (fun _ => true) true n 9 [c0] = some y0 by simpa [k9] using h0)
    obtain ⟨s1, e1, _, w1⟩ := DataW.trod_int Tryd.underlying3 (show DataW.trod enc Tryd.prog W 0 (fun _ => true) true n 3 [c1] = some y1 by simpa [k3] using h1)
    obtain ⟨z0, z1, m, _, _, g0, g1⟩ := trod_struct2 Tryd.underlying24 (show DataW.trod enc Tryd.prog W 0 (fun _ => true) true n 24 [c2, c3] = some y2 by simpa [k24] using h2)
    obtain ⟨s2, e2, _, w2⟩ := DataW.trod_int Tryd.underlying2 (show DataW.trod enc Tryd.prog W 0 (fun _ => true) true m 2 [c2] = some z0 by simpa [k2] using g0)
    obtain ⟨s3, e3, _, w3⟩ := DataW.trod_string Tryd.underlying9 (show DataW.trod enc Tryd.prog W 0 (fun _ => true) true m 9 [c3] = some z1 by simpa [k9] using g1)
    obtain ⟨s4, e4, _, w4⟩ := DataW.trod_string Tryd.underlying9 (show DataW.trod enc Tryd.prog W 0 (fun _ => true) true n 9 [c4] = some y3 by simpa [k9] using h3)
    obtain ⟨s5, e5, _, w5⟩ := DataW.trod_string Tryd.underlying9 (show DataW.trod enc Tryd.prog W 0 (fun _ => true) true n 9 [c5] = some y4 by simpa [k9] using h4)
    have k4 : Tryd.prog.cellsOf 4 = 1 := by kernel_rfl
    obtain ⟨s6, e6, _⟩ := DataW.trod_bool Tryd.underlying4 (show DataW.trod enc Tryd.prog W 0 (fun _ => true) true n 4 [c6] = some y5 by simpa [k4] using h5)
    injection e6 with e6
    subst e6
    injection e0 with e0; injection e1 with e1; injection e2 with e2; injection e3 with e3; injection e4 with e4; injection e5 with e5
    subst e0 e1 e2 e3 e4 e5
    exact ⟨(s0, s1, s2, s3, s4, s5, s6), rfl, w0, w3, w4, w5, int_wf64 w1⟩
theorem pays_open {H : Type} {enc : TypeId × Value → H} {W : World} {a : Option Addr} {len cap : Nat} {d : DataW H} {p : List MemPlace} (h : DataW.Trod enc Tryd.prog W 0 (fun _ => true) true 39 (.slice a len cap) d p) :
    ∃ l : List PayT, l.length = len ∧ IsRow W a (l.flatMap payF) ∧ (∀ x ∈ l, PayOk x) ∧ len ≤ cap ∧ (a = none → cap = 0) ∧ cap ≤ maxLen :=
  slice_open payF PayOk 7 Tryd.underlying39 cells26 pay_read h
theorem pay_cells (l : List PayT) (k : Nat) (hk : k < l.length) (j : Nat) (hj : j < 7) : (l.flatMap payF)[k * 7 + j]? = (payF l[k])[j]? := by
  induction l generalizing k with
  | nil => simp at hk
  | cons x l ih =>
    have h7 : (payF x).length = 7 := rfl
    rw [List.flatMap_cons]
    cases k with
    | zero => rw [List.getElem?_append_left (by omega)]; simp
    | succ k =>
      rw [List.getElem?_append_right (by omega), show (k + 1) * 7 + j - (payF x).length = k * 7 + j by omega]
      simpa using ih k (by simpa using hk)
theorem row_pay {wr : World} {A : Option Addr} {l : List PayT} (hr : IsRow wr A (l.flatMap payF)) (k : Nat) (h : k < l.length) :
    ∃ b off, A = some ⟨b, off, none⟩ ∧ wr.cell? ⟨b, off + k * 7, none⟩ = some (.string l[k].1) ∧ wr.cell? ⟨b, off + k * 7 + 1, none⟩ = some (.int .i64 l[k].2.1) ∧ wr.cell? ⟨b, off + k * 7 + 2, none⟩ = some (.int .i64 l[k].2.2.1) ∧
      wr.cell? ⟨b, off + k * 7 + 3, none⟩ = some (.string l[k].2.2.2.1) ∧ wr.cell? ⟨b, off + k * 7 + 4, none⟩ = some (.string l[k].2.2.2.2.1) ∧ wr.cell? ⟨b, off + k * 7 + 5, none⟩ = some (.string l[k].2.2.2.2.2.1) ∧ wr.cell? ⟨b, off + k * 7 + 6, none⟩ = some (.bool l[k].2.2.2.2.2.2) := by
  have hc := fun j hj => pay_cells l k h j hj
  rcases hr with hr | ⟨b, off, rfl, hr⟩
  · have := (List.getElem?_eq_some_iff.1 (hc 0 (by omega))).1
    omega
  · refine ⟨b, off, rfl, ?_⟩
    refine ⟨hr _ _ (hc 0 (by omega)), ?_, ?_, ?_, ?_, ?_, ?_⟩ <;> rw [Nat.add_assoc]
    · exact hr _ _ (hc 1 (by omega))
    · exact hr _ _ (hc 2 (by omega))
    · exact hr _ _ (hc 3 (by omega))
    · exact hr _ _ (hc 4 (by omega))
    · exact hr _ _ (hc 5 (by omega))
    · exact hr _ _ (hc 6 (by omega))
/-- The state of the run. -/
structure ChW (w wr : World) (bc br key : Nat) (win : Int) (m : ByteArray → Option Hst) (sz : Nat) (rs : RSt) : Prop where
  ck : CkW wr w.heap.size bc key win m sz
  rf : RefW wr w.heap.size br key win rs
  bel : Below w.heap.size w wr
theorem ChW.below {w wr w' : World} {bc br key : Nat} {win : Int} {m : ByteArray → Option Hst} {sz : Nat} {rs : RSt} (h : ChW w wr bc br key win m sz rs) (hb : Below wr.heap.size wr w') : ChW w w' bc br key win m sz rs :=
  ⟨h.ck.below hb, h.rf.below hb, h.bel.trans (hb.mono h.bel.size)⟩
theorem HMap.blk {w w' : World} {b : Nat} {m : ByteArray → Option Hst} {sz : Nat} (h : HMap w b m sz) (hk : w'.heap[b]? = w.heap[b]?) : HMap w' b m sz := by
  obtain ⟨D, ⟨es, clk, hb, rest⟩, h2⟩ := h
  exact ⟨D, ⟨es, clk, by rw [hk]; exact hb, rest⟩, h2⟩
theorem CkW.keepO {w w' : World} {B bc key : Nat} {win : Int} {m : ByteArray → Option Hst} {sz : Nat} (h : CkW w B bc key win m sz) (hk : KeepO w w') : CkW w' B bc key win m sz := by
  obtain ⟨bm, h1, h2, h3, h4⟩ := h
  obtain ⟨es, clk, hm⟩ := h4.isMap
  refine ⟨bm, h1, h2, hk _ _ h3 (fun cs fr q => by injection q with _ q; exact absurd q (by decide)) (fun cs fr q => by injection q with _ q; exact absurd q (by decide)), h4.blk ?_⟩
  rw [hm]
  exact hk _ _ hm (fun cs fr q => by cases q) (fun cs fr q => by cases q)
/-- Behind an answer E of the checkers. -/
def mAt (m : ByteArray → Option Hst) (t : ByteArray) (c E : Int) : ByteArray → Option Hst := if E = 0 then updM m t (newH (histOf (m t)) c) else m
def zAt (m : ByteArray → Option Hst) (sz : Nat) (t : ByteArray) (E : Int) : Nat := if E = 0 ∧ (m t).isSome = false then sz + 1 else sz
def rAt (rs : RSt) (t : ByteArray) (c E : Int) : RSt := if E = 0 then addR rs t c else rs
theorem ckE_rck {key : Nat} {win : Int} {m : ByteArray → Option Hst} {sz : Nat} {rs : RSt} (h : ChkI m sz rs) (t : ByteArray) (c a : Int) (cur nonce code : ByteArray) (w0 : 0 ≤ win) (w1 : win ≤ 63) : ckE key win m sz t c a cur nonce code = rckE key win rs t c a cur nonce code := by
  unfold ckE rckE
  rw [chk_used h t c win w0 w1, chk_isSome h t, h.len]
theorem chk_next {key : Nat} {win : Int} {m : ByteArray → Option Hst} {sz : Nat} {rs : RSt} (h : ChkI m sz rs) (t : ByteArray) (c a : Int) (cur nonce code : ByteArray) (w0 : 0 ≤ win) (w1 : win ≤ 63) (E : Int) (hE : ckE key win m sz t c a cur nonce code = E) :
    ChkI (mAt m t c E) (zAt m sz t E) (rAt rs t c E) := by
  unfold mAt zAt rAt
  by_cases q : E = 0
  · subst q
    rw [if_pos rfl, if_pos rfl]
    unfold ckE at hE
    split at hE
    · rename_i q; exact absurd hE q
    · rename_i q
      have q' : mkE t c a cur nonce = 0 := by simpa using q
      obtain ⟨c1, c2⟩ := mkE_range q'
      split at hE
      · cases hE
      · split at hE
        · cases hE
        · rename_i hu
          have := chk_add h t c win w0 w1 c1 c2 (by simpa using hu)
          have e : (if (0 : Int) = 0 ∧ (m t).isSome = false then sz + 1 else sz) = (if (m t).isSome = false then sz + 1 else sz) := by simp
          rw [e]; exact this
  · rw [if_neg q, if_neg q, if_neg (fun z => q z.1)]; exact h
/-- Between the two checks: the program's checker is ahead. -/
structure ChM (w wr : World) (bc br key : Nat) (win : Int) (m : ByteArray → Option Hst) (sz : Nat) (rs : RSt) : Prop where
  ck : CkW wr w.heap.size bc key win m sz
  rf : RefW wr w.heap.size br key win rs
  bel : Below w.heap.size w wr
theorem ch_first {w wr w' : World} {bc br key : Nat} {win : Int} {m : ByteArray → Option Hst} {sz : Nat} {rs : RSt} {t : ByteArray} {c E : Int} {e : Ending} (h : ChW w wr bc br key win m sz rs) (hp : CkPost2 w.heap.size bc key win m sz t c E wr e w') :
    e = .returned (.int .i64 E) ∧ ChW w w' bc br key win (mAt m t c E) (zAt m sz t E) rs ∧ KeepC wr w' := by
  obtain ⟨⟨he, hck, hb⟩, hkeep⟩ := hp
  exact ⟨he, ⟨hck, h.rf.keep hkeep, h.bel.trans hb⟩, hkeep⟩
theorem ch_second {w wr w' : World} {bc br key : Nat} {win : Int} {m : ByteArray → Option Hst} {sz : Nat} {rs : RSt} {t : ByteArray} {c E : Int} {e : Ending} (h : ChW w wr bc br key win m sz rs) (hp : RckPost w.heap.size br key win rs t c E wr e w') :
    e = .returned (.int .i64 E) ∧ ChW w w' bc br key win m sz (rAt rs t c E) ∧ KeepO wr w' := by
  obtain ⟨he, hrf, hb, hkeep⟩ := hp
  exact ⟨he, ⟨h.ck.keepO hkeep, hrf, h.bel.trans hb⟩, hkeep⟩
/-- The payment's own block. -/
def PayB (wr : World) (bp : Nat) (t : ByteArray) (c a : Int) (cur nonce code : ByteArray) (r : Bool) : Prop := wr.heap[bp]? = some (.cells (payC t c a cur nonce code r) 26)
theorem PayB.below {wr w' : World} {bp : Nat} {t : ByteArray} {c a : Int} {cur nonce code : ByteArray} {r : Bool} (h : PayB wr bp t c a cur nonce code r) (hb : Below wr.heap.size wr w') : PayB w' bp t c a cur nonce code r := blk_later h hb
theorem PayB.keepC {wr w' : World} {bp : Nat} {t : ByteArray} {c a : Int} {cur nonce code : ByteArray} {r : Bool} (h : PayB wr bp t c a cur nonce code r) (hk : KeepC wr w') : PayB w' bp t c a cur nonce code r := hk _ _ _ h
theorem PayB.keepO {wr w' : World} {bp : Nat} {t : ByteArray} {c a : Int} {cur nonce code : ByteArray} {r : Bool} (h : PayB wr bp t c a cur nonce code r) (hk : KeepO wr w') : PayB w' bp t c a cur nonce code r :=
  hk _ _ h (fun cs fr q => by injection q with _ q; exact absurd q (by decide)) (fun cs fr q => by injection q with _ q; exact absurd q (by decide))
theorem PayB.cells {wr : World} {bp : Nat} {t : ByteArray} {c a : Int} {cur nonce code : ByteArray} {r : Bool} (h : PayB wr bp t c a cur nonce code r) :
    wr.cell? ⟨bp, 0, none⟩ = some (.string t) ∧ wr.cell? ⟨bp, 1, none⟩ = some (.int .i64 c) ∧ wr.cell? ⟨bp, 2, none⟩ = some (.int .i64 a) ∧ wr.cell? ⟨bp, 3, none⟩ = some (.string cur) ∧ wr.cell? ⟨bp, 4, none⟩ = some (.string nonce) :=
  ⟨cell_c h 0, cell_c h 1, cell_c h 2, cell_c h 3, cell_c h 4⟩
/-- What the reference's lists are bounded by. -/
theorem rAt_len (rs : RSt) (t : ByteArray) (c E : Int) : (rAt rs t c E).length ≤ rs.length + 1 := by
  unfold rAt
  split
  · rw [addR_len]; split <;> omega
  · omega
theorem rAt_cnt (rs : RSt) (t : ByteArray) (c E : Int) (y : ByteArray) : (cntR (rAt rs t c E) y).length ≤ (cntR rs y).length + 1 := by
  unfold rAt
  split
  · unfold cntR
    rw [cntO_add]
    split
    · rename_i q; subst q; simp
    · omega
  · omega
theorem rAt_64 {key : Nat} {win : Int} {m : ByteArray → Option Hst} {sz : Nat} {rs : RSt} (h : ChkI m sz rs) (t : ByteArray) (c a : Int) (cur nonce code : ByteArray) (E : Int) (hE : ckE key win m sz t c a cur nonce code = E) (hn : rs.length ≤ 64) : (rAt rs t c E).length ≤ 64 := by
  unfold rAt
  by_cases q : E = 0
  · subst q
    rw [if_pos rfl, addR_len]
    unfold ckE at hE
    split at hE
    · rename_i q; exact absurd hE q
    · split at hE
      · cases hE
      · split at hE
        · cases hE
        · split at hE
          · cases hE
          · rename_i hh
            rw [chk_isSome h t, h.len] at hh
            cases hs : (cntO rs t).isSome
            · rw [hs] at hh
              rw [if_neg (by simp)]
              have : ¬ 64 ≤ rs.length := fun z => hh ⟨rfl, z⟩
              omega
            · rw [if_pos rfl]; exact hn
  · rw [if_neg q]; exact hn
theorem chk_cnt {m : ByteArray → Option Hst} {sz : Nat} {rs : RSt} (h : ChkI m sz rs) (t : ByteArray) : ∀ x ∈ cntR rs t, 1 ≤ x ∧ x ≤ 999999 := by
  unfold cntR
  cases hm : m t with
  | none => rw [(h.none t).1 hm]; intro x hx; cases hx
  | some x =>
    cases hc : cntO rs t with
    | none => have := (h.none t).2 hc; rw [hm] at this; cases this
    | some cs => exact (h.some t x cs hm hc).rng
theorem chk_rng {m : ByteArray → Option Hst} {sz : Nat} {rs : RSt} (h : ChkI m sz rs) (t : ByteArray) : 0 ≤ maxL (cntR rs t) ∧ maxL (cntR rs t) ≤ 1000000 := maxL_rng (fun x hx => by have := (chk_cnt h t x hx).2; omega)
set_option maxRecDepth 100000 in
theorem rnew_ok2 (key : Nat) (win : Int) (w : World) (h0 : 0 ≤ win) (h1 : win ≤ 63) : Calls Tryd.prog 13 #[.int .u64 key, .int .i64 win] w (RNewPost key win w) := by
  have h0' : ¬ win < 0 := by omega
  have h1' : ¬ 63 < win := by omega
  go_enter Tryd.func13, Tryd.ntmps13
  go_wp2_with fail
  go_ret2
  exact ⟨rfl, rfl⟩
theorem ref_start (w : World) (B key : Nat) (win : Int) (hB : B ≤ w.heap.size) : RefW (w.alloc (.cells #[.int .u64 key, .int .i64 win, .slice none 0 0, .slice none 0 0] 68)) B w.heap.size key win [] :=
  ⟨.slice none 0 0, .slice none 0 0, [], hB, heap_alloc_new w _, World.ownsRow_nil _ _ _ _, World.ownsRow_nil _ _ _ _, fun i h => by simp at h⟩
end Go.Proofs.YtodlholfhgicoaaDoor
