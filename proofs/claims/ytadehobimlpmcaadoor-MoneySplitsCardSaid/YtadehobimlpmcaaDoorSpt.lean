/- The walk of money.Split. -/
import Derived.Test.YtadehobimlpmcaaDoorWgt
import Derived.Deep.CutBlock
import Derived.Deep.DeepCutAuto
import Derived.Deep.RegionHeld3
namespace Go.Proofs.YtadehobimlpmcaaDoor
set_option linter.unusedVariables false
open Go.RowKit Go.Sort

/-- The division, whatever the upper half. -/
theorem div_any (hi lo y : Nat) (w : World) (hhy : hi < y) (hlo : lo < 18446744073709551616) (hy : y < 18446744073709551616) :
    Calls Tryd.prog 31 #[.int .u64 hi, .int .u64 lo, .int .u64 y] w fun e w' => e = .returned (.tuple #[.int .u64 (((hi * 18446744073709551616 + lo) / y : Nat) : Int), .int .u64 (((hi * 18446744073709551616 + lo) % y : Nat) : Int)]) ∧ Below w.heap.size w w' := by
  rcases Nat.eq_zero_or_pos hi with h | h
  · subst h
    have := div_lo lo y w hlo hy hhy
    rw [Nat.zero_mul, Nat.zero_add]
    exact this
  · refine (div_hi hi lo y w h hhy hlo hy).mono ?_
    rintro e w' ⟨he, rfl⟩
    exact ⟨he, Below.refl _ _⟩
/-- The library's sort serves at this length. -/
def SortOK (n : Nat) : Prop := ∀ (BR blk cap : Nat) (r : Nat → Nat) (w : World), CmpAt w BR blk n r n → Holds encI w blk 0 (Array.range n) →
  Calls Tryd.prog 37 #[.slice (some ⟨blk, 0, none⟩) n cap, .func (.func 38) #[] #[.pointer (some ⟨BR, 0, none⟩)]] w fun e w' => e = .returned (.tuple #[]) ∧ ∃ m d, Ord r n d ∧ w' = (putRow encI w blk 0 d).drewN m
theorem sortOK_small {n : Nat} (hn : n < 20) : SortOK n := by
  intro BR blk cap r w hcmp hH
  have hs : (Array.range n).size = n := by simp
  have := sorts_small BR blk cap n r (Array.range n) w (by rw [hs]; exact hcmp) hH (fun k hk => by rw [hs] at hk; rw [range_get hk]; exact hk) (by rw [hs]; exact hn)
  rw [hs] at this
  refine this.mono ?_
  rintro e w' ⟨he, m, hw⟩
  exact ⟨he, m, _, ord_sort r n, hw⟩
theorem mk2 : (Tryd.prog.info? 2).map (fun i => (i.zero, i.size, i.bytes)) = some (some (.int .i64 0), 1, 8) := by kernel_rfl
theorem mk68 : (Tryd.prog.info? 48).map (fun i => (i.zero, i.size, i.bytes)) = some (some (.int .u64 0), 1, 8) := by kernel_rfl
theorem mk3 : (Tryd.prog.info? 3).map (fun i => (i.zero, i.size, i.bytes)) = some (some (.int .i64 0), 1, 8) := by kernel_rfl
theorem mk58 : (Tryd.prog.info? 23).map (fun i => (i.zero, i.size, i.bytes)) = some (some (.agg #[.int .i64 0, .string ⟨#[]⟩]), 2, 24) := by kernel_rfl
/-- make of n elements of one cell. -/
theorem make_one {t e : TypeId} {k : IntKind} (ht : Tryd.prog.underlying t = some (.slice e)) (hi : (Tryd.prog.info? e).map (fun i => (i.zero, i.size, i.bytes)) = some (some (.int k 0), 1, 8)) (n : Nat) (hn : n ≤ 1000) (w : World) :
    (Instr.makeSlice t (.int .i64 (n : Int)) (.int .i64 (n : Int))).run Tryd.prog w = .ok (.slice (some ⟨w.heap.size, 0, none⟩) n n) (w.alloc (.cells (madeCells #[.int k 0] n) e)) := by
  obtain ⟨i0, hi0, hz0, hz1, hz2⟩ := info_parts hi
  have := run_make w t e i0 _ ht hi0 hz0 .i64 .i64 (n : Int) (n : Int) (by omega) (by omega) (by rw [hz2]; omega) (by omega)
  rw [this, hz1]
  simp [Value.cells]
theorem make_mon {t : TypeId} (ht : Tryd.prog.underlying t = some (.slice 23)) (n : Nat) (hn : n ≤ 1000) (w : World) :
    (Instr.makeSlice t (.int .i64 (n : Int)) (.int .i64 (n : Int))).run Tryd.prog w = .ok (.slice (some ⟨w.heap.size, 0, none⟩) n n) (w.alloc (.cells (madeCells #[.int .i64 0, .string ⟨#[]⟩] (n * 2)) 23)) := by
  obtain ⟨i0, hi0, hz0, hz1, hz2⟩ := info_parts mk58
  have := run_make w t 23 i0 _ ht hi0 hz0 .i64 .i64 (n : Int) (n : Int) (by omega) (by omega) (by rw [hz2]; omega) (by omega)
  rw [this, hz1]
  simp [Value.cells]
/-- What Split makes of its arguments: the amounts f i of the currency cur. -/
def SplitPost (n : Nat) (cur : ByteArray) (f : Nat → Int) (w : World) (e : Ending) (w' : World) : Prop :=
  ∃ L, e = .returned (.tuple #[.slice (some ⟨L, 0, none⟩) n n, .int .i64 0]) ∧ w'.rowIs L 23 (n * 2) (fun j => if j % 2 = 0 then .int .i64 (f (j / 2)) else .string cur) ∧ w.heap.size ≤ L ∧ Below w.heap.size w w'
/-- The error of a division that is refused. -/
def splE (a : Int) (cur : ByteArray) : Int := if monE a cur = 0 then 4 else monE a cur
set_option maxHeartbeats 1600000 in
theorem split_bad (a : Int) (cur : ByteArray) (A : Option Addr) (c : Nat) (ws : List Int) (w : World) (hr : IsRow w A (cellsI ws)) (hl : ws.length ≤ 1000000) (hs : cur.size ≤ maxLen) (hbad : monE a cur ≠ 0 ∨ sumV1 ws = 0) :
    Calls Tryd.prog 13 #[.agg #[.int .i64 a, .string cur], .slice A ws.length c] w fun e w' => e = .returned (.tuple #[.slice none 0 0, .int .i64 (splE a cur)]) ∧ Below w.heap.size w w' := by
  have HM := Lib.hid (fun W => mon_any a cur W hs)
  have HR := Lib.hid hr
  obtain ⟨me, hme⟩ : ∃ me, monE a cur = me := ⟨_, rfl⟩
  have HSE := Lib.hid (show splE a cur = if me = 0 then 4 else me by unfold splE; rw [hme])
  rw [hme] at HM hbad
  clear hr hme
  by_cases h0 : me = 0
  · have hz := Lib.hid (show sumV1 ws = 0 by rcases hbad with h | h; exact absurd h0 h; exact h)
    have he := Lib.hid (show splE a cur = 4 by rw [HSE.out, if_pos h0])
    have hzb : (me != 0) = false := by simp only [bne_eq_false_iff_eq]; exact h0
    clear hbad h0
    go_enter Tryd.func13, Tryd.ntmps13
    go_wp2_with fail
    refine (HM.out _).mono ?_
    rintro e w1 ⟨rfl, hb⟩
    have hb1 := ((Below.refl w.heap.size w).alloc (Nat.le_refl _) (.cells #[.int .i64 a, .string cur] 23)).trans (hb.mono (by simp))
    have HB := Lib.hid hb1
    clear hb hb1
    go_wp2_with fail
    refine (sumw_any A c ws _ (HR.out.below HB.out) hl).mono ?_
    rintro e w2 ⟨rfl, rfl⟩
    rw [hz.out]
    go_wp2_with fail
    go_ret2
    exact ⟨by rw [he.out]; rfl, HB.out⟩
  · have he := Lib.hid (show splE a cur = me by rw [HSE.out, if_neg h0])
    have hzb : (me != 0) = true := bne_iff_ne.2 h0
    clear hbad h0
    go_enter Tryd.func13, Tryd.ntmps13
    go_wp2_with fail
    refine (HM.out _).mono ?_
    rintro e w1 ⟨rfl, hb⟩
    have hb1 := ((Below.refl w.heap.size w).alloc (Nat.le_refl _) (.cells #[.int .i64 a, .string cur] 23)).trans (hb.mono (by simp))
    have HB := Lib.hid hb1
    clear hb hb1
    go_wp2_with fail
    go_ret2
    exact ⟨by rw [he.out]; rfl, HB.out⟩
/-- The state behind k rounds of the first loop: what each place has. -/
structure Rows3 (w : World) (p n k : Nat) (W S : Nat) (ws : List Nat) (a : Int) (cur : ByteArray) (bm : Nat) : Prop where
  parts : w.rowIs p 2 n (fun i => .int .i64 (if i < k then (qOf W S ws i : Int) else 0))
  rests : w.rowIs (p + 1) 48 n (fun i => .int .u64 (if i < k then (rOf W S ws i : Int) else 0))
  box : w.rowIs (p + 1 + 1) 60 1 (fun _ => .slice (some ⟨p + 1, 0, none⟩) n n)
  order : w.rowIs (p + 1 + 1 + 1) 3 n (fun i => .int .i64 (if i < k then (i : Int) else 0))
  mon : w.rowIs bm 23 2 (fun i => if i = 0 then .int .i64 a else .string cur)
theorem Rows3.below {w w' : World} {p n k W S : Nat} {ws : List Nat} {a : Int} {cur : ByteArray} {bm : Nat} (h : Rows3 w p n k W S ws a cur bm) (hb : Below w.heap.size w w') : Rows3 w' p n k W S ws a cur bm :=
  ⟨h.parts.of_block (hb.block _ h.parts.lt), h.rests.of_block (hb.block _ h.rests.lt), h.box.of_block (hb.block _ h.box.lt), h.order.of_block (hb.block _ h.order.lt), h.mon.of_block (hb.block _ h.mon.lt)⟩
theorem Rows3.next {w : World} {p n k W S : Nat} {ws : List Nat} {a : Int} {cur : ByteArray} {bm q r : Nat} (h : Rows3 w p n k W S ws a cur bm) (hq : qOf W S ws k = q) (hr : rOf W S ws k = r) (hbm : bm < p) :
    Rows3 (((w.setCell ⟨p, k, none⟩ (.int .i64 q)).setCell ⟨p + 1, k, none⟩ (.int .u64 r)).setCell ⟨p + 1 + 1 + 1, k, none⟩ (.int .i64 k)).drew p n (k + 1) W S ws a cur bm := by
  refine ⟨?_, ?_, ?_, ?_, ?_⟩
  · refine (((h.parts.set k _).setOther (a := ⟨p + 1, k, none⟩) (by dsimp only; omega) _).setOther (a := ⟨p + 1 + 1 + 1, k, none⟩) (by dsimp only; omega) _).congr (fun i hi => ?_)
    by_cases e : i = k
    · subst e; rw [if_pos rfl, if_pos (by omega), hq]
    · rw [if_neg e]
      by_cases l : i < k
      · rw [if_pos l, if_pos (by omega)]
      · rw [if_neg l, if_neg (by omega)]
  · refine (((h.rests.setOther (a := ⟨p, k, none⟩) (by dsimp only; omega) _).set k _).setOther (a := ⟨p + 1 + 1 + 1, k, none⟩) (by dsimp only; omega) _).congr (fun i hi => ?_)
    by_cases e : i = k
    · subst e; rw [if_pos rfl, if_pos (by omega), hr]
    · rw [if_neg e]
      by_cases l : i < k
      · rw [if_pos l, if_pos (by omega)]
      · rw [if_neg l, if_neg (by omega)]
  · exact ((h.box.setOther (a := ⟨p, k, none⟩) (by dsimp only; omega) _).setOther (a := ⟨p + 1, k, none⟩) (by dsimp only; omega) _).setOther (a := ⟨p + 1 + 1 + 1, k, none⟩) (by dsimp only; omega) _
  · refine (((h.order.setOther (a := ⟨p, k, none⟩) (by dsimp only; omega) _).setOther (a := ⟨p + 1, k, none⟩) (by dsimp only; omega) _).set k _).congr (fun i hi => ?_)
    by_cases e : i = k
    · subst e; rw [if_pos rfl, if_pos (by omega)]
    · rw [if_neg e]
      by_cases l : i < k
      · rw [if_pos l, if_pos (by omega)]
      · rw [if_neg l, if_neg (by omega)]
  · exact ((h.mon.setOther (a := ⟨p, k, none⟩) (by dsimp only; omega) _).setOther (a := ⟨p + 1, k, none⟩) (by dsimp only; omega) _).setOther (a := ⟨p + 1 + 1 + 1, k, none⟩) (by dsimp only; omega) _
/-- Behind the sort: k of the units that are left have been given away. -/
structure Rows4 (w : World) (p n k : Nat) (q : Nat → Nat) (r : Nat → Nat) (d : Array Nat) (a : Int) (cur : ByteArray) (bm : Nat) : Prop where
  parts : w.rowIs p 2 n (fun i => .int .i64 ((q i + if rk n r i < k then 1 else 0 : Nat) : Int))
  order : w.rowIs (p + 1 + 1 + 1) 3 n (fun i => encI d[i]!)
  mon : w.rowIs bm 23 2 (fun i => if i = 0 then .int .i64 a else .string cur)
theorem Rows4.below {w w' : World} {p n k : Nat} {q r : Nat → Nat} {d : Array Nat} {a : Int} {cur : ByteArray} {bm : Nat} (h : Rows4 w p n k q r d a cur bm) (hb : Below w.heap.size w w') : Rows4 w' p n k q r d a cur bm :=
  ⟨h.parts.of_block (hb.block _ h.parts.lt), h.order.of_block (hb.block _ h.order.lt), h.mon.of_block (hb.block _ h.mon.lt)⟩
theorem Rows4.alloc {w : World} {p n k : Nat} {q r : Nat → Nat} {d : Array Nat} {a : Int} {cur : ByteArray} {bm : Nat} (h : Rows4 w p n k q r d a cur bm) (o : Obj) : Rows4 (w.alloc o) p n k q r d a cur bm :=
  ⟨h.parts.alloc o, h.order.alloc o, h.mon.alloc o⟩
theorem Rows4.next {w : World} {p n k : Nat} {q r : Nat → Nat} {d : Array Nat} {a : Int} {cur : ByteArray} {bm : Nat} (h : Rows4 w p n k q r d a cur bm) (ho : Ord r n d) (hk : k < n) (hbm : bm < p) :
    Rows4 (w.setCell ⟨p, d[k]!, none⟩ (.int .i64 ((q d[k]! : Int) + 1))) p n (k + 1) q r d a cur bm := by
  refine ⟨?_, ?_, ?_⟩
  · refine (h.parts.set d[k]! _).congr (fun i hi => ?_)
    by_cases e : i = d[k]!
    · rw [if_pos e, e, ho.rk hk, if_pos (by omega)]; rfl
    · rw [if_neg e]
      have hne : rk n r i ≠ k := fun h' => e (rk_inj r hi (ho.lt hk) (by rw [h', ho.rk hk]))
      by_cases l : rk n r i < k
      · rw [if_pos l, if_pos (by omega)]
      · rw [if_neg l, if_neg (by omega)]
  · exact h.order.setOther (a := ⟨p, d[k]!, none⟩) (by dsimp only; omega) _
  · exact h.mon.setOther (a := ⟨p, d[k]!, none⟩) (by dsimp only; omega) _
/-- The part of place i, with the sign of the whole. -/
def amtF (a : Int) (W S : Nat) (N : List Nat) (i : Nat) : Int := if a < 0 then -(partOf W S N i : Int) else (partOf W S N i : Int)
theorem amtF_neg {a : Int} {W S : Nat} {N : List Nat} {i : Nat} (h : a < 0) : amtF a W S N i = -(partOf W S N i : Int) := by unfold amtF; rw [if_pos h]
theorem amtF_pos {a : Int} {W S : Nat} {N : List Nat} {i : Nat} (h : 0 ≤ a) : amtF a W S N i = (partOf W S N i : Int) := by unfold amtF; rw [if_neg (by omega)]
/-- The cells of the amounts behind j rounds of the last loop. -/
def resF (W S : Nat) (N : List Nat) (a : Int) (cur : ByteArray) (mc : Array Value) (j i : Nat) : Value :=
  if i / 2 < j then (if i % 2 = 0 then .int .i64 (amtF a W S N (i / 2)) else .string cur) else mc[i]!
theorem resF_full {W S : Nat} {N : List Nat} {a : Int} {cur : ByteArray} {mc : Array Value} {k i : Nat} (hi : i < k * 2) : resF W S N a cur mc k i = (fun j => if j % 2 = 0 then Value.int .i64 (amtF a W S N (j / 2)) else .string cur) i := by
  unfold resF; rw [if_pos (by omega)]
theorem resF_next {W S : Nat} {N : List Nat} {a : Int} {cur : ByteArray} {mc : Array Value} {w : World} {lb k j : Nat} (h : w.rowIs lb 23 (k * 2) (resF W S N a cur mc j)) (hj : j < k) {v : Int} (hv : v = amtF a W S N j) :
    ((w.setCell ⟨lb, j * 2, none⟩ (.int .i64 v)).setCell ⟨lb, j * 2 + 1, none⟩ (.string cur)).rowIs lb 23 (k * 2) (resF W S N a cur mc (j + 1)) := by
  refine ((h.set (j * 2) _).set (j * 2 + 1) _).congr (fun i hi => ?_)
  unfold resF
  by_cases e1 : i = j * 2 + 1
  · rw [if_pos e1, if_pos (by omega), if_neg (by omega)]
  · rw [if_neg e1]
    by_cases e0 : i = j * 2
    · rw [if_pos e0, if_pos (by omega), if_pos (by omega), hv, show i / 2 = j by omega]
    · rw [if_neg e0]
      by_cases l : i / 2 < j
      · rw [if_pos l, if_pos (show i / 2 < j + 1 by omega)]
      · rw [if_neg l, if_neg (show ¬ i / 2 < j + 1 by omega)]
theorem Rows4.far {w : World} {p n k : Nat} {q r : Nat → Nat} {d : Array Nat} {a : Int} {cur : ByteArray} {bm lb : Nat} (h : Rows4 w p n k q r d a cur bm) (h1 : p + 1 + 1 + 1 < lb) (h2 : bm < p) (i j : Nat) (x y : Value) : Rows4 ((w.setCell ⟨lb, i, none⟩ x).setCell ⟨lb, j, none⟩ y) p n k q r d a cur bm :=
  ⟨(h.parts.setOther (a := ⟨lb, i, none⟩) (by dsimp only; omega) _).setOther (a := ⟨lb, j, none⟩) (by dsimp only; omega) _, (h.order.setOther (a := ⟨lb, i, none⟩) (by dsimp only; omega) _).setOther (a := ⟨lb, j, none⟩) (by dsimp only; omega) _, (h.mon.setOther (a := ⟨lb, i, none⟩) (by dsimp only; omega) _).setOther (a := ⟨lb, j, none⟩) (by dsimp only; omega) _⟩
set_option maxRecDepth 100000 in
set_option maxHeartbeats 6400000 in
theorem split_ok (a : Int) (cur : ByteArray) (A : Option Addr) (c : Nat) (ws : List Int) (w : World) (hr : IsRow w A (cellsI ws)) (hs : cur.size ≤ maxLen) (hm : monE a cur = 0) (hok : allW ws = true) (hpos : 0 < totW ws ws.length) (hsort : SortOK ws.length) :
    Calls Tryd.prog 13 #[.agg #[.int .i64 a, .string cur], .slice A ws.length c] w (SplitPost ws.length cur (amtF a a.natAbs (totW ws ws.length) (natsOf ws)) w) := by
  have h64 : ws.length ≤ 64 := by unfold allW at hok; simp at hok; exact hok.1
  have hall : ∀ k, k < ws.length → okW (ws.getD k 0) = true := fun k hk => by
    cases h : okW (ws.getD k 0)
    · rw [allW_no k hk h] at hok; cases hok
    · rfl
  have hS1 : sumV1 ws = totW ws ws.length := by unfold sumV1; rw [if_pos hok]
  have ha : -4503599627370496 ≤ a ∧ a ≤ 4503599627370496 := by
    unfold monE inT at hm
    split at hm
    · split at hm
      · rename_i h; simp at h; exact h
      · omega
    · omega
  have hSb := totW_bd ws.length hall
  have HM := Lib.hid (fun W => mon_any a cur W hs)
  have HSW := Lib.hid (fun W h => sumw_any A c ws W h (by omega))
  have HR := Lib.hid hr
  have HG := Lib.hid (fun W => mag_any a W (by omega) (by omega))
  obtain ⟨S, hS⟩ : ∃ S, totW ws ws.length = S := ⟨_, rfl⟩
  obtain ⟨W, hW⟩ : ∃ W, a.natAbs = W := ⟨_, rfl⟩
  have hW52 : W ≤ 4503599627370496 := by omega
  rw [hm] at HM
  rw [hS1, hS, decide_eq_true (by omega)] at HSW
  rw [hW] at HG
  rw [hS, hW]
  rw [hS] at hSb hpos
  have hS0 := hpos
  have hnn : (natsOf ws).length = ws.length := by simp [natsOf]
  have hSn : S = sumTo (fun i => (natsOf ws).getD i 0) (natsOf ws).length := by rw [hnn]; exact hS.symm
  have hwk : ∀ k, k < ws.length → ((ws.getD k 0).toNat : Int) = ws.getD k 0 ∧ (ws.getD k 0).toNat ≤ S ∧ (ws.getD k 0).toNat ≤ 1099511627776 ∧ (natsOf ws).getD k 0 = (ws.getD k 0).toNat := fun k hk => by
    have h1 := (okW_iff _).1 (hall k hk)
    have h2 : (natsOf ws).getD k 0 ≤ S := by rw [hSn, hnn]; exact sumTo_le_at (f := fun i => (natsOf ws).getD i 0) hk
    rw [natsOf_at] at h2
    exact ⟨by omega, h2, by omega, natsOf_at ws k⟩
  have HWK := Lib.hid hwk
  have HRS := Lib.hid (rest_sum W S (natsOf ws) hSn hS0)
  have HLN := Lib.hid (left_le_n W S (natsOf ws) hSn hS0)
  obtain ⟨N, hN⟩ : ∃ N, natsOf ws = N := ⟨_, rfl⟩
  rw [hN] at HWK HRS HLN hnn ⊢
  have HNN := Lib.hid hnn
  obtain ⟨n, hn⟩ : ∃ n, ws.length = n := ⟨_, rfl⟩
  rw [hn] at h64 hSb HSW HWK HNN hsort ⊢
  have HSO := Lib.hid hsort
  have HSP := Lib.hid (show 0 < S ∧ S < 18446744073709551616 from ⟨hS0, by omega⟩)
  have HLN' := Lib.hid hn
  have HA := Lib.hid ha
  have hk1 := fun W => make_one (t := 29) (e := 2) (k := .i64) Tryd.underlying29 mk2 n (by omega) W
  have hk2 := fun W => make_one (t := 60) (e := 48) (k := .u64) Tryd.underlying60 mk68 n (by omega) W
  have hk3 := fun W => make_one (t := 61) (e := 3) (k := .i64) Tryd.underlying61 mk3 n (by omega) W
  have hk4 := fun W => make_mon (t := 30) Tryd.underlying30 n (by omega) W
  clear hr hm hok hpos hsort hall hS1 ha hS hW hSn hwk hN hn hnn hs hSb hS0
  go_enter Tryd.func13, Tryd.ntmps13
  go_wp2_with fail
  refine (HM.out _).mono ?_
  rintro e w1 ⟨rfl, hb⟩
  obtain ⟨bm, hbm⟩ : ∃ bm, w.heap.size = bm := ⟨_, rfl⟩
  have hmon0 : w1.rowIs bm 23 2 (fun i => if i = 0 then .int .i64 a else .string cur) := by
    have h0 := World.rowIs_alloc w #[.int .i64 a, .string cur] 23 (fun i => if i = 0 then .int .i64 a else .string cur) (fun i hi => by
      match i, hi with
      | 0, _ => rfl
      | 1, _ => rfl)
    rw [hbm] at h0
    exact h0.of_block (hb.block _ h0.lt)
  have hb1 := ((Below.refl w.heap.size w).alloc (Nat.le_refl _) (.cells #[.int .i64 a, .string cur] 23)).trans (hb.mono (by simp))
  have HB := Lib.hid hb1
  have hsz1 : bm < w1.heap.size := hmon0.lt
  have HMON := Lib.hid hmon0
  have hm0 := hmon0.cell (i := 0) (by omega)
  have hm1 := hmon0.cell (i := 1) (by omega)
  simp only [if_true] at hm0
  rw [if_neg (by omega)] at hm1
  rw [hbm]
  clear hb hb1 hmon0
  go_wp2_with fail
  refine (HSW.out _ (HR.out.below HB.out)).mono ?_
  rintro e w2 ⟨rfl, rfl⟩
  go_wp2_with fail
  refine (HG.out _).mono ?_
  rintro e w2 ⟨rfl, rfl⟩
  go_wp2_with fail
  have hrows : Rows3 ((((w1.alloc (.cells (madeCells #[.int .i64 0] n) 2)).alloc (.cells (madeCells #[.int .u64 0] n) 48)).alloc (.cells #[.slice (some ⟨w1.heap.size + 1, 0, none⟩) n n] 60)).alloc (.cells (madeCells #[.int .i64 0] n) 3)) w1.heap.size n 0 W S N a cur bm := by
    have r1 := World.rowIs_made w1 (.int .i64 0) n 2
    have r2 := World.rowIs_made (w1.alloc (.cells (madeCells #[.int .i64 0] n) 2)) (.int .u64 0) n 48
    have r3 := World.rowIs_alloc ((w1.alloc (.cells (madeCells #[.int .i64 0] n) 2)).alloc (.cells (madeCells #[.int .u64 0] n) 48)) #[.slice (some ⟨w1.heap.size + 1, 0, none⟩) n n] 60 (fun _ => .slice (some ⟨w1.heap.size + 1, 0, none⟩) n n) (fun i hi => by
      match i, hi with
      | 0, _ => rfl)
    have r4 := World.rowIs_made (((w1.alloc (.cells (madeCells #[.int .i64 0] n) 2)).alloc (.cells (madeCells #[.int .u64 0] n) 48)).alloc (.cells #[.slice (some ⟨w1.heap.size + 1, 0, none⟩) n n] 60)) (.int .i64 0) n 3
    simp only [World.size_alloc] at r2 r3 r4
    refine ⟨(((r1.alloc _).alloc _).alloc _).congr (fun i hi => ?_), ((r2.alloc _).alloc _).congr (fun i hi => ?_), r3.alloc _, r4.congr (fun i hi => ?_), (((HMON.out.alloc _).alloc _).alloc _).alloc _⟩
    · rw [if_neg (by omega)]
    · rw [if_neg (by omega)]
    · rw [if_neg (by omega)]
  have hbw := HB.out.trans (((((Below.refl w1.heap.size w1).alloc (Nat.le_refl _) (.cells (madeCells #[.int .i64 0] n) 2)).alloc (by simp) (.cells (madeCells #[.int .u64 0] n) 48)).alloc (by simp; omega) (.cells #[.slice (some ⟨w1.heap.size + 1, 0, none⟩) n n] 60)).alloc (by simp; omega) (.cells (madeCells #[.int .i64 0] n) 3) |>.mono HB.out.size)
  have hps : bm < w1.heap.size := hsz1
  have hwp := HB.out.size
  obtain ⟨p, hp⟩ : ∃ p, w1.heap.size = p := ⟨_, rfl⟩
  rw [hp] at hrows hbw hps hwp ⊢
  obtain ⟨W0, hW0⟩ : ∃ W0, ((((w1.alloc (.cells (madeCells #[.int .i64 0] n) 2)).alloc (.cells (madeCells #[.int .u64 0] n) 48)).alloc (.cells #[.slice (some ⟨p + 1, 0, none⟩) n n] 60)).alloc (.cells (madeCells #[.int .i64 0] n) 3)) = W0 := ⟨_, rfl⟩
  rw [hW0] at hrows hbw ⊢
  have HROWS := Lib.hid hrows
  have HBW := Lib.hid hbw
  have HK4 := Lib.hid hk4
  clear hrows hbw hk1 hk2 hk3 hk4 hm0 hm1 hW0 hp hsz1 HMON
  go_loopw [10, 52] (fun lv i wr => ∃ k : Nat, k ≤ n ∧ i = .int .i64 k ∧ lv = .int .u64 ((W - sumTo (qOf W S N) k : Nat) : Int) ∧ Hid (Rows3 wr p n k W S N a cur bm) ∧ Hid (Below w.heap.size w wr)) (fun _ i _ => n - (intOf i).toNat)
  case atStart => exact ⟨0, Nat.zero_le _, rfl, rfl, HROWS, HBW⟩
  case round =>
    obtain ⟨k, hk, rfl, rfl, hrw, hbl⟩ := hrel
    by_cases hlt : k < n
    · rcases HR.out.below hbl.out with h0 | ⟨b, off, rfl, hc⟩
      · rw [show (cellsI ws).length = ws.length by simp [cellsI], HLN'.out] at h0; omega
      have c0 := row_int hc k (by rw [HLN'.out]; exact hlt)
      obtain ⟨hx1, hx2, hx3, hx4⟩ := HWK.out k hlt
      obtain ⟨x, hx⟩ : ∃ x, (ws.getD k 0).toNat = x := ⟨_, rfl⟩
      rw [hx] at hx1 hx2 hx3 hx4
      rw [← hx1] at c0
      have hq : qOf W S N k = W * x / S := by unfold qOf; rw [hx4]
      have hr : rOf W S N k = W * x % S := by unfold rOf; rw [hx4]
      have hqs : sumTo (qOf W S N) (k + 1) = sumTo (qOf W S N) k + qOf W S N k := rfl
      have hqle : sumTo (qOf W S N) (k + 1) ≤ W := Nat.le_trans (sumTo_mono (by rw [HNN.out]; omega)) HRS.out.1
      have hWx : W * x ≤ 4503599627370496 * S := Nat.mul_le_mul hW52 hx2
      have hMU := fun Wd => Tryd.bits_Mul64 W x (by omega) (by omega) Wd
      obtain ⟨hi, hhi⟩ : ∃ hi, W * x / 18446744073709551616 = hi := ⟨_, rfl⟩
      obtain ⟨lo, hlo⟩ : ∃ lo, W * x % 18446744073709551616 = lo := ⟨_, rfl⟩
      have hsum : hi * 18446744073709551616 + lo = W * x := by omega
      have hSP := HSP.out
      have hhs : hi < S := by omega
      have hDV := fun Wd => div_any hi lo S Wd hhs (by omega) hSP.2
      clear hhs hSP
      rw [hsum, ← hq, ← hr] at hDV
      simp only [hhi, hlo] at hMU
      obtain ⟨q, hqe⟩ : ∃ q, qOf W S N k = q := ⟨_, rfl⟩
      obtain ⟨r, hre⟩ : ∃ r, rOf W S N k = r := ⟨_, rfl⟩
      obtain ⟨s0, hs0⟩ : ∃ s0, sumTo (qOf W S N) k = s0 := ⟨_, rfl⟩
      rw [hqe, hs0] at hqs
      rw [hqe, hre] at hDV
      rw [hs0]
      have HMU := Lib.hid hMU
      have HDV := Lib.hid hDV
      have HQE := Lib.hid hqe
      have HRE := Lib.hid hre
      have HQS := Lib.hid hqs
      rw [hqs] at hqle
      have e60 : IntKind.u64.wrap (x : Int) = (x : Int) := wrapU_in _ (by omega) (by omega)
      clear hc hx1 hx2 hx3 hx4 hx hq hr hqs hWx hMU hhi hlo hsum hDV hqe hre hs0
      go_wp2_with fail
      refine (HMU.out _).mono ?_
      rintro e w2 ⟨rfl, rfl⟩
      go_wp2_with fail
      refine (HDV.out _).mono ?_
      rintro e w3 ⟨rfl, hb3⟩
      have HR3 := Lib.hid (hrw.out.below hb3)
      have HB3 := Lib.hid (hbl.out.trans (hb3.mono hbl.out.size))
      have x0 := HR3.out.parts.cell hlt
      have x1 := HR3.out.rests.cell hlt
      have x2 := HR3.out.order.cell hlt
      have x3 := HR3.out.box.cell (i := 0) (by omega)
      rw [if_neg (by omega)] at x0 x1 x2
      have y0 := HR3.out.parts.frozen k
      have y1 := HR3.out.rests.frozen k
      have y2 := HR3.out.order.frozen k
      have e78 : IntKind.i64.wrap (q : Int) = (q : Int) := IntWalk.i64_in _ (by omega)
      have k0 : (0 : Int) ≤ (k : Int) := by omega
      have k1 : (k : Int) < (n : Int) := by omega
      clear hb3 hrw hbl c0
      go_wp2_with fail
      go_region
      have HN := Lib.hid (HR3.out.next HQE.out HRE.out hps)
      have HBN := Lib.hid (((HB3.out.setCell (p := ⟨p, k, none⟩) hwp (.int .i64 q)).setCell (p := ⟨p + 1, k, none⟩) (by simp; omega) (.int .u64 r)).setCell (p := ⟨p + 1 + 1 + 1, k, none⟩) (by simp; omega) (.int .i64 k))
      generalize (((w3.setCell ⟨p, k, none⟩ (.int .i64 q)).setCell ⟨p + 1, k, none⟩ (.int .u64 r)).setCell ⟨p + 1 + 1 + 1, k, none⟩ (.int .i64 k)) = w4 at HN HBN ⊢
      have e86 : IntKind.u64.wrap (((W - s0 : Nat) : Int) - (q : Int)) = ((W - (s0 + q) : Nat) : Int) := by rw [wrapU_in _ (by omega) (by omega)]; omega
      clear x0 x1 x2 x3 y0 y1 y2
      go_wp2_with fail
      go_roundw
      case rel => exact ⟨k + 1, by omega, by go_num, by rw [HQS.out], HN, Lib.hid (HBN.out.trans ⟨rfl, rfl, rfl, Nat.le_refl _, fun _ _ => rfl⟩)⟩
      case measure => simp [intOf]; omega
    · obtain rfl : k = n := by omega
      have HL := Lib.hid (show W - sumTo (qOf W S N) k = leftOf W S N by unfold leftOf; rw [HNN.out])
      rw [HL.out]
      have hLn := HLN.out
      rw [HNN.out] at hLn
      obtain ⟨L, hLe⟩ : ∃ L, leftOf W S N = L := ⟨_, rfl⟩
      rw [hLe] at hLn ⊢
      have HLE := Lib.hid hLe
      clear hLe
      have hR3 := hrw.out
      have hcmp := cmpAt_of (w := wr) (cap := k) (blk := p + 1 + 1 + 1) (rOf W S N) (by omega) hR3.box (hR3.rests.congr (fun i hi => by rw [if_pos hi])) (by omega) (by omega)
      have hH : Holds encI wr (p + 1 + 1 + 1) 0 (Array.range k) := holds_rowIs (t := 3) (Array.range k) (by simp) (hR3.order.congr (fun i hi => by rw [if_pos hi, range_get hi]; rfl))
      have HCS := Lib.hid (HSO.out (p + 1 + 1) (p + 1 + 1 + 1) k (rOf W S N) wr hcmp hH)
      clear hcmp hH hR3
      go_wp2_with fail
      refine HCS.out.mono ?_
      rintro e w2 ⟨rfl, m, d, hd, rfl⟩
      have hR4 : Rows4 ((putRow encI wr (p + 1 + 1 + 1) 0 d).drewN m) p k 0 (qOf W S N) (rOf W S N) d a cur bm := by
        have hR3 := hrw.out
        refine ⟨rowIs_drewN ((rowIs_putRow_other hR3.parts (by omega) d).congr (fun i hi => ?_)) m, rowIs_drewN (rowIs_putRow hR3.order d hd.size) m, rowIs_drewN (rowIs_putRow_other hR3.mon (by omega) d) m⟩
        rw [if_pos hi, if_neg (by omega)]; rfl
      have HR4 := Lib.hid hR4
      have HB4 := Lib.hid ((below_putRow hbl.out (blk := p + 1 + 1 + 1) (by omega) d).trans ⟨rfl, rfl, rfl, Nat.le_refl _, fun _ _ => rfl⟩ : Below w.heap.size w ((putRow encI wr (p + 1 + 1 + 1) 0 d).drewN m))
      generalize (putRow encI wr (p + 1 + 1 + 1) 0 d).drewN m = w5 at HR4 HB4 ⊢
      have HD := Lib.hid hd
      clear hR4 hd hrw hbl
      go_upto_block 2 with (fail)
      go_cut [10] from 93 to 107 (fun lv wx => (∃ v : Nat, lv = .int .u64 v) ∧ Hid (Rows4 wx p k L (qOf W S N) (rOf W S N) d a cur bm) ∧ Hid (Below w.heap.size w wx))
      case first =>
        go_wp2_with fail
        go_loopw [10, 93] (fun lv i wr => ∃ j : Nat, j ≤ k ∧ j ≤ L ∧ i = .int .i64 j ∧ lv = .int .u64 ((L - j : Nat) : Int) ∧ Hid (Rows4 wr p k j (qOf W S N) (rOf W S N) d a cur bm) ∧ Hid (Below w.heap.size w wr)) (fun _ i _ => k - (intOf i).toNat)
        case atStart => exact ⟨0, by omega, by omega, rfl, rfl, HR4, HB4⟩
        case round =>
          obtain ⟨j, hj, hjL, rfl, rfl, hr4, hbl⟩ := hrel
          by_cases hlt : j < k
          · obtain ⟨x, hx⟩ : ∃ x, d[j]! = x := ⟨_, rfl⟩
            have hxk : x < k := by rw [← hx]; exact HD.out.lt hlt
            have x0 := hr4.out.order.cell hlt
            have y0 := hr4.out.order.frozen j
            have x1 := hr4.out.parts.cell hxk
            have y1 := hr4.out.parts.frozen x
            have hrk : rk k (rOf W S N) x = j := by rw [← hx]; exact HD.out.rk hlt
            rw [hrk, if_neg (by omega), Nat.add_zero] at x1
            unfold encI at x0
            rw [hx] at x0
            by_cases hjl : j < L
            · have z0 : (((L - j : Nat) : Int) == 0) = false := beq_eq_false_iff_ne.2 (by omega)
              have hnx := hr4.out.next HD.out hlt hps
              rw [hx] at hnx
              have hqb : qOf W S N x ≤ W := Nat.le_trans (sumTo_le_at (f := qOf W S N) hxk) (by have := HRS.out.1; rw [HNN.out] at this; exact this)
              obtain ⟨qx, hqx⟩ : ∃ qx, qOf W S N x = qx := ⟨_, rfl⟩
              rw [hqx] at x1 hnx hqb
              have HNX := Lib.hid hnx
              have HBX := Lib.hid (hbl.out.setCell (p := ⟨p, x, none⟩) hwp (.int .i64 ((qx : Int) + 1)))
              have e106 : IntKind.u64.wrap (((L - j : Nat) : Int) - 1) = ((L - (j + 1) : Nat) : Int) := by rw [wrapU_in _ (by omega) (by omega)]; omega
              have k0 : (0 : Int) ≤ (x : Int) := by omega
              have k1 : (x : Int) < (k : Int) := by omega
              clear hnx hqx hrk hx
              go_wp2_with fail
              exact ⟨⟨j + 1, by omega, by omega, by go_num, rfl, HNX, HBX⟩, by simp [intOf]; omega⟩
            · obtain rfl : j = L := by omega
              have z0 : (((j - j : Nat) : Int) == 0) = true := by rw [Nat.sub_self]; rfl
              clear hrk hx
              go_wp2_with fail
              go_meet
              exact ⟨⟨_, rfl⟩, hr4, hbl⟩
          · obtain rfl : j = k := by omega
            obtain rfl : j = L := by omega
            go_wp2_with fail
            go_meet
            exact ⟨⟨_, rfl⟩, hr4, hbl⟩
      case rest =>
        obtain ⟨⟨v, rfl⟩, hr4, hb4⟩ := hcut
        have h4 := HK4.out wc
        obtain ⟨mc, hmc⟩ : ∃ mc, madeCells #[.int .i64 0, .string ⟨#[]⟩] (k * 2) = mc := ⟨_, rfl⟩
        rw [hmc] at h4
        have hmz : mc.size = k * 2 := by rw [← hmc]; exact size_madeCells _ _
        have hL0 := World.rowIs_alloc wc mc 23 (fun i => mc[i]!) (fun i hi => by rw [getElem!_pos mc i hi]; exact Array.getElem?_eq_getElem hi)
        rw [hmz] at hL0
        have HL0 := Lib.hid hL0
        have HR6 := Lib.hid (hr4.out.alloc (.cells mc 23))
        have HB6 := Lib.hid (hb4.out.alloc hb4.out.size (.cells mc 23))
        have hLb : p + 1 + 1 + 1 < wc.heap.size := hr4.out.order.lt
        have hwb := hb4.out.size
        have hqb : ∀ i, i < k → qOf W S N i ≤ W := fun i hi => Nat.le_trans (sumTo_le_at (f := qOf W S N) hi) (by have := HRS.out.1; rw [HNN.out] at this; exact this)
        have HQB := Lib.hid hqb
        have HPO := Lib.hid (show ∀ i, partOf W S N i = qOf W S N i + if rk k (rOf W S N) i < L then 1 else 0 from fun i => by unfold partOf; rw [HNN.out, HLE.out])
        have ha := HA.out
        clear hmc hL0 hr4 hb4 hqb hmz
        obtain ⟨lb, hlb⟩ : ∃ lb, wc.heap.size = lb := ⟨_, rfl⟩
        by_cases hneg : a < 0
        all_goals
          go_wp2_with fail
          have HRL := Lib.hid (show (wc.alloc (.cells mc 23)).rowIs lb 23 (k * 2) (resF W S N a cur mc 0) from (by rw [← hlb]; exact HL0.out.congr (fun i hi => by unfold resF; rw [if_neg (by omega)])))
          have hplb : p + 1 + 1 + 1 < lb := by omega
          have hwlb : w.heap.size ≤ lb := by omega
          clear h4 hlb hLb hwb
          generalize wc.alloc (.cells mc 23) = w7 at HRL HR6 HB6 ⊢
          go_loopw [113] (fun i wr => ∃ j : Nat, j ≤ k ∧ i = .int .i64 j ∧ Hid (Rows4 wr p k L (qOf W S N) (rOf W S N) d a cur bm) ∧ Hid (wr.rowIs lb 23 (k * 2) (resF W S N a cur mc j)) ∧ Hid (Below w.heap.size w wr)) (fun i _ => k - (intOf i).toNat)
          case atStart => exact ⟨0, Nat.zero_le _, rfl, HR6, HRL, HB6⟩
          case round =>
            obtain ⟨j, hj, rfl, hr4, hrl, hbl⟩ := hrel
            by_cases hlt : j < k
            · have x1 := hr4.out.parts.cell hlt
              have m0 := hr4.out.mon.cell (i := 0) (by omega)
              have m1 := hr4.out.mon.cell (i := 1) (by omega)
              rw [if_pos rfl] at m0
              rw [if_neg (by omega)] at m1
              rw [← HPO.out j] at x1
              have hpb : partOf W S N j ≤ 4503599627370497 := by
                have := HQB.out j hlt
                rw [HPO.out j]; split <;> omega
              have z0 := hrl.out.cell (i := j * 2) (by omega)
              have z1 := hrl.out.cell (i := j * 2 + 1) (by omega)
              have z2 := hrl.out.frozen (j * 2)
              have z3 := hrl.out.frozen (j * 2 + 1)
              obtain ⟨v0, hv0⟩ : ∃ v0, resF W S N a cur mc j (j * 2) = v0 := ⟨_, rfl⟩
              obtain ⟨v1, hv1⟩ : ∃ v1, resF W S N a cur mc j (j * 2 + 1) = v1 := ⟨_, rfl⟩
              rw [hv0] at z0
              rw [hv1] at z1
              obtain ⟨pt, hpt⟩ : ∃ pt, partOf W S N j = pt := ⟨_, rfl⟩
              rw [hpt] at x1 hpb
              have HPT := Lib.hid hpt
              have HNEG := Lib.hid hneg
              clear hv0 hv1 hpt
              go_wp2_with fail
              exact ⟨⟨j + 1, by omega, by go_num, Lib.hid (hr4.out.far hplb hps _ _ _ _), Lib.hid (resF_next hrl.out hlt (by first | rw [amtF_neg (by have := HNEG.out; omega), HPT.out] | rw [amtF_pos (by have := HNEG.out; omega), HPT.out])), Lib.hid ((hbl.out.setCell (p := ⟨lb, j * 2, none⟩) hwlb _).setCell (p := ⟨lb, j * 2 + 1, none⟩) hwlb _)⟩, by simp [intOf]; omega⟩
            · obtain rfl : j = k := by omega
              go_wp2_with fail
              go_ret2
              exact ⟨lb, rfl, hrl.out.congr (fun i hi => resF_full hi), hwlb, hbl.out⟩
end Go.Proofs.YtadehobimlpmcaaDoor
