/- What the law needs beyond the packed texts. -/
import Derived.Outline
import Derived.Lib.OthersKept
import Derived.Lib.ItoaLen
import Derived.Deep.RegionHeld3
import Derived.Below
import Derived.Laws.OwnMore
import Derived.Deep.AppendLies
import Derived.Deep.Draws
import Derived.Maps.AppendAt
import Derived.RegionTactic
import Derived.OwnWalk
import Derived.Laws.Concat
import Derived.Deep.LoopGhost
import Derived.Lib.ItoaWalk
import Derived.Deep.QuietTactic
import Derived.BigQuiet
import Derived.DeepKeys4
import Derived.Maps.Own
import Derived.Maps.OwnSet
import Derived.Maps.Views
import Derived.Laws.IdiomCopy
import Derived.Deep.RegionLaw
import Derived.Deep.RegionWith
import Derived.Test.YthflmdgfenojcaaGreatDoorQBase
import Derived.Test.YthflmdgfenojcaaGreatDoorQPlain
import Derived.Test.YthflmdgfenojcaaGreatDoorQShelf
import Derived.Test.YthflmdgfenojcaaGreatDoorQLex
import Derived.Test.YthflmdgfenojcaaGreatDoorQPan
import Derived.Test.YthflmdgfenojcaaGreatDoorQMon
import Derived.Test.YthflmdgfenojcaaGreatDoorQRec
import Derived.Test.YthflmdgfenojcaaGreatDoorQChk
import Derived.Test.YthflmdgfenojcaaGreatDoorQNbr
import Derived.Test.YthflmdgfenojcaaGreatDoorQEnc
import Derived.Test.YthflmdgfenojcaaGreatDoorQCut
import Derived.Test.YthflmdgfenojcaaGreatDoorQDec
import Derived.Test.YthflmdgfenojcaaGreatDoorQSl
import Derived.Test.YthflmdgfenojcaaGreatDoorQC7p
import Derived.Test.YthflmdgfenojcaaGreatDoorQC7Walk
import Derived.Test.YthflmdgfenojcaaGreatDoorQRws
import Derived.Test.YthflmdgfenojcaaGreatDoorQHx
import Derived.Test.YthflmdgfenojcaaGreatDoorQBd
import Derived.Test.YthflmdgfenojcaaGreatDoorQPr
import Derived.Test.YthflmdgfenojcaaGreatDoorQFx16
import Derived.Test.YthflmdgfenojcaaGreatDoorQCr
import Derived.Test.YthflmdgfenojcaaGreatDoorQBnm
import Derived.Test.YthflmdgfenojcaaGreatDoorQSum
import Derived.Test.YthflmdgfenojcaaGreatDoorQCl
import Derived.Test.YthflmdgfenojcaaGreatDoorQBck
import Derived.Test.YthflmdgfenojcaaGreatDoorQBen
import Derived.Test.YthflmdgfenojcaaGreatDoorQExm
import Derived.Test.YthflmdgfenojcaaGreatDoorQDcd
import Derived.Test.YthflmdgfenojcaaGreatDoorQRds
import Derived.Test.YthflmdgfenojcaaGreatDoorQAw
import Derived.Test.YthflmdgfenojcaaGreatDoorQFew
import Derived.Test.YthflmdgfenojcaaGreatDoorQDvw
import Derived.Test.YthflmdgfenojcaaGreatDoorQDcw
import Derived.Test.YthflmdgfenojcaaGreatDoorQAwb
import Derived.Test.YthflmdgfenojcaaGreatDoorQLTo
import Derived.Test.YthflmdgfenojcaaGreatDoorQLDe
import Derived.Test.YthflmdgfenojcaaGreatDoorQHo
import Derived.Test.YthflmdgfenojcaaGreatDoorQLCd
import Derived.Test.YthflmdgfenojcaaGreatDoorQIKm
namespace Go.Proofs.YthflmdgfenojcaaGreatDoor
set_option linter.unusedVariables false
open Go.RowKit
instance (x : ByteArray) (l : List ByteArray) : Decidable (x ∈ l) := decidable_of_iff (l.any (fun y => decide (y = x)) = true) (by simp)
theorem idsOf_succ (l : List Rec) (k : Nat) (h : k < l.length) : idsOf (l.take (k + 1)) = idsOf (l.take k) ++ [(rcAt l k).id] := by
  unfold idsOf; rw [List.take_succ_eq_append_getElem h, List.map_append, rcAt_get l k h]; rfl
end Go.Proofs.YthflmdgfenojcaaGreatDoor
namespace Go.Proofs.YthflmdgfenojcaaGreatDoor
set_option linter.unusedVariables false
open Go.RowKit Go.Maps
/-- The state of Check's loop behind k records: the boxed file, the names so far. -/
structure CkS (b : Bat) (A : Option Addr) (cp k : Nat) (w W : World) : Prop where
  t : W.heap[w.heap.size]? = some (.cells #[.string b.id, .string b.sd, .int .i64 b.dt, .slice A b.rs.length cp] 61)
  s : SSet W (w.heap.size + 1) (idsOf (b.rs.take k))
  be : Below w.heap.size w W
  z : ∀ j, j < k → ptL b.sd b.rs j = 0
theorem CkS.start (b : Bat) (A : Option Addr) (cp : Nat) (w : World) : CkS b A cp 0 w ((w.alloc (.cells #[.string b.id, .string b.sd, .int .i64 b.dt, .slice A b.rs.length cp] 61)).alloc (.map #[] 0)) := by
  have e : (w.alloc (.cells #[.string b.id, .string b.sd, .int .i64 b.dt, .slice A b.rs.length cp] 61)).heap.size = w.heap.size + 1 := Array.size_push _
  refine ⟨blk_later (heap_alloc_new w _) (bx _ _), ?_, (bx w _).trans ((bx _ _).mono (by simp)), fun j hj => absurd hj (Nat.not_lt_zero _)⟩
  rw [← e]; exact SSet.made _
theorem CkS.below {b : Bat} {A : Option Addr} {cp k : Nat} {w W W' : World} (h : CkS b A cp k w W) (hb : Below W.heap.size W W') : CkS b A cp k w W' :=
  ⟨blk_later h.t hb, h.s.below hb, h.be.trans (hb.mono h.be.size), h.z⟩
theorem CkS.next {b : Bat} {A : Option Addr} {cp k : Nat} {w W W' : World} (h : CkS b A cp k w W) (hk : k < b.rs.length) (hs : SSet W' (w.heap.size + 1) (idsOf (b.rs.take k) ++ [(rcAt b.rs k).id])) (hg : W.grownBy W' (some (w.heap.size + 1))) (hz : ptL b.sd b.rs k = 0) : CkS b A cp (k + 1) w W' := by
  refine ⟨?_, by rw [idsOf_succ _ _ hk]; exact hs, h.be.grown hg h.be.size (fun x hx => by cases hx; omega), fun j hj => ?_⟩
  · rw [hg.block _ (Array.getElem?_eq_some_iff.1 h.t).1 (by simp)]; exact h.t
  · rcases Nat.lt_or_ge j k with c | c
    · exact h.z j c
    · obtain rfl : j = k := by omega
      exact hz
end Go.Proofs.YthflmdgfenojcaaGreatDoor
namespace Go.Proofs
theorem Tryz.lays166 : Lays.n166 Tryz.prog Tryz.lays156_ren := { Tryz.lays156 with }
def Tryz.lays167_ren : Go.Shelf.Ren := ⟨fun | 167 => 144 | 240 => 169 | 276 => 193 | n => n, fun | 31 => 22 | 9 => 9 | 3 => 3 | 4 => 4 | 0 => 0 | 20 => 20 | 72 => 138 | 76 => 168 | 70 => 136 | 37 => 80 | 75 => 167 | 127 => 173 | 164 => 209 | 5 => 5 | 80 => 140 | n => n, fun | n => n⟩
theorem Tryz.lays167 : Lays.n167 Tryz.prog Tryz.lays167_ren := {
  mixed := by kernel_rfl
  f167 := Tryz.func144.trans (congrArg some (by kernel_rfl))
  f240 := Tryz.func169.trans (congrArg some (by kernel_rfl))
  f276 := Tryz.func193.trans (congrArg some (by kernel_rfl))
  t0 := Tryz.underlying0
  a0 := Tryz.isAgg0
  z0 := Tryz.sizeOf0
  v0 := Tryz.zeroValue0
  t4 := Tryz.underlying4
  a4 := Tryz.isAgg4
  z4 := Tryz.sizeOf4
  v4 := Tryz.zeroValue4
  t5 := Tryz.underlying5
  a5 := Tryz.isAgg5
  z5 := Tryz.sizeOf5
  v5 := Tryz.zeroValue5
  t9 := Tryz.underlying9
  a9 := Tryz.isAgg9
  z9 := Tryz.sizeOf9
  v9 := Tryz.zeroValue9
  t20 := Tryz.underlying20
  a20 := Tryz.isAgg20
  z20 := Tryz.sizeOf20
  v20 := Tryz.zeroValue20
  t37 := Tryz.underlying80
  a37 := Tryz.isAgg80
  z37 := Tryz.sizeOf80
  v37 := Tryz.zeroValue80
  t70 := Tryz.underlying136
  a70 := Tryz.isAgg136
  z70 := Tryz.sizeOf136
  v70 := Tryz.zeroValue136
  t72 := Tryz.underlying138
  a72 := Tryz.isAgg138
  z72 := Tryz.sizeOf138
  v72 := Tryz.zeroValue138
  t75 := Tryz.underlying167
  a75 := Tryz.isAgg167
  z75 := Tryz.sizeOf167
  v75 := Tryz.zeroValue167
  t164 := Tryz.underlying209
  a164 := Tryz.isAgg209
  z164 := Tryz.sizeOf209
  v164 := Tryz.zeroValue209 }
theorem Tryz.Builder_Extra_167 : Builder.Extra Tryz.prog Tryz.lays167_ren := {
  sizeBuilder := by kernel_rfl
  liesBuilder := by kernel_rfl
  t5 := Tryz.underlying5
  a5 := Tryz.isAgg5
  z5 := Tryz.sizeOf5
  v5 := Tryz.zeroValue5
  infoByte := by kernel_rfl
  cellsByte := by kernel_rfl
  sizeByte := by kernel_rfl
  neB5 := by decide }
end Go.Proofs
namespace Go.Proofs.YthflmdgfenojcaaGreatDoor
set_option linter.unusedVariables false
open Go.RowKit
/-- A builder that lies at b with the bytes l, and what lies beside it. -/
def Bld (B b : Nat) (l : List UInt8) (w0 w : World) : Prop := Lib.IsBuilderF 138 5 B b (Lib.byteCells l) w ∧ Below B w0 w ∧ Lib.OthersKept 5 (some b) w0 w
def WPost (v : Value) (B b : Nat) (l : List UInt8) (w : World) (e : Ending) (w' : World) : Prop := e = .returned v ∧ Bld B b l w w'
theorem byteCells_app (l m : List UInt8) : Lib.byteCells (l ++ m) = Lib.byteCells l ++ Lib.byteCells m := by unfold Lib.byteCells; rw [List.map_append]
theorem wstr_any (B b : Nat) (l : List UInt8) (s : ByteArray) (w : World) (h : Lib.IsBuilderF 138 5 B b (Lib.byteCells l) w) (hl : l.length ≤ 100000000000) (hs : s.size ≤ 100000000000) (hB : B ≤ w.heap.size) :
    Calls Tryz.prog 133 #[.pointer (some ⟨b, 0, none⟩), .string s] w (WPost (.tuple #[.int .i64 s.size, .nilIface]) B b (l ++ s.data.toList) w) :=
  (Any.Builder_WriteString_k Tryz.lays166 Tryz.Builder_Extra_156 B b (Lib.byteCells l) s w h (by rw [Lib.byteCells_length]; omega) hB).mono fun e w' ⟨he, h1, h2, h3⟩ => ⟨he, .inr (by rw [byteCells_app]; exact h1), h2, h3⟩
theorem wbyt_any (B b : Nat) (l : List UInt8) (c : UInt8) (w : World) (h : Lib.IsBuilderF 138 5 B b (Lib.byteCells l) w) (hl : l.length ≤ 100000000000) (hB : B ≤ w.heap.size) :
    Calls Tryz.prog 144 #[.pointer (some ⟨b, 0, none⟩), .int .u8 c.toNat] w (WPost .nilIface B b (l ++ [c]) w) :=
  (Any.Builder_WriteByte_k Tryz.lays167 Tryz.Builder_Extra_167 B b (Lib.byteCells l) c.toNat w h (by rw [Lib.byteCells_length]; omega) hB).mono fun e w' ⟨he, h1, h2, h3⟩ => ⟨he, .inr (by rw [byteCells_app]; exact h1), h2, h3⟩
theorem Bld.trans {B b : Nat} {l m : List UInt8} {w0 w1 w2 : World} (h : Bld B b l w0 w1) (k : Bld B b m w1 w2) : Bld B b m w0 w2 := ⟨k.1, h.2.1.trans k.2.1, h.2.2.trans k.2.2⟩
theorem Bld.le {B b : Nat} {l : List UInt8} {w0 w1 : World} (h : Bld B b l w0 w1) (hB : B ≤ w0.heap.size) : B ≤ w1.heap.size := Nat.le_trans hB h.2.1.size
set_option maxRecDepth 1000000 in
set_option maxHeartbeats 6400000 in
theorem wline_any (B b g : Nat) (l : List UInt8) (ps : List ByteArray) (cs : Array Value) (T : TypeId) (cp : Nat) (w : World) (h : Lib.IsBuilderF 138 5 B b (Lib.byteCells l) w) (hl : l.length ≤ 10000000000) (hB : B ≤ w.heap.size)
    (hg : w.heap[g]? = some (.cells cs T)) (hT : T ≠ 5) (hgb : g ≠ b) (hcs : ∀ i, i < ps.length → cs[i]? = some (.string (strAt ps i))) (hn : ps.length ≤ 10) (hc : ps.length ≤ cp) (hsz : ∀ i, i < ps.length → (strAt ps i).size ≤ 1000000) :
    Calls Tryz.prog 94 #[.pointer (some ⟨b, 0, none⟩), .slice (some ⟨g, 0, none⟩) ps.length cp] w (WPost (.tuple #[]) B b (l ++ lineL ps) w) := by
  have HB0 : Hid (Bld B b (l ++ joinK ps 0) w w) := Lib.hid ⟨by rw [joinK_zero, List.append_nil]; exact h, Below.refl _ _, Lib.OthersKept.refl _ _ _⟩
  have HG := Lib.hid hg
  have HC := Lib.hid hcs
  have HJ : Hid (∀ k, k ≤ ps.length → (l ++ joinK ps k).length ≤ 20000000000) := Lib.hid (fun k hk => by
    have h1 := joinK_len ps 1000000 hsz k hk
    have h2 : k * (1000000 + 1) ≤ 10 * (1000000 + 1) := Nat.mul_le_mul_right _ (by omega)
    rw [List.length_append]; omega)
  have HS := Lib.hid hsz
  have HBW := Lib.hid hB
  have HT : Hid (∀ c fz, (Obj.cells cs T) ≠ .cells c 5 fz) := Lib.hid (fun c fz e => hT (by injection e))
  have HGB := Lib.hid hgb
  clear h hg hcs hsz hB hT hgb
  unfold WPost
  go_enter Tryz.func94, Tryz.ntmps94
  go_wp2_with fail
  go_loopw [8] (fun i wr => ∃ k : Nat, k ≤ ps.length ∧ i = .int .i64 k ∧ Hid (Bld B b (l ++ joinK ps k) w wr)) (fun i _ => ps.length - (intOf i).toNat)
  case atStart => exact ⟨0, Nat.zero_le _, rfl, HB0⟩
  case round =>
    clear HB0
    obtain ⟨k, hk, rfl, HW⟩ := hrel
    have HL := Lib.hid (HJ.out k hk)
    by_cases hlt : k < ps.length
    · have hcell : wr.cell? ⟨g, k, none⟩ = some (.string (strAt ps k)) := by
        rw [cell_c (HW.out.2.2 g _ HG.out (fun e => HGB.out (by injection e)) HT.out) k]; exact HC.out k hlt
      have kI : (k : Int) < (ps.length : Int) := by omega
      have k0 : (0 : Int) ≤ (k : Int) := by omega
      rcases Nat.eq_zero_or_pos k with h0 | h0
      · have hz : ¬ (0 : Int) < (k : Int) := by omega
        have HJ1 := Lib.hid (show l ++ joinK ps k ++ (strAt ps k).data.toList = l ++ joinK ps (k + 1) by rw [h0, joinK_zero, List.append_nil, joinK_one ps (by omega)])
        clear h0
        go_wp2_with fail
        refine (wstr_any B b _ (strAt ps k) _ HW.out.1 (by have := HL.out; omega) (by have := HS.out k hlt; omega) (HW.out.le HBW.out)).mono ?_
        rintro e w3 ⟨rfl, hb⟩
        have HW3 := Lib.hid (HW.out.trans hb)
        rw [HJ1.out] at HW3
        clear hb
        go_wp2_with fail
        go_roundw
        case rel => exact ⟨k + 1, by omega, by go_num, HW3⟩
        case measure => simp [intOf]; omega
      · have hz : (0 : Int) < (k : Int) := by omega
        have HJ1 := Lib.hid (show l ++ joinK ps k ++ [124] ++ (strAt ps k).data.toList = l ++ joinK ps (k + 1) by rw [joinK_succ ps k h0 hlt]; simp)
        clear h0
        have HWB := Lib.hid (wbyt_any B b (l ++ joinK ps k) 124 wr HW.out.1 (by have := HL.out; omega) (HW.out.le HBW.out))
        go_wp2_with fail
        refine HWB.out.mono ?_
        rintro e w2 ⟨rfl, hb⟩
        have HW2 := Lib.hid (HW.out.trans hb)
        clear hb
        go_wp2_with fail
        refine (wstr_any B b _ (strAt ps k) _ HW2.out.1 (by have := HL.out; rw [List.length_append, List.length_singleton]; omega) (by have := HS.out k hlt; omega) (HW2.out.le HBW.out)).mono ?_
        rintro e w3 ⟨rfl, hb⟩
        have HW3 := Lib.hid (HW2.out.trans hb)
        rw [HJ1.out] at HW3
        clear hb
        go_wp2_with fail
        go_roundw
        case rel => exact ⟨k + 1, by omega, by go_num, HW3⟩
        case measure => simp [intOf]; omega
    · obtain rfl : k = ps.length := by omega
      have HWB := Lib.hid (wbyt_any B b (l ++ joinK ps ps.length) 10 wr HW.out.1 (by have := HL.out; omega) (HW.out.le HBW.out))
      go_wp2_with fail
      refine HWB.out.mono ?_
      rintro e w2 ⟨rfl, hb⟩
      have HW2 := Lib.hid (HW.out.trans hb)
      clear hb
      go_wp2_with fail
      go_end0
      exact ⟨rfl, by unfold lineL; rw [← List.append_assoc]; exact HW2.out⟩
end Go.Proofs.YthflmdgfenojcaaGreatDoor
namespace Go.Proofs.YthflmdgfenojcaaGreatDoor
set_option linter.unusedVariables false
open Go.RowKit Go.Maps
theorem isbF_later {T e : TypeId} {B b : Nat} {bs : List Value} {w w' : World} (h : Lib.IsBuilderF T e B b bs w) (hb : Below w.heap.size w w') : Lib.IsBuilderF T e B b bs w' := by
  have key : ∀ p, Lib.BuilderAtF T e B b p bs w → Lib.BuilderAtF T e B b p bs w' := fun p ⟨h1, v, h2, h3, h4⟩ =>
    ⟨h1, v, blk_later h2 hb, h3.kept (row := none) ⟨hb.os, hb.tape, hb.output, hb.size, fun k hk _ => hb.block k hk⟩ (Classical.em _), h4⟩
  exact h.imp (key _) (key _)
/-- The boxed file and the builder with the bytes l. -/
structure EnS (b : Bat) (A : Option Addr) (cp B : Nat) (l : List UInt8) (w W : World) : Prop where
  t : W.heap[w.heap.size]? = some (.cells #[.string b.id, .string b.sd, .int .i64 b.dt, .slice A b.rs.length cp] 61)
  bl : Lib.IsBuilderF 138 5 B B (Lib.byteCells l) W
  be : Below w.heap.size w W
  lt : w.heap.size < B
  le : B < W.heap.size
section
variable {b : Bat} {A : Option Addr} {cp B : Nat} {l m : List UInt8} {w W W' X : World}
theorem EnS.below (h : EnS b A cp B l w W) (hb : Below W.heap.size W W') : EnS b A cp B l w W' :=
  ⟨blk_later h.t hb, isbF_later h.bl hb, h.be.trans (hb.mono h.be.size), h.lt, Nat.lt_of_lt_of_le h.le hb.size⟩
theorem EnS.wr (h : EnS b A cp B l w W) (k : Bld B B m W W') : EnS b A cp B m w W' :=
  ⟨(k.2.1.block _ h.lt).trans h.t, k.1, h.be.trans (k.2.1.mono (Nat.le_of_lt h.lt)), h.lt, Nat.lt_of_lt_of_le h.le k.2.1.size⟩
def EnP (b : Bat) (A : Option Addr) (cp B : Nat) (l : List UInt8) (w X : World) (e : Ending) (w' : World) : Prop := e = .returned (.tuple #[]) ∧ EnS b A cp B l w w' ∧ Lib.OthersKept 5 (some B) X w'
theorem EnS.line (h : EnS b A cp B l w X) (hl : l.length ≤ 10000000000) (ps : List ByteArray) (cs : Array Value) (hcs : ∀ i, i < ps.length → cs[i]? = some (.string (strAt ps i))) (hn : ps.length ≤ 10) (hsz : ∀ i, i < ps.length → (strAt ps i).size ≤ 1000000) :
    Calls Tryz.prog 94 #[.pointer (some ⟨B, 0, none⟩), .slice (some ⟨X.heap.size, 0, none⟩) ps.length ps.length] (X.alloc (.cells cs 9)) (EnP b A cp B (l ++ lineL ps) w X) := by
  have h2 := h.below (bx X (.cells cs 9))
  refine (wline_any B B X.heap.size l ps cs 9 ps.length _ h2.bl hl (Nat.le_of_lt h2.le) (heap_alloc_new X _) (by decide) (by have := h.le; omega) hcs hn (Nat.le_refl _) hsz).mono ?_
  rintro e w' ⟨he, hb⟩
  exact ⟨he, h2.wr hb, (((Lib.OthersKept.refl 5 (some B) X).alloc _).trans hb.2.2)⟩
theorem EnS.row (h : EnS b A cp B l w W) : W.cell? ⟨w.heap.size, 0, none⟩ = some (.string b.id) ∧ W.cell? ⟨w.heap.size, 1, none⟩ = some (.string b.sd) ∧ W.cell? ⟨w.heap.size, 2, none⟩ = some (.int .i64 b.dt) :=
  ⟨cell_c h.t 0, cell_c h.t 1, cell_c h.t 2⟩
/-- With the totals in a block of their own. -/
structure EnT (b : Bat) (A : Option Addr) (cp B TB : Nat) (x0 x1 x2 x3 : Int) (l : List UInt8) (w W : World) : Prop where
  s : EnS b A cp B l w W
  tt : W.heap[TB]? = some (.cells #[.int .i64 x0, .int .i64 x1, .int .i64 x2, .int .i64 x3] 46)
variable {TB : Nat} {x0 x1 x2 x3 : Int}
theorem EnT.below (h : EnT b A cp B TB x0 x1 x2 x3 l w W) (hb : Below W.heap.size W W') : EnT b A cp B TB x0 x1 x2 x3 l w W' := ⟨h.s.below hb, blk_later h.tt hb⟩
theorem EnT.row (h : EnT b A cp B TB x0 x1 x2 x3 l w W) : W.cell? ⟨TB, 0, none⟩ = some (.int .i64 x0) ∧ W.cell? ⟨TB, 1, none⟩ = some (.int .i64 x1) ∧ W.cell? ⟨TB, 2, none⟩ = some (.int .i64 x2) ∧ W.cell? ⟨TB, 3, none⟩ = some (.int .i64 x3) :=
  ⟨cell_c h.tt 0, cell_c h.tt 1, cell_c h.tt 2, cell_c h.tt 3⟩
theorem EnT.wr (h : EnT b A cp B TB x0 x1 x2 x3 l w X) (hs : EnS b A cp B m w W') (ho : Lib.OthersKept 5 (some B) X W') (hne : TB ≠ B) : EnT b A cp B TB x0 x1 x2 x3 m w W' :=
  ⟨hs, ho TB _ h.tt (fun e => hne (by injection e)) (fun c fz e => by injection e with _ e; exact absurd e (by decide))⟩
end
end Go.Proofs.YthflmdgfenojcaaGreatDoor
namespace Go.Proofs.YthflmdgfenojcaaGreatDoor
set_option linter.unusedVariables false
open Go.RowKit
theorem add_of_add (a : Addr) (i j : Nat) : (a.add i).add j = a.add (i + j) := by
  unfold Addr.add
  by_cases hi : i = 0 <;> by_cases hj : j = 0 <;> simp [hi, hj, Nat.add_assoc]
section
variable {w w' : World} {B B' size n : Nat} {A : Option Addr} {xs : List Value}
theorem Reads.at_ {k : Nat} (h : Reads w B 1 A n xs) (hk : k < n) : ∃ ad u, A = some ad ∧ ad.block < B ∧ xs[k]? = some u ∧ w.cell? (ad.add k) = some u := by
  obtain ⟨ad, e, hb, hc⟩ := h.2 (by omega)
  have hl : k < xs.length := by have := h.1; omega
  exact ⟨ad, xs[k], e, hb, List.getElem?_eq_getElem hl, hc k _ (List.getElem?_eq_getElem hl)⟩
theorem Reads.more (h : Reads w B size A n xs) (hB : B ≤ B') : Reads w B' size A n xs :=
  ⟨h.1, fun hn => by
    obtain ⟨ad, e, hb, hc⟩ := h.2 hn
    exact ⟨ad, e, by omega, hc⟩⟩
theorem Reads.below (h : Reads w B size A n xs) (hb : Below B w w') : Reads w' B size A n xs := h.keep fun _ hp => hb.cell hp
theorem Reads.drew (h : Reads w B size A n xs) : Reads w.drew B size A n xs := h
theorem Reads.drewN (h : Reads w B size A n xs) (k : Nat) : Reads (w.drewN k) B size A n xs := h
theorem Reads.setCell (h : Reads w B size A n xs) {p : Addr} (hB : B ≤ p.block) (u : Value) : Reads (w.setCell p u) B size A n xs :=
  h.keep fun q hq => World.cell?_setCell_other w p q u (fun e => by subst e; omega)
theorem Reads.grown (h : Reads w B size A n xs) {row : Option Nat} (hg : w.grownBy w' row) (hB : B ≤ w.heap.size) (hr : ∀ g, row = some g → B ≤ g) : Reads w' B size A n xs :=
  h.keep fun p hp => World.cell?_of_block (hg.block p.block (by omega) (fun e => by have := hr _ e.symm; omega))
theorem Reads.cut (h : Reads w B size A n xs) {k cap : Nat} (hk : k ≤ n) (hc : n ≤ cap) :
    Reads w B size (if cap = k then A else A.map (·.add (k * size))) (n - k) (xs.drop (k * size)) := by
  refine ⟨by rw [List.length_drop, h.1, Nat.sub_mul], fun hn => ?_⟩
  obtain ⟨ad, rfl, hb, hcell⟩ := h.2 (by omega)
  rw [if_neg (by omega)]
  refine ⟨ad.add (k * size), rfl, by rw [block_of_add]; exact hb, fun j u hu => ?_⟩
  rw [add_of_add]
  exact hcell _ u (by rw [← hu, List.getElem?_drop])
end
end Go.Proofs.YthflmdgfenojcaaGreatDoor
namespace Go.Proofs.YthflmdgfenojcaaGreatDoor
set_option linter.unusedVariables false
open Go.RowKit Go.Sort
/-- A record whose texts lie in memory that there is. -/
def Rec.Rch (r : Rec) : Prop := r.id.size ≤ 140737488351232 ∧ r.au.size ≤ 140737488351232 ∧ r.aq.size ≤ 140737488351232 ∧ r.iss.size ≤ 140737488351232 ∧ r.me.size ≤ 140737488351232 ∧ r.ca.size ≤ 140737488351232 ∧ r.cu.size ≤ 140737488351232
theorem Rec.Rch.fit {r : Rec} (h : r.Rch) : r.Fit := by
  obtain ⟨h1, h2, h3, h4, h5, h6, h7⟩ := h
  have : ∀ n, n ≤ 140737488351232 → n ≤ maxLen := fun n q => by unfold maxLen; omega
  exact ⟨this _ h1, this _ h2, this _ h3, this _ h4, this _ h5, this _ h6, this _ h7⟩
structure BatRch (b : Bat) : Prop where
  i : b.id.size ≤ maxLen
  s : b.sd.size ≤ maxLen
  r : ∀ x ∈ b.rs, x.Rch
theorem BatRch.ok {b : Bat} (h : BatRch b) : BatOk b := ⟨h.i, h.s, fun x hx => (h.r x hx).fit⟩
end Go.Proofs.YthflmdgfenojcaaGreatDoor
namespace Go.Proofs.YthflmdgfenojcaaGreatDoor
set_option linter.unusedVariables false
open Go.RowKit Go.Sort Go.Maps
def BytesAt (w : World) (b : Nat) (l : List UInt8) : Prop := ∀ j, j < l.length → w.cell? ⟨b, j, none⟩ = some (.int .u8 ((l.getD j 0).toNat : Int)) ∧ w.frozen? ⟨b, j, none⟩ = false
theorem BytesAt.set {w : World} {b : Nat} {l : List UInt8} (h : BytesAt w b l) (i : Nat) (hi : i < l.length) (x : UInt8) : BytesAt (w.setCell ⟨b, i, none⟩ (.int .u8 (x.toNat : Int))) b (l.set i x) := by
  intro j hj
  have hj' : j < l.length := by simpa using hj
  obtain ⟨h1, h2⟩ := h j hj'
  refine ⟨?_, by rw [World.frozen?_setCell]; exact h2⟩
  by_cases hij : i = j
  · subst hij
    rw [World.cell?_setCell_same _ _ _ h1]
    simp [List.getD, hi]
  · rw [World.cell?_setCell_other _ _ _ _ (fun e => hij (congrArg Addr.off e)), h1]
    simp [List.getD, hij]
theorem conv_back (w : World) (b : Nat) (l : List UInt8) (cap : Nat) (h : BytesAt w b l) : (convert 80 9 (.slice (some ⟨b, 0, none⟩) l.length cap)).run Tryz.prog w = .ok (.string ⟨l.toArray⟩) w := by
  refine run_convert_bytes_back w 80 9 5 ⟨b, 0, none⟩ cap l Tryz.underlying80 Tryz.underlying5 Tryz.underlying9 ?_
  intro j hj
  have hplain : (⟨b, 0, none⟩ : Addr).add j = ⟨b, j, none⟩ := by unfold Addr.add; split <;> simp_all
  rw [hplain, (h j hj).1]
  simp [List.getD, hj]
end Go.Proofs.YthflmdgfenojcaaGreatDoor
namespace Go.Proofs.YthflmdgfenojcaaGreatDoor
set_option linter.unusedVariables false
open Go.RowKit Go.ChangeShapes Go.WideShapes Go.Deep Go.Joins
/-- A file as it is handed in. -/
structure BArg where
  b : Bat
  A : Option Addr
  cp : Nat
def BArg.cells (x : BArg) : List Value := [.string x.b.id, .string x.b.sd, .int .i64 x.b.dt, .slice x.A x.b.rs.length x.cp]
def BArg.val (x : BArg) : Value := batV x.b x.A x.cp
end Go.Proofs.YthflmdgfenojcaaGreatDoor
namespace Go.Proofs.YthflmdgfenojcaaGreatDoor
set_option linter.unusedVariables false
open Go.RowKit
end Go.Proofs.YthflmdgfenojcaaGreatDoor
namespace Go.Proofs.YthflmdgfenojcaaGreatDoor
set_option linter.unusedVariables false
open Go.RowKit
end Go.Proofs.YthflmdgfenojcaaGreatDoor
namespace Go.Proofs.YthflmdgfenojcaaGreatDoor
set_option linter.unusedVariables false
open Go.RowKit
end Go.Proofs.YthflmdgfenojcaaGreatDoor
namespace Go.Proofs.YthflmdgfenojcaaGreatDoor
set_option linter.unusedVariables false
open Go.RowKit Go.Sort
end Go.Proofs.YthflmdgfenojcaaGreatDoor
namespace Go.Proofs.YthflmdgfenojcaaGreatDoor
set_option linter.unusedVariables false
open Go.RowKit Go.Sort
end Go.Proofs.YthflmdgfenojcaaGreatDoor
namespace Go.Proofs.YthflmdgfenojcaaGreatDoor
set_option linter.unusedVariables false
open Go.RowKit Go.Sort
end Go.Proofs.YthflmdgfenojcaaGreatDoor
namespace Go.Proofs.YthflmdgfenojcaaGreatDoor
set_option linter.unusedVariables false
open Go.RowKit Go.Sort
end Go.Proofs.YthflmdgfenojcaaGreatDoor
namespace Go.Proofs.YthflmdgfenojcaaGreatDoor
set_option linter.unusedVariables false
open Go.RowKit Go.Sort
end Go.Proofs.YthflmdgfenojcaaGreatDoor
namespace Go.Proofs.YthflmdgfenojcaaGreatDoor
set_option linter.unusedVariables false
open Go.RowKit Go.Sort
end Go.Proofs.YthflmdgfenojcaaGreatDoor
namespace Go.Proofs.YthflmdgfenojcaaGreatDoor
set_option linter.unusedVariables false
open Go.RowKit
end Go.Proofs.YthflmdgfenojcaaGreatDoor
namespace Go.Proofs.YthflmdgfenojcaaGreatDoor
set_option linter.unusedVariables false
open Go.RowKit
end Go.Proofs.YthflmdgfenojcaaGreatDoor
namespace Go.Proofs.YthflmdgfenojcaaGreatDoor
set_option linter.unusedVariables false
open Go.RowKit
end Go.Proofs.YthflmdgfenojcaaGreatDoor
namespace Go.Proofs.YthflmdgfenojcaaGreatDoor
set_option linter.unusedVariables false
open Go.RowKit Go.Sort Go.Maps
theorem EnR.row4 {b : Bat} {A : Option Addr} {cp : Nat} {w W : World} (h : EnR b A cp w W) : W.cell? ⟨w.heap.size, 0, none⟩ = some (.string b.id) ∧ W.cell? ⟨w.heap.size, 1, none⟩ = some (.string b.sd) ∧ W.cell? ⟨w.heap.size, 2, none⟩ = some (.int .i64 b.dt) ∧ W.cell? ⟨w.heap.size, 3, none⟩ = some (.slice A b.rs.length cp) :=
  ⟨cell_c h.t 0, cell_c h.t 1, cell_c h.t 2, cell_c h.t 3⟩
end Go.Proofs.YthflmdgfenojcaaGreatDoor
namespace Go.Proofs.YthflmdgfenojcaaGreatDoor
set_option linter.unusedVariables false
open Go.RowKit Go.Maps Go.WideMaps
end Go.Proofs.YthflmdgfenojcaaGreatDoor
namespace Go.Proofs.YthflmdgfenojcaaGreatDoor
set_option linter.unusedVariables false
open Go.RowKit Go.Maps
section
variable {w w' : World} {k b : Nat} {m : Lit → Option Value} {sz : Nat}
theorem VMap.kept (h : VMap w k b m sz) {row : Option Nat} (hg : w.grownBy w' row) (hne : some b ≠ row) : VMap w' k b m sz := by
  obtain ⟨D, h1, h2⟩ := h
  exact ⟨D, h1.kept hg hne, h2⟩
end
end Go.Proofs.YthflmdgfenojcaaGreatDoor
namespace Go.Proofs.YthflmdgfenojcaaGreatDoor
set_option linter.unusedVariables false
open Go.RowKit
end Go.Proofs.YthflmdgfenojcaaGreatDoor
namespace Go.Proofs.YthflmdgfenojcaaGreatDoor
set_option linter.unusedVariables false
open Go.RowKit Go.Sort Go.Maps
end Go.Proofs.YthflmdgfenojcaaGreatDoor
namespace Go.Proofs.YthflmdgfenojcaaGreatDoor
set_option linter.unusedVariables false
open Go.RowKit Go.Sort Go.Maps
end Go.Proofs.YthflmdgfenojcaaGreatDoor
namespace Go.Proofs.YthflmdgfenojcaaGreatDoor
set_option linter.unusedVariables false
open Go.RowKit Go.Sort Go.Maps
end Go.Proofs.YthflmdgfenojcaaGreatDoor
namespace Go.Proofs.YthflmdgfenojcaaGreatDoor
set_option linter.unusedVariables false
open Go.RowKit Go.Sort Go.Maps
end Go.Proofs.YthflmdgfenojcaaGreatDoor
namespace Go.Proofs.YthflmdgfenojcaaGreatDoor
set_option linter.unusedVariables false
open Go.RowKit Go.Sort Go.Maps
end Go.Proofs.YthflmdgfenojcaaGreatDoor
namespace Go.Proofs.YthflmdgfenojcaaGreatDoor
set_option linter.unusedVariables false
open Go.RowKit Go.Sort Go.Maps
end Go.Proofs.YthflmdgfenojcaaGreatDoor
namespace Go.Proofs.YthflmdgfenojcaaGreatDoor
set_option linter.unusedVariables false
open Go.RowKit Go.Sort Go.Maps
end Go.Proofs.YthflmdgfenojcaaGreatDoor
namespace Go.Proofs.YthflmdgfenojcaaGreatDoor
set_option linter.unusedVariables false
open Go.RowKit Go.Sort Go.Maps
end Go.Proofs.YthflmdgfenojcaaGreatDoor
namespace Go.Proofs.YthflmdgfenojcaaGreatDoor
set_option linter.unusedVariables false
open Go.RowKit Go.Sort Go.Maps
end Go.Proofs.YthflmdgfenojcaaGreatDoor
namespace Go.Proofs.YthflmdgfenojcaaGreatDoor
set_option linter.unusedVariables false
open Go.RowKit Go.Sort Go.Maps
end Go.Proofs.YthflmdgfenojcaaGreatDoor
namespace Go.Proofs.YthflmdgfenojcaaGreatDoor
set_option linter.unusedVariables false
open Go.RowKit Go.Sort Go.Maps
end Go.Proofs.YthflmdgfenojcaaGreatDoor
namespace Go.Proofs.YthflmdgfenojcaaGreatDoor
set_option linter.unusedVariables false
open Go.RowKit Go.Sort Go.Maps
end Go.Proofs.YthflmdgfenojcaaGreatDoor
namespace Go.Proofs.YthflmdgfenojcaaGreatDoor
set_option linter.unusedVariables false
open Go.RowKit Go.Sort Go.Maps
end Go.Proofs.YthflmdgfenojcaaGreatDoor
namespace Go.Proofs.YthflmdgfenojcaaGreatDoor
set_option linter.unusedVariables false
open Go.RowKit Go.Sort Go.Maps
end Go.Proofs.YthflmdgfenojcaaGreatDoor
namespace Go.Proofs.YthflmdgfenojcaaGreatDoor
set_option linter.unusedVariables false
open Go.RowKit Go.Sort Go.Maps
def idF (i : Nat) : ByteArray := ⟨#[70, UInt8.ofNat (97 + i / 16), UInt8.ofNat (97 + i % 16)]⟩
def fsF (i : Nat) : List (ByteArray × ByteArray) := (List.range i).map fun j => (shopS, idF j)
def stF (i : Nat) : InS := ⟨[shopS], fsF (min i 64), [], []⟩
theorem chk_all : ((List.range 66).all fun i => decide (chkB (txB (idF i) 20 []) = 0) && boB (txB (idF i) 20 []) && !inF (fsF (min i 64)) shopS (idF i)) = true := by kernel_rfl
theorem chk_F {i : Nat} (h : i < 66) : chkB (txB (idF i) 20 []) = 0 ∧ boB (txB (idF i) 20 []) = true ∧ inF (fsF (min i 64)) shopS (idF i) = false := by
  have := List.all_eq_true.1 chk_all i (List.mem_range.2 h)
  simp only [Bool.and_eq_true, decide_eq_true_eq, Bool.not_eq_true'] at this
  exact ⟨this.1.1, this.1.2, this.2⟩
def rS : ByteArray := ⟨#[114]⟩
theorem chk_all2 : ((List.range 64).all fun i => decide (chkB (txB (idF i) 20 [rS]) = 0) && boB (txB (idF i) 20 [rS]) && inF (fsF 64) shopS (idF i)) = true := by kernel_rfl
theorem chk_F2 {i : Nat} (h : i < 64) : chkB (txB (idF i) 20 [rS]) = 0 ∧ boB (txB (idF i) 20 [rS]) = true ∧ inF (fsF 64) shopS (idF i) = true := by
  have := List.all_eq_true.1 chk_all2 i (List.mem_range.2 h)
  simp only [Bool.and_eq_true, decide_eq_true_eq] at this
  exact ⟨this.1.1, this.1.2, this.2⟩
theorem fsF_len (i : Nat) : (fsF i).length = i := by unfold fsF; simp
theorem fsF_succ (i : Nat) : fsF (i + 1) = fsF i ++ [(shopS, idF i)] := by unfold fsF; rw [List.range_succ, List.map_append]; rfl
theorem many_E {i : Nat} (h : i < 66) : accE (stF i) 50 (encB (txB (idF i) 20 [])) = if i < 64 then 0 else 12 := by
  obtain ⟨h1, h2, h3⟩ := chk_F h
  rw [accE_enc h1]
  have e : inF (stF i).fs (txB (idF i) 20 []).sd (txB (idF i) 20 []).id = false := h3
  rw [e, if_neg (by omega), if_neg (by show ¬ ¬ shopS ∈ [shopS]; simp), if_neg (by show ¬ (50 : Int) < 20; omega), if_neg (by decide)]
  show (if 64 ≤ (fsF (min i 64)).length then (12 : Int) else 0) = _
  rw [fsF_len]
  by_cases q : i < 64
  · rw [if_neg (by omega), if_pos q]
  · rw [if_pos (by omega), if_neg q]
theorem many_S {i : Nat} (h : i < 66) : accS (stF i) 50 (encB (txB (idF i) 20 [])) = stF (i + 1) := by
  obtain ⟨h1, h2, h3⟩ := chk_F h
  by_cases q : i < 64
  · have h0 := many_E h
    rw [if_pos q] at h0
    rw [(accS_enc h1 h0 (T := ⟨[], [], [], []⟩) rfl).1]
    unfold stF
    rw [show min (i + 1) 64 = min i 64 + 1 by omega, fsF_succ, show min i 64 = i by omega]
    rfl
  · have h0 := many_E h
    rw [if_neg q] at h0
    rw [(accS_no (by rw [h0]; decide)).1]
    unfold stF
    rw [show min (i + 1) 64 = min i 64 by omega]
theorem many_2 {i : Nat} (h : i < 64) : accE (stF 66) 50 (encB (txB (idF i) 20 [rS])) = 15 := by
  obtain ⟨h1, h2, h3⟩ := chk_F2 h
  rw [accE_enc h1]
  have e : inF (stF 66).fs (txB (idF i) 20 [rS]).sd (txB (idF i) 20 [rS]).id = true := h3
  rw [e, if_neg (by omega), if_neg (by show ¬ ¬ shopS ∈ [shopS]; simp), if_neg (by show ¬ (50 : Int) < 20; omega), if_pos rfl]
end Go.Proofs.YthflmdgfenojcaaGreatDoor
namespace Go.Proofs.YthflmdgfenojcaaGreatDoor
set_option linter.unusedVariables false
open Go.RowKit Go.Sort Go.Maps
end Go.Proofs.YthflmdgfenojcaaGreatDoor
namespace Go.Proofs.YthflmdgfenojcaaGreatDoor
set_option linter.unusedVariables false
open Go.RowKit Go.Sort Go.Maps
theorem stF_len (i : Nat) : (stF i).fs.length ≤ 64 := by unfold stF; show (fsF (min i 64)).length ≤ 64; rw [fsF_len]; omega
/-- The letters of a file's name, out of their row. -/
def csF (i : Nat) : ByteArray := ⟨#[UInt8.ofNat (97 + i / 16), UInt8.ofNat (97 + i % 16)]⟩
theorem conv_F (w : World) (i : Nat) (h : i < 66) :
    (convert 80 9 (.slice (some ⟨w.heap.size, 0, none⟩) 2 2)).run Tryz.prog (w.alloc (.cells #[.int .u8 (97 + (i : Int) / 16), .int .u8 (97 + (i : Int) % 16)] 5)) = .ok (.string (csF i)) (w.alloc (.cells #[.int .u8 (97 + (i : Int) / 16), .int .u8 (97 + (i : Int) % 16)] 5)) := by
  have hb := conv_back (w.alloc (.cells #[.int .u8 (97 + (i : Int) / 16), .int .u8 (97 + (i : Int) % 16)] 5)) w.heap.size [UInt8.ofNat (97 + i / 16), UInt8.ofNat (97 + i % 16)] 2 (fun j hj => by
    have hj2 : j < 2 := by simpa using hj
    refine ⟨?_, cell_f (heap_alloc_new w _) j⟩
    rw [cell_c (heap_alloc_new w _)]
    have e1 : (UInt8.ofNat (97 + i / 16)).toNat = 97 + i / 16 := UInt8.toNat_ofNat_of_lt' (by show _ < 256; omega)
    have e2 : (UInt8.ofNat (97 + i % 16)).toNat = 97 + i % 16 := UInt8.toNat_ofNat_of_lt' (by show _ < 256; omega)
    have hc : j = 0 ∨ j = 1 := by omega
    rcases hc with rfl | rfl
    · show some (Value.int .u8 _) = some (Value.int .u8 (((UInt8.ofNat (97 + i / 16)).toNat : Nat) : Int))
      rw [e1]; congr 2
    · show some (Value.int .u8 _) = some (Value.int .u8 (((UInt8.ofNat (97 + i % 16)).toNat : Nat) : Int))
      rw [e2]; congr 2)
  exact hb
theorem idF_app (i : Nat) : (⟨#[70]⟩ : ByteArray) ++ csF i = idF i := by
  apply ByteArray.ext
  rw [ByteArray.data_append]
  rfl
theorem size_F {i : Nat} (h : i < 66) : (encB (txB (idF i) 20 [])).size ≤ 1000000 := text_le (chk_F h).1 (chk_F h).2.1
theorem size_F2 {i : Nat} (h : i < 64) : (encB (txB (idF i) 20 [rS])).size ≤ 1000000 := text_le (chk_F2 h).1 (chk_F2 h).2.1
set_option maxRecDepth 1000000 in
set_option maxHeartbeats 25600000 in
theorem many_any (k : Nat) (hk : k < 256) (w : World) (hw : BW w) : Calls Tryz.prog 11 #[.int .u8 k] w fun e w' => e = .returned (.bool true) ∧ Below w.heap.size w w' := by
  have HKW := Lib.hid hw
  have HB1 := Lib.hid (bxA w (.cells #[.string ⟨#[115, 104, 111, 112]⟩] 9))
  have HN1 := Lib.hid (new_any (w0 := w) _ HB1.out (some ⟨w.heap.size, 0, none⟩) 1 [shopS] (row_new1 w shopS) (fun x hx => by rw [List.mem_singleton.1 hx]; decide) (by decide))
  unfold NewPost at HN1
  rw [new_1] at HN1
  clear hw
  go_enter Tryz.func11, Tryz.ntmps11
  go_wp2_with fail
  refine (HN1.out).mono ?_
  rintro e w2 (⟨q, -, -⟩ | ⟨-, rfl, hi, hb⟩)
  · exact absurd rfl q
  obtain ⟨bx, hbx⟩ : ∃ bx, (w.alloc (.cells #[.string ⟨#[115, 104, 111, 112]⟩] 9)).heap.size + 3 = bx := ⟨_, rfl⟩
  have HA : Hid (∃ F b, AwS w (stF 0) (400 * 0) bx F b w2) := Lib.hid ⟨_, _, hi, hbx⟩
  rw [hbx]
  clear hi hb HN1 hbx
  go_wp2_with fail
  go_loopw [5] (fun iv wr => ∃ i : Nat, i ≤ 66 ∧ iv = .int .i64 i ∧ Hid (∃ F b, AwS w (stF i) (400 * i) bx F b wr)) (fun iv _ => 66 - (intOf iv).toNat)
  case atStart => exact ⟨0, by omega, rfl, HA⟩
  case round =>
    clear HA
    obtain ⟨i, hi, rfl, HW⟩ := hrel
    by_cases hlt : i < 66
    · have iI : (i : Int) < 66 := by omega
      have hcv := conv_F wr i hlt
      have hsz : (csF i).size = 2 := rfl
      have HID := Lib.hid (idF_app i)
      have HWA : Hid (∃ F b, AwS w (stF i) (400 * i) bx F b (wr.alloc (.cells #[.int .u8 (97 + (i : Int) / 16), .int .u8 (97 + (i : Int) % 16)] 5))) := Lib.hid (by
        obtain ⟨F, b, h⟩ := HW.out
        exact ⟨F, b, h.below (bxA wr _)⟩)
      have HT : Hid (∀ W, BW W → Calls Tryz.prog 54 #[.string ((⟨#[70]⟩ : ByteArray) ++ csF i), .int .i64 20, .slice none 0 0] W fun e w' => e = .returned (.string (encB (txB (idF i) 20 []))) ∧ Below W.heap.size W w') := Lib.hid (fun W hW => by
        rw [idF_app i]
        exact text_any (idF i) 20 none 0 [] W hW (.inl rfl) (show (3 : Nat) ≤ 1000 by decide) (fun x hx => by cases hx) (by decide))
      obtain ⟨F, b, hA⟩ := HWA.out
      have HA := Lib.hid hA
      have HE := Lib.hid (many_E hlt)
      have HSS := Lib.hid (many_S hlt)
      have HSZ := Lib.hid (size_F hlt)
      clear hA HWA HW
      generalize csF i = cs at *
      go_wp2_with fail
      refine (HT.out _ (HKW.out.below HA.out.i.be)).mono ?_
      rintro e w4 ⟨rfl, hb⟩
      have HA4 := Lib.hid (HA.out.below hb)
      clear hb HT HA hcv hsz HID
      generalize hES : encB (txB (idF i) 20 []) = es at *
      have HC := Lib.hid (acc_at HA4.out.i HA4.out.hx HKW.out (Nat.zero_le _) 50 es HSZ.out (by omega) (stF_len i) (Nat.zero_le _) HE.out ⟨HSS.out, rfl, rfl⟩)
      unfold AccAt at HC
      clear hES
      go_wp2_with fail
      refine (HC.out).mono ?_
      rintro e w5 ⟨A8, c8, A9, c9, F1, b1, rfl, q1, q2, q3, -, -, -, -, -, -, -⟩
      have HA5 : Hid (∃ F b, AwS w (stF (i + 1)) (400 * (i + 1)) bx F b w5) := Lib.hid ⟨F1, b1, q1, q3⟩
      clear q1 q2 q3 HC HA4 HE HSS HSZ
      by_cases h64 : i < 64
      · have h64I : (i : Int) < 64 := by omega
        have h64d : decide ((i : Int) < 64) = true := decide_eq_true h64I
        rw [if_pos h64]
        go_wp2_with fail
        go_roundw
        case rel => exact ⟨i + 1, by omega, by go_num, HA5⟩
        case measure => simp [intOf]; omega
      · have h64I : ¬ (i : Int) < 64 := by omega
        have h64d : decide ((i : Int) < 64) = false := decide_eq_false h64I
        rw [if_neg h64]
        go_wp2_with fail
        go_roundw
        case rel => exact ⟨i + 1, by omega, by go_num, HA5⟩
        case measure => simp [intOf]; omega
    · obtain rfl : i = 66 := by omega
      obtain ⟨F, b, hA⟩ := HW.out
      have HA := Lib.hid hA
      have hn : k % 64 < 64 := Nat.mod_lt _ (by decide)
      have hcv := conv_F wr (k % 64) (by omega)
      have e1 : (((k % 64 : Nat)) : Int) / 16 = (k : Int) % 64 / 16 := by omega
      have e2 : (((k % 64 : Nat)) : Int) % 16 = (k : Int) % 16 := by omega
      rw [e1, e2] at hcv
      have hsz : (csF (k % 64)).size = 2 := rfl
      have HID := Lib.hid (idF_app (k % 64))
      have HWA := Lib.hid (HA.out.below (bxA wr (.cells #[.int .u8 (97 + (k : Int) % 64 / 16), .int .u8 (97 + (k : Int) % 16)] 5)))
      have HWB := Lib.hid (HWA.out.below (bxA _ (.cells #[.string ⟨#[114]⟩] 9)))
      have HT : Hid (Calls Tryz.prog 54 #[.string ((⟨#[70]⟩ : ByteArray) ++ csF (k % 64)), .int .i64 20, .slice (some ⟨(wr.alloc (.cells #[.int .u8 (97 + (k : Int) % 64 / 16), .int .u8 (97 + (k : Int) % 16)] 5)).heap.size, 0, none⟩) 1 1] _ fun e w' => e = .returned (.string (encB (txB (idF (k % 64)) 20 [rS]))) ∧ Below ((wr.alloc (.cells #[.int .u8 (97 + (k : Int) % 64 / 16), .int .u8 (97 + (k : Int) % 16)] 5)).alloc (.cells #[.string ⟨#[114]⟩] 9)).heap.size ((wr.alloc (.cells #[.int .u8 (97 + (k : Int) % 64 / 16), .int .u8 (97 + (k : Int) % 16)] 5)).alloc (.cells #[.string ⟨#[114]⟩] 9)) w') := Lib.hid (by
        rw [idF_app (k % 64)]
        exact text_any (idF (k % 64)) 20 _ 1 [rS] _ (HKW.out.below HWB.out.i.be) (row_new1 _ rS) (show (3 : Nat) ≤ 1000 by decide) (fun x hx => by rw [List.mem_singleton.1 hx]; decide) (by decide))
      rw [show (wr.alloc (.cells #[.int .u8 (97 + (k : Int) % 64 / 16), .int .u8 (97 + (k : Int) % 16)] 5)).heap.size = wr.heap.size + 1 from Array.size_push _] at HT
      have HE := Lib.hid (many_2 hn)
      have HSZ := Lib.hid (size_F2 hn)
      have HSS := Lib.hid (accS_no (st := stF 66) (date := 50) (s := encB (txB (idF (k % 64)) 20 [rS])) (by rw [HE.out]; decide))
      clear hA HW e1 e2
      generalize csF (k % 64) = cs at *
      go_wp2_with fail
      refine (HT.out).mono ?_
      rintro e w4 ⟨rfl, hb⟩
      have HA4 := Lib.hid (HWB.out.below hb)
      clear hb HT HA hcv hsz HID HWA HWB
      generalize hES : encB (txB (idF (k % 64)) 20 [rS]) = es at *
      have HC := Lib.hid (acc_at HA4.out.i HA4.out.hx HKW.out (Nat.zero_le _) 50 es HSZ.out (by decide) (stF_len 66) (Nat.zero_le _) HE.out HSS.out)
      unfold AccAt at HC
      clear hES
      go_wp2_with fail
      refine (HC.out).mono ?_
      rintro e w5 ⟨A8, c8, A9, c9, F1, b1, rfl, q1, q2, q3, -, -, -, -, -, -, -⟩
      have HA5 : Hid (AwS w (stF 66) (400 * 66 + 400) bx F1 b1 w5) := Lib.hid ⟨q1, q3⟩
      clear q1 q2 q3 HC HA4 HE HSS HSZ
      have H1 := Lib.hid (seen_any HA5.out.i shopS rS (by decide) (by decide))
      rw [HA5.out.hx, show seenB (stF 66).good shopS rS = false from rfl] at H1
      go_wp2_with fail
      refine (H1.out).mono ?_
      rintro e w6 ⟨rfl, rfl⟩
      have H2 := Lib.hid (files_any HA5.out.i (Nat.le_trans (stF_len 66) (by decide)))
      rw [HA5.out.hx, show (stF 66).fs.length = 64 from fsF_len 64] at H2
      unfold RowPost at H2
      clear H1
      go_wp2_with fail
      refine (H2.out).mono ?_
      rintro e w7 ⟨v, rfl, ho, hb⟩
      obtain ⟨PA, pc, rfl, -, -⟩ := own_form ho
      have HA7 := Lib.hid (HA5.out.below hb)
      clear ho hb H2
      have H3 := Lib.hid (awi_any w7 (HKW.out.below HA7.out.i.be))
      go_wp2_with fail
      refine (H3.out).mono ?_
      rintro e w8 ⟨rfl, hb⟩
      have HA8 := Lib.hid (HA7.out.below hb)
      clear hb H3
      go_wp2_with fail
      go_ret
      exact ⟨rfl, HA8.out.i.be⟩
theorem intakeMany_walk (w : World) (hw : BW w) (_ : True) (k : Int) (hk : (Lit.int .u8 k).wf = true) : Calls Tryz.prog 11 #[.int .u8 k] w fun e w' => e = .returned (.bool true) ∧ Below w.heap.size w w' := by
  have h : 0 ≤ k ∧ k ≤ 255 := by
    have := hk
    simp [Lit.wf, IntKind.min, IntKind.max, IntKind.bits, IntKind.signed] at this
    omega
  obtain ⟨n, rfl⟩ : ∃ n : Nat, k = (n : Int) := ⟨k.toNat, by omega⟩
  exact many_any n (by omega) w hw
end Go.Proofs.YthflmdgfenojcaaGreatDoor
