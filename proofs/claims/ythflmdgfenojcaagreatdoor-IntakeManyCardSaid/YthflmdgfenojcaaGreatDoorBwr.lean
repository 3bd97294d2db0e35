/- The builder's writers at this seat, and writeLine. -/
import Derived.Test.YthflmdgfenojcaaGreatDoorShelf
import Derived.Test.YthflmdgfenojcaaGreatDoorBdf
import Derived.Lib.OthersKept
namespace Go.Proofs
theorem Tryz.lays166 : Lays.n166 Tryz.prog Tryz.lays156_ren := { Tryz.lays156 with }
def Tryz.lays167_ren : Go.Shelf.Ren := ⟨fun | 167 => 144 | 240 => 169 | 276 => 193 | n => n, fun | 31 => 22 | 9 => 9 | 3 => 3 | 4 => 4 | 0 => 0 | 20 => 20 | 72 => 138 | 76 => 168 | 70 => 136 | 37 => 80 | 75 => 167 | 127 => 173 | 164 => 209 | 5 => 5 | 80 => 140 | n => n, fun | n => n⟩
theorem Tryz.lays167 : Lays.n167 Tryz.prog Tryz.lays167_ren := {
  mixed := by kernel_rfl
  f167 := Tryz.func144.trans (congrArg some (by kernel_rfl))
  f240 := Tryz.func169.trans (congrArg some (by kernel_rfl))
  f276 := Tryz.func193.trans (congrArg some (by kernel_rfl))
  t0 := Tryz.underlying0
  a0 := Tryz.isAgg0
  z0 := Tryz.sizeOf0
  v0 := Tryz.zeroValue0
  t4 := Tryz.underlying4
  a4 := Tryz.isAgg4
  z4 := Tryz.sizeOf4
  v4 := Tryz.zeroValue4
  t5 := Tryz.underlying5
  a5 := Tryz.isAgg5
  z5 := Tryz.sizeOf5
  v5 := Tryz.zeroValue5
  t9 := Tryz.underlying9
  a9 := Tryz.isAgg9
  z9 := Tryz.sizeOf9
  v9 := Tryz.zeroValue9
  t20 := Tryz.underlying20
  a20 := Tryz.isAgg20
  z20 := Tryz.sizeOf20
  v20 := Tryz.zeroValue20
  t37 := Tryz.underlying80
  a37 := Tryz.isAgg80
  z37 := Tryz.sizeOf80
  v37 := Tryz.zeroValue80
  t70 := Tryz.underlying136
  a70 := Tryz.isAgg136
  z70 := Tryz.sizeOf136
  v70 := Tryz.zeroValue136
  t72 := Tryz.underlying138
  a72 := Tryz.isAgg138
  z72 := Tryz.sizeOf138
  v72 := Tryz.zeroValue138
  t75 := Tryz.underlying167
  a75 := Tryz.isAgg167
  z75 := Tryz.sizeOf167
  v75 := Tryz.zeroValue167
  t164 := Tryz.underlying209
  a164 := Tryz.isAgg209
  z164 := Tryz.sizeOf209
  v164 := Tryz.zeroValue209 }
theorem Tryz.Builder_Extra_167 : Builder.Extra Tryz.prog Tryz.lays167_ren := {
  sizeBuilder := by kernel_rfl
  liesBuilder := by kernel_rfl
  t5 := Tryz.underlying5
  a5 := Tryz.isAgg5
  z5 := Tryz.sizeOf5
  v5 := Tryz.zeroValue5
  infoByte := by kernel_rfl
  cellsByte := by kernel_rfl
  sizeByte := by kernel_rfl
  neB5 := by decide }
end Go.Proofs
namespace Go.Proofs.YthflmdgfenojcaaGreatDoor
set_option linter.unusedVariables false
open Go.RowKit

/-- A builder that lies at b with the bytes l, and what lies beside it. -/
def Bld (B b : Nat) (l : List UInt8) (w0 w : World) : Prop := Lib.IsBuilderF 138 5 B b (Lib.byteCells l) w ∧ Below B w0 w ∧ Lib.OthersKept 5 (some b) w0 w
def WPost (v : Value) (B b : Nat) (l : List UInt8) (w : World) (e : Ending) (w' : World) : Prop := e = .returned v ∧ Bld B b l w w'
theorem byteCells_app (l m : List UInt8) : Lib.byteCells (l ++ m) = Lib.byteCells l ++ Lib.byteCells m := by unfold Lib.byteCells; rw [List.map_append]
theorem wstr_any (B b : Nat) (l : List UInt8) (s : ByteArray) (w : World) (h : Lib.IsBuilderF 138 5 B b (Lib.byteCells l) w) (hl : l.length ≤ 100000000000) (hs : s.size ≤ 100000000000) (hB : B ≤ w.heap.size) :
    Calls Tryz.prog 133 #[.pointer (some ⟨b, 0, none⟩), .string s] w (WPost (.tuple #[.int .i64 s.size, .nilIface]) B b (l ++ s.data.toList) w) :=
  (Any.Builder_WriteString_k Tryz.lays166 Tryz.Builder_Extra_156 B b (Lib.byteCells l) s w h (by rw [Lib.byteCells_length]; omega) hB).mono fun e w' ⟨he, h1, h2, h3⟩ => ⟨he, .inr (by rw [byteCells_app]; exact h1), h2, h3⟩
theorem wbyt_any (B b : Nat) (l : List UInt8) (c : UInt8) (w : World) (h : Lib.IsBuilderF 138 5 B b (Lib.byteCells l) w) (hl : l.length ≤ 100000000000) (hB : B ≤ w.heap.size) :
    Calls Tryz.prog 144 #[.pointer (some ⟨b, 0, none⟩), .int .u8 c.toNat] w (WPost .nilIface B b (l ++ [c]) w) :=
  (Any.Builder_WriteByte_k Tryz.lays167 Tryz.Builder_Extra_167 B b (Lib.byteCells l) c.toNat w h (by rw [Lib.byteCells_length]; omega) hB).mono fun e w' ⟨he, h1, h2, h3⟩ => ⟨he, .inr (by rw [byteCells_app]; exact h1), h2, h3⟩
theorem Bld.trans {B b : Nat} {l m : List UInt8} {w0 w1 w2 : World} (h : Bld B b l w0 w1) (k : Bld B b m w1 w2) : Bld B b m w0 w2 := ⟨k.1, h.2.1.trans k.2.1, h.2.2.trans k.2.2⟩
theorem Bld.le {B b : Nat} {l : List UInt8} {w0 w1 : World} (h : Bld B b l w0 w1) (hB : B ≤ w0.heap.size) : B ≤ w1.heap.size := Nat.le_trans hB h.2.1.size
set_option maxRecDepth 1000000 in
set_option maxHeartbeats 6400000 in
theorem wline_any (B b g : Nat) (l : List UInt8) (ps : List ByteArray) (cs : Array Value) (T : TypeId) (cp : Nat) (w : World) (h : Lib.IsBuilderF 138 5 B b (Lib.byteCells l) w) (hl : l.length ≤ 10000000000) (hB : B ≤ w.heap.size)
    (hg : w.heap[g]? = some (.cells cs T)) (hT : T ≠ 5) (hgb : g ≠ b) (hcs : ∀ i, i < ps.length → cs[i]? = some (.string (strAt ps i))) (hn : ps.length ≤ 10) (hc : ps.length ≤ cp) (hsz : ∀ i, i < ps.length → (strAt ps i).size ≤ 1000000) :
    Calls Tryz.prog 94 #[.pointer (some ⟨b, 0, none⟩), .slice (some ⟨g, 0, none⟩) ps.length cp] w (WPost (.tuple #[]) B b (l ++ lineL ps) w) := by
  have HB0 : Hid (Bld B b (l ++ joinK ps 0) w w) := Lib.hid ⟨by rw [joinK_zero, List.append_nil]; exact h, Below.refl _ _, Lib.OthersKept.refl _ _ _⟩
  have HG := Lib.hid hg
  have HC := Lib.hid hcs
  have HJ : Hid (∀ k, k ≤ ps.length → (l ++ joinK ps k).length ≤ 20000000000) := Lib.hid (fun k hk => by
    have h1 := joinK_len ps 1000000 hsz k hk
    have h2 : k * (1000000 + 1) ≤ 10 * (1000000 + 1) := Nat.mul_le_mul_right _ (by omega)
    rw [List.length_append]; omega)
  have HS := Lib.hid hsz
  have HBW := Lib.hid hB
  have HT : Hid (∀ c fz, (Obj.cells cs T) ≠ .cells c 5 fz) := Lib.hid (fun c fz e => hT (by injection e))
  have HGB := Lib.hid hgb
  clear h hg hcs hsz hB hT hgb
  unfold WPost
  go_enter Tryz.func94, Tryz.ntmps94
  go_wp2_with fail
  go_loopw [8] (fun i wr => ∃ k : Nat, k ≤ ps.length ∧ i = .int .i64 k ∧ Hid (Bld B b (l ++ joinK ps k) w wr)) (fun i _ => ps.length - (intOf i).toNat)
  case atStart => exact ⟨0, Nat.zero_le _, rfl, HB0⟩
  case round =>
    clear HB0
    obtain ⟨k, hk, rfl, HW⟩ := hrel
    have HL := Lib.hid (HJ.out k hk)
    by_cases hlt : k < ps.length
    · have hcell : wr.cell? ⟨g, k, none⟩ = some (.string (strAt ps k)) := by
        rw [cell_c (HW.out.2.2 g _ HG.out (fun e => HGB.out (by injection e)) HT.out) k]; exact HC.out k hlt
      have kI : (k : Int) < (ps.length : Int) := by omega
      have k0 : (0 : Int) ≤ (k : Int) := by omega
      rcases Nat.eq_zero_or_pos k with h0 | h0
      · have hz : ¬ (0 : Int) < (k : Int) := by omega
        have HJ1 := Lib.hid (show l ++ joinK ps k ++ (strAt ps k).data.toList = l ++ joinK ps (k + 1) by rw [h0, joinK_zero, List.append_nil, joinK_one ps (by omega)])
        clear h0
        go_wp2_with fail
        refine (wstr_any B b _ (strAt ps k) _ HW.out.1 (by have := HL.out; omega) (by have := HS.out k hlt; omega) (HW.out.le HBW.out)).mono ?_
        rintro e w3 ⟨rfl, hb⟩
        have HW3 := Lib.hid (HW.out.trans hb)
        rw [HJ1.out] at HW3
        clear hb
        go_wp2_with fail
        go_roundw
        case rel => exact ⟨k + 1, by omega, by go_num, HW3⟩
        case measure => simp [intOf]; omega
      · have hz : (0 : Int) < (k : Int) := by omega
        have HJ1 := Lib.hid (show l ++ joinK ps k ++ [124] ++ (strAt ps k).data.toList = l ++ joinK ps (k + 1) by rw [joinK_succ ps k h0 hlt]; simp)
        clear h0
        have HWB := Lib.hid (wbyt_any B b (l ++ joinK ps k) 124 wr HW.out.1 (by have := HL.out; omega) (HW.out.le HBW.out))
        go_wp2_with fail
        refine HWB.out.mono ?_
        rintro e w2 ⟨rfl, hb⟩
        have HW2 := Lib.hid (HW.out.trans hb)
        clear hb
        go_wp2_with fail
        refine (wstr_any B b _ (strAt ps k) _ HW2.out.1 (by have := HL.out; rw [List.length_append, List.length_singleton]; omega) (by have := HS.out k hlt; omega) (HW2.out.le HBW.out)).mono ?_
        rintro e w3 ⟨rfl, hb⟩
        have HW3 := Lib.hid (HW2.out.trans hb)
        rw [HJ1.out] at HW3
        clear hb
        go_wp2_with fail
        go_roundw
        case rel => exact ⟨k + 1, by omega, by go_num, HW3⟩
        case measure => simp [intOf]; omega
    · obtain rfl : k = ps.length := by omega
      have HWB := Lib.hid (wbyt_any B b (l ++ joinK ps ps.length) 10 wr HW.out.1 (by have := HL.out; omega) (HW.out.le HBW.out))
      go_wp2_with fail
      refine HWB.out.mono ?_
      rintro e w2 ⟨rfl, hb⟩
      have HW2 := Lib.hid (HW.out.trans hb)
      clear hb
      go_wp2_with fail
      go_end0
      exact ⟨rfl, by unfold lineL; rw [← List.append_assoc]; exact HW2.out⟩
end Go.Proofs.YthflmdgfenojcaaGreatDoor
