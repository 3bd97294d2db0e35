/- Part of the proof over this seat. -/
import Derived.Lib.SmallJoins
import Derived.Test.YthflmdgfenojcaaGreatDoorQPlain
import Derived.Test.YthflmdgfenojcaaGreatDoorQChk
namespace Go.Proofs.YthflmdgfenojcaaGreatDoor
set_option linter.unusedVariables false
open Go.RowKit Go.Sort
theorem var?_below {P : Program} {w w' : World} {name : String} {g : Nat} {v : Array Value} (hb : Below w.heap.size w w') (hg : P.globalNamed name = some g) (hs : g < w.heap.size) (h : w.var? P name = some v) : w'.var? P name = some v := by
  unfold World.var? at h ⊢
  rw [hg] at h ⊢
  simpa [hb.block g hs] using h
def TabW (w : World) : Prop := 1 < w.heap.size ∧ Lib.TabIs Tryz.prog w "internal/strconv.uint64pow10" .u64 Lib.pow10Tab
theorem TabW.below {w w' : World} (h : TabW w) (hb : Below w.heap.size w w') : TabW w' :=
  ⟨Nat.lt_of_lt_of_le h.1 hb.size, var?_below hb (show Tryz.prog.globalNamed "internal/strconv.uint64pow10" = some 1 by kernel_rfl) h.1 h.2⟩
/-- An error's variable. -/
def ErrW (g : Nat) (w : World) : Prop := g < w.heap.size ∧ ∃ ev, w.cell? ⟨g, 0, none⟩ = some ev ∧ (ev = .nilIface ∨ ∃ te pe, ev = .iface te pe)
theorem ErrW.below {g : Nat} {w w' : World} (h : ErrW g w) (hb : Below w.heap.size w w') : ErrW g w' := by
  obtain ⟨h0, ev, h1, h2⟩ := h
  exact ⟨Nat.lt_of_lt_of_le h0 hb.size, ev, (hb.cell (show (⟨g, 0, none⟩ : Addr).block < w.heap.size from h0)).trans h1, h2⟩
def MaxW (w : World) : Prop := 0 < w.heap.size ∧ ∃ m, w.cell? ⟨0, 0, none⟩ = some (.int .i64 m)
theorem MaxW.below {w w' : World} (h : MaxW w) (hb : Below w.heap.size w w') : MaxW w' := by
  obtain ⟨h0, m, h1⟩ := h
  exact ⟨Nat.lt_of_lt_of_le h0 hb.size, m, (hb.cell (show (⟨0, 0, none⟩ : Addr).block < w.heap.size from h0)).trans h1⟩
def KW (w : World) : Prop := TabW w ∧ ErrW 4 w ∧ ErrW 5 w ∧ MaxW w
theorem KW.below {w w' : World} (h : KW w) (hb : Below w.heap.size w w') : KW w' := ⟨h.1.below hb, h.2.1.below hb, h.2.2.1.below hb, h.2.2.2.below hb⟩
theorem below_grow (w : World) (k : Nat) (os : Array Obj) : Below w.heap.size w (grow (w.drewN k) os) :=
  ⟨rfl, rfl, rfl, by simp [grow], fun i hi => heap_grow_old (w.drewN k) os hi⟩
theorem itoa_any (n : Int) (w : World) (ht : TabW w) (h0 : -9223372036854775808 ≤ n) (h1 : n ≤ 9223372036854775807) : Calls Tryz.prog 78 #[.int .i64 n] w fun e w' => e = .returned (.string (itoS n)) ∧ Below w.heap.size w w' :=
  (Tryz.strconv_Itoa n h0 h1 w ht.2).mono fun e w' ⟨he, k, os, hw⟩ => ⟨he, by rw [hw]; exact below_grow w k os⟩
theorem fint_any (n : Int) (w : World) (ht : TabW w) (h0 : -9223372036854775808 ≤ n) (h1 : n ≤ 9223372036854775807) : Calls Tryz.prog 79 #[.int .i64 n, .int .i64 10] w fun e w' => e = .returned (.string (itoS n)) ∧ Below w.heap.size w w' :=
  (Tryz.strconv_FormatInt_10 n h0 h1 w ht.2).mono fun e w' ⟨he, k, os, hw⟩ => ⟨he, by rw [hw]; exact below_grow w k os⟩
theorem parse_range {l : List UInt8} {v : Int} (h : Lib.parseIntB 64 l = .ok v) : -9223372036854775808 ≤ v ∧ v ≤ 9223372036854775807 := by
  have hH : (2 ^ (64 - 1) : Nat) = 9223372036854775808 := by decide
  unfold Lib.parseIntB at h
  cases l with
  | nil => cases h
  | cons c r =>
    simp only [hH] at h
    split at h
    · cases h
    · cases h
    · split at h
      · cases h
      · split at h
        · cases h
        · injection h with h
          subst h
          split <;> omega
theorem ba_same (s t : ByteArray) (h : s = t) : (s.toList == t.toList) = true := (Lib.bytes_beq_iff s t).2 h
theorem ba_diff (s t : ByteArray) (h : s ≠ t) : (s.toList == t.toList) = false := (Lib.bytes_beq_false_iff s t).2 h
def numV (s : ByteArray) : Int := match numR s with | some v => v | none => 0
def numOK (s : ByteArray) : Bool := (numR s).isSome
/-- What number answers. -/
def NumPost (s : ByteArray) (w : World) (e : Ending) (w' : World) : Prop := e = .returned (.tuple #[.int .i64 (numV s), .bool (numOK s)]) ∧ Below w.heap.size w w'
def ParPost (s : ByteArray) (w : World) (e : Ending) (w' : World) : Prop :=
  Below w.heap.size w w' ∧ ((∃ v, Lib.parseIntB 64 s.data.toList = .ok v ∧ e = .returned (.tuple #[.int .i64 v, .nilIface])) ∨ (numR s = none ∧ ∃ v t p, e = .returned (.tuple #[.int .i64 v, .iface t p])))
theorem par_any (s : ByteArray) (w : World) (hw : KW w) (hs : s.size ≤ 1000000) : Calls Tryz.prog 164 #[.string s, .int .i64 10, .int .i64 64] w (ParPost s w) := by
  rcases h : Lib.parseIntB 64 s.data.toList with v | _ | _
  · refine (Tryz.strconv_ParseInt_10_at64_ok s (by omega) v h w).mono fun e w' ⟨he, hw'⟩ => ⟨?_, .inl ⟨v, h, he⟩⟩
    rcases hw' with rfl | ⟨t, rfl⟩
    · exact Below.refl _ _
    · exact Go.Joins.below_bytesWorld _ _ _ _ (Nat.le_refl _)
  · obtain ⟨-, ev, hv, hev⟩ := hw.2.1
    refine (Tryz.strconv_ParseInt_10_at64_syntax s (by omega) (by rw [h]; intro q; cases q) (fun v q => by rw [h] at q; cases q) ev w hv hev).mono fun e w' ⟨N, he, _, _, hb⟩ => ⟨hb, .inr ⟨?_, _, _, _, he⟩⟩
    unfold numR; rw [h]
  · obtain ⟨-, ev, hv, hev⟩ := hw.2.2.1
    refine (Tryz.strconv_ParseInt_10_at64_range s (by omega) h ev w hv hev).mono fun e w' ⟨N, he, _, _, hb⟩ => ⟨hb, .inr ⟨?_, _, _, _, he⟩⟩
    unfold numR; rw [h]
set_option maxHeartbeats 1600000 in
theorem num_any (s : ByteArray) (w : World) (hw : KW w) (hs : s.size ≤ 1000000) : Calls Tryz.prog 129 #[.string s] w (NumPost s w) := by
  have HP := Lib.hid (par_any s w hw hs)
  have HW := Lib.hid hw
  unfold ParPost at HP
  unfold NumPost
  clear hw
  go_enter Tryz.func129, Tryz.ntmps129
  go_wp2_with fail
  refine HP.out.mono ?_
  rintro e w1 ⟨hb, hc⟩
  have HB := Lib.hid hb
  have HW1 := Lib.hid (HW.out.below hb)
  clear hb
  rcases hc with ⟨v, hv, rfl⟩ | ⟨hn, v, t, p, rfl⟩
  · have HR := Lib.hid (parse_range hv)
    by_cases he : itoS v = s
    · have hq := ba_same (itoS v) s he
      have HN := Lib.hid (show numV s = v ∧ numOK s = true by
        unfold numV numOK numR
        rw [hv]
        simp only
        rw [if_pos (by rw [← he]; rfl)]
        exact ⟨rfl, rfl⟩)
      clear he hv
      go_wp2_with fail
      refine (fint_any v _ HW1.out.1 HR.out.1 HR.out.2).mono ?_
      rintro e w2 ⟨rfl, hb⟩
      have HB2 := Lib.hid (HB.out.trans (hb.mono HB.out.size))
      clear hb
      go_wp2_with fail
      go_ret2
      exact ⟨by rw [HN.out.1, HN.out.2]; rfl, HB2.out⟩
    · have hq := ba_diff (itoS v) s he
      have HN := Lib.hid (show numV s = 0 ∧ numOK s = false by
        unfold numV numOK numR
        rw [hv]
        simp only
        rw [if_neg (fun e => he (ByteArray.ext (by show (Lib.itoa v).toArray = s.data; rw [e])))]
        exact ⟨rfl, rfl⟩)
      clear he hv
      go_wp2_with fail
      refine (fint_any v _ HW1.out.1 HR.out.1 HR.out.2).mono ?_
      rintro e w2 ⟨rfl, hb⟩
      have HB2 := Lib.hid (HB.out.trans (hb.mono HB.out.size))
      clear hb
      go_wp2_with fail
      go_ret2
      exact ⟨by rw [HN.out.1, HN.out.2]; rfl, HB2.out⟩
  · have HN := Lib.hid (show numV s = 0 ∧ numOK s = false by unfold numV numOK; rw [hn]; exact ⟨rfl, rfl⟩)
    clear hn
    go_wp2_with fail
    go_ret2
    exact ⟨by rw [HN.out.1, HN.out.2]; rfl, HB.out⟩
end Go.Proofs.YthflmdgfenojcaaGreatDoor
