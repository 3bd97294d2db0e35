/- Part of the proof over this seat. -/
import Derived.Test.YthflmdgfenojcaaGreatDoorQRdA
import Derived.Test.YthflmdgfenojcaaGreatDoorQRdb
namespace Go.Proofs.YthflmdgfenojcaaGreatDoor
set_option linter.unusedVariables false
open Go.RowKit Go.Sort
def ptT (sd : ByteArray) (rs : List Rec) (t : ByteArray) : Int := if decE t ≠ 0 then decE t else if (decV t).aq ≠ sd then 5 else if (decV t).id ∈ idsOf rs then 7 else 0
def rtStep (sd : ByteArray) (st : RdS) (i : Nat) (t : ByteArray) : RdS := if ptT sd st.rs t = 0 then ⟨st.rs ++ [decV t], st.bad⟩ else ⟨st.rs, st.bad ++ [(i, idT t, ptT sd st.rs t)]⟩
def rtK (sd : ByteArray) (ts : List ByteArray) : Nat → RdS
  | 0 => ⟨[], []⟩
  | k + 1 => rtStep sd (rtK sd ts k) k (prt ts k)
theorem rtK_rd {s : ByteArray} (h : RcF s) : ∀ k, k ≤ nRc s → rtK (hdP s 2) (rtx s) k = rdK s k
  | 0, _ => rfl
  | k + 1, hk => by
    have ih := rtK_rd h k (by omega)
    have e1 := rtx_get s k (by omega)
    have e2 := idT_txt (h k (by omega))
    unfold rtK
    rw [ih, e1, rdK_succ]
    unfold rtStep rdStep ptT ptD
    rw [e2]
theorem ptT_dec {sd : ByteArray} {rs : List Rec} {x : ByteArray} (h : decE x ≠ 0) : ptT sd rs x = decE x := by unfold ptT; rw [if_pos h]
theorem ptT_aq {sd : ByteArray} {rs : List Rec} {x : ByteArray} (h : decE x = 0) (h2 : (decV x).aq ≠ sd) : ptT sd rs x = 5 := by unfold ptT; rw [if_neg (by simp [h]), if_pos h2]
theorem ptT_id {sd : ByteArray} {rs : List Rec} {x : ByteArray} (h : decE x = 0) (h2 : (decV x).aq = sd) (h3 : (decV x).id ∈ idsOf rs) : ptT sd rs x = 7 := by unfold ptT; rw [if_neg (by simp [h]), if_neg (by simp [h2]), if_pos h3]
theorem ptT_ok {sd : ByteArray} {rs : List Rec} {x : ByteArray} (h : decE x = 0) (h2 : (decV x).aq = sd) (h3 : ¬ (decV x).id ∈ idsOf rs) : ptT sd rs x = 0 := by unfold ptT; rw [if_neg (by simp [h]), if_neg (by simp [h2]), if_neg h3]
theorem rt_bad {sd : ByteArray} {ts : List ByteArray} {k : Nat} (h : ptT sd (rtK sd ts k).rs (prt ts k) ≠ 0) : rtK sd ts (k + 1) = ⟨(rtK sd ts k).rs, (rtK sd ts k).bad ++ [(k, idT (prt ts k), ptT sd (rtK sd ts k).rs (prt ts k))]⟩ := by
  show rtStep sd (rtK sd ts k) k (prt ts k) = _
  unfold rtStep; rw [if_neg h]
theorem rt_ok {sd : ByteArray} {ts : List ByteArray} {k : Nat} (h : ptT sd (rtK sd ts k).rs (prt ts k) = 0) : rtK sd ts (k + 1) = ⟨(rtK sd ts k).rs ++ [decV (prt ts k)], (rtK sd ts k).bad⟩ := by
  show rtStep sd (rtK sd ts k) k (prt ts k) = _
  unfold rtStep; rw [if_pos h]
theorem rt_len (sd : ByteArray) (ts : List ByteArray) : ∀ k, (rtK sd ts k).rs.length + (rtK sd ts k).bad.length = k
  | 0 => rfl
  | k + 1 => by
    have ih := rt_len sd ts k
    by_cases q : ptT sd (rtK sd ts k).rs (prt ts k) = 0
    · rw [rt_ok q]; simp; omega
    · rw [rt_bad q]; simp; omega
structure RdR (id sd : ByteArray) (dt : Int) (st : RdS) (w : World) (v8 v9 : Value) (W : World) : Prop where
  bb : W.heap[w.heap.size]? = some (.cells (btC id sd dt v8) 61)
  zz : W.heap[w.heap.size + 1]? = some (.cells zbt 61)
  o8 : W.ownsRow (w.heap.size + 2) 57 12 v8 st.rs.length (st.rs.flatMap recF)
  o9 : W.ownsRow (w.heap.size + 2) 65 3 v9 st.bad.length (st.bad.flatMap rejF)
  be : Below w.heap.size w W
section
variable {id sd : ByteArray} {dt : Int} {st : RdS} {w W W' : World} {v8 v9 u : Value}
theorem RdR.start (id sd : ByteArray) (dt : Int) (w : World) : RdR id sd dt ⟨[], []⟩ w (.slice none 0 0) (.slice none 0 0) ((w.alloc (.cells (btC id sd dt (.slice none 0 0)) 61)).alloc (.cells zbt 61)) := by
  have e : (w.alloc (.cells (btC id sd dt (.slice none 0 0)) 61)).heap.size = w.heap.size + 1 := Array.size_push _
  refine ⟨blk_later (heap_alloc_new w _) (bx _ _), ?_, World.ownsRow_nil _ _ _ _, World.ownsRow_nil _ _ _ _, (bx w _).trans ((bx _ _).mono (by omega))⟩
  rw [← e]; exact heap_alloc_new _ _
theorem RdR.below (h : RdR id sd dt st w v8 v9 W) (hb : Below W.heap.size W W') : RdR id sd dt st w v8 v9 W' :=
  ⟨blk_later h.bb hb, blk_later h.zz hb, own_later h.o8 hb, own_later h.o9 hb, h.be.trans (hb.mono h.be.size)⟩
theorem RdR.cell (h : RdR id sd dt st w v8 v9 W) {g : Nat} (o : Nat) (x : Value) (hg : w.heap.size + 2 ≤ g) (h8 : ∀ j, v8.ownBlock = some j → j ≠ g) (h9 : ∀ j, v9.ownBlock = some j → j ≠ g) : RdR id sd dt st w v8 v9 (W.setCell ⟨g, o, none⟩ x) := by
  have hset : W.grownBy (W.setCell ⟨g, o, none⟩ x) (some g) := ⟨rfl, rfl, rfl, by simp [World.setCell], fun k _ hk => Below.heap_setCell _ _ _ _ (fun e => hk (by rw [e]))⟩
  have q8 : v8.ownBlock = none ∨ v8.ownBlock ≠ some g := .inr (fun e => h8 g e rfl)
  have q9 : v9.ownBlock = none ∨ v9.ownBlock ≠ some g := .inr (fun e => h9 g e rfl)
  exact ⟨grown_lt (B := 0) hset h.bb (by intro e; injection e with e; omega), grown_lt (B := 0) hset h.zz (by intro e; injection e with e; omega), h.o8.kept hset q8, h.o9.kept hset q9, h.be.setCell (p := ⟨g, o, none⟩) (show w.heap.size ≤ g by omega) _⟩
theorem RdR.bad (h : RdR id sd dt st w v8 v9 W) (x : Nat × ByteArray × Int) (h9 : W'.ownsRow (w.heap.size + 2) 65 3 u (st.bad.length + 1) (st.bad.flatMap rejF ++ rejF x)) (hg : W.grownBy W' v9.ownBlock) : RdR id sd dt ⟨st.rs, st.bad ++ [x]⟩ w v8 u W' :=
  ⟨grown_lt (B := 0) hg h.bb (own_far h.o9 (by omega)), grown_lt (B := 0) hg h.zz (own_far h.o9 (by omega)), h.o8.kept hg (own_ne h.o9 h.o8 (by decide)), by
    show W'.ownsRow _ 65 3 u (st.bad ++ [x]).length _
    rw [List.length_append, List.flatMap_append]; simpa using h9, h.be.grown hg h.be.size (fun j hj => by have := (h.o9.lt j hj).1; omega)⟩
theorem RdR.good (h : RdR id sd dt st w v8 v9 W) (r : Rec) (h8 : W'.ownsRow (w.heap.size + 2) 57 12 u (st.rs.length + 1) (st.rs.flatMap recF ++ recF r)) (hg : W.grownBy W' v8.ownBlock) : RdR id sd dt ⟨st.rs ++ [r], st.bad⟩ w u v9 (W'.setCell ⟨w.heap.size, 3, none⟩ u) := by
  have hbb := grown_lt (B := 0) hg h.bb (own_far h.o8 (by omega))
  have hzz := grown_lt (B := 0) hg h.zz (own_far h.o8 (by omega))
  have ho9 := h.o9.kept hg (own_ne h.o8 h.o9 (by decide))
  have hbe := h.be.grown hg h.be.size (fun j hj => by have := (h.o8.lt j hj).1; omega)
  have hset : W'.grownBy (W'.setCell ⟨w.heap.size, 3, none⟩ u) (some w.heap.size) := ⟨rfl, rfl, rfl, by simp [World.setCell], fun k _ hk => Below.heap_setCell _ _ _ _ (fun e => hk (by rw [e]))⟩
  refine ⟨by rw [heap_set1 hbb 3 u]; rfl, grown_lt (B := 0) hset hzz (by intro e; injection e with e; omega), ?_, ho9.kept hset (own_far' ho9 (by omega)), hbe.setCell (p := ⟨w.heap.size, 3, none⟩) (Nat.le_refl _) u⟩
  show World.ownsRow _ _ 57 12 u (st.rs ++ [r]).length ((st.rs ++ [r]).flatMap recF)
  rw [List.length_append, List.flatMap_append]
  have := h8.kept hset (own_far' h8 (by omega))
  simpa using this
end
theorem info65c (a c : Int) (b : ByteArray) : (Tryz.prog.info? 65).map (·.size) = some (#[Value.int .i64 a, .string b, .int .i64 c] : Array Value).size := by kernel_rfl
def RdPost (id sd : ByteArray) (dt : Int) (ts : List ByteArray) (w : World) (e : Ending) (w' : World) : Prop :=
  ∃ v8 v9, e = .returned (.tuple #[.agg (btC id sd dt v8), v9]) ∧ w'.ownsRow w.heap.size 57 12 v8 (rtK sd ts ts.length).rs.length ((rtK sd ts ts.length).rs.flatMap recF) ∧ w'.ownsRow w.heap.size 65 3 v9 (rtK sd ts ts.length).bad.length ((rtK sd ts ts.length).bad.flatMap rejF) ∧ Below w.heap.size w w'
set_option maxRecDepth 1000000 in
set_option maxHeartbeats 25600000 in
theorem rread_any (id sd : ByteArray) (dt : Int) (A : Option Addr) (cp : Nat) (ts : List ByteArray) (w : World) (hw : KW w) (hr : IsRow w A (ts.map Value.string)) (hsz : ∀ x ∈ ts, x.size ≤ 1000000) (hm : ts.length ≤ 1000) : Calls Tryz.prog 75 #[.agg (btC id sd dt (.slice none 0 0)), .slice A ts.length cp] w (RdPost id sd dt ts w) := by
  obtain ⟨i57, HI⟩ := info_parts mkrec
  have HI := Lib.hid HI
  obtain ⟨i65, HJ⟩ := info_parts mk65
  have HJ := Lib.hid HJ
  have HKW := Lib.hid hw
  have HR := Lib.hid hr
  have HSZ := Lib.hid hsz
  have HS0 := Lib.hid (RdR.start id sd dt w)
  clear hw hr hsz
  unfold btC
  go_enter Tryz.func75, Tryz.ntmps75
  go_wp2_with fail
  go_loopw [6, 7] (fun v9 iv wr => ∃ (k : Nat) (v8 : Value), k ≤ ts.length ∧ iv = .int .i64 k ∧ Hid (RdR id sd dt (rtK sd ts k) w v8 v9 wr)) (fun _ iv _ => ts.length - (intOf iv).toNat)
  case atStart => exact ⟨0, _, Nat.zero_le _, rfl, HS0⟩
  case round =>
    clear HS0
    obtain ⟨k, v8, hk, rfl, HW⟩ := hrel
    by_cases hlt : k < ts.length
    · obtain ⟨b, off, rfl, hcell⟩ := row_str HR.out k hlt
      have kI : (k : Int) < (ts.length : Int) := by omega
      have k0 : (0 : Int) ≤ (k : Int) := by omega
      have HPS : Hid ((prt ts k).size ≤ 1000000) := Lib.hid (HSZ.out _ (by rw [prt_get hlt]; exact List.getElem_mem hlt))
      have HCW := Lib.hid (hcell k hlt)
      have HDC := Lib.hid (rdec32_any (prt ts k) wr HPS.out)
      unfold DecPost at HDC
      have HSP := Lib.hid (fun W hW => split_any (prt ts k) W hW HPS.out)
      unfold SplPost at HSP
      have HP1 := Lib.hid (fun h => ptT_dec (sd := sd) (rs := (rtK sd ts k).rs) (x := prt ts k) h)
      have HP2 := Lib.hid (fun h h2 => ptT_aq (sd := sd) (rs := (rtK sd ts k).rs) (x := prt ts k) h h2)
      have HP3 := Lib.hid (fun h h2 h3 => ptT_id (sd := sd) (rs := (rtK sd ts k).rs) (x := prt ts k) h h2 h3)
      have HP4 := Lib.hid (fun h h2 h3 => ptT_ok (sd := sd) (rs := (rtK sd ts k).rs) (x := prt ts k) h h2 h3)
      have HSB := Lib.hid (fun q => rt_bad (sd := sd) (ts := ts) (k := k) q)
      have HSG := Lib.hid (fun q => rt_ok (sd := sd) (ts := ts) (k := k) q)
      have HID12 : Hid ((cutS (prt ts k)).length = 12 → idT (prt ts k) = prt (cutS (prt ts k)) 1) := Lib.hid (fun h => by unfold idT; rw [if_pos h])
      have HIDN : Hid ((cutS (prt ts k)).length ≠ 12 → idT (prt ts k) = ⟨#[]⟩) := Lib.hid (fun h => by unfold idT; rw [if_neg h])
      have hrl := rt_len sd ts k
      have hbl : (rtK sd ts k).bad.length < 1001 := by omega
      have hrl : (rtK sd ts k).rs.length < 1001 := by omega
      clear hcell
      generalize idT (prt ts k) = LI at *
      generalize decV (prt ts k) = R at *
      generalize decE (prt ts k) = E at *
      generalize ptT sd (rtK sd ts k).rs (prt ts k) = PT at *
      generalize cutS (prt ts k) = l at *
      generalize prt ts k = p at *
      obtain ⟨st, hst⟩ : ∃ st, rtK sd ts k = st := ⟨_, rfl⟩
      rw [hst] at HW HP3 HP4 HSB HSG hbl hrl
      clear hst
      obtain ⟨A8, c8, rfl, hr8, hc8⟩ := own_form HW.out.o8
      have HHS := Lib.hid (fun x W (h : IsRow W A8 (st.rs.flatMap recF)) => has_any A8 c8 st.rs x W h (by omega))
      have HR8 := Lib.hid hr8
      clear hr8
      obtain ⟨K, rid, au, aq, is, me, ca, a, cu, d, cg, f⟩ := R
      unfold Rec.val Rec.cells at HDC
      dsimp only at HDC HP2 HP3 HP4 HSG
      have hwz : w.heap.size + 1 < wr.heap.size := (Array.getElem?_eq_some_iff.1 HW.out.zz).1
      have hkb : k < 1001 := by omega
      have c0 := cell_later HW.out.be HCW.out
      go_wp2_with fail
      refine HDC.out.mono ?_
      rintro e w4 ⟨rfl, hb⟩
      have HW4 := Lib.hid (HW.out.below hb)
      have HR84 := Lib.hid (HR8.out.below hb)
      have hwz4 : w.heap.size + 1 < w4.heap.size := (Array.getElem?_eq_some_iff.1 HW4.out.zz).1
      clear hb c0 hwz
      have HW5 := Lib.hid (HW4.out.below (bx w4 (.cells #[.int .i64 K, .string rid, .string au, .string aq, .string is, .string me, .string ca, .int .i64 a, .string cu, .int .i64 d, .int .i64 cg, .bool f] 57)))
      have HR85 := Lib.hid (HR84.out.below (bx w4 (.cells #[.int .i64 K, .string rid, .string au, .string aq, .string is, .string me, .string ca, .int .i64 a, .string cu, .int .i64 d, .int .i64 cg, .bool f] 57)))
      have HRB := Lib.hid (heap_alloc_new w4 (.cells #[.int .i64 K, .string rid, .string au, .string aq, .string is, .string me, .string ca, .int .i64 a, .string cu, .int .i64 d, .int .i64 cg, .bool f] 57))
      have z5 : (w4.alloc (.cells #[.int .i64 K, .string rid, .string au, .string aq, .string is, .string me, .string ca, .int .i64 a, .string cu, .int .i64 d, .int .i64 cg, .bool f] 57)).heap.size = w4.heap.size + 1 := World.size_alloc _ _
      by_cases hE : E = 0
      case neg =>
        have hb1 : (E == 0) = false := by simpa using hE
        have hPT : PT = E := HP1.out hE
        have HST : Hid (rtK sd ts (k + 1) = ⟨st.rs, st.bad ++ [(k, LI, E)]⟩) := Lib.hid (by have := HSB.out (by rw [hPT]; exact hE); rw [hPT] at this; exact this)
        clear hPT hE HP1 HP2 HP3 HP4 HSB HSG HHS
        have HW6 := Lib.hid (HW5.out.below (bx (w4.alloc (.cells #[.int .i64 K, .string rid, .string au, .string aq, .string is, .string me, .string ca, .int .i64 a, .string cu, .int .i64 d, .int .i64 cg, .bool f] 57)) (.cells #[.int .i64 k, .string ⟨#[]⟩, .int .i64 E] 65)))
        have HJ6 := Lib.hid (heap_alloc_new (w4.alloc (.cells #[.int .i64 K, .string rid, .string au, .string aq, .string is, .string me, .string ca, .int .i64 a, .string cu, .int .i64 d, .int .i64 cg, .bool f] 57)) (.cells #[.int .i64 k, .string ⟨#[]⟩, .int .i64 E] 65))
        rw [z5] at HJ6
        have c0 := cell_later HW6.out.be HCW.out
        have HSP6 := Lib.hid (HSP.out _ (HKW.out.below HW6.out.be))
        by_cases hl : l.length = 12
        case neg =>
          have hlb : ((l.length : Int) == 12) = false := by simp; omega
          have HLI := Lib.hid (HIDN.out hl)
          clear hl
          go_wp2_with fail
          refine HSP6.out.mono ?_
          rintro e w7 ⟨rfl, hw7⟩
          have hb7 : Below ((w4.alloc (.cells #[.int .i64 K, .string rid, .string au, .string aq, .string is, .string me, .string ca, .int .i64 a, .string cu, .int .i64 d, .int .i64 cg, .bool f] 57)).alloc (.cells #[.int .i64 k, .string ⟨#[]⟩, .int .i64 E] 65)).heap.size ((w4.alloc (.cells #[.int .i64 K, .string rid, .string au, .string aq, .string is, .string me, .string ca, .int .i64 a, .string cu, .int .i64 d, .int .i64 cg, .bool f] 57)).alloc (.cells #[.int .i64 k, .string ⟨#[]⟩, .int .i64 E] 65)) w7 := by rw [hw7]; exact bx _ _
          have HW7 := Lib.hid (HW6.out.below hb7)
          have HJ7 := Lib.hid (blk_later HJ6.out hb7)
          clear hw7 hb7 c0 HSP6
          have HW8 := Lib.hid (HW7.out.below (bx w7 (.cells #[.int .i64 k, .string ⟨#[]⟩, .int .i64 E] 65)))
          have h7z : w.heap.size + 1 < w7.heap.size := (Array.getElem?_eq_some_iff.1 HW7.out.zz).1
          go_wp2_with (first | (refine wpList_load_row rfl 65 _ rfl (w4.heap.size + 1) rfl 65 _ _ _ HJ7.out Tryz.underlying65 rfl (info65c _ _ _) ?_) | (at_builtin; refine wpList_append_own _ rfl (.tmp 67) (.tmp 69) _ rfl (w.heap.size + 2) 65 i65 _ 3 32 Tryz.underlying35 HJ.out.1 HJ.out.2.1 HJ.out.2.2.1 HJ.out.2.2.2 rfl (by omega) _ _ _ rfl HW8.out.o9 ⟨w7.heap.size, 0, none⟩ 1 1 [.int .i64 k, .string ⟨#[]⟩, .int .i64 E] rfl rfl (World.news_of_block (cs := #[.int .i64 k, .string ⟨#[]⟩, .int .i64 E]) (t := 65) (fr := (0, 0)) (heap_alloc_new w7 _)) (by simp [Value.oneCell']) (by unfold maxLen; omega) (by omega) (by simp; omega) ?_; intro v9 w8 hown hgrow hnil; have HA := Lib.hid hown; have HG := Lib.hid hgrow; clear hown hgrow hnil))
          have HW9 := Lib.hid (HW8.out.bad (k, ⟨#[]⟩, E) HA.out HG.out)
          rw [← HLI.out, ← HST.out] at HW9
          exact ⟨⟨k + 1, _, by omega, by go_num, HW9⟩, by simp [intOf]; omega⟩
        case pos =>
          have HLI := Lib.hid (HID12.out hl)
          rw [hl] at HSP6
          go_wp2_with fail
          refine HSP6.out.mono ?_
          rintro e w7 ⟨rfl, hw7⟩
          have hb7 : Below ((w4.alloc (.cells #[.int .i64 K, .string rid, .string au, .string aq, .string is, .string me, .string ca, .int .i64 a, .string cu, .int .i64 d, .int .i64 cg, .bool f] 57)).alloc (.cells #[.int .i64 k, .string ⟨#[]⟩, .int .i64 E] 65)).heap.size ((w4.alloc (.cells #[.int .i64 K, .string rid, .string au, .string aq, .string is, .string me, .string ca, .int .i64 a, .string cu, .int .i64 d, .int .i64 cg, .bool f] 57)).alloc (.cells #[.int .i64 k, .string ⟨#[]⟩, .int .i64 E] 65)) w7 := by rw [hw7]; exact bx _ _
          have HW7 := Lib.hid (HW6.out.below hb7)
          have HJ7 := Lib.hid (blk_later HJ6.out hb7)
          have e7 : ((w4.alloc (.cells #[.int .i64 K, .string rid, .string au, .string aq, .string is, .string me, .string ca, .int .i64 a, .string cu, .int .i64 d, .int .i64 cg, .bool f] 57)).alloc (.cells #[.int .i64 k, .string ⟨#[]⟩, .int .i64 E] 65)).heap.size = w4.heap.size + 2 := by rw [World.size_alloc, World.size_alloc]
          have HL7 : Hid (w7.heap[w4.heap.size + 2]? = some (.cells (l.map Value.string).toArray 9)) := Lib.hid (by rw [hw7, ← e7]; exact heap_alloc_new _ _)
          have l1 := str_cell HL7.out 1 (by omega)
          clear hw7 hb7 c0 HSP6 hl
          rw [← HLI.out] at l1
          have h7z : w.heap.size + 1 < w7.heap.size := (Array.getElem?_eq_some_iff.1 HW7.out.zz).1
          have j1 := cell_c HJ7.out 1
          have jf := cell_f HJ7.out 1
          simp at j1
          have h74 : w4.heap.size + 1 < w7.heap.size := (Array.getElem?_eq_some_iff.1 HJ7.out).1
          have HO8 : Hid (∀ j, (Value.slice A8 st.rs.length c8).ownBlock = some j → j ≠ w4.heap.size + 1) := Lib.hid (fun j hj e => by have := (HW4.out.o8.lt j hj).2; omega)
          have HO9 : Hid (∀ j, u6.ownBlock = some j → j ≠ w4.heap.size + 1) := Lib.hid (fun j hj e => by have := (HW4.out.o9.lt j hj).2; omega)
          have HWS := Lib.hid (HW7.out.cell (g := w4.heap.size + 1) 1 (.string LI) (by omega) HO8.out HO9.out)
          have HJS : Hid ((w7.setCell ⟨w4.heap.size + 1, 1, none⟩ (.string LI)).heap[w4.heap.size + 1]? = some (.cells #[.int .i64 k, .string LI, .int .i64 E] 65)) := Lib.hid (by rw [heap_set1 HJ7.out 1 _]; rfl)
          have HW8 := Lib.hid (HWS.out.below (bx (w7.setCell ⟨w4.heap.size + 1, 1, none⟩ (.string LI)) (.cells #[.int .i64 k, .string LI, .int .i64 E] 65)))
          go_wp2_with (first | (refine wpList_load_row rfl 65 _ rfl (w4.heap.size + 1) rfl 65 _ _ _ HJS.out Tryz.underlying65 rfl (info65c _ _ _) ?_) | (at_builtin; refine wpList_append_own _ rfl (.tmp 67) (.tmp 69) _ rfl (w.heap.size + 2) 65 i65 _ 3 32 Tryz.underlying35 HJ.out.1 HJ.out.2.1 HJ.out.2.2.1 HJ.out.2.2.2 rfl (by omega) _ _ _ rfl HW8.out.o9 ⟨w7.heap.size, 0, none⟩ 1 1 [.int .i64 k, .string LI, .int .i64 E] rfl rfl (World.news_of_block (cs := #[.int .i64 k, .string LI, .int .i64 E]) (t := 65) (fr := (0, 0)) (new_set w7 _ _ _)) (by simp [Value.oneCell']) (by unfold maxLen; omega) (by omega) (by simp; omega) ?_; intro v9 w8 hown hgrow hnil; have HA := Lib.hid hown; have HG := Lib.hid hgrow; clear hown hgrow hnil))
          have HW9 := Lib.hid (HW8.out.bad (k, LI, E) HA.out HG.out)
          rw [← HST.out] at HW9
          exact ⟨⟨k + 1, _, by omega, by go_num, HW9⟩, by simp [intOf]; omega⟩
      case pos =>
      subst hE
      by_cases haq : aq = sd
      case neg =>
        obtain ⟨q0, n0⟩ := str_ne haq
        have hPT : PT = 5 := HP2.out rfl haq
        have HST : Hid (rtK sd ts (k + 1) = ⟨st.rs, st.bad ++ [(k, LI, 5)]⟩) := Lib.hid (by have := HSB.out (by rw [hPT]; decide); rw [hPT] at this; exact this)
        have a3 : (w4.alloc (.cells #[.int .i64 K, .string rid, .string au, .string aq, .string is, .string me, .string ca, .int .i64 a, .string cu, .int .i64 d, .int .i64 cg, .bool f] 57)).cell? ⟨w4.heap.size, 3, none⟩ = some (.string aq) := cell_c HRB.out 3
        have b1 : (w4.alloc (.cells #[.int .i64 K, .string rid, .string au, .string aq, .string is, .string me, .string ca, .int .i64 a, .string cu, .int .i64 d, .int .i64 cg, .bool f] 57)).cell? ⟨w.heap.size, 1, none⟩ = some (.string sd) := cell_c HW5.out.bb 1
        clear hPT haq HP1 HP2 HP3 HP4 HSB HSG HHS
        have HW6 := Lib.hid (HW5.out.below (bx (w4.alloc (.cells #[.int .i64 K, .string rid, .string au, .string aq, .string is, .string me, .string ca, .int .i64 a, .string cu, .int .i64 d, .int .i64 cg, .bool f] 57)) (.cells #[.int .i64 k, .string ⟨#[]⟩, .int .i64 5] 65)))
        have HJ6 := Lib.hid (heap_alloc_new (w4.alloc (.cells #[.int .i64 K, .string rid, .string au, .string aq, .string is, .string me, .string ca, .int .i64 a, .string cu, .int .i64 d, .int .i64 cg, .bool f] 57)) (.cells #[.int .i64 k, .string ⟨#[]⟩, .int .i64 5] 65))
        rw [z5] at HJ6
        have c0 := cell_later HW6.out.be HCW.out
        have HSP6 := Lib.hid (HSP.out _ (HKW.out.below HW6.out.be))
        by_cases hl : l.length = 12
        case neg =>
          have hlb : ((l.length : Int) == 12) = false := by simp; omega
          have HLI := Lib.hid (HIDN.out hl)
          clear hl
          go_wp2_with fail
          refine HSP6.out.mono ?_
          rintro e w7 ⟨rfl, hw7⟩
          have hb7 : Below ((w4.alloc (.cells #[.int .i64 K, .string rid, .string au, .string aq, .string is, .string me, .string ca, .int .i64 a, .string cu, .int .i64 d, .int .i64 cg, .bool f] 57)).alloc (.cells #[.int .i64 k, .string ⟨#[]⟩, .int .i64 5] 65)).heap.size ((w4.alloc (.cells #[.int .i64 K, .string rid, .string au, .string aq, .string is, .string me, .string ca, .int .i64 a, .string cu, .int .i64 d, .int .i64 cg, .bool f] 57)).alloc (.cells #[.int .i64 k, .string ⟨#[]⟩, .int .i64 5] 65)) w7 := by rw [hw7]; exact bx _ _
          have HW7 := Lib.hid (HW6.out.below hb7)
          have HJ7 := Lib.hid (blk_later HJ6.out hb7)
          clear hw7 hb7 c0 HSP6
          have HW8 := Lib.hid (HW7.out.below (bx w7 (.cells #[.int .i64 k, .string ⟨#[]⟩, .int .i64 5] 65)))
          have h7z : w.heap.size + 1 < w7.heap.size := (Array.getElem?_eq_some_iff.1 HW7.out.zz).1
          go_wp2_with (first | (refine wpList_load_row rfl 65 _ rfl (w4.heap.size + 1) rfl 65 _ _ _ HJ7.out Tryz.underlying65 rfl (info65c _ _ _) ?_) | (at_builtin; refine wpList_append_own _ rfl (.tmp 67) (.tmp 69) _ rfl (w.heap.size + 2) 65 i65 _ 3 32 Tryz.underlying35 HJ.out.1 HJ.out.2.1 HJ.out.2.2.1 HJ.out.2.2.2 rfl (by omega) _ _ _ rfl HW8.out.o9 ⟨w7.heap.size, 0, none⟩ 1 1 [.int .i64 k, .string ⟨#[]⟩, .int .i64 5] rfl rfl (World.news_of_block (cs := #[.int .i64 k, .string ⟨#[]⟩, .int .i64 5]) (t := 65) (fr := (0, 0)) (heap_alloc_new w7 _)) (by simp [Value.oneCell']) (by unfold maxLen; omega) (by omega) (by simp; omega) ?_; intro v9 w8 hown hgrow hnil; have HA := Lib.hid hown; have HG := Lib.hid hgrow; clear hown hgrow hnil))
          have HW9 := Lib.hid (HW8.out.bad (k, ⟨#[]⟩, 5) HA.out HG.out)
          rw [← HLI.out, ← HST.out] at HW9
          exact ⟨⟨k + 1, _, by omega, by go_num, HW9⟩, by simp [intOf]; omega⟩
        case pos =>
          have HLI := Lib.hid (HID12.out hl)
          rw [hl] at HSP6
          go_wp2_with fail
          refine HSP6.out.mono ?_
          rintro e w7 ⟨rfl, hw7⟩
          have hb7 : Below ((w4.alloc (.cells #[.int .i64 K, .string rid, .string au, .string aq, .string is, .string me, .string ca, .int .i64 a, .string cu, .int .i64 d, .int .i64 cg, .bool f] 57)).alloc (.cells #[.int .i64 k, .string ⟨#[]⟩, .int .i64 5] 65)).heap.size ((w4.alloc (.cells #[.int .i64 K, .string rid, .string au, .string aq, .string is, .string me, .string ca, .int .i64 a, .string cu, .int .i64 d, .int .i64 cg, .bool f] 57)).alloc (.cells #[.int .i64 k, .string ⟨#[]⟩, .int .i64 5] 65)) w7 := by rw [hw7]; exact bx _ _
          have HW7 := Lib.hid (HW6.out.below hb7)
          have HJ7 := Lib.hid (blk_later HJ6.out hb7)
          have e7 : ((w4.alloc (.cells #[.int .i64 K, .string rid, .string au, .string aq, .string is, .string me, .string ca, .int .i64 a, .string cu, .int .i64 d, .int .i64 cg, .bool f] 57)).alloc (.cells #[.int .i64 k, .string ⟨#[]⟩, .int .i64 5] 65)).heap.size = w4.heap.size + 2 := by rw [World.size_alloc, World.size_alloc]
          have HL7 : Hid (w7.heap[w4.heap.size + 2]? = some (.cells (l.map Value.string).toArray 9)) := Lib.hid (by rw [hw7, ← e7]; exact heap_alloc_new _ _)
          have l1 := str_cell HL7.out 1 (by omega)
          clear hw7 hb7 c0 HSP6 hl
          rw [← HLI.out] at l1
          have h7z : w.heap.size + 1 < w7.heap.size := (Array.getElem?_eq_some_iff.1 HW7.out.zz).1
          have j1 := cell_c HJ7.out 1
          have jf := cell_f HJ7.out 1
          simp at j1
          have h74 : w4.heap.size + 1 < w7.heap.size := (Array.getElem?_eq_some_iff.1 HJ7.out).1
          have HO8 : Hid (∀ j, (Value.slice A8 st.rs.length c8).ownBlock = some j → j ≠ w4.heap.size + 1) := Lib.hid (fun j hj e => by have := (HW4.out.o8.lt j hj).2; omega)
          have HO9 : Hid (∀ j, u6.ownBlock = some j → j ≠ w4.heap.size + 1) := Lib.hid (fun j hj e => by have := (HW4.out.o9.lt j hj).2; omega)
          have HWS := Lib.hid (HW7.out.cell (g := w4.heap.size + 1) 1 (.string LI) (by omega) HO8.out HO9.out)
          have HJS : Hid ((w7.setCell ⟨w4.heap.size + 1, 1, none⟩ (.string LI)).heap[w4.heap.size + 1]? = some (.cells #[.int .i64 k, .string LI, .int .i64 5] 65)) := Lib.hid (by rw [heap_set1 HJ7.out 1 _]; rfl)
          have HW8 := Lib.hid (HWS.out.below (bx (w7.setCell ⟨w4.heap.size + 1, 1, none⟩ (.string LI)) (.cells #[.int .i64 k, .string LI, .int .i64 5] 65)))
          go_wp2_with (first | (refine wpList_load_row rfl 65 _ rfl (w4.heap.size + 1) rfl 65 _ _ _ HJS.out Tryz.underlying65 rfl (info65c _ _ _) ?_) | (at_builtin; refine wpList_append_own _ rfl (.tmp 67) (.tmp 69) _ rfl (w.heap.size + 2) 65 i65 _ 3 32 Tryz.underlying35 HJ.out.1 HJ.out.2.1 HJ.out.2.2.1 HJ.out.2.2.2 rfl (by omega) _ _ _ rfl HW8.out.o9 ⟨w7.heap.size, 0, none⟩ 1 1 [.int .i64 k, .string LI, .int .i64 5] rfl rfl (World.news_of_block (cs := #[.int .i64 k, .string LI, .int .i64 5]) (t := 65) (fr := (0, 0)) (new_set w7 _ _ _)) (by simp [Value.oneCell']) (by unfold maxLen; omega) (by omega) (by simp; omega) ?_; intro v9 w8 hown hgrow hnil; have HA := Lib.hid hown; have HG := Lib.hid hgrow; clear hown hgrow hnil))
          have HW9 := Lib.hid (HW8.out.bad (k, LI, 5) HA.out HG.out)
          rw [← HST.out] at HW9
          exact ⟨⟨k + 1, _, by omega, by go_num, HW9⟩, by simp [intOf]; omega⟩
      case pos =>
      subst haq
      obtain ⟨q0, n0⟩ := str_eq (rfl : aq = aq)
      clear n0
      have a3 : (w4.alloc (.cells #[.int .i64 K, .string rid, .string au, .string aq, .string is, .string me, .string ca, .int .i64 a, .string cu, .int .i64 d, .int .i64 cg, .bool f] 57)).cell? ⟨w4.heap.size, 3, none⟩ = some (.string aq) := cell_c HRB.out 3
      have a1 : (w4.alloc (.cells #[.int .i64 K, .string rid, .string au, .string aq, .string is, .string me, .string ca, .int .i64 a, .string cu, .int .i64 d, .int .i64 cg, .bool f] 57)).cell? ⟨w4.heap.size, 1, none⟩ = some (.string rid) := cell_c HRB.out 1
      have b1 : (w4.alloc (.cells #[.int .i64 K, .string rid, .string au, .string aq, .string is, .string me, .string ca, .int .i64 a, .string cu, .int .i64 d, .int .i64 cg, .bool f] 57)).cell? ⟨w.heap.size, 1, none⟩ = some (.string aq) := cell_c HW5.out.bb 1
      have b3 : (w4.alloc (.cells #[.int .i64 K, .string rid, .string au, .string aq, .string is, .string me, .string ca, .int .i64 a, .string cu, .int .i64 d, .int .i64 cg, .bool f] 57)).cell? ⟨w.heap.size, 3, none⟩ = some (.slice A8 st.rs.length c8) := cell_c HW5.out.bb 3
      have HH1 := Lib.hid (HHS.out rid _ HR85.out)
      by_cases hin : rid ∈ idsOf st.rs
      case pos =>
        have hPT : PT = 7 := HP3.out rfl rfl hin
        have HST : Hid (rtK aq ts (k + 1) = ⟨st.rs, st.bad ++ [(k, LI, 7)]⟩) := Lib.hid (by have := HSB.out (by rw [hPT]; decide); rw [hPT] at this; exact this)
        rw [decide_eq_true hin] at HH1
        clear hPT hin HP1 HP2 HP3 HP4 HSB HSG HHS
        go_wp2_with fail
        refine HH1.out.mono ?_
        rintro e w6 ⟨rfl, rfl⟩
        have HW6 := Lib.hid (HW5.out.below (bx (w4.alloc (.cells #[.int .i64 K, .string rid, .string au, .string aq, .string is, .string me, .string ca, .int .i64 a, .string cu, .int .i64 d, .int .i64 cg, .bool f] 57)) (.cells #[.int .i64 k, .string ⟨#[]⟩, .int .i64 7] 65)))
        have HJ6 := Lib.hid (heap_alloc_new (w4.alloc (.cells #[.int .i64 K, .string rid, .string au, .string aq, .string is, .string me, .string ca, .int .i64 a, .string cu, .int .i64 d, .int .i64 cg, .bool f] 57)) (.cells #[.int .i64 k, .string ⟨#[]⟩, .int .i64 7] 65))
        rw [z5] at HJ6
        have c0 := cell_later HW6.out.be HCW.out
        have HSP6 := Lib.hid (HSP.out _ (HKW.out.below HW6.out.be))
        by_cases hl : l.length = 12
        case neg =>
          have hlb : ((l.length : Int) == 12) = false := by simp; omega
          have HLI := Lib.hid (HIDN.out hl)
          clear hl
          go_wp2_with fail
          refine HSP6.out.mono ?_
          rintro e w7 ⟨rfl, hw7⟩
          have hb7 : Below ((w4.alloc (.cells #[.int .i64 K, .string rid, .string au, .string aq, .string is, .string me, .string ca, .int .i64 a, .string cu, .int .i64 d, .int .i64 cg, .bool f] 57)).alloc (.cells #[.int .i64 k, .string ⟨#[]⟩, .int .i64 7] 65)).heap.size ((w4.alloc (.cells #[.int .i64 K, .string rid, .string au, .string aq, .string is, .string me, .string ca, .int .i64 a, .string cu, .int .i64 d, .int .i64 cg, .bool f] 57)).alloc (.cells #[.int .i64 k, .string ⟨#[]⟩, .int .i64 7] 65)) w7 := by rw [hw7]; exact bx _ _
          have HW7 := Lib.hid (HW6.out.below hb7)
          have HJ7 := Lib.hid (blk_later HJ6.out hb7)
          clear hw7 hb7 c0 HSP6
          have HW8 := Lib.hid (HW7.out.below (bx w7 (.cells #[.int .i64 k, .string ⟨#[]⟩, .int .i64 7] 65)))
          have h7z : w.heap.size + 1 < w7.heap.size := (Array.getElem?_eq_some_iff.1 HW7.out.zz).1
          go_wp2_with (first | (refine wpList_load_row rfl 65 _ rfl (w4.heap.size + 1) rfl 65 _ _ _ HJ7.out Tryz.underlying65 rfl (info65c _ _ _) ?_) | (at_builtin; refine wpList_append_own _ rfl (.tmp 67) (.tmp 69) _ rfl (w.heap.size + 2) 65 i65 _ 3 32 Tryz.underlying35 HJ.out.1 HJ.out.2.1 HJ.out.2.2.1 HJ.out.2.2.2 rfl (by omega) _ _ _ rfl HW8.out.o9 ⟨w7.heap.size, 0, none⟩ 1 1 [.int .i64 k, .string ⟨#[]⟩, .int .i64 7] rfl rfl (World.news_of_block (cs := #[.int .i64 k, .string ⟨#[]⟩, .int .i64 7]) (t := 65) (fr := (0, 0)) (heap_alloc_new w7 _)) (by simp [Value.oneCell']) (by unfold maxLen; omega) (by omega) (by simp; omega) ?_; intro v9 w8 hown hgrow hnil; have HA := Lib.hid hown; have HG := Lib.hid hgrow; clear hown hgrow hnil))
          have HW9 := Lib.hid (HW8.out.bad (k, ⟨#[]⟩, 7) HA.out HG.out)
          rw [← HLI.out, ← HST.out] at HW9
          exact ⟨⟨k + 1, _, by omega, by go_num, HW9⟩, by simp [intOf]; omega⟩
        case pos =>
          have HLI := Lib.hid (HID12.out hl)
          rw [hl] at HSP6
          go_wp2_with fail
          refine HSP6.out.mono ?_
          rintro e w7 ⟨rfl, hw7⟩
          have hb7 : Below ((w4.alloc (.cells #[.int .i64 K, .string rid, .string au, .string aq, .string is, .string me, .string ca, .int .i64 a, .string cu, .int .i64 d, .int .i64 cg, .bool f] 57)).alloc (.cells #[.int .i64 k, .string ⟨#[]⟩, .int .i64 7] 65)).heap.size ((w4.alloc (.cells #[.int .i64 K, .string rid, .string au, .string aq, .string is, .string me, .string ca, .int .i64 a, .string cu, .int .i64 d, .int .i64 cg, .bool f] 57)).alloc (.cells #[.int .i64 k, .string ⟨#[]⟩, .int .i64 7] 65)) w7 := by rw [hw7]; exact bx _ _
          have HW7 := Lib.hid (HW6.out.below hb7)
          have HJ7 := Lib.hid (blk_later HJ6.out hb7)
          have e7 : ((w4.alloc (.cells #[.int .i64 K, .string rid, .string au, .string aq, .string is, .string me, .string ca, .int .i64 a, .string cu, .int .i64 d, .int .i64 cg, .bool f] 57)).alloc (.cells #[.int .i64 k, .string ⟨#[]⟩, .int .i64 7] 65)).heap.size = w4.heap.size + 2 := by rw [World.size_alloc, World.size_alloc]
          have HL7 : Hid (w7.heap[w4.heap.size + 2]? = some (.cells (l.map Value.string).toArray 9)) := Lib.hid (by rw [hw7, ← e7]; exact heap_alloc_new _ _)
          have l1 := str_cell HL7.out 1 (by omega)
          clear hw7 hb7 c0 HSP6 hl
          rw [← HLI.out] at l1
          have h7z : w.heap.size + 1 < w7.heap.size := (Array.getElem?_eq_some_iff.1 HW7.out.zz).1
          have j1 := cell_c HJ7.out 1
          have jf := cell_f HJ7.out 1
          simp at j1
          have h74 : w4.heap.size + 1 < w7.heap.size := (Array.getElem?_eq_some_iff.1 HJ7.out).1
          have HO8 : Hid (∀ j, (Value.slice A8 st.rs.length c8).ownBlock = some j → j ≠ w4.heap.size + 1) := Lib.hid (fun j hj e => by have := (HW4.out.o8.lt j hj).2; omega)
          have HO9 : Hid (∀ j, u6.ownBlock = some j → j ≠ w4.heap.size + 1) := Lib.hid (fun j hj e => by have := (HW4.out.o9.lt j hj).2; omega)
          have HWS := Lib.hid (HW7.out.cell (g := w4.heap.size + 1) 1 (.string LI) (by omega) HO8.out HO9.out)
          have HJS : Hid ((w7.setCell ⟨w4.heap.size + 1, 1, none⟩ (.string LI)).heap[w4.heap.size + 1]? = some (.cells #[.int .i64 k, .string LI, .int .i64 7] 65)) := Lib.hid (by rw [heap_set1 HJ7.out 1 _]; rfl)
          have HW8 := Lib.hid (HWS.out.below (bx (w7.setCell ⟨w4.heap.size + 1, 1, none⟩ (.string LI)) (.cells #[.int .i64 k, .string LI, .int .i64 7] 65)))
          go_wp2_with (first | (refine wpList_load_row rfl 65 _ rfl (w4.heap.size + 1) rfl 65 _ _ _ HJS.out Tryz.underlying65 rfl (info65c _ _ _) ?_) | (at_builtin; refine wpList_append_own _ rfl (.tmp 67) (.tmp 69) _ rfl (w.heap.size + 2) 65 i65 _ 3 32 Tryz.underlying35 HJ.out.1 HJ.out.2.1 HJ.out.2.2.1 HJ.out.2.2.2 rfl (by omega) _ _ _ rfl HW8.out.o9 ⟨w7.heap.size, 0, none⟩ 1 1 [.int .i64 k, .string LI, .int .i64 7] rfl rfl (World.news_of_block (cs := #[.int .i64 k, .string LI, .int .i64 7]) (t := 65) (fr := (0, 0)) (new_set w7 _ _ _)) (by simp [Value.oneCell']) (by unfold maxLen; omega) (by omega) (by simp; omega) ?_; intro v9 w8 hown hgrow hnil; have HA := Lib.hid hown; have HG := Lib.hid hgrow; clear hown hgrow hnil))
          have HW9 := Lib.hid (HW8.out.bad (k, LI, 7) HA.out HG.out)
          rw [← HST.out] at HW9
          exact ⟨⟨k + 1, _, by omega, by go_num, HW9⟩, by simp [intOf]; omega⟩
      case neg =>
        have hPT : PT = 0 := HP4.out rfl rfl hin
        have HST : Hid (rtK aq ts (k + 1) = ⟨st.rs ++ [⟨K, rid, au, aq, is, me, ca, a, cu, d, cg, f⟩], st.bad⟩) := Lib.hid (HSG.out hPT)
        rw [decide_eq_false hin] at HH1
        clear hPT hin HP1 HP2 HP3 HP4 HSB HSG HHS
        go_wp2_with fail
        refine HH1.out.mono ?_
        rintro e w6 ⟨rfl, rfl⟩
        have HN7 := Lib.hid (HW5.out.below (bx (w4.alloc (.cells #[.int .i64 K, .string rid, .string au, .string aq, .string is, .string me, .string ca, .int .i64 a, .string cu, .int .i64 d, .int .i64 cg, .bool f] 57)) (.cells #[.int .i64 K, .string rid, .string au, .string aq, .string is, .string me, .string ca, .int .i64 a, .string cu, .int .i64 d, .int .i64 cg, .bool f] 57)))
        clear HH1
        go_wp2_with (first | (refine wpList_load_row rfl 57 _ rfl w4.heap.size rfl 57 _ _ _ HRB.out Tryz.underlying57 rfl (info25 (⟨K, rid, au, aq, is, me, ca, a, cu, d, cg, f⟩ : Rec)) ?_) | (at_builtin; refine wpList_append_own _ rfl (.tmp 47) (.tmp 49) _ rfl (w.heap.size + 2) 57 i57 _ 12 152 Tryz.underlying34 HI.out.1 HI.out.2.1 HI.out.2.2.1 HI.out.2.2.2 rfl (by omega) _ _ _ rfl HN7.out.o8 ⟨w4.heap.size + 1, 0, none⟩ 1 1 [.int .i64 K, .string rid, .string au, .string aq, .string is, .string me, .string ca, .int .i64 a, .string cu, .int .i64 d, .int .i64 cg, .bool f] rfl rfl (World.news_of_block (cs := #[.int .i64 K, .string rid, .string au, .string aq, .string is, .string me, .string ca, .int .i64 a, .string cu, .int .i64 d, .int .i64 cg, .bool f]) (t := 57) (fr := (0, 0)) (heap_alloc2_new w4 _ _)) (by simp [Value.oneCell']) (by unfold maxLen; omega) (by omega) (by simp; omega) ?_; intro v7 w8 hown hgrow hnil; obtain ⟨A7, c7, rfl, hA7, hA8⟩ := own_form hown; clear hA7 hA8; have HA := Lib.hid hown; have HG := Lib.hid hgrow; have g1 := grown_lt (B := 0) hgrow HN7.out.bb (own_far HN7.out.o8 (by omega)); have d3 := cell_c g1 3; have p3 := cell_f g1 3; clear hown hgrow hnil g1; simp [btC] at d3))
        have HW8 := Lib.hid (HN7.out.good ⟨K, rid, au, aq, is, me, ca, a, cu, d, cg, f⟩ HA.out HG.out)
        rw [← HST.out] at HW8
        exact ⟨⟨k + 1, _, by omega, by go_num, HW8⟩, by simp [intOf]; omega⟩
    · obtain rfl : k = ts.length := by omega
      have kI : ¬ (ts.length : Int) < (ts.length : Int) := by omega
      go_wp2_with (first | (refine wpList_load_row rfl 61 _ rfl w.heap.size rfl 61 _ _ _ HW.out.bb Tryz.underlying61 rfl (info61 id sd dt v8) ?_) | (refine wpList_store_row rfl 61 _ _ rfl (w.heap.size + 1) (btC id sd dt v8) rfl rfl 61 _ HW.out.zz (info61 _ _ _ _) rfl (bt_one HW.out.o8) ?_))
      refine bodyPost_ret (v := .tuple #[.agg (btC id sd dt v8), u6]) ?_ rfl ?_
      · exact results_row_tmp (show Tryz.f75.results = #[.cell 4 61, .tmp 5] by kernel_rfl) _ _ (w.heap.size + 1) 61 (btC id sd dt v8) (0, 0) _ _ rfl rfl (setRow_heap _ _ _ _ _ _ HW.out.zz) Tryz.underlying61 rfl (info61 _ _ _ _)
      · have hg := setRow_grown wr (w.heap.size + 1) (btC id sd dt v8)
        exact ⟨_, _, rfl, own_base (HW.out.o8.kept hg (own_far' HW.out.o8 (by omega))) (by omega), own_base (HW.out.o9.kept hg (own_far' HW.out.o9 (by omega))) (by omega), below_setRow HW.out.be (by omega) _⟩
end Go.Proofs.YthflmdgfenojcaaGreatDoor
