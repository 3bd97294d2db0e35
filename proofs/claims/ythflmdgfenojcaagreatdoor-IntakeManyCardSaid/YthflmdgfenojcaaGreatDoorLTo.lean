/- The law BatchTotals, walked. -/
import Derived.Test.YthflmdgfenojcaaGreatDoorAwb
import Derived.Test.YthflmdgfenojcaaGreatDoorRds
namespace Go.Proofs.YthflmdgfenojcaaGreatDoor
set_option linter.unusedVariables false
open Go.RowKit Go.Sort Go.Maps

theorem foldl_add (f : Rec → Int) (l : List Rec) : ∀ s : Int, l.foldl (fun s r => s + f r) s = s + l.foldl (fun s r => s + f r) 0 := by
  induction l with
  | nil => intro s; simp
  | cons a l ih => intro s; rw [List.foldl_cons, List.foldl_cons, ih (s + f a), ih (0 + f a)]; omega
theorem debS_app (a b : List Rec) : debS (a ++ b) (a ++ b).length = debS a a.length + debS b b.length := by
  unfold debS
  rw [List.take_length, List.take_length, List.take_length, List.foldl_append, foldl_add]
theorem creS_app (a b : List Rec) : creS (a ++ b) (a ++ b).length = creS a a.length + creS b b.length := by
  unfold creS
  rw [List.take_length, List.take_length, List.take_length, List.foldl_append, foldl_add]
theorem sumB_app (a b : List ByteArray) : C7.sumB (a ++ b) = C7.sumB a + C7.sumB b := by
  induction a with
  | nil => simp [C7.sumB]
  | cons x a ih => simp [C7.sumB] at *; omega
theorem totB_app (a b : List ByteArray) : C7.totB (a ++ b) = (C7.totB a + C7.totB b) % 100000000 := by
  rw [C7.totB_sum, C7.totB_sum, C7.totB_sum, sumB_app]; omega
theorem rows_len (l : List Rec) : (l.flatMap recF).length = l.length * 12 := by
  induction l with
  | nil => rfl
  | cons x l ih =>
    rw [List.flatMap_cons, List.length_append, ih, List.length_cons]
    have : (recF x).length = 12 := rfl
    omega
theorem rows_one (l : List Rec) : ∀ u ∈ l.flatMap recF, u.oneCell' = true := by
  intro u hu
  obtain ⟨r, _, hr⟩ := List.mem_flatMap.1 hu
  have := rec_one r
  rw [Array.all_eq_true] at this
  obtain ⟨i, hi, rfl⟩ := List.getElem_of_mem hr
  exact this i hi
theorem reads_row {W : World} {A : Option Addr} {l : List Rec} (h : IsRow W A (l.flatMap recF)) : Reads W W.heap.size 12 A l.length (l.flatMap recF) := by
  refine ⟨rows_len l, fun h0 => ?_⟩
  rcases h with h | ⟨b, off, rfl, h⟩
  · rw [rows_len] at h; omega
  · have hadd : ∀ j, (⟨b, off, none⟩ : Addr).add j = ⟨b, off + j, none⟩ := fun j => by unfold Addr.add; split <;> simp_all
    refine ⟨_, rfl, ?_, fun j u hj => by rw [hadd]; exact h j u hj⟩
    have h1 := h 0 _ (show (l.flatMap recF)[0]? = some ((l.flatMap recF)[0]'(by rw [rows_len]; omega)) from List.getElem?_eq_getElem _)
    exact World.block_lt_of_cell? W _ h1
set_option maxRecDepth 100000 in
set_option maxHeartbeats 12800000 in
theorem totals_any (A B : Option Addr) (ca cb : Nat) (la lb : List Rec) (w : World) (hw : BW w) (hA : IsRow w A (la.flatMap recF)) (hB : IsRow w B (lb.flatMap recF)) (hokA : ∀ x ∈ la, x.Rch) (hokB : ∀ x ∈ lb, x.Rch) (hcA : la.length ≤ ca) (hcB : lb.length ≤ cb) (hmA : la.length ≤ maxLen) (hmB : lb.length ≤ maxLen) :
    Calls Tryz.prog 9 #[.slice A la.length ca, .slice B lb.length cb] w fun e w' => e = .returned (.bool true) ∧ Below w.heap.size w w' := by
  have HKW := Lib.hid hw
  have HAR := Lib.hid hA
  have HBR := Lib.hid hB
  have HAW := Lib.hid (fun W hW => awb_any W hW)
  have HFA := Lib.hid (fun W h => few_any A ca la W h hokA hmA)
  have HFB := Lib.hid (fun W h => few_any B cb lb W h hokB hmB)
  unfold BPost at HFA HFB
  unfold maxLen at hmA hmB
  cases qa : fewB la with
  | false =>
    rw [qa] at HFA
    clear qa HFB hw hA hB hokA hokB
    go_enter Tryz.func9, Tryz.ntmps9
    go_wp2_with fail
    refine (HFA.out _ HAR.out).mono ?_
    rintro e w1 ⟨rfl, hb⟩
    have HB1 := Lib.hid hb
    clear hb
    go_wp2_with fail
    refine (HAW.out _ (HKW.out.below HB1.out)).mono ?_
    rintro e w2 ⟨rfl, hb⟩
    have HB2 := Lib.hid (HB1.out.trans (hb.mono HB1.out.size))
    clear hb
    go_wp2_with fail
    go_ret
    exact ⟨rfl, HB2.out⟩
  | true =>
  cases qb : fewB lb with
  | false =>
    rw [qa] at HFA
    rw [qb] at HFB
    clear qa qb hw hA hB hokA hokB
    go_enter Tryz.func9, Tryz.ntmps9
    go_wp2_with fail
    refine (HFA.out _ HAR.out).mono ?_
    rintro e w1 ⟨rfl, hb⟩
    have HB1 := Lib.hid hb
    clear hb
    go_wp2_with fail
    refine (HFB.out _ (HBR.out.below HB1.out)).mono ?_
    rintro e w2 ⟨rfl, hb⟩
    have HB2 := Lib.hid (HB1.out.trans (hb.mono HB1.out.size))
    clear hb
    go_wp2_with fail
    refine (HAW.out _ (HKW.out.below HB2.out)).mono ?_
    rintro e w3 ⟨rfl, hb⟩
    have HB3 := Lib.hid (HB2.out.trans (hb.mono HB2.out.size))
    clear hb
    go_wp2_with fail
    go_ret
    exact ⟨rfl, HB3.out⟩
  | true =>
  have la240 := (few_all qa).1
  have lb240 := (few_all qb).1
  rw [qa] at HFA
  rw [qb] at HFB
  have HSA := Lib.hid (fun W h => bsum_any A ca la W h (fun x hx => (hokA x hx).fit) hcA (by omega))
  have HSB := Lib.hid (fun W h => bsum_any B cb lb W h (fun x hx => (hokB x hx).fit) hcB (by omega))
  have hlen : (la ++ lb).length = la.length + lb.length := List.length_append
  have HSC : Hid (∀ C c W, IsRow W C (la.flatMap recF ++ lb.flatMap recF) → la.length + lb.length ≤ c → Calls Tryz.prog 45 #[.slice C (la.length + lb.length) c] W (SumPost (la ++ lb) W)) := Lib.hid (fun C c W h hc => by
    have := bsum_any C c (la ++ lb) W (by rw [List.flatMap_append]; exact h) (fun x hx => (List.mem_append.1 hx).elim (fun h => (hokA x h).fit) (fun h => (hokB x h).fit)) (by omega) (by omega)
    rw [hlen] at this; exact this)
  have d1 := debS_bd la la.length (Nat.le_refl _)
  have d2 := debS_bd lb lb.length (Nat.le_refl _)
  have d3 := creS_bd la la.length (Nat.le_refl _)
  have d4 := creS_bd lb lb.length (Nat.le_refl _)
  have d5 := C7.totB_lt (cardsOf la)
  have d6 := C7.totB_lt (cardsOf lb)
  have e1 := debS_app la lb
  have e2 := creS_app la lb
  have e3 : C7.totB (cardsOf (la ++ lb)) = (C7.totB (cardsOf la) + C7.totB (cardsOf lb)) % 100000000 := by
    rw [← totB_app]; unfold cardsOf; rw [List.map_append]
  unfold SumPost totV at HSA HSB HSC
  rw [hlen] at e1 e2
  simp only [hlen] at HSC
  rw [e1, e2, e3] at HSC
  have HRA := Lib.hid (fun W h => reads_row (W := W) (A := A) (l := la) h)
  have HRB := Lib.hid (fun W h => reads_row (W := W) (A := B) (l := lb) h)
  have HOA := Lib.hid (rows_one la)
  have HOB := Lib.hid (rows_one lb)
  clear e1 e2 e3 hlen qa qb hw hA hB hokA hokB hmA hmB
  obtain ⟨i57, hi57, hz0, hz1, hz2⟩ := info_parts mkrec
  have HI := Lib.hid (And.intro hi57 (And.intro hz0 (And.intro hz1 hz2)))
  clear hi57 hz0 hz1 hz2
  have hd1 : -9223372036854775808 ≤ debS la la.length + debS lb lb.length ∧ debS la la.length + debS lb lb.length ≤ 9223372036854775807 := by omega
  have hd2 : -9223372036854775808 ≤ creS la la.length + creS lb lb.length ∧ creS la la.length + creS lb lb.length ≤ 9223372036854775807 := by omega
  generalize debS la la.length = da at *
  generalize debS lb lb.length = db at *
  generalize creS la la.length = xa at *
  generalize creS lb lb.length = xb at *
  generalize C7.totB (cardsOf la) = ta at *
  generalize C7.totB (cardsOf lb) = tb at *
  generalize la.flatMap recF = fa at *
  generalize lb.flatMap recF = fb at *
  generalize la.length = na at *
  generalize lb.length = nb at *
  clear d1 d2 d3 d4
  go_enter Tryz.func9, Tryz.ntmps9
  go_wp2_with fail
  refine (HFA.out _ HAR.out).mono ?_
  rintro e w1 ⟨rfl, hb⟩
  have HB1 := Lib.hid hb
  clear hb
  go_wp2_with fail
  refine (HFB.out _ (HBR.out.below HB1.out)).mono ?_
  rintro e w2 ⟨rfl, hb⟩
  have HB2 := Lib.hid (HB1.out.trans (hb.mono HB1.out.size))
  clear hb HB1
  go_wp2_with fail
  refine (HSA.out _ (HAR.out.below HB2.out)).mono ?_
  rintro e w3 ⟨rfl, hb⟩
  have HB3 := Lib.hid (HB2.out.trans (hb.mono HB2.out.size))
  clear hb HB2
  go_wp2_with fail
  refine (HSB.out _ (HBR.out.below HB3.out)).mono ?_
  rintro e w4 ⟨rfl, hb⟩
  have HB4 := Lib.hid (HB3.out.trans (hb.mono HB3.out.size))
  clear hb HB3
  have e0 : ((w4.alloc (.cells #[.int .i64 na, .int .i64 da, .int .i64 xa, .int .i64 ta] 46)).alloc (.cells #[.int .i64 nb, .int .i64 db, .int .i64 xb, .int .i64 tb] 46)).heap.size = w4.heap.size + 1 + 1 := by
    rw [show ((w4.alloc (.cells #[.int .i64 na, .int .i64 da, .int .i64 xa, .int .i64 ta] 46)).alloc (.cells #[.int .i64 nb, .int .i64 db, .int .i64 xb, .int .i64 tb] 46)).heap.size = (w4.alloc (.cells #[.int .i64 na, .int .i64 da, .int .i64 xa, .int .i64 ta] 46)).heap.size + 1 from Array.size_push _, show (w4.alloc (.cells #[.int .i64 na, .int .i64 da, .int .i64 xa, .int .i64 ta] 46)).heap.size = w4.heap.size + 1 from Array.size_push _]
  have HM0 : Hid ((((w4.alloc (.cells #[.int .i64 na, .int .i64 da, .int .i64 xa, .int .i64 ta] 46)).alloc (.cells #[.int .i64 nb, .int .i64 db, .int .i64 xb, .int .i64 tb] 46)).alloc (.cells #[] 57)).ownsRow (w4.heap.size + 1 + 1) 57 12 (.slice (some ⟨w4.heap.size + 1 + 1, 0, none⟩) 0 0) 0 []) := Lib.hid (by
    have := World.ownsRow_made (base := w4.heap.size + 1 + 1) (e := 57) (size := 12) ((w4.alloc (.cells #[.int .i64 na, .int .i64 da, .int .i64 xa, .int .i64 ta] 46)).alloc (.cells #[.int .i64 nb, .int .i64 db, .int .i64 xb, .int .i64 tb] 46)) #[] 0 (by omega) (by decide) rfl
    rw [e0] at this; exact this)
  have hbx : Below w4.heap.size w4 (((w4.alloc (.cells #[.int .i64 na, .int .i64 da, .int .i64 xa, .int .i64 ta] 46)).alloc (.cells #[.int .i64 nb, .int .i64 db, .int .i64 xb, .int .i64 tb] 46)).alloc (.cells #[] 57)) := ((bx w4 _).alloc (bx w4 _).size _).alloc ((bx w4 (.cells #[.int .i64 na, .int .i64 da, .int .i64 xa, .int .i64 ta] 46)).alloc (bx w4 _).size (.cells #[.int .i64 nb, .int .i64 db, .int .i64 xb, .int .i64 tb] 46)).size _
  have HB5 := Lib.hid (HB4.out.trans (hbx.mono HB4.out.size))
  have HRa := Lib.hid (HRA.out _ (HAR.out.below HB5.out))
  have HK1 : Hid ((((w4.alloc (.cells #[.int .i64 na, .int .i64 da, .int .i64 xa, .int .i64 ta] 46)).alloc (.cells #[.int .i64 nb, .int .i64 db, .int .i64 xb, .int .i64 tb] 46)).alloc (.cells #[] 57)).heap[w4.heap.size]? = some (.cells #[.int .i64 na, .int .i64 da, .int .i64 xa, .int .i64 ta] 46)) := Lib.hid (blk_later (blk_later (heap_alloc_new w4 _) (bx _ _)) (bx _ _))
  have HK2 : Hid ((((w4.alloc (.cells #[.int .i64 na, .int .i64 da, .int .i64 xa, .int .i64 ta] 46)).alloc (.cells #[.int .i64 nb, .int .i64 db, .int .i64 xb, .int .i64 tb] 46)).alloc (.cells #[] 57)).heap[w4.heap.size + 1]? = some (.cells #[.int .i64 nb, .int .i64 db, .int .i64 xb, .int .i64 tb] 46)) := Lib.hid (blk_later (heap_alloc2_new w4 _ _) (bx _ _))
  have HLW := Lib.hid HB4.out.size
  clear e0 hbx
  go_wp2_with (first
    | (at_builtin; refine wpList_append_any _ rfl (.tmp 21) (.tmp 22) _ rfl (w4.heap.size + 1 + 1) 57 i57 _ 12 152 Tryz.underlying34 HI.out.1 HI.out.2.1 HI.out.2.2.1 HI.out.2.2.2 rfl (by omega) (.slice (some ⟨w4.heap.size + 1 + 1, 0, none⟩) 0 0) 0 [] rfl HM0.out _ A na ca fa rfl HRa.out HOA.out (by unfold maxLen; omega) (by omega) (by simp) ?_; intro v5 w5 hown hgrow hwh; have HO5 : Hid (w5.ownsRow (w4.heap.size + 1 + 1) 57 12 v5 na fa) := Lib.hid (by simpa using hown); have HB6 := Lib.hid (HB5.out.grown hgrow HB5.out.size (fun j hj => by have := HLW.out; have hj : w4.heap.size + 1 + 1 = j := (by simpa [Value.ownBlock] using hj); omega)); have HK3 := Lib.hid (grown_lt (B := 0) hgrow HK1.out (by simp [Value.ownBlock]; omega)); have HK4 := Lib.hid (grown_lt (B := 0) hgrow HK2.out (by simp [Value.ownBlock])); have HS5 : Hid (w4.heap.size + 1 + 1 ≤ w5.heap.size) := Lib.hid (by have := hgrow.size; simp at this; omega); clear hown hgrow hwh)
    | (at_builtin; refine wpList_append_any _ rfl (.tmp 23) (.tmp 24) _ rfl (w4.heap.size + 1 + 1) 57 i57 _ 12 152 Tryz.underlying34 HI.out.1 HI.out.2.1 HI.out.2.2.1 HI.out.2.2.2 rfl (by omega) _ na fa rfl HO5.out _ B nb cb fb rfl (HRB.out _ (HBR.out.below HB6.out)) HOB.out (by unfold maxLen; omega) (by omega) HS5.out ?_; intro v6 w6 hown2 hgrow2 hwh2; obtain ⟨C, cc, rfl, hr6, hc6⟩ := own_form hown2; have HR6 := Lib.hid hr6; have HC6 := Lib.hid hc6; have HB7 := Lib.hid (HB6.out.grown hgrow2 HB6.out.size (fun j hj => by have := (HO5.out.lt j hj).1; have := HLW.out; omega)); have HK5 := Lib.hid (grown_lt (B := 0) hgrow2 HK3.out (own_far HO5.out (by omega))); have HK6 := Lib.hid (grown_lt (B := 0) hgrow2 HK4.out (own_far HO5.out (by omega))); clear hown2 hgrow2 hwh2 hr6 hc6))
  refine (HSC.out C cc _ HR6.out HC6.out).mono ?_
  rintro e w7 ⟨rfl, hb⟩
  have HB8 := Lib.hid (HB7.out.trans (hb.mono HB7.out.size))
  have HK7 := Lib.hid (blk_later HK5.out hb)
  have HK8 := Lib.hid (blk_later HK6.out hb)
  clear hb HM0 HB5 HRa HK1 HK2 HO5 HB6 HK3 HK4 HS5 HB7 HK5 HK6 HR6 HC6
  have HX := bx w7 (.cells #[.int .i64 ((na + nb : Nat) : Int), .int .i64 (da + db), .int .i64 (xa + xb), .int .i64 (((ta + tb) % 100000000 : Nat) : Int)] 46)
  have a0 := cell_c HK7.out 0
  have a1 := cell_c HK7.out 1
  have a2 := cell_c HK7.out 2
  have a3 := cell_c HK7.out 3
  have b0 := cell_c HK8.out 0
  have b1 := cell_c HK8.out 1
  have b2 := cell_c HK8.out 2
  have b3 := cell_c HK8.out 3
  simp at a0 a1 a2 a3 b0 b1 b2 b3
  have hl1 : w4.heap.size < w7.heap.size := (Array.getElem?_eq_some_iff.1 HK7.out).1
  have hl2 : w4.heap.size + 1 < w7.heap.size := (Array.getElem?_eq_some_iff.1 HK8.out).1
  have HB9 := Lib.hid (HB8.out.trans (HX.mono HB8.out.size))
  clear HX
  have hmod : (((ta + tb) % 100000000 : Nat) : Int) = ((ta : Int) + (tb : Int)) % 100000000 := by omega
  have q1 : ((ta : Int) + (tb : Int)).tmod 100000000 = ((ta : Int) + (tb : Int)) % 100000000 := by rw [Int.tmod_eq_emod_of_nonneg (by omega)]
  have q2 : (((na + nb : Nat) : Int) == (na : Int) + (nb : Int)) = true := by simp
  have q3 : (da + db == da + db) = true := by simp
  have q4 : (xa + xb == xa + xb) = true := by simp
  go_wp2_with fail
  refine (HAW.out _ (HKW.out.below (HB8.out.trans ((bx w7 _).mono HB8.out.size)))).mono ?_
  rintro e w8 ⟨rfl, hb⟩
  have HB10 := Lib.hid ((HB8.out.trans ((bx w7 _).mono HB8.out.size)).trans (hb.mono (HB8.out.trans ((bx w7 _).mono HB8.out.size)).size))
  clear hb
  go_wp2_with fail
  go_ret
  exact ⟨rfl, HB10.out⟩
end Go.Proofs.YthflmdgfenojcaaGreatDoor
