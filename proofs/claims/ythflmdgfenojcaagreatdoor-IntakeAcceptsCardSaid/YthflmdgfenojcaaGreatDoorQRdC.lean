/- Part of the proof over this seat. -/
import Derived.Test.YthflmdgfenojcaaGreatDoorQRdB
namespace Go.Proofs.YthflmdgfenojcaaGreatDoor
set_option linter.unusedVariables false
open Go.RowKit Go.Sort
theorem trim_body {s : ByteArray} (h : Lib.hasSuffix s.data.toList [10] = true) : (⟨(Lib.trimSuffix s.data.toList [10]).toArray⟩ : ByteArray) = bodyOf s := by
  apply ba_ext
  obtain ⟨h1, h2⟩ := suffix_form h
  show Lib.trimSuffix s.data.toList [10] = _
  unfold Lib.trimSuffix
  rw [if_pos h, h1]
  simp
/-- The state while the texts of the records are gathered. -/
structure RcS (s : ByteArray) (k : Nat) (w : World) (v : Value) (W : World) : Prop where
  z : W.heap[w.heap.size]? = some (.cells zbt 61)
  l : W.heap[w.heap.size + 1]? = some (.cells ((lnS (bodyOf s)).map Value.string).toArray 9)
  o : W.ownsRow (w.heap.size + 2) 9 1 v k (((rtx s).take k).map Value.string)
  be : Below w.heap.size w W
theorem RcS.below {s : ByteArray} {k : Nat} {w W W' : World} {v : Value} (h : RcS s k w v W) (hb : Below W.heap.size W W') : RcS s k w v W' :=
  ⟨blk_later h.z hb, blk_later h.l hb, own_later h.o hb, h.be.trans (hb.mono h.be.size)⟩
theorem RcS.next {s : ByteArray} {k : Nat} {w W W' : World} {v u : Value} (h : RcS s k w v W) (hk : k < nRc s) {t : ByteArray} (ht : t = txtOf (rcL s k)) (ho : W'.ownsRow (w.heap.size + 2) 9 1 u (k + 1) (((rtx s).take k).map Value.string ++ [.string t])) (hg : W.grownBy W' v.ownBlock) : RcS s (k + 1) w u W' :=
  ⟨grown_lt (B := 0) hg h.z (own_far h.o (by omega)), grown_lt (B := 0) hg h.l (own_far h.o (by omega)), by
    rw [List.take_succ_eq_append_getElem (by rw [rtx_len]; exact hk), List.map_append, List.map_singleton, ← prt_get (by rw [rtx_len]; exact hk), rtx_get s k hk, ← ht]; exact ho, h.be.grown hg h.be.size (fun j hj => by have := (h.o.lt j hj).1; omega)⟩
theorem RcS.cell {s : ByteArray} {k : Nat} {w W : World} {v : Value} (h : RcS s k w v W) (j : Nat) (hj : j < nLn s) : W.cell? ⟨w.heap.size + 1, j, none⟩ = some (.string (lnAt s j)) := str_cell h.l j hj
theorem wrap_in {x : Int} (h0 : 0 ≤ x) (hx : x ≤ 1000000000) : IntKind.i64.wrap x = x := by
  have h1 : x % (2 ^ IntKind.i64.bits : Int) = x := by
    show x % (18446744073709551616 : Int) = x
    omega
  have h2 : IntKind.i64.wrap x = if (IntKind.i64.signed && decide (x ≥ (2 ^ (IntKind.i64.bits - 1) : Int))) = true then x - (2 ^ IntKind.i64.bits : Int) else x := by
    unfold IntKind.wrap
    simp only [h1]
  rw [h2]
  have h3 : decide (x ≥ (2 ^ (IntKind.i64.bits - 1) : Int)) = false := decide_eq_false (by show ¬ (9223372036854775808 : Int) ≤ x; omega)
  rw [h3, Bool.and_false, if_neg (by simp)]
theorem size_ad (V : World) (o : Obj) : ((V.alloc o).drew).heap.size = V.heap.size + 1 := World.size_alloc _ _
theorem zblk61 {V w8 : World} {C : Array Value} {T : TypeId} (hb : Below ((V.alloc (.cells C T)).drew).heap.size ((V.alloc (.cells C T)).drew) w8) : w8.heap[V.heap.size]? = some (.cells C T) :=
  blk_later (w := (V.alloc (.cells C T)).drew) (show (V.alloc (.cells C T)).heap[V.heap.size]? = _ from heap_alloc_new V _) hb
theorem bdc_fin {s : ByteArray} {w W : World} {x1 x2 : ByteArray} {x3 : Int} {R : List Rec} {B : List (Nat × ByteArray × Int)} {v8 v9 : Value} (f0 : fileE s = 0) (f1 : (fileV s).id = x1) (f2 : (fileV s).sd = x2) (f3 : (fileV s).dt = x3) (f4 : (fileV s).rs = R) (f5 : fileB s = B)
    (h8 : W.ownsRow w.heap.size 57 12 v8 R.length (R.flatMap recF)) (h9 : W.ownsRow w.heap.size 65 3 v9 B.length (B.flatMap rejF)) (hb : Below w.heap.size w W) : BdcPost s w (.returned (.tuple #[.agg (btC x1 x2 x3 v8), v9, .int .i64 0])) W := by
  unfold BdcPost
  rw [f0, f1, f2, f3, f4, f5]
  exact ⟨_, _, rfl, h8, h9, hb⟩
theorem app_inj {x y z : ByteArray} (h : x ++ z = y ++ z) : x = y := by
  have h1 := congrArg (fun b : ByteArray => b.data.toList) h
  simp only [ByteArray.data_append, Array.toList_append] at h1
  exact ba_ext (List.append_cancel_right h1)
theorem rtx_size {s : ByteArray} {M : Nat} (hs : s.size ≤ M) : ∀ x ∈ rtx s, x.size ≤ M := by
  intro x hx
  obtain ⟨k, -, rfl⟩ := List.mem_map.1 (show x ∈ (List.range (nRc s)).map (fun k => txtOf (rcL s k)) from hx)
  have h1 : (rcL s k).size ≤ s.size := lnAt_size s (1 + k)
  unfold txtOf
  rw [ByteArray.size_extract]; omega
set_option maxRecDepth 1000000 in
set_option maxHeartbeats 25600000 in
theorem rbdec_any (s : ByteArray) (w : World) (hw : BW w) (hs : s.size ≤ 1000000) : Calls Tryz.prog 30 #[.string s] w (BdcPost s w) := by
  have HKW := Lib.hid hw
  have HCN : Hid (∀ W, KW W → Calls Tryz.prog 65 #[.string s, .string ⟨#[10]⟩] W fun e w' => e = .returned (.int .i64 (Lib.countB s lfS)) ∧ w' = W) := Lib.hid (fun W hW => by
    obtain ⟨-, -, -, -, m, hm⟩ := hW
    exact Tryz.strings_Count_any s lfS m W (by omega) hm (by decide))
  have HSX : Hid (∀ W, Calls Tryz.prog 66 #[.string s, .string ⟨#[10]⟩] W fun e w' => e = .returned (.bool (Lib.hasSuffix s.data.toList [10])) ∧ w' = W) := Lib.hid (fun W => Tryz.strings_HasSuffix s ⟨#[10]⟩ W (by omega))
  have HZ := Lib.hid (heap_alloc_new w (.cells zbt 61))
  have hBAD : ∀ E W, fileE s = E → E ≠ 0 → Below w.heap.size w W → BdcPost s w (.returned (.tuple #[.agg zbt, .slice none 0 0, .int .i64 E])) W := fun E W hE h0 hb => by
    have := bdc_bad (s := s) (by rw [hE]; exact h0) hb
    rw [hE] at this; exact this
  have HK := Lib.hid HZ.out
  have HB := Lib.hid (bx w (.cells zbt 61))
  by_cases hC : Lib.countB s lfS < 3
  · have HBAD := Lib.hid (fun W => hBAD 1 W (by rw [fileE_div (by rw [divE_1 hC]; decide), divE_1 hC]) (by decide))
    have hCI : (Lib.countB s lfS : Int) < 3 := by omega
    generalize Lib.countB s lfS = C at *
    clear hC hw hBAD
    go_enter Tryz.func30, Tryz.ntmps30
    go_wp2_with fail
    refine (HCN.out _ (HKW.out.1.below (bx _ _))).mono ?_
    rintro e w1 ⟨rfl, rfl⟩
    go_wp2_with (refine wpList_store_row rfl 61 _ _ rfl w.heap.size zbt rfl rfl 61 _ HK.out (info61 ⟨#[]⟩ ⟨#[]⟩ 0 (.slice none 0 0)) rfl zbt_one ?_)
    refine bodyPost_ret (v := .tuple #[.agg zbt, .slice none 0 0, .int .i64 1]) ?_ rfl ?_
    · exact results_row_tmp2 (show Tryz.f30.results = #[.cell 2 61, .tmp 3, .tmp 4] by kernel_rfl) _ _ w.heap.size 61 zbt (0, 0) _ _ _ rfl rfl rfl (setRow_heap _ _ _ _ _ _ HK.out) Tryz.underlying61 rfl (info61 ⟨#[]⟩ ⟨#[]⟩ 0 (.slice none 0 0))
    · exact HBAD.out _ (below_setRow HB.out (Nat.le_refl _) _)
  have hCI : ¬ (Lib.countB s lfS : Int) < 3 := by omega
  by_cases hX : Lib.hasSuffix s.data.toList [10] = true
  case neg =>
    have HBAD := Lib.hid (fun W => hBAD 2 W (by rw [fileE_div (by rw [divE_2 hC (fun q => hX q.1)]; decide), divE_2 hC (fun q => hX q.1)]) (by decide))
    rw [show Lib.hasSuffix s.data.toList [10] = false by simpa using hX] at HSX
    generalize Lib.countB s lfS = C at *
    clear hC hw hBAD hX
    go_enter Tryz.func30, Tryz.ntmps30
    go_wp2_with fail
    refine (HCN.out _ (HKW.out.1.below (bx _ _))).mono ?_
    rintro e w1 ⟨rfl, rfl⟩
    go_wp2_with fail
    refine (HSX.out _).mono ?_
    rintro e w1 ⟨rfl, rfl⟩
    go_wp2_with (refine wpList_store_row rfl 61 _ _ rfl w.heap.size zbt rfl rfl 61 _ HK.out (info61 ⟨#[]⟩ ⟨#[]⟩ 0 (.slice none 0 0)) rfl zbt_one ?_)
    refine bodyPost_ret (v := .tuple #[.agg zbt, .slice none 0 0, .int .i64 2]) ?_ rfl ?_
    · exact results_row_tmp2 (show Tryz.f30.results = #[.cell 2 61, .tmp 3, .tmp 4] by kernel_rfl) _ _ w.heap.size 61 zbt (0, 0) _ _ _ rfl rfl rfl (setRow_heap _ _ _ _ _ _ HK.out) Tryz.underlying61 rfl (info61 ⟨#[]⟩ ⟨#[]⟩ 0 (.slice none 0 0))
    · exact HBAD.out _ (below_setRow HB.out (Nat.le_refl _) _)
  have HTR : Hid (∀ W, Calls Tryz.prog 68 #[.string s, .string ⟨#[10]⟩] W fun e w' => e = .returned (.string (bodyOf s)) ∧ w' = W) := Lib.hid (fun W => by
    have h1 := Tryz.strings_TrimSuffix s ⟨#[10]⟩ W (by omega)
    have h2 : (⟨(Lib.trimSuffix s.data.toList (⟨#[10]⟩ : ByteArray).data.toList).toArray⟩ : ByteArray) = bodyOf s := trim_body hX
    rw [h2] at h1; exact h1)
  have HSP : Hid (∀ W, KW W → Calls Tryz.prog 67 #[.string (bodyOf s), .string ⟨#[10]⟩] W (SpnPost (bodyOf s) W)) := Lib.hid (fun W hW => splitlf_any (bodyOf s) W hW (by unfold bodyOf; rw [ByteArray.size_extract]; omega))
  unfold SpnPost at HSP
  have hcv := cov_form hX
  obtain ⟨hb1, hb2⟩ := suffix_form hX
  have hN3 : 3 ≤ nLn s := by
    have q3 := lnS_len (bodyOf s)
    rw [count_lf] at q3 hC
    rw [hb1, List.count_append] at hC
    have : ([10] : List UInt8).count 10 = 1 := rfl
    unfold nLn
    omega
  have hNB : nLn s ≤ 1000001 := by
    have q3 := lnS_len (bodyOf s)
    rw [count_lf] at q3
    have h1 := List.count_le_length (a := (10 : UInt8)) (l := (bodyOf s).data.toList)
    unfold nLn
    omega
  have hcs : (ckL s).size + 1 ≤ s.size := by
    have h1 := congrArg List.length hcv
    rw [List.length_append, List.length_append, ← Lib.size_eq, ← Lib.size_eq, ← Lib.size_eq] at h1
    simp at h1
    omega
  have HDV2 : Hid (¬ FormF s → fileE s = 2) := Lib.hid (fun h => by rw [fileE_div (by rw [divE_2 hC (fun q => h q.2)]; decide), divE_2 hC (fun q => h q.2)])
  have HDV0 : Hid (FormF s → fileE s = exaE s) := Lib.hid (fun h => fileE_exa (divE_0 hC hX h))
  rw [hX] at HSX
  have hnl : (lnS (bodyOf s)).length = nLn s := rfl
  rw [hnl] at HSP
  have HFR0 := Lib.hid (fun W hW g hg => rform_any s W hW hs hN3 hNB g hg)
  obtain ⟨n, hn⟩ : ∃ n, nLn s = n := ⟨_, rfl⟩
  obtain ⟨m, hm⟩ : ∃ m, nRc s = m := ⟨_, rfl⟩
  obtain ⟨bs, hbs⟩ : ∃ bs, bodyOf s = bs := ⟨_, rfl⟩
  have HNR : Hid (m = n - 3 ∧ m ≤ 1000000) := Lib.hid (by rw [← hn, ← hm]; exact ⟨rfl, by show nLn s - 3 ≤ 1000000; omega⟩)
  rw [hn] at HSP hN3 hNB
  rw [hbs] at HTR HSP
  have HFR : Hid (∀ W, KW W → ∀ g, W.heap[g]? = some (.cells ((lnS bs).map Value.string).toArray 9) → Calls Tryz.prog 69 #[.slice (some ⟨g, 0, none⟩) n n] W fun e w' => e = .returned (.bool (decide (FormF s))) ∧ Below W.heap.size W w') := Lib.hid (fun W hW g hg => by
    have := HFR0.out W hW g (by rw [hbs]; exact hg)
    rw [hn] at this; exact this)
  have HEN := Lib.hid (And.intro hn (And.intro hm hbs))
  have HN3 := Lib.hid hN3
  have HNB := Lib.hid hNB
  have HCS := Lib.hid hcs
  clear hn hm hbs HFR0
  have HBADX := Lib.hid hBAD
  clear hC hw hX hb1 hb2 hcv hBAD hnl HK HB hcs
  generalize Lib.countB s lfS = C at *
  go_enter Tryz.func30, Tryz.ntmps30
  go_wp2_with fail
  refine (HCN.out _ (HKW.out.1.below (bx _ _))).mono ?_
  rintro e w1 ⟨rfl, rfl⟩
  go_wp2_with fail
  refine (HSX.out _).mono ?_
  rintro e w1 ⟨rfl, rfl⟩
  go_wp2_with fail
  refine (HTR.out _).mono ?_
  rintro e w1 ⟨rfl, rfl⟩
  go_wp2_with fail
  refine (HSP.out _ (HKW.out.1.below (bx _ _))).mono ?_
  rintro e w1 ⟨rfl, hw1⟩
  rw [World.size_alloc]
  have HL1 : Hid (w1.heap[w.heap.size + 1]? = some (.cells ((lnS bs).map Value.string).toArray 9)) := Lib.hid (by
    rw [hw1]
    have := heap_alloc_new (w.alloc (.cells zbt 61)) (.cells ((lnS bs).map Value.string).toArray 9)
    rwa [World.size_alloc] at this)
  have HK1 : Hid (w1.heap[w.heap.size]? = some (.cells zbt 61)) := Lib.hid (by rw [hw1]; exact blk_later HZ.out (bx _ _))
  have HB1 : Hid (Below w.heap.size w w1) := Lib.hid (by rw [hw1]; exact (bx w _).trans ((bx _ _).mono (bx w _).size))
  clear HCN HSX HTR HSP hCI hw1
  have HFR1 := Lib.hid (HFR.out w1 (HKW.out.1.below HB1.out) (w.heap.size + 1) HL1.out)
  go_wp2_with fail
  refine HFR1.out.mono ?_
  rintro e w2 ⟨rfl, hb⟩
  have HK2 := Lib.hid (blk_later HK1.out hb)
  have HL2 := Lib.hid (blk_later HL1.out hb)
  have HB2 := Lib.hid (HB1.out.trans (hb.mono HB1.out.size))
  clear hb HFR HFR1 HK1 HL1 HB1 HZ
  by_cases hF : FormF s
  case neg =>
    have HBAD := Lib.hid (fun W => HBADX.out 2 W (HDV2.out hF) (by decide))
    rw [decide_eq_false hF]
    go_wp2_with (refine wpList_store_row rfl 61 _ _ rfl w.heap.size zbt rfl rfl 61 _ HK2.out (info61 ⟨#[]⟩ ⟨#[]⟩ 0 (.slice none 0 0)) rfl zbt_one ?_)
    refine bodyPost_ret (v := .tuple #[.agg zbt, .slice none 0 0, .int .i64 2]) ?_ rfl ?_
    · exact results_row_tmp2 (show Tryz.f30.results = #[.cell 2 61, .tmp 3, .tmp 4] by kernel_rfl) _ _ w.heap.size 61 zbt (0, 0) _ _ _ rfl rfl rfl (setRow_heap _ _ _ _ _ _ HK2.out) Tryz.underlying61 rfl (info61 ⟨#[]⟩ ⟨#[]⟩ 0 (.slice none 0 0))
    · exact HBAD.out _ (below_setRow HB2.out (Nat.le_refl _) _)
  rw [decide_eq_true hF]
  have HFF := Lib.hid hF
  have HFE := Lib.hid (HDV0.out hF)
  have HW0 : Hid (RcS s 0 w (.slice none 0 0) w2) := Lib.hid ⟨HK2.out, by rw [HEN.out.2.2]; exact HL2.out, World.ownsRow_nil _ _ _ _, HB2.out⟩
  obtain ⟨i9, HI0⟩ := info_parts info9
  have HI := Lib.hid HI0
  clear hF HDV2 HDV0 HK2 HL2 HB2 HI0
  go_wp2_with fail
  go_loopw [7, 8] (fun v iv wr => ∃ k : Nat, k ≤ m ∧ iv = .int .i64 ((1 + k : Nat) : Int) ∧ Hid (RcS s k w v wr)) (fun _ iv _ => m + 1 - (intOf iv).toNat)
  case atStart => exact ⟨0, Nat.zero_le _, rfl, HW0⟩
  case round =>
    clear HW0
    obtain ⟨k, hk, rfl, HW⟩ := hrel
    by_cases hlt : k < m
    · have kI : ((1 + k : Nat) : Int) < (n : Int) - 2 := by have := HNR.out.1; have := HN3.out; omega
      have kn : 1 + k < n := by have := HNR.out.1; omega
      have hkm : k < 1000001 := by have := HNR.out.2; omega
      have c0 : wr.cell? ⟨w.heap.size + 1, 1 + k, none⟩ = some (.string (rcL s k)) := HW.out.cell (1 + k) (by rw [HEN.out.1]; exact kn)
      have h2 := pref2_size (HFF.out.2.2.2 k (by rw [HEN.out.2.1]; exact hlt))
      obtain ⟨p, hp⟩ : ∃ p, rcL s k = p := ⟨_, rfl⟩
      rw [hp] at c0 h2
      have HP := Lib.hid hp
      clear hp
      have hts : (p.extract 2 p.size).size = p.size - 2 := by rw [ByteArray.size_extract]; omega
      have HW4 := Lib.hid (HW.out.below (bx wr (.cells #[.string (p.extract 2 p.size)] 9)))
      have hwz : w.heap.size + 1 < wr.heap.size := (Array.getElem?_eq_some_iff.1 HW.out.l).1
      go_wp2_with (at_builtin; refine wpList_append_own _ rfl (.tmp 39) (.tmp 45) _ rfl (w.heap.size + 2) 9 i9 _ 1 16 Tryz.underlying22 HI.out.1 HI.out.2.1 HI.out.2.2.1 HI.out.2.2.2 rfl (by omega) _ _ _ rfl HW4.out.o ⟨wr.heap.size, 0, none⟩ 1 1 [.string (p.extract 2 p.size)] rfl rfl (World.news_of_block (cs := #[.string (p.extract 2 p.size)]) (t := 9) (fr := (0, 0)) (heap_alloc_new wr _)) (by simp [Value.oneCell']) (by unfold maxLen; omega) (by omega) (by simp; omega) ?_; intro v2 w3 hown hgrow hnil; have HA := Lib.hid hown; have HG := Lib.hid hgrow; clear hown hgrow hnil)
      have HW5 : Hid (RcS s (k + 1) w v2 w3) := Lib.hid (HW4.out.next (by rw [HEN.out.2.1]; exact hlt) (t := p.extract 2 p.size) (by rw [HP.out]; rfl) HA.out HG.out)
      exact ⟨⟨k + 1, by omega, by go_num, HW5⟩, by simp [intOf]; omega⟩
    · obtain rfl : m = k := by omega
      have kI : ¬ ((1 + m : Nat) : Int) < (n : Int) - 2 := by have := HNR.out.1; omega
      obtain ⟨ck, hck0⟩ : ∃ ck, ckL s = ck := ⟨_, rfl⟩
      obtain ⟨tt, htt0⟩ : ∃ tt, lnAt s (n - 2) = tt := ⟨_, rfl⟩
      have HEL := Lib.hid (And.intro hck0 htt0)
      clear hck0 htt0
      have c1 : wr.cell? ⟨w.heap.size + 1, n - 1, none⟩ = some (.string ck) := by
        have := HW.out.cell (n - 1) (by rw [HEN.out.1]; have := HN3.out; omega)
        rw [← HEL.out.1]
        unfold ckL
        rw [HEN.out.1]; exact this
      have c2 : wr.cell? ⟨w.heap.size + 1, n - 2, none⟩ = some (.string tt) := by
        have := HW.out.cell (n - 2) (by rw [HEN.out.1]; have := HN3.out; omega)
        rw [← HEL.out.2]; exact this
      have hcs : ck.size + 1 ≤ s.size := by rw [← HEL.out.1]; exact HCS.out
      have hn1 : 1 ≤ n := by have := HN3.out; omega
      obtain ⟨A7, c7, rfl, hr7, hc7⟩ := own_form HW.out.o
      have hnI : (n : Int) - 1 < (n : Int) := by omega
      have hnJ : (0 : Int) ≤ (n : Int) - 1 := by omega
      have hnK : (n : Int) - 2 < (n : Int) := by omega
      have hnL : (0 : Int) ≤ (n : Int) - 2 := by have := HN3.out; omega
      have HCVE : Hid (s.extract 0 (s.size - ck.size - 1) = cov s) := Lib.hid (by unfold cov; rw [HEL.out.1]; congr 1; omega)
      have HCI : Hid (ckD s = crcS (cov s).data.toList ↔ ck = ⟨#[67, 124]⟩ ++ crcS (cov s).data.toList) := Lib.hid (by rw [← HEL.out.1]; exact chk_iff HFF.out.2.1)
      have HTI : Hid (TotF s ↔ tt = trlT s) := Lib.hid (by
        rw [← HEL.out.2, ← HEN.out.1]
        exact tot_iff HFF.out.2.2.1 (by rw [HEN.out.2.1]; have := HNR.out.2; omega))
      have HTS : Hid ((⟨(trlL (nRc s) (debS (clmL s) (nRc s)) (creS (clmL s) (nRc s)) (C7.totB (cardsOf (clmL s)))).toArray⟩ : ByteArray) = trlT s ++ ⟨#[10]⟩) := Lib.hid (by
        apply ba_ext
        rw [ByteArray.data_append, Array.toList_append]
        rfl)
      have HD8 : (crcS (cov s).data.toList).size = 8 := by
        show (text8 _).length = 8
        exact text8_len _
      have HDG : Hid (∀ W, TzW W → Calls Tryz.prog 70 #[.string (s.extract 0 (s.size - ck.size - 1))] W (StrPost (crcS (cov s).data.toList) W)) := Lib.hid (fun W hW => by
        rw [HCVE.out]
        exact rdig_any (cov s) W hW (Nat.le_trans (by unfold cov; rw [ByteArray.size_extract]; omega) (Nat.le_trans hs (by unfold maxLen; omega))))
      obtain ⟨TV, hTV⟩ : ∃ TV, totV (nRc s) (debS (clmL s) (nRc s)) (creS (clmL s) (nRc s)) (C7.totB (cardsOf (clmL s))) = TV := ⟨_, rfl⟩
      have HLN : Hid (∀ W, KW W → IsRow W A7 ((rtx s).map Value.string) → Calls Tryz.prog 72 #[.slice A7 m c7] W fun e w' => e = .returned TV ∧ Below W.heap.size W w') := Lib.hid (fun W hW hr => by
        have h1 := rlines_any A7 c7 (rtx s) W hW hr (rtx_size hs) (by rw [rtx_len, HEN.out.2.1]; exact HNR.out.2)
        unfold RSumPost at h1
        rw [← clmL_rtx HFF.out.2.2.2, clmL_len, rtx_len, hTV, HEN.out.2.1] at h1
        exact h1)
      have HTL : Hid (∀ W, TabW W → Calls Tryz.prog 71 #[TV] W (StrPost (trlT s ++ ⟨#[10]⟩) W)) := Lib.hid (fun W hW => by
        rw [← HTS.out, ← hTV]
        have hbd := debS_bd (clmL s) (nRc s) (Nat.le_of_eq (clmL_len s).symm)
        have hbc := creS_bd (clmL s) (nRc s) (Nat.le_of_eq (clmL_len s).symm)
        have htb := C7.totB_lt (cardsOf (clmL s))
        have hmm : nRc s ≤ 1000000 := by rw [HEN.out.2.1]; exact HNR.out.2
        exact rtrl_any (nRc s) _ _ _ W hW hmm (by omega) (by omega) (by omega))
      have htsz : tt.size ≤ 1000000 := by rw [← HEL.out.2]; exact Nat.le_trans (lnAt_size s _) hs
      have HE9 : Hid (ckD s ≠ crcS (cov s).data.toList → exaE s = 9) := Lib.hid (fun h => exaE_crc h)
      have HE9t : Hid (ckD s = crcS (cov s).data.toList → ¬ TotF s → exaE s = 9) := Lib.hid (fun h h2 => exaE_tot h h2)
      have HE3 : Hid (ckD s = crcS (cov s).data.toList → TotF s → 200 < m → exaE s = 3) := Lib.hid (fun h h2 h3 => exaE_long h h2 (by rw [HEN.out.2.1]; exact h3))
      have HEH : Hid (ckD s = crcS (cov s).data.toList → TotF s → ¬ 200 < m → exaE s = headE (hdP s 1) (hdP s 2) (numV (hdP s 3))) := Lib.hid (fun h h2 h3 => exaE_head h h2 (by rw [HEN.out.2.1]; exact h3))
      have HTR : Hid ((trlT s ++ ⟨#[10]⟩ = tt ++ ⟨#[10]⟩) ↔ TotF s) := Lib.hid ⟨fun e => HTI.out.2 (app_inj e).symm, fun h => by rw [HTI.out.1 h]⟩
      unfold StrPost at HDG HTL
      generalize crcS (cov s).data.toList = D at *
      generalize trlT s ++ ⟨#[10]⟩ = TL at *
      have hr7' : IsRow wr A7 ((rtx s).map Value.string) := by
        rw [List.take_of_length_le (by rw [rtx_len, HEN.out.2.1]; exact Nat.le_refl _)] at hr7; exact hr7
      clear hr7 hTV
      have hr7 := Lib.hid hr7'
      clear hr7'
      have HKS : Hid (∀ W, Below wr.heap.size wr W → W.cell? ⟨w.heap.size + 1, n - 1, none⟩ = some (.string ck) ∧ W.cell? ⟨w.heap.size + 1, n - 2, none⟩ = some (.string tt)) := Lib.hid (fun W h => ⟨cell_later h c1, cell_later h c2⟩)
      go_wp2_with fail
      clear c1 c2
      obtain ⟨cv, hcv⟩ : ∃ cv, s.extract 0 (s.size - ck.size - 1) = cv := ⟨_, rfl⟩
      rw [hcv] at HDG ⊢
      clear hcv
      have hw1 : IntKind.i64.wrap ((n : Int) - 1) = (n : Int) - 1 := wrap_in hnJ (by omega)
      have hw2 : IntKind.i64.wrap ((n : Int) - 2) = (n : Int) - 2 := wrap_in hnL (by omega)
      have hg1 : ¬ (n : Int) < 1 := by omega
      have hg2 : ¬ (n : Int) < 2 := by omega
      have htz2 : tt.size ≤ 9223372036854775806 := by omega
      by_cases hck : ckD s = D
      case neg =>
        have HBAD := Lib.hid (fun W => HBADX.out 9 W (by rw [HFE.out]; exact HE9.out hck) (by decide))
        have hq := ba_diff ck (⟨#[67, 124]⟩ ++ D) (fun e => hck (HCI.out.2 e))
        have HKZ := Lib.hid HW.out.z
        clear hck
        have HBW : Hid (Below wr.heap.size wr wr.drew) := Lib.hid ((Below.refl _ _).drew)
        refine wp_region_held_drew (S := fun W => W.cell? ⟨w.heap.size + 1, n - 1, none⟩ = some (.string ck) ∧ W.cell? ⟨w.heap.size + 1, n - 2, none⟩ = some (.string tt)) (by kernel_rfl) ?_ (fun hHeld => ?_)
        · exact HKS.out _ HBW.out
        refine wpAnyH_take (i := 0) (oi := { dst := some 59, op := Go.Op.move (Go.Operand.tmp 5), type := 22, pos := "ref.go:234", after := #[], guard := none }) (v := .slice (some ⟨w.heap.size + 1, 0, none⟩) n n) rfl (by kernel_rfl) (by kernel_rfl) (by kernel_rfl) (fun _ _ _ h => h) (Or.inl ⟨by rfl, by intro w hSw; (try dsimp only at hSw); go_simp⟩) (by assumption) ?_
        simp only [Act.put, List.setIfInBounds_toArray, List.set_cons_zero, List.set_cons_succ]
        refine wpAnyH_take (i := 1) (oi := { dst := some 60, op := Go.Op.move (Go.Operand.tmp 6), type := 3, pos := "ref.go:234", after := #[], guard := none }) (v := .int .i64 n) rfl (by kernel_rfl) (by kernel_rfl) (by kernel_rfl) (fun _ _ _ h => h) (Or.inl ⟨by rfl, by intro w hSw; (try dsimp only at hSw); go_simp⟩) (by assumption) ?_
        simp only [Act.put, List.setIfInBounds_toArray, List.set_cons_zero, List.set_cons_succ]
        refine wpAnyH_take (i := 2) (oi := { dst := some 61, op := Go.Op.binOp Go.BinOp.sub 3 (Go.Operand.tmp 60) (Go.Operand.const (Go.Value.int Go.IntKind.i64 1)) 3, type := 3, pos := "ref.go:234", after := #[{ on := 1, ground := Go.Ground.data }], guard := none }) (v := .int .i64 ((n : Int) - 1)) rfl (by kernel_rfl) (by kernel_rfl) (by kernel_rfl) (fun _ _ _ h => h) (Or.inl ⟨by rfl, by intro w hSw; (try dsimp only at hSw); go_simp⟩) (by assumption) ?_
        simp only [Act.put, List.setIfInBounds_toArray, List.set_cons_zero, List.set_cons_succ]
        refine wpAnyH_take (i := 3) (oi := { dst := some 62, op := Go.Op.indexAddr 22 (Go.Operand.tmp 59) (Go.Operand.tmp 61), type := 0, pos := "ref.go:234", after := #[{ on := 0, ground := Go.Ground.data }, { on := 2, ground := Go.Ground.data }], guard := none }) (v := .pointer (some ⟨w.heap.size + 1, n - 1, none⟩)) rfl (by kernel_rfl) (by kernel_rfl) (by kernel_rfl) (fun _ _ _ h => h) (Or.inl ⟨by rfl, by intro w hSw; (try dsimp only at hSw); go_simp⟩) (by assumption) ?_
        simp only [Act.put, List.setIfInBounds_toArray, List.set_cons_zero, List.set_cons_succ]
        refine wpAnyH_take (i := 4) (oi := { dst := some 63, op := Go.Op.load 9 (Go.Operand.tmp 62), type := 9, pos := "ref.go:234", after := #[{ on := 3, ground := Go.Ground.data }], guard := none }) (v := .string ck) rfl (by kernel_rfl) (by kernel_rfl) (by kernel_rfl) (fun _ _ _ h => h) (Or.inl ⟨by rfl, by intro w hSw; (try dsimp only at hSw); go_simp⟩) (by assumption) ?_
        simp only [Act.put, List.setIfInBounds_toArray, List.set_cons_zero, List.set_cons_succ]
        refine wpAnyH_take (i := 5) (oi := { dst := some 64, op := Go.Op.move (Go.Operand.tmp 9), type := 9, pos := "ref.go:234", after := #[], guard := none }) (v := .string cv) rfl (by kernel_rfl) (by kernel_rfl) (by kernel_rfl) (fun _ _ _ h => h) (Or.inl ⟨by rfl, by intro w hSw; (try dsimp only at hSw); go_simp⟩) (by assumption) ?_
        simp only [Act.put, List.setIfInBounds_toArray, List.set_cons_zero, List.set_cons_succ]
        refine wpAnyH_ready (rs := [6]) (by kernel_rfl) (by simp) ?_
        refine AllReadyH.cons (o := { dst := some 65, op := Go.Op.call { callee := Go.Callee.value (Go.Operand.func 70), args := #[Go.Operand.tmp 64], argTypes := #[9] }, type := 9, pos := "ref.go:234", after := #[{ on := 5, ground := Go.Ground.data }], guard := none }) rfl (fun K hK => ?_) AllReadyH.nil
        go_simp
        go_at_call 70
        refine (HDG.out _ (HKW.out.2.below (HW.out.be.trans (HBW.out.mono HW.out.be.size)))).mono ?_
        rintro e wq ⟨rfl, hb⟩
        have HBW := Lib.hid (HBW.out.trans (hb.mono HBW.out.size))
        clear hb
        go_wp2_with fail
        refine hK.out _ _ ?_ (fun hHeld => ?_)
        · exact HKS.out _ HBW.out
        clear hK K
        try simp only [Act.put, List.setIfInBounds_toArray, List.set_cons_zero, List.set_cons_succ]
        refine wpAnyH_take (i := 7) (oi := { dst := some 66, op := Go.Op.binOp Go.BinOp.add 9 (Go.Operand.const (Go.Value.string { data := #[67, 124] })) (Go.Operand.tmp 65) 9, type := 9, pos := "ref.go:234", after := #[{ on := 6, ground := Go.Ground.data }], guard := none }) (v := .string (⟨#[67, 124]⟩ ++ D)) rfl (by kernel_rfl) (by kernel_rfl) (by kernel_rfl) (fun _ _ _ h => h) (Or.inl ⟨by rfl, by intro w hSw; (try dsimp only at hSw); go_simp⟩) (by assumption) ?_
        simp only [Act.put, List.setIfInBounds_toArray, List.set_cons_zero, List.set_cons_succ]
        refine wpAnyH_take (i := 8) (oi := { dst := some 67, op := Go.Op.binOp Go.BinOp.neq 9 (Go.Operand.tmp 63) (Go.Operand.tmp 66) 9, type := 4, pos := "ref.go:234", after := #[{ on := 4, ground := Go.Ground.data }, { on := 7, ground := Go.Ground.data }], guard := none }) (v := .bool true) rfl (by kernel_rfl) (by kernel_rfl) (by kernel_rfl) (fun _ _ _ h => h) (Or.inl ⟨by rfl, by intro w hSw; (try dsimp only at hSw); go_simp⟩) (by assumption) ?_
        simp only [Act.put, List.setIfInBounds_toArray, List.set_cons_zero, List.set_cons_succ]
        refine wpAnyH_take (i := 9) (oi := { dst := some 68, op := Go.Op.move (Go.Operand.tmp 67), type := 4, pos := "ref.go:234", after := #[{ on := 8, ground := Go.Ground.data }, { on := 6, ground := Go.Ground.chain }], guard := none }) (v := .bool true) rfl (by kernel_rfl) (by kernel_rfl) (by kernel_rfl) (fun _ _ _ h => h) (Or.inl ⟨by rfl, by intro w hSw; (try dsimp only at hSw); go_simp⟩) (by assumption) ?_
        simp only [Act.put, List.setIfInBounds_toArray, List.set_cons_zero, List.set_cons_succ]
        refine wpAnyH_take (i := 10) (oi := { dst := some 69, op := Go.Op.move (Go.Operand.tmp 5), type := 22, pos := "ref.go:234", after := #[{ on := 9, ground := Go.Ground.guard }], guard := some (9, false) }) (v := undef) rfl (by kernel_rfl) (by kernel_rfl) (by kernel_rfl) (fun _ _ _ h => h) (Or.inr ⟨by rfl, rfl⟩) (by assumption) ?_
        simp only [Act.put, List.setIfInBounds_toArray, List.set_cons_zero, List.set_cons_succ]
        refine wpAnyH_take (i := 11) (oi := { dst := some 70, op := Go.Op.move (Go.Operand.tmp 6), type := 3, pos := "ref.go:234", after := #[{ on := 9, ground := Go.Ground.guard }], guard := some (9, false) }) (v := undef) rfl (by kernel_rfl) (by kernel_rfl) (by kernel_rfl) (fun _ _ _ h => h) (Or.inr ⟨by rfl, rfl⟩) (by assumption) ?_
        simp only [Act.put, List.setIfInBounds_toArray, List.set_cons_zero, List.set_cons_succ]
        refine wpAnyH_take (i := 12) (oi := { dst := some 71, op := Go.Op.binOp Go.BinOp.sub 3 (Go.Operand.tmp 70) (Go.Operand.const (Go.Value.int Go.IntKind.i64 2)) 3, type := 3, pos := "ref.go:234", after := #[{ on := 11, ground := Go.Ground.data }, { on := 9, ground := Go.Ground.guard }], guard := some (9, false) }) (v := undef) rfl (by kernel_rfl) (by kernel_rfl) (by kernel_rfl) (fun _ _ _ h => h) (Or.inr ⟨by rfl, rfl⟩) (by assumption) ?_
        simp only [Act.put, List.setIfInBounds_toArray, List.set_cons_zero, List.set_cons_succ]
        refine wpAnyH_take (i := 13) (oi := { dst := some 72, op := Go.Op.indexAddr 22 (Go.Operand.tmp 69) (Go.Operand.tmp 71), type := 0, pos := "ref.go:234", after := #[{ on := 10, ground := Go.Ground.data }, { on := 12, ground := Go.Ground.data }, { on := 9, ground := Go.Ground.guard }], guard := some (9, false) }) (v := undef) rfl (by kernel_rfl) (by kernel_rfl) (by kernel_rfl) (fun _ _ _ h => h) (Or.inr ⟨by rfl, rfl⟩) (by assumption) ?_
        simp only [Act.put, List.setIfInBounds_toArray, List.set_cons_zero, List.set_cons_succ]
        refine wpAnyH_take (i := 14) (oi := { dst := some 73, op := Go.Op.load 9 (Go.Operand.tmp 72), type := 9, pos := "ref.go:234", after := #[{ on := 13, ground := Go.Ground.data }, { on := 9, ground := Go.Ground.guard }], guard := some (9, false) }) (v := undef) rfl (by kernel_rfl) (by kernel_rfl) (by kernel_rfl) (fun _ _ _ h => h) (Or.inr ⟨by rfl, rfl⟩) (by assumption) ?_
        simp only [Act.put, List.setIfInBounds_toArray, List.set_cons_zero, List.set_cons_succ]
        refine wpAnyH_take (i := 15) (oi := { dst := some 74, op := Go.Op.binOp Go.BinOp.add 9 (Go.Operand.tmp 73) (Go.Operand.const (Go.Value.string { data := #[10] })) 9, type := 9, pos := "ref.go:234", after := #[{ on := 14, ground := Go.Ground.data }, { on := 9, ground := Go.Ground.guard }], guard := some (9, false) }) (v := undef) rfl (by kernel_rfl) (by kernel_rfl) (by kernel_rfl) (fun _ _ _ h => h) (Or.inr ⟨by rfl, rfl⟩) (by assumption) ?_
        simp only [Act.put, List.setIfInBounds_toArray, List.set_cons_zero, List.set_cons_succ]
        refine wpAnyH_take (i := 16) (oi := { dst := some 75, op := Go.Op.move (Go.Operand.tmp 7), type := 22, pos := "ref.go:234", after := #[{ on := 9, ground := Go.Ground.guard }], guard := some (9, false) }) (v := undef) rfl (by kernel_rfl) (by kernel_rfl) (by kernel_rfl) (fun _ _ _ h => h) (Or.inr ⟨by rfl, rfl⟩) (by assumption) ?_
        simp only [Act.put, List.setIfInBounds_toArray, List.set_cons_zero, List.set_cons_succ]
        refine wpAnyH_take (i := 17) (oi := { dst := some 76, op := Go.Op.call { callee := Go.Callee.value (Go.Operand.func 72), args := #[Go.Operand.tmp 75], argTypes := #[22] }, type := 48, pos := "ref.go:234", after := #[{ on := 16, ground := Go.Ground.data }, { on := 9, ground := Go.Ground.chain }, { on := 9, ground := Go.Ground.guard }], guard := some (9, false) }) (v := undef) rfl (by kernel_rfl) (by kernel_rfl) (by kernel_rfl) (fun _ _ _ h => h) (Or.inr ⟨by rfl, rfl⟩) (by assumption) ?_
        simp only [Act.put, List.setIfInBounds_toArray, List.set_cons_zero, List.set_cons_succ]
        refine wpAnyH_take (i := 18) (oi := { dst := some 77, op := Go.Op.call { callee := Go.Callee.value (Go.Operand.func 71), args := #[Go.Operand.tmp 76], argTypes := #[48] }, type := 9, pos := "ref.go:234", after := #[{ on := 17, ground := Go.Ground.data }, { on := 17, ground := Go.Ground.chain }, { on := 9, ground := Go.Ground.guard }], guard := some (9, false) }) (v := undef) rfl (by kernel_rfl) (by kernel_rfl) (by kernel_rfl) (fun _ _ _ h => h) (Or.inr ⟨by rfl, rfl⟩) (by assumption) ?_
        simp only [Act.put, List.setIfInBounds_toArray, List.set_cons_zero, List.set_cons_succ]
        refine wpAnyH_take (i := 19) (oi := { dst := some 78, op := Go.Op.binOp Go.BinOp.neq 9 (Go.Operand.tmp 74) (Go.Operand.tmp 77) 9, type := 4, pos := "ref.go:234", after := #[{ on := 15, ground := Go.Ground.data }, { on := 18, ground := Go.Ground.data }, { on := 9, ground := Go.Ground.guard }], guard := some (9, false) }) (v := undef) rfl (by kernel_rfl) (by kernel_rfl) (by kernel_rfl) (fun _ _ _ h => h) (Or.inr ⟨by rfl, rfl⟩) (by assumption) ?_
        simp only [Act.put, List.setIfInBounds_toArray, List.set_cons_zero, List.set_cons_succ]
        refine wpAnyH_take (i := 20) (oi := { dst := some 79, op := Go.Op.pick (Go.Operand.tmp 68) (Go.Operand.const (Go.Value.bool true)) (Go.Operand.tmp 78), type := 4, pos := "ref.go:234", after := #[{ on := 9, ground := Go.Ground.data }, { on := 19, ground := Go.Ground.data }], guard := none }) (v := .bool true) rfl (by kernel_rfl) (by kernel_rfl) (by kernel_rfl) (fun _ _ _ h => h) (Or.inl ⟨by rfl, by intro w hSw; (try dsimp only at hSw); go_simp⟩) (by assumption) ?_
        simp only [Act.put, List.setIfInBounds_toArray, List.set_cons_zero, List.set_cons_succ]
        refine wpAnyH_done (by kernel_rfl) ?_ _
        have HKF := Lib.hid (blk_later HKZ.out HBW.out)
        have HBF := Lib.hid (HW.out.be.trans (HBW.out.mono HW.out.be.size))
        go_wp2_with (refine wpList_store_row rfl 61 _ _ rfl w.heap.size zbt rfl rfl 61 _ HKF.out (info61 ⟨#[]⟩ ⟨#[]⟩ 0 (.slice none 0 0)) rfl zbt_one ?_)
        refine bodyPost_ret (v := .tuple #[.agg zbt, .slice none 0 0, .int .i64 9]) ?_ rfl ?_
        · exact results_row_tmp2 (show Tryz.f30.results = #[.cell 2 61, .tmp 3, .tmp 4] by kernel_rfl) _ _ w.heap.size 61 zbt (0, 0) _ _ _ rfl rfl rfl (setRow_heap _ _ _ _ _ _ HKF.out) Tryz.underlying61 rfl (info61 ⟨#[]⟩ ⟨#[]⟩ 0 (.slice none 0 0))
        · exact HBAD.out _ (below_setRow HBF.out (Nat.le_refl _) _)
      case pos =>
      have hq := ba_same ck (⟨#[67, 124]⟩ ++ D) (HCI.out.1 hck)
      by_cases hT : TotF s
      case neg =>
        have HBAD := Lib.hid (fun W => HBADX.out 9 W (by rw [HFE.out]; exact HE9t.out hck hT) (by decide))
        have hq2 := ba_diff (tt ++ ⟨#[10]⟩) TL (fun e => hT (HTR.out.1 e.symm))
        have HKZ := Lib.hid HW.out.z
        clear hck hT
        have HBW : Hid (Below wr.heap.size wr wr.drew) := Lib.hid ((Below.refl _ _).drew)
        refine wp_region_held_drew (S := fun W => W.cell? ⟨w.heap.size + 1, n - 1, none⟩ = some (.string ck) ∧ W.cell? ⟨w.heap.size + 1, n - 2, none⟩ = some (.string tt)) (by kernel_rfl) ?_ (fun hHeld => ?_)
        · exact HKS.out _ HBW.out
        refine wpAnyH_take (i := 0) (oi := { dst := some 59, op := Go.Op.move (Go.Operand.tmp 5), type := 22, pos := "ref.go:234", after := #[], guard := none }) (v := .slice (some ⟨w.heap.size + 1, 0, none⟩) n n) rfl (by kernel_rfl) (by kernel_rfl) (by kernel_rfl) (fun _ _ _ h => h) (Or.inl ⟨by rfl, by intro w hSw; (try dsimp only at hSw); go_simp⟩) (by assumption) ?_
        simp only [Act.put, List.setIfInBounds_toArray, List.set_cons_zero, List.set_cons_succ]
        refine wpAnyH_take (i := 1) (oi := { dst := some 60, op := Go.Op.move (Go.Operand.tmp 6), type := 3, pos := "ref.go:234", after := #[], guard := none }) (v := .int .i64 n) rfl (by kernel_rfl) (by kernel_rfl) (by kernel_rfl) (fun _ _ _ h => h) (Or.inl ⟨by rfl, by intro w hSw; (try dsimp only at hSw); go_simp⟩) (by assumption) ?_
        simp only [Act.put, List.setIfInBounds_toArray, List.set_cons_zero, List.set_cons_succ]
        refine wpAnyH_take (i := 2) (oi := { dst := some 61, op := Go.Op.binOp Go.BinOp.sub 3 (Go.Operand.tmp 60) (Go.Operand.const (Go.Value.int Go.IntKind.i64 1)) 3, type := 3, pos := "ref.go:234", after := #[{ on := 1, ground := Go.Ground.data }], guard := none }) (v := .int .i64 ((n : Int) - 1)) rfl (by kernel_rfl) (by kernel_rfl) (by kernel_rfl) (fun _ _ _ h => h) (Or.inl ⟨by rfl, by intro w hSw; (try dsimp only at hSw); go_simp⟩) (by assumption) ?_
        simp only [Act.put, List.setIfInBounds_toArray, List.set_cons_zero, List.set_cons_succ]
        refine wpAnyH_take (i := 3) (oi := { dst := some 62, op := Go.Op.indexAddr 22 (Go.Operand.tmp 59) (Go.Operand.tmp 61), type := 0, pos := "ref.go:234", after := #[{ on := 0, ground := Go.Ground.data }, { on := 2, ground := Go.Ground.data }], guard := none }) (v := .pointer (some ⟨w.heap.size + 1, n - 1, none⟩)) rfl (by kernel_rfl) (by kernel_rfl) (by kernel_rfl) (fun _ _ _ h => h) (Or.inl ⟨by rfl, by intro w hSw; (try dsimp only at hSw); go_simp⟩) (by assumption) ?_
        simp only [Act.put, List.setIfInBounds_toArray, List.set_cons_zero, List.set_cons_succ]
        refine wpAnyH_take (i := 4) (oi := { dst := some 63, op := Go.Op.load 9 (Go.Operand.tmp 62), type := 9, pos := "ref.go:234", after := #[{ on := 3, ground := Go.Ground.data }], guard := none }) (v := .string ck) rfl (by kernel_rfl) (by kernel_rfl) (by kernel_rfl) (fun _ _ _ h => h) (Or.inl ⟨by rfl, by intro w hSw; (try dsimp only at hSw); go_simp⟩) (by assumption) ?_
        simp only [Act.put, List.setIfInBounds_toArray, List.set_cons_zero, List.set_cons_succ]
        refine wpAnyH_take (i := 5) (oi := { dst := some 64, op := Go.Op.move (Go.Operand.tmp 9), type := 9, pos := "ref.go:234", after := #[], guard := none }) (v := .string cv) rfl (by kernel_rfl) (by kernel_rfl) (by kernel_rfl) (fun _ _ _ h => h) (Or.inl ⟨by rfl, by intro w hSw; (try dsimp only at hSw); go_simp⟩) (by assumption) ?_
        simp only [Act.put, List.setIfInBounds_toArray, List.set_cons_zero, List.set_cons_succ]
        refine wpAnyH_ready (rs := [6]) (by kernel_rfl) (by simp) ?_
        refine AllReadyH.cons (o := { dst := some 65, op := Go.Op.call { callee := Go.Callee.value (Go.Operand.func 70), args := #[Go.Operand.tmp 64], argTypes := #[9] }, type := 9, pos := "ref.go:234", after := #[{ on := 5, ground := Go.Ground.data }], guard := none }) rfl (fun K hK => ?_) AllReadyH.nil
        go_simp
        go_at_call 70
        refine (HDG.out _ (HKW.out.2.below (HW.out.be.trans (HBW.out.mono HW.out.be.size)))).mono ?_
        rintro e wq ⟨rfl, hb⟩
        have HBW := Lib.hid (HBW.out.trans (hb.mono HBW.out.size))
        clear hb
        go_wp2_with fail
        refine hK.out _ _ ?_ (fun hHeld => ?_)
        · exact HKS.out _ HBW.out
        clear hK K
        try simp only [Act.put, List.setIfInBounds_toArray, List.set_cons_zero, List.set_cons_succ]
        refine wpAnyH_take (i := 7) (oi := { dst := some 66, op := Go.Op.binOp Go.BinOp.add 9 (Go.Operand.const (Go.Value.string { data := #[67, 124] })) (Go.Operand.tmp 65) 9, type := 9, pos := "ref.go:234", after := #[{ on := 6, ground := Go.Ground.data }], guard := none }) (v := .string (⟨#[67, 124]⟩ ++ D)) rfl (by kernel_rfl) (by kernel_rfl) (by kernel_rfl) (fun _ _ _ h => h) (Or.inl ⟨by rfl, by intro w hSw; (try dsimp only at hSw); go_simp⟩) (by assumption) ?_
        simp only [Act.put, List.setIfInBounds_toArray, List.set_cons_zero, List.set_cons_succ]
        refine wpAnyH_take (i := 8) (oi := { dst := some 67, op := Go.Op.binOp Go.BinOp.neq 9 (Go.Operand.tmp 63) (Go.Operand.tmp 66) 9, type := 4, pos := "ref.go:234", after := #[{ on := 4, ground := Go.Ground.data }, { on := 7, ground := Go.Ground.data }], guard := none }) (v := .bool false) rfl (by kernel_rfl) (by kernel_rfl) (by kernel_rfl) (fun _ _ _ h => h) (Or.inl ⟨by rfl, by intro w hSw; (try dsimp only at hSw); go_simp⟩) (by assumption) ?_
        simp only [Act.put, List.setIfInBounds_toArray, List.set_cons_zero, List.set_cons_succ]
        refine wpAnyH_take (i := 9) (oi := { dst := some 68, op := Go.Op.move (Go.Operand.tmp 67), type := 4, pos := "ref.go:234", after := #[{ on := 8, ground := Go.Ground.data }, { on := 6, ground := Go.Ground.chain }], guard := none }) (v := .bool false) rfl (by kernel_rfl) (by kernel_rfl) (by kernel_rfl) (fun _ _ _ h => h) (Or.inl ⟨by rfl, by intro w hSw; (try dsimp only at hSw); go_simp⟩) (by assumption) ?_
        simp only [Act.put, List.setIfInBounds_toArray, List.set_cons_zero, List.set_cons_succ]
        refine wpAnyH_take (i := 10) (oi := { dst := some 69, op := Go.Op.move (Go.Operand.tmp 5), type := 22, pos := "ref.go:234", after := #[{ on := 9, ground := Go.Ground.guard }], guard := some (9, false) }) (v := .slice (some ⟨w.heap.size + 1, 0, none⟩) n n) rfl (by kernel_rfl) (by kernel_rfl) (by kernel_rfl) (fun _ _ _ h => h) (Or.inl ⟨by rfl, by intro w hSw; (try dsimp only at hSw); go_simp⟩) (by assumption) ?_
        simp only [Act.put, List.setIfInBounds_toArray, List.set_cons_zero, List.set_cons_succ]
        refine wpAnyH_take (i := 11) (oi := { dst := some 70, op := Go.Op.move (Go.Operand.tmp 6), type := 3, pos := "ref.go:234", after := #[{ on := 9, ground := Go.Ground.guard }], guard := some (9, false) }) (v := .int .i64 n) rfl (by kernel_rfl) (by kernel_rfl) (by kernel_rfl) (fun _ _ _ h => h) (Or.inl ⟨by rfl, by intro w hSw; (try dsimp only at hSw); go_simp⟩) (by assumption) ?_
        simp only [Act.put, List.setIfInBounds_toArray, List.set_cons_zero, List.set_cons_succ]
        refine wpAnyH_take (i := 12) (oi := { dst := some 71, op := Go.Op.binOp Go.BinOp.sub 3 (Go.Operand.tmp 70) (Go.Operand.const (Go.Value.int Go.IntKind.i64 2)) 3, type := 3, pos := "ref.go:234", after := #[{ on := 11, ground := Go.Ground.data }, { on := 9, ground := Go.Ground.guard }], guard := some (9, false) }) (v := .int .i64 ((n : Int) - 2)) rfl (by kernel_rfl) (by kernel_rfl) (by kernel_rfl) (fun _ _ _ h => h) (Or.inl ⟨by rfl, by intro w hSw; (try dsimp only at hSw); go_simp⟩) (by assumption) ?_
        simp only [Act.put, List.setIfInBounds_toArray, List.set_cons_zero, List.set_cons_succ]
        refine wpAnyH_take (i := 13) (oi := { dst := some 72, op := Go.Op.indexAddr 22 (Go.Operand.tmp 69) (Go.Operand.tmp 71), type := 0, pos := "ref.go:234", after := #[{ on := 10, ground := Go.Ground.data }, { on := 12, ground := Go.Ground.data }, { on := 9, ground := Go.Ground.guard }], guard := some (9, false) }) (v := .pointer (some ⟨w.heap.size + 1, n - 2, none⟩)) rfl (by kernel_rfl) (by kernel_rfl) (by kernel_rfl) (fun _ _ _ h => h) (Or.inl ⟨by rfl, by intro w hSw; (try dsimp only at hSw); go_simp⟩) (by assumption) ?_
        simp only [Act.put, List.setIfInBounds_toArray, List.set_cons_zero, List.set_cons_succ]
        refine wpAnyH_take (i := 14) (oi := { dst := some 73, op := Go.Op.load 9 (Go.Operand.tmp 72), type := 9, pos := "ref.go:234", after := #[{ on := 13, ground := Go.Ground.data }, { on := 9, ground := Go.Ground.guard }], guard := some (9, false) }) (v := .string tt) rfl (by kernel_rfl) (by kernel_rfl) (by kernel_rfl) (fun _ _ _ h => h) (Or.inl ⟨by rfl, by intro w hSw; (try dsimp only at hSw); go_simp⟩) (by assumption) ?_
        simp only [Act.put, List.setIfInBounds_toArray, List.set_cons_zero, List.set_cons_succ]
        refine wpAnyH_take (i := 15) (oi := { dst := some 74, op := Go.Op.binOp Go.BinOp.add 9 (Go.Operand.tmp 73) (Go.Operand.const (Go.Value.string { data := #[10] })) 9, type := 9, pos := "ref.go:234", after := #[{ on := 14, ground := Go.Ground.data }, { on := 9, ground := Go.Ground.guard }], guard := some (9, false) }) (v := .string (tt ++ ⟨#[10]⟩)) rfl (by kernel_rfl) (by kernel_rfl) (by kernel_rfl) (fun _ _ _ h => h) (Or.inl ⟨by rfl, by intro w hSw; (try dsimp only at hSw); go_simp⟩) (by assumption) ?_
        simp only [Act.put, List.setIfInBounds_toArray, List.set_cons_zero, List.set_cons_succ]
        refine wpAnyH_take (i := 16) (oi := { dst := some 75, op := Go.Op.move (Go.Operand.tmp 7), type := 22, pos := "ref.go:234", after := #[{ on := 9, ground := Go.Ground.guard }], guard := some (9, false) }) (v := .slice A7 m c7) rfl (by kernel_rfl) (by kernel_rfl) (by kernel_rfl) (fun _ _ _ h => h) (Or.inl ⟨by rfl, by intro w hSw; (try dsimp only at hSw); go_simp⟩) (by assumption) ?_
        simp only [Act.put, List.setIfInBounds_toArray, List.set_cons_zero, List.set_cons_succ]
        refine wpAnyH_ready (rs := [17]) (by kernel_rfl) (by simp) ?_
        refine AllReadyH.cons (o := { dst := some 76, op := Go.Op.call { callee := Go.Callee.value (Go.Operand.func 72), args := #[Go.Operand.tmp 75], argTypes := #[22] }, type := 48, pos := "ref.go:234", after := #[{ on := 16, ground := Go.Ground.data }, { on := 9, ground := Go.Ground.chain }, { on := 9, ground := Go.Ground.guard }], guard := some (9, false) }) rfl (fun K hK => ?_) AllReadyH.nil
        go_simp
        go_at_call 72
        refine (HLN.out _ (HKW.out.1.below (HW.out.be.trans (HBW.out.mono HW.out.be.size))) (hr7.out.below HBW.out)).mono ?_
        rintro e wq ⟨rfl, hb⟩
        have HBW := Lib.hid (HBW.out.trans (hb.mono HBW.out.size))
        clear hb
        go_wp2_with fail
        refine hK.out _ _ ?_ (fun hHeld => ?_)
        · exact HKS.out _ HBW.out
        clear hK K
        try simp only [Act.put, List.setIfInBounds_toArray, List.set_cons_zero, List.set_cons_succ]
        refine wpAnyH_ready (rs := [18]) (by kernel_rfl) (by simp) ?_
        refine AllReadyH.cons (o := { dst := some 77, op := Go.Op.call { callee := Go.Callee.value (Go.Operand.func 71), args := #[Go.Operand.tmp 76], argTypes := #[48] }, type := 9, pos := "ref.go:234", after := #[{ on := 17, ground := Go.Ground.data }, { on := 17, ground := Go.Ground.chain }, { on := 9, ground := Go.Ground.guard }], guard := some (9, false) }) rfl (fun K hK => ?_) AllReadyH.nil
        go_simp
        go_at_call 71
        refine (HTL.out _ (HKW.out.1.1.below (HW.out.be.trans (HBW.out.mono HW.out.be.size)))).mono ?_
        rintro e wq ⟨rfl, hb⟩
        have HBW := Lib.hid (HBW.out.trans (hb.mono HBW.out.size))
        clear hb
        go_wp2_with fail
        refine hK.out _ _ ?_ (fun hHeld => ?_)
        · exact HKS.out _ HBW.out
        clear hK K
        try simp only [Act.put, List.setIfInBounds_toArray, List.set_cons_zero, List.set_cons_succ]
        refine wpAnyH_take (i := 19) (oi := { dst := some 78, op := Go.Op.binOp Go.BinOp.neq 9 (Go.Operand.tmp 74) (Go.Operand.tmp 77) 9, type := 4, pos := "ref.go:234", after := #[{ on := 15, ground := Go.Ground.data }, { on := 18, ground := Go.Ground.data }, { on := 9, ground := Go.Ground.guard }], guard := some (9, false) }) (v := .bool true) rfl (by kernel_rfl) (by kernel_rfl) (by kernel_rfl) (fun _ _ _ h => h) (Or.inl ⟨by rfl, by intro w hSw; (try dsimp only at hSw); go_simp⟩) (by assumption) ?_
        simp only [Act.put, List.setIfInBounds_toArray, List.set_cons_zero, List.set_cons_succ]
        refine wpAnyH_take (i := 20) (oi := { dst := some 79, op := Go.Op.pick (Go.Operand.tmp 68) (Go.Operand.const (Go.Value.bool true)) (Go.Operand.tmp 78), type := 4, pos := "ref.go:234", after := #[{ on := 9, ground := Go.Ground.data }, { on := 19, ground := Go.Ground.data }], guard := none }) (v := .bool true) rfl (by kernel_rfl) (by kernel_rfl) (by kernel_rfl) (fun _ _ _ h => h) (Or.inl ⟨by rfl, by intro w hSw; (try dsimp only at hSw); go_simp⟩) (by assumption) ?_
        simp only [Act.put, List.setIfInBounds_toArray, List.set_cons_zero, List.set_cons_succ]
        refine wpAnyH_done (by kernel_rfl) ?_ _
        have HKF := Lib.hid (blk_later HKZ.out HBW.out)
        have HBF := Lib.hid (HW.out.be.trans (HBW.out.mono HW.out.be.size))
        go_wp2_with (refine wpList_store_row rfl 61 _ _ rfl w.heap.size zbt rfl rfl 61 _ HKF.out (info61 ⟨#[]⟩ ⟨#[]⟩ 0 (.slice none 0 0)) rfl zbt_one ?_)
        refine bodyPost_ret (v := .tuple #[.agg zbt, .slice none 0 0, .int .i64 9]) ?_ rfl ?_
        · exact results_row_tmp2 (show Tryz.f30.results = #[.cell 2 61, .tmp 3, .tmp 4] by kernel_rfl) _ _ w.heap.size 61 zbt (0, 0) _ _ _ rfl rfl rfl (setRow_heap _ _ _ _ _ _ HKF.out) Tryz.underlying61 rfl (info61 ⟨#[]⟩ ⟨#[]⟩ 0 (.slice none 0 0))
        · exact HBAD.out _ (below_setRow HBF.out (Nat.le_refl _) _)
      case pos =>
      have hq2 := ba_same (tt ++ ⟨#[10]⟩) TL (HTR.out.2 hT).symm
      have HKZ := Lib.hid HW.out.z
      have HE3' := Lib.hid (HE3.out hck hT)
      have HEH' := Lib.hid (HEH.out hck hT)
      have HC00 : Hid (wr.cell? ⟨w.heap.size + 1, 0, none⟩ = some (.string (lnAt s 0))) := Lib.hid (HW.out.cell 0 (by rw [HEN.out.1]; omega))
      clear hck hT
      have HBW : Hid (Below wr.heap.size wr wr.drew) := Lib.hid ((Below.refl _ _).drew)
      refine wp_region_held_drew (S := fun W => W.cell? ⟨w.heap.size + 1, n - 1, none⟩ = some (.string ck) ∧ W.cell? ⟨w.heap.size + 1, n - 2, none⟩ = some (.string tt)) (by kernel_rfl) ?_ (fun hHeld => ?_)
      · exact HKS.out _ HBW.out
      refine wpAnyH_take (i := 0) (oi := { dst := some 59, op := Go.Op.move (Go.Operand.tmp 5), type := 22, pos := "ref.go:234", after := #[], guard := none }) (v := .slice (some ⟨w.heap.size + 1, 0, none⟩) n n) rfl (by kernel_rfl) (by kernel_rfl) (by kernel_rfl) (fun _ _ _ h => h) (Or.inl ⟨by rfl, by intro w hSw; (try dsimp only at hSw); go_simp⟩) (by assumption) ?_
      simp only [Act.put, List.setIfInBounds_toArray, List.set_cons_zero, List.set_cons_succ]
      refine wpAnyH_take (i := 1) (oi := { dst := some 60, op := Go.Op.move (Go.Operand.tmp 6), type := 3, pos := "ref.go:234", after := #[], guard := none }) (v := .int .i64 n) rfl (by kernel_rfl) (by kernel_rfl) (by kernel_rfl) (fun _ _ _ h => h) (Or.inl ⟨by rfl, by intro w hSw; (try dsimp only at hSw); go_simp⟩) (by assumption) ?_
      simp only [Act.put, List.setIfInBounds_toArray, List.set_cons_zero, List.set_cons_succ]
      refine wpAnyH_take (i := 2) (oi := { dst := some 61, op := Go.Op.binOp Go.BinOp.sub 3 (Go.Operand.tmp 60) (Go.Operand.const (Go.Value.int Go.IntKind.i64 1)) 3, type := 3, pos := "ref.go:234", after := #[{ on := 1, ground := Go.Ground.data }], guard := none }) (v := .int .i64 ((n : Int) - 1)) rfl (by kernel_rfl) (by kernel_rfl) (by kernel_rfl) (fun _ _ _ h => h) (Or.inl ⟨by rfl, by intro w hSw; (try dsimp only at hSw); go_simp⟩) (by assumption) ?_
      simp only [Act.put, List.setIfInBounds_toArray, List.set_cons_zero, List.set_cons_succ]
      refine wpAnyH_take (i := 3) (oi := { dst := some 62, op := Go.Op.indexAddr 22 (Go.Operand.tmp 59) (Go.Operand.tmp 61), type := 0, pos := "ref.go:234", after := #[{ on := 0, ground := Go.Ground.data }, { on := 2, ground := Go.Ground.data }], guard := none }) (v := .pointer (some ⟨w.heap.size + 1, n - 1, none⟩)) rfl (by kernel_rfl) (by kernel_rfl) (by kernel_rfl) (fun _ _ _ h => h) (Or.inl ⟨by rfl, by intro w hSw; (try dsimp only at hSw); go_simp⟩) (by assumption) ?_
      simp only [Act.put, List.setIfInBounds_toArray, List.set_cons_zero, List.set_cons_succ]
      refine wpAnyH_take (i := 4) (oi := { dst := some 63, op := Go.Op.load 9 (Go.Operand.tmp 62), type := 9, pos := "ref.go:234", after := #[{ on := 3, ground := Go.Ground.data }], guard := none }) (v := .string ck) rfl (by kernel_rfl) (by kernel_rfl) (by kernel_rfl) (fun _ _ _ h => h) (Or.inl ⟨by rfl, by intro w hSw; (try dsimp only at hSw); go_simp⟩) (by assumption) ?_
      simp only [Act.put, List.setIfInBounds_toArray, List.set_cons_zero, List.set_cons_succ]
      refine wpAnyH_take (i := 5) (oi := { dst := some 64, op := Go.Op.move (Go.Operand.tmp 9), type := 9, pos := "ref.go:234", after := #[], guard := none }) (v := .string cv) rfl (by kernel_rfl) (by kernel_rfl) (by kernel_rfl) (fun _ _ _ h => h) (Or.inl ⟨by rfl, by intro w hSw; (try dsimp only at hSw); go_simp⟩) (by assumption) ?_
      simp only [Act.put, List.setIfInBounds_toArray, List.set_cons_zero, List.set_cons_succ]
      refine wpAnyH_ready (rs := [6]) (by kernel_rfl) (by simp) ?_
      refine AllReadyH.cons (o := { dst := some 65, op := Go.Op.call { callee := Go.Callee.value (Go.Operand.func 70), args := #[Go.Operand.tmp 64], argTypes := #[9] }, type := 9, pos := "ref.go:234", after := #[{ on := 5, ground := Go.Ground.data }], guard := none }) rfl (fun K hK => ?_) AllReadyH.nil
      go_simp
      go_at_call 70
      refine (HDG.out _ (HKW.out.2.below (HW.out.be.trans (HBW.out.mono HW.out.be.size)))).mono ?_
      rintro e wq ⟨rfl, hb⟩
      have HBW := Lib.hid (HBW.out.trans (hb.mono HBW.out.size))
      clear hb
      go_wp2_with fail
      refine hK.out _ _ ?_ (fun hHeld => ?_)
      · exact HKS.out _ HBW.out
      clear hK K
      try simp only [Act.put, List.setIfInBounds_toArray, List.set_cons_zero, List.set_cons_succ]
      refine wpAnyH_take (i := 7) (oi := { dst := some 66, op := Go.Op.binOp Go.BinOp.add 9 (Go.Operand.const (Go.Value.string { data := #[67, 124] })) (Go.Operand.tmp 65) 9, type := 9, pos := "ref.go:234", after := #[{ on := 6, ground := Go.Ground.data }], guard := none }) (v := .string (⟨#[67, 124]⟩ ++ D)) rfl (by kernel_rfl) (by kernel_rfl) (by kernel_rfl) (fun _ _ _ h => h) (Or.inl ⟨by rfl, by intro w hSw; (try dsimp only at hSw); go_simp⟩) (by assumption) ?_
      simp only [Act.put, List.setIfInBounds_toArray, List.set_cons_zero, List.set_cons_succ]
      refine wpAnyH_take (i := 8) (oi := { dst := some 67, op := Go.Op.binOp Go.BinOp.neq 9 (Go.Operand.tmp 63) (Go.Operand.tmp 66) 9, type := 4, pos := "ref.go:234", after := #[{ on := 4, ground := Go.Ground.data }, { on := 7, ground := Go.Ground.data }], guard := none }) (v := .bool false) rfl (by kernel_rfl) (by kernel_rfl) (by kernel_rfl) (fun _ _ _ h => h) (Or.inl ⟨by rfl, by intro w hSw; (try dsimp only at hSw); go_simp⟩) (by assumption) ?_
      simp only [Act.put, List.setIfInBounds_toArray, List.set_cons_zero, List.set_cons_succ]
      refine wpAnyH_take (i := 9) (oi := { dst := some 68, op := Go.Op.move (Go.Operand.tmp 67), type := 4, pos := "ref.go:234", after := #[{ on := 8, ground := Go.Ground.data }, { on := 6, ground := Go.Ground.chain }], guard := none }) (v := .bool false) rfl (by kernel_rfl) (by kernel_rfl) (by kernel_rfl) (fun _ _ _ h => h) (Or.inl ⟨by rfl, by intro w hSw; (try dsimp only at hSw); go_simp⟩) (by assumption) ?_
      simp only [Act.put, List.setIfInBounds_toArray, List.set_cons_zero, List.set_cons_succ]
      refine wpAnyH_take (i := 10) (oi := { dst := some 69, op := Go.Op.move (Go.Operand.tmp 5), type := 22, pos := "ref.go:234", after := #[{ on := 9, ground := Go.Ground.guard }], guard := some (9, false) }) (v := .slice (some ⟨w.heap.size + 1, 0, none⟩) n n) rfl (by kernel_rfl) (by kernel_rfl) (by kernel_rfl) (fun _ _ _ h => h) (Or.inl ⟨by rfl, by intro w hSw; (try dsimp only at hSw); go_simp⟩) (by assumption) ?_
      simp only [Act.put, List.setIfInBounds_toArray, List.set_cons_zero, List.set_cons_succ]
      refine wpAnyH_take (i := 11) (oi := { dst := some 70, op := Go.Op.move (Go.Operand.tmp 6), type := 3, pos := "ref.go:234", after := #[{ on := 9, ground := Go.Ground.guard }], guard := some (9, false) }) (v := .int .i64 n) rfl (by kernel_rfl) (by kernel_rfl) (by kernel_rfl) (fun _ _ _ h => h) (Or.inl ⟨by rfl, by intro w hSw; (try dsimp only at hSw); go_simp⟩) (by assumption) ?_
      simp only [Act.put, List.setIfInBounds_toArray, List.set_cons_zero, List.set_cons_succ]
      refine wpAnyH_take (i := 12) (oi := { dst := some 71, op := Go.Op.binOp Go.BinOp.sub 3 (Go.Operand.tmp 70) (Go.Operand.const (Go.Value.int Go.IntKind.i64 2)) 3, type := 3, pos := "ref.go:234", after := #[{ on := 11, ground := Go.Ground.data }, { on := 9, ground := Go.Ground.guard }], guard := some (9, false) }) (v := .int .i64 ((n : Int) - 2)) rfl (by kernel_rfl) (by kernel_rfl) (by kernel_rfl) (fun _ _ _ h => h) (Or.inl ⟨by rfl, by intro w hSw; (try dsimp only at hSw); go_simp⟩) (by assumption) ?_
      simp only [Act.put, List.setIfInBounds_toArray, List.set_cons_zero, List.set_cons_succ]
      refine wpAnyH_take (i := 13) (oi := { dst := some 72, op := Go.Op.indexAddr 22 (Go.Operand.tmp 69) (Go.Operand.tmp 71), type := 0, pos := "ref.go:234", after := #[{ on := 10, ground := Go.Ground.data }, { on := 12, ground := Go.Ground.data }, { on := 9, ground := Go.Ground.guard }], guard := some (9, false) }) (v := .pointer (some ⟨w.heap.size + 1, n - 2, none⟩)) rfl (by kernel_rfl) (by kernel_rfl) (by kernel_rfl) (fun _ _ _ h => h) (Or.inl ⟨by rfl, by intro w hSw; (try dsimp only at hSw); go_simp⟩) (by assumption) ?_
      simp only [Act.put, List.setIfInBounds_toArray, List.set_cons_zero, List.set_cons_succ]
      refine wpAnyH_take (i := 14) (oi := { dst := some 73, op := Go.Op.load 9 (Go.Operand.tmp 72), type := 9, pos := "ref.go:234", after := #[{ on := 13, ground := Go.Ground.data }, { on := 9, ground := Go.Ground.guard }], guard := some (9, false) }) (v := .string tt) rfl (by kernel_rfl) (by kernel_rfl) (by kernel_rfl) (fun _ _ _ h => h) (Or.inl ⟨by rfl, by intro w hSw; (try dsimp only at hSw); go_simp⟩) (by assumption) ?_
      simp only [Act.put, List.setIfInBounds_toArray, List.set_cons_zero, List.set_cons_succ]
      refine wpAnyH_take (i := 15) (oi := { dst := some 74, op := Go.Op.binOp Go.BinOp.add 9 (Go.Operand.tmp 73) (Go.Operand.const (Go.Value.string { data := #[10] })) 9, type := 9, pos := "ref.go:234", after := #[{ on := 14, ground := Go.Ground.data }, { on := 9, ground := Go.Ground.guard }], guard := some (9, false) }) (v := .string (tt ++ ⟨#[10]⟩)) rfl (by kernel_rfl) (by kernel_rfl) (by kernel_rfl) (fun _ _ _ h => h) (Or.inl ⟨by rfl, by intro w hSw; (try dsimp only at hSw); go_simp⟩) (by assumption) ?_
      simp only [Act.put, List.setIfInBounds_toArray, List.set_cons_zero, List.set_cons_succ]
      refine wpAnyH_take (i := 16) (oi := { dst := some 75, op := Go.Op.move (Go.Operand.tmp 7), type := 22, pos := "ref.go:234", after := #[{ on := 9, ground := Go.Ground.guard }], guard := some (9, false) }) (v := .slice A7 m c7) rfl (by kernel_rfl) (by kernel_rfl) (by kernel_rfl) (fun _ _ _ h => h) (Or.inl ⟨by rfl, by intro w hSw; (try dsimp only at hSw); go_simp⟩) (by assumption) ?_
      simp only [Act.put, List.setIfInBounds_toArray, List.set_cons_zero, List.set_cons_succ]
      refine wpAnyH_ready (rs := [17]) (by kernel_rfl) (by simp) ?_
      refine AllReadyH.cons (o := { dst := some 76, op := Go.Op.call { callee := Go.Callee.value (Go.Operand.func 72), args := #[Go.Operand.tmp 75], argTypes := #[22] }, type := 48, pos := "ref.go:234", after := #[{ on := 16, ground := Go.Ground.data }, { on := 9, ground := Go.Ground.chain }, { on := 9, ground := Go.Ground.guard }], guard := some (9, false) }) rfl (fun K hK => ?_) AllReadyH.nil
      go_simp
      go_at_call 72
      refine (HLN.out _ (HKW.out.1.below (HW.out.be.trans (HBW.out.mono HW.out.be.size))) (hr7.out.below HBW.out)).mono ?_
      rintro e wq ⟨rfl, hb⟩
      have HBW := Lib.hid (HBW.out.trans (hb.mono HBW.out.size))
      clear hb
      go_wp2_with fail
      refine hK.out _ _ ?_ (fun hHeld => ?_)
      · exact HKS.out _ HBW.out
      clear hK K
      try simp only [Act.put, List.setIfInBounds_toArray, List.set_cons_zero, List.set_cons_succ]
      refine wpAnyH_ready (rs := [18]) (by kernel_rfl) (by simp) ?_
      refine AllReadyH.cons (o := { dst := some 77, op := Go.Op.call { callee := Go.Callee.value (Go.Operand.func 71), args := #[Go.Operand.tmp 76], argTypes := #[48] }, type := 9, pos := "ref.go:234", after := #[{ on := 17, ground := Go.Ground.data }, { on := 17, ground := Go.Ground.chain }, { on := 9, ground := Go.Ground.guard }], guard := some (9, false) }) rfl (fun K hK => ?_) AllReadyH.nil
      go_simp
      go_at_call 71
      refine (HTL.out _ (HKW.out.1.1.below (HW.out.be.trans (HBW.out.mono HW.out.be.size)))).mono ?_
      rintro e wq ⟨rfl, hb⟩
      have HBW := Lib.hid (HBW.out.trans (hb.mono HBW.out.size))
      clear hb
      go_wp2_with fail
      refine hK.out _ _ ?_ (fun hHeld => ?_)
      · exact HKS.out _ HBW.out
      clear hK K
      try simp only [Act.put, List.setIfInBounds_toArray, List.set_cons_zero, List.set_cons_succ]
      refine wpAnyH_take (i := 19) (oi := { dst := some 78, op := Go.Op.binOp Go.BinOp.neq 9 (Go.Operand.tmp 74) (Go.Operand.tmp 77) 9, type := 4, pos := "ref.go:234", after := #[{ on := 15, ground := Go.Ground.data }, { on := 18, ground := Go.Ground.data }, { on := 9, ground := Go.Ground.guard }], guard := some (9, false) }) (v := .bool false) rfl (by kernel_rfl) (by kernel_rfl) (by kernel_rfl) (fun _ _ _ h => h) (Or.inl ⟨by rfl, by intro w hSw; (try dsimp only at hSw); go_simp⟩) (by assumption) ?_
      simp only [Act.put, List.setIfInBounds_toArray, List.set_cons_zero, List.set_cons_succ]
      refine wpAnyH_take (i := 20) (oi := { dst := some 79, op := Go.Op.pick (Go.Operand.tmp 68) (Go.Operand.const (Go.Value.bool true)) (Go.Operand.tmp 78), type := 4, pos := "ref.go:234", after := #[{ on := 9, ground := Go.Ground.data }, { on := 19, ground := Go.Ground.data }], guard := none }) (v := .bool false) rfl (by kernel_rfl) (by kernel_rfl) (by kernel_rfl) (fun _ _ _ h => h) (Or.inl ⟨by rfl, by intro w hSw; (try dsimp only at hSw); go_simp⟩) (by assumption) ?_
      simp only [Act.put, List.setIfInBounds_toArray, List.set_cons_zero, List.set_cons_succ]
      refine wpAnyH_done (by kernel_rfl) ?_ _
      have HKF := Lib.hid (blk_later HKZ.out HBW.out)
      have HBF := Lib.hid (HW.out.be.trans (HBW.out.mono HW.out.be.size))
      have HR7 := Lib.hid (hr7.out.below HBW.out)
      have l0 := cell_later HBW.out HC00.out
      clear HC00 HKZ HBW HW hr7 hq hq2 HDG HLN HTL HKS HE9 HE9t HE3 HEH HCI HTI HTS HTR HCVE
      by_cases h200 : 200 < m
      case pos =>
        have hI : (200 : Int) < (m : Int) := by omega
        have HBAD := Lib.hid (fun W => HBADX.out 3 W (by rw [HFE.out]; exact HE3'.out h200) (by decide))
        clear h200
        go_wp2_with (refine wpList_store_row rfl 61 _ _ rfl w.heap.size zbt rfl rfl 61 _ HKF.out (info61 ⟨#[]⟩ ⟨#[]⟩ 0 (.slice none 0 0)) rfl zbt_one ?_)
        refine bodyPost_ret (v := .tuple #[.agg zbt, .slice none 0 0, .int .i64 3]) ?_ rfl ?_
        · exact results_row_tmp2 (show Tryz.f30.results = #[.cell 2 61, .tmp 3, .tmp 4] by kernel_rfl) _ _ w.heap.size 61 zbt (0, 0) _ _ _ rfl rfl rfl (setRow_heap _ _ _ _ _ _ HKF.out) Tryz.underlying61 rfl (info61 ⟨#[]⟩ ⟨#[]⟩ 0 (.slice none 0 0))
        · exact HBAD.out _ (below_setRow HBF.out (Nat.le_refl _) _)
      case neg =>
      have hI : ¬ (200 : Int) < (m : Int) := by omega
      have HXE := Lib.hid (HEH'.out h200)
      obtain ⟨h4, -, hn3⟩ := HFF.out.1
      have HSPL := Lib.hid (split_any (lnAt s 0) wq (HKW.out.1.below HBF.out) (Nat.le_trans (lnAt_size s 0) hs))
      unfold SplPost at HSPL
      rw [h4] at HSPL
      have HZ1 : Hid ((hdP s 1).size ≤ maxLen ∧ (hdP s 2).size ≤ maxLen ∧ (hdP s 3).size ≤ 1000000) := Lib.hid (by
        have h := fun j => Nat.le_trans (prt_size (lnAt s 0) j) (Nat.le_trans (lnAt_size s 0) hs)
        have hm : 1000000 ≤ maxLen := by unfold maxLen; omega
        exact ⟨Nat.le_trans (h 1) hm, Nat.le_trans (h 2) hm, h 3⟩)
      have HN := Lib.hid (fun W => rnum_any (hdP s 3) W HZ1.out.2.2)
      unfold RNum at HN
      rw [hn3] at HN
      have HRH := Lib.hid (fun W => rhead_any (hdP s 1) (hdP s 2) (numV (hdP s 3)) W HZ1.out.1 HZ1.out.2.1)
      have HHC : Hid (∀ W : World, W.heap[wq.heap.size]? = some (.cells ((cutS (lnAt s 0)).map Value.string).toArray 9) → W.cell? ⟨wq.heap.size, 1, none⟩ = some (.string (hdP s 1)) ∧ W.cell? ⟨wq.heap.size, 2, none⟩ = some (.string (hdP s 2)) ∧ W.cell? ⟨wq.heap.size, 3, none⟩ = some (.string (hdP s 3))) := Lib.hid (fun W hW => ⟨str_cell hW 1 (by rw [h4]; omega), str_cell hW 2 (by rw [h4]; omega), str_cell hW 3 (by rw [h4]; omega)⟩)
      have HFIN : Hid (exaE s = 0 → fileE s = 0 ∧ (fileV s).id = hdP s 1 ∧ (fileV s).sd = hdP s 2 ∧ (fileV s).dt = numV (hdP s 3) ∧ (fileV s).rs = (rtK (hdP s 2) (rtx s) (rtx s).length).rs ∧ fileB s = (rtK (hdP s 2) (rtx s) (rtx s).length).bad) := Lib.hid (fun h => by
        have h0 : fileE s = 0 := by rw [HFE.out, h]
        have e1 := fileV_ok h0
        have e2 := rtK_rd HFF.out.2.2.2 (nRc s) (Nat.le_refl _)
        rw [rtx_len, e2]
        refine ⟨h0, by rw [e1], by rw [e1], by rw [e1], by rw [e1], ?_⟩
        unfold fileB; rw [if_pos h0])
      have HRD0 := Lib.hid (fun W hW hr => rread_any (hdP s 1) (hdP s 2) (numV (hdP s 3)) A7 c7 (rtx s) W hW hr (rtx_size hs) (by rw [rtx_len, HEN.out.2.1]; omega))
      have HRD : Hid (∀ W, KW W → IsRow W A7 ((rtx s).map Value.string) → Calls Tryz.prog 75 #[.agg #[.string (hdP s 1), .string (hdP s 2), .int .i64 (numV (hdP s 3)), .slice none 0 0], .slice A7 m c7] W (RdPost (hdP s 1) (hdP s 2) (numV (hdP s 3)) (rtx s) W)) := Lib.hid (fun W hW hr => by
        have := HRD0.out W hW hr
        rw [rtx_len, HEN.out.2.1] at this
        exact this)
      unfold RdPost btC at HRD
      generalize headE (hdP s 1) (hdP s 2) (numV (hdP s 3)) = E at *
      generalize (cutS (lnAt s 0)).map Value.string = LV at *
      generalize lnAt s 0 = x0 at *
      generalize hx3 : numV (hdP s 3) = x3 at *
      generalize hdP s 1 = x1 at *
      generalize hdP s 2 = x2 at *
      generalize hdP s 3 = t3 at *
      clear h4 hn3 h200 HE3' HEH' HRD0 HZ1
      go_wp2_with fail
      refine HSPL.out.mono ?_
      rintro e w5 ⟨rfl, hw5⟩
      have hb5 : Below wq.heap.size wq w5 := by rw [hw5]; exact bx _ _
      have HKF := Lib.hid (blk_later HKF.out hb5)
      have HBF := Lib.hid (HBF.out.trans (hb5.mono HBF.out.size))
      have HR7 := Lib.hid (HR7.out.below hb5)
      have HH5 : Hid (w5.heap[wq.heap.size]? = some (.cells LV.toArray 9)) := Lib.hid (by rw [hw5]; exact heap_alloc_new _ _)
      obtain ⟨p1, p2, p3⟩ := HHC.out w5 HH5.out
      have HKS5 : Hid (∀ W, Below w5.heap.size w5 W → W.cell? ⟨wq.heap.size, 1, none⟩ = some (.string x1) ∧ W.cell? ⟨wq.heap.size, 2, none⟩ = some (.string x2)) := Lib.hid (fun W h => ⟨cell_later h p1, cell_later h p2⟩)
      clear hw5 hb5 HHC HH5 HSPL l0
      go_wp2_with fail
      refine (HN.out _).mono ?_
      rintro e w6 ⟨⟨q3, rfl, hq3⟩, rfl⟩
      obtain rfl : x3 = q3 := (hq3 (by trivial)).symm
      clear hq3 HN p3
      by_cases h0 : E = 0
      case neg =>
        have heb : (E != 0) = true := by simpa using h0
        have HBAD := Lib.hid (fun W => HBADX.out E W (by rw [HFE.out]; exact HXE.out) h0)
        clear h0
        go_wp2_with fail
        go_quiet ((go_at_call 74; with_reducible exact quiet_left (HRH.out _)))
        rename Nat => nq
        have HKN := Lib.hid (blk_later HKF.out (below_drewN w5 nq))
        have HBN := Lib.hid (HBF.out.trans ((below_drewN w5 nq).mono HBF.out.size))
        go_wp2_with (refine wpList_store_row rfl 61 _ _ rfl w.heap.size zbt rfl rfl 61 _ HKN.out (info61 ⟨#[]⟩ ⟨#[]⟩ 0 (.slice none 0 0)) rfl zbt_one ?_)
        refine bodyPost_ret (v := .tuple #[.agg zbt, .slice none 0 0, .int .i64 E]) ?_ rfl ?_
        · exact results_row_tmp2 (show Tryz.f30.results = #[.cell 2 61, .tmp 3, .tmp 4] by kernel_rfl) _ _ w.heap.size 61 zbt (0, 0) _ _ _ rfl rfl rfl (setRow_heap _ _ _ _ _ _ HKN.out) Tryz.underlying61 rfl (info61 ⟨#[]⟩ ⟨#[]⟩ 0 (.slice none 0 0))
        · exact HBAD.out _ (below_setRow HBN.out (Nat.le_refl _) _)
      case pos =>
      have heb : (E != 0) = false := by simp [h0]
      have HEN0 := Lib.hid (HFIN.out (HXE.out.trans h0))
      clear h0 HFIN HXE
      go_wp2_with fail
      go_quiet ((go_at_call 74; with_reducible exact quiet_left (HRH.out _)))
      rename Nat => nq
      have HKN := Lib.hid (blk_later HKF.out (below_drewN w5 nq))
      have HBN := Lib.hid (HBF.out.trans ((below_drewN w5 nq).mono HBF.out.size))
      have HR7N := Lib.hid (HR7.out.below (below_drewN w5 nq))
      have HKSN : Hid (∀ W, Below (w5.drewN nq).heap.size (w5.drewN nq) W → W.cell? ⟨wq.heap.size, 1, none⟩ = some (.string x1) ∧ W.cell? ⟨wq.heap.size, 2, none⟩ = some (.string x2)) := Lib.hid (fun W h => HKS5.out W ((below_drewN w5 nq).trans (h.mono (below_drewN w5 nq).size)))
      clear HKF HBF HR7 HKS5 HRH p1 p2
      generalize w5.drewN nq = V at *
      have HWV : Hid (w.heap.size < V.heap.size) := Lib.hid (Array.getElem?_eq_some_iff.1 HKN.out).1
      have HKV : Hid (∀ W, Below V.heap.size V W → KW W ∧ IsRow W A7 ((rtx s).map Value.string)) := Lib.hid (fun W h => ⟨HKW.out.1.below (HBN.out.trans (h.mono HBN.out.size)), HR7N.out.below h⟩)
      go_wp2_with fail
      have HBW : Hid (Below V.heap.size V V.drew) := Lib.hid ((Below.refl _ _).drew)
      go_region_held3 (fun X => X.cell? ⟨wq.heap.size, 1, none⟩ = some (.string x1) ∧ X.cell? ⟨wq.heap.size, 2, none⟩ = some (.string x2))
        (first
          | exact HKSN.out _ HBW.out
          | exact HKSN.out _ (Below.drew (bx V _))
          | exact HKSN.out _ ((((HBW.out.setCell (p := ⟨V.heap.size, 0, none⟩) (Nat.le_refl _) _).setCell (p := ⟨V.heap.size, 1, none⟩) (Nat.le_refl _) _).setCell (p := ⟨V.heap.size, 2, none⟩) (Nat.le_refl _) _).setCell (p := ⟨V.heap.size, 3, none⟩) (Nat.le_refl _) _)
          | exact HKSN.out _ (HBW.out.alloc HBW.out.size _))
        ((go_at_call 75; first
          | (refine (HRD.out _ (HKV.out _ HBW.out).1 (HKV.out _ HBW.out).2).mono ?_; rintro e w8 ⟨v8, v9, rfl, ho8, ho9, hb⟩; obtain ⟨A8, c8, rfl, -, -⟩ := own_form ho8; have HO8 := Lib.hid (own_base (B' := w.heap.size + 1) ho8 (Nat.le_trans HWV.out HBW.out.size)); have HO9 := Lib.hid (own_base (B' := w.heap.size + 1) ho9 (Nat.le_trans HWV.out HBW.out.size)); have HBW := Lib.hid (HBW.out.trans (hb.mono HBW.out.size)); clear ho8 ho9 hb)
          | (have HBA : Hid (Below V.heap.size V ((V.alloc (.cells #[.string ⟨#[]⟩, .string ⟨#[]⟩, .int .i64 0, .slice none 0 0] 61)).drew)) := Lib.hid (Below.drew (bx V _)); refine (HRD.out _ (HKV.out _ HBA.out).1 (HKV.out _ HBA.out).2).mono ?_; rintro e w8 ⟨v8, v9, rfl, ho8, ho9, hb⟩; obtain ⟨A8, c8, rfl, -, -⟩ := own_form ho8; have HO8 := Lib.hid (own_base (B' := V.heap.size + 1) ho8 (by rw [size_ad]; exact Nat.le_refl _)); have HO9 := Lib.hid (own_base (B' := V.heap.size + 1) ho9 (by rw [size_ad]; exact Nat.le_refl _)); have HBW := Lib.hid (HBA.out.trans (hb.mono HBA.out.size)); have KZ := Lib.hid (zblk61 hb); have zc0 := cell_c KZ.out 0; have zc1 := cell_c KZ.out 1; have zc2 := cell_c KZ.out 2; have zc3 := cell_c KZ.out 3; have zf0 := cell_f KZ.out 0; have zf1 := cell_f KZ.out 1; have zf2 := cell_f KZ.out 2; have zf3 := cell_f KZ.out 3; have zlt : V.heap.size < w8.heap.size := (Array.getElem?_eq_some_iff.1 KZ.out).1; simp at zc0 zc1 zc2 zc3; clear ho8 ho9 hb)))
      all_goals
        first
          | (have HB3 := Lib.hid ((((HBW.out.setCell (p := ⟨V.heap.size, 0, none⟩) (Nat.le_refl _) (.string x1)).setCell (p := ⟨V.heap.size, 1, none⟩) (Nat.le_refl _) (.string x2)).setCell (p := ⟨V.heap.size, 2, none⟩) (Nat.le_refl _) (.int .i64 x3)).setCell (p := ⟨V.heap.size, 3, none⟩) (Nat.le_refl _) (.slice A8 (rtK x2 (rtx s) (rtx s).length).rs.length c8)); have K8 : Hid (((((w8.setCell ⟨V.heap.size, 0, none⟩ (.string x1)).setCell ⟨V.heap.size, 1, none⟩ (.string x2)).setCell ⟨V.heap.size, 2, none⟩ (.int .i64 x3)).setCell ⟨V.heap.size, 3, none⟩ (.slice A8 (rtK x2 (rtx s) (rtx s).length).rs.length c8)).heap[V.heap.size]? = some (.cells #[.string x1, .string x2, .int .i64 x3, .slice A8 (rtK x2 (rtx s) (rtx s).length).rs.length c8] 61)) := Lib.hid (by rw [heap_set1 (heap_set1 (heap_set1 (heap_set1 KZ.out 0 _) 1 _) 2 _) 3 _]; rfl); have P8 := Lib.hid (own_base (B' := w.heap.size + 1) (own_set (b := V.heap.size) (o := 3) (u := .slice A8 (rtK x2 (rtx s) (rtx s).length).rs.length c8) (own_set (b := V.heap.size) (o := 2) (u := .int .i64 x3) (own_set (b := V.heap.size) (o := 1) (u := .string x2) (own_set (b := V.heap.size) (o := 0) (u := .string x1) HO8.out (Nat.lt_succ_self _)) (Nat.lt_succ_self _)) (Nat.lt_succ_self _)) (Nat.lt_succ_self _)) (Nat.le_of_lt (Nat.succ_lt_succ HWV.out))); have P9 := Lib.hid (own_base (B' := w.heap.size + 1) (own_set (b := V.heap.size) (o := 3) (u := .slice A8 (rtK x2 (rtx s) (rtx s).length).rs.length c8) (own_set (b := V.heap.size) (o := 2) (u := .int .i64 x3) (own_set (b := V.heap.size) (o := 1) (u := .string x2) (own_set (b := V.heap.size) (o := 0) (u := .string x1) HO9.out (Nat.lt_succ_self _)) (Nat.lt_succ_self _)) (Nat.lt_succ_self _)) (Nat.lt_succ_self _)) (Nat.le_of_lt (Nat.succ_lt_succ HWV.out))); clear zc0 zc1 zc2 zc3 zf0 zf1 zf2 zf3 zlt KZ HO8 HO9; generalize hW3 : (((w8.setCell ⟨V.heap.size, 0, none⟩ (.string x1)).setCell ⟨V.heap.size, 1, none⟩ (.string x2)).setCell ⟨V.heap.size, 2, none⟩ (.int .i64 x3)).setCell ⟨V.heap.size, 3, none⟩ (.slice A8 (rtK x2 (rtx s) (rtx s).length).rs.length c8) = W3 at *; clear hW3)
          | (have HB3 := Lib.hid (HBW.out.alloc HBW.out.size (.cells #[.string x1, .string x2, .int .i64 x3, .slice A8 (rtK x2 (rtx s) (rtx s).length).rs.length c8] 61)); have K8 := Lib.hid (heap_alloc_new w8 (.cells #[.string x1, .string x2, .int .i64 x3, .slice A8 (rtK x2 (rtx s) (rtx s).length).rs.length c8] 61)); have P8 := Lib.hid (HO8.out.alloc (.cells #[.string x1, .string x2, .int .i64 x3, .slice A8 (rtK x2 (rtx s) (rtx s).length).rs.length c8] 61)); have P9 := Lib.hid (HO9.out.alloc (.cells #[.string x1, .string x2, .int .i64 x3, .slice A8 (rtK x2 (rtx s) (rtx s).length).rs.length c8] 61)); clear HO8 HO9; generalize hW3 : w8.alloc (.cells #[.string x1, .string x2, .int .i64 x3, .slice A8 (rtK x2 (rtx s) (rtx s).length).rs.length c8] 61) = W3 at *; clear hW3)
        have HK3 := Lib.hid (blk_later HKN.out HB3.out)
        have HB9 := Lib.hid (HBN.out.trans (HB3.out.mono HBN.out.size))
        clear HB3 HBW
        go_wp2_with (first | (refine wpList_load_row rfl 61 _ rfl _ rfl 61 _ _ _ K8.out Tryz.underlying61 rfl (info61 x1 x2 x3 (.slice A8 (rtK x2 (rtx s) (rtx s).length).rs.length c8)) ?_) | (refine wpList_store_row rfl 61 _ _ rfl w.heap.size (btC x1 x2 x3 (.slice A8 (rtK x2 (rtx s) (rtx s).length).rs.length c8)) rfl rfl 61 _ HK3.out (info61 _ _ _ _) rfl (bt_one P8.out) ?_))
        refine bodyPost_ret (v := .tuple #[.agg (btC x1 x2 x3 (.slice A8 (rtK x2 (rtx s) (rtx s).length).rs.length c8)), v9, .int .i64 0]) ?_ rfl ?_
        · exact results_row_tmp2 (show Tryz.f30.results = #[.cell 2 61, .tmp 3, .tmp 4] by kernel_rfl) _ _ w.heap.size 61 (btC x1 x2 x3 (.slice A8 (rtK x2 (rtx s) (rtx s).length).rs.length c8)) (0, 0) _ _ _ rfl rfl rfl (setRow_heap _ _ _ _ _ _ HK3.out) Tryz.underlying61 rfl (info61 _ _ _ _)
        · have hg := setRow_grown W3 w.heap.size (btC x1 x2 x3 (.slice A8 (rtK x2 (rtx s) (rtx s).length).rs.length c8))
          obtain ⟨f0, f1, f2, f3, f4, f5⟩ := HEN0.out
          exact bdc_fin f0 f1 f2 f3 f4 f5 (own_base (P8.out.kept hg (own_far' P8.out (Nat.lt_succ_self _))) (Nat.le_succ _)) (own_base (P9.out.kept hg (own_far' P9.out (Nat.lt_succ_self _))) (Nat.le_succ _)) (below_setRow HB9.out (Nat.le_refl _) _)
end Go.Proofs.YthflmdgfenojcaaGreatDoor
