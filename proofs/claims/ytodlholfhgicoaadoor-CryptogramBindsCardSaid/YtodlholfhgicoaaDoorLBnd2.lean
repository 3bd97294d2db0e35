/- The law Binds. -/
import Derived.Test.YtodlholfhgicoaaDoorLMak
import Derived.Test.YtodlholfhgicoaaDoorLBnd
namespace Go.Proofs.YtodlholfhgicoaaDoor
set_option linter.unusedVariables false
open Go.RowKit Go.Sort Go.Maps

theorem alloc_blk {w : World} {o o' : Obj} {b : Nat} (h : w.heap[b]? = some o) : (w.alloc o').heap[b]? = some o := blk_later h (alloc_lt w o')
theorem box2 {w w1 : World} {C1 C2 : Array Value} {T1 T2 : TypeId} (hb : Below ((w.alloc (.cells C1 T1)).alloc (.cells C2 T2)).heap.size ((w.alloc (.cells C1 T1)).alloc (.cells C2 T2)) w1) :
    w1.heap[w.heap.size]? = some (.cells C1 T1) ∧ w1.heap[w.heap.size + 1]? = some (.cells C2 T2) ∧ Below w.heap.size w w1 := by
  obtain ⟨k2, z, hb2⟩ := box1 hb
  refine ⟨blk_later (heap_alloc_new w _) hb2, ?_, (alloc_lt w _).trans (hb2.mono (by simp))⟩
  simpa using k2
theorem keepBlk {B b : Nat} {w w1 : World} {o : Obj} (h : w.heap[b]? = some o) (hb : Below B w w1) (hlt : b < B) : w1.heap[b]? = some o := by
  rw [hb.block _ hlt]; exact h
theorem keepB {B bb : Nat} {w w' : World} {t cur nonce code : ByteArray} {c a : Int} {r : Bool} (hb : Below B w w') (h : w'.heap[bb]? = some (.cells #[.string t, .int .i64 c, .int .i64 a, .string cur, .string nonce, .string code, .bool r] 26)) :
    Below B w w' ∧ w'.cell? ⟨bb, 0, none⟩ = some (.string t) ∧ w'.cell? ⟨bb, 1, none⟩ = some (.int .i64 c) ∧ w'.cell? ⟨bb, 2, none⟩ = some (.int .i64 a) ∧ w'.cell? ⟨bb, 3, none⟩ = some (.string cur) ∧ w'.cell? ⟨bb, 4, none⟩ = some (.string nonce) :=
  ⟨hb, cell_c h 0, cell_c h 1, cell_c h 2, cell_c h 3, cell_c h 4⟩
theorem smallB_t {t cur nonce code : ByteArray} (h : smallB t cur nonce code = true) : t.size ≤ 100 ∧ cur.size ≤ 100 ∧ nonce.size ≤ 100 := by
  unfold smallB at h
  simp only [Bool.and_eq_true, decide_eq_true_eq] at h
  exact ⟨h.1, h.2.1, h.2.2.1⟩
theorem good0 : GoodM m0 := fun t h q => by cases q
theorem good1 (t : ByteArray) (c : Int) (h1 : 1 ≤ c) (h2 : c ≤ 999999) : GoodM (updM m0 t (newH (histOf (m0 t)) c)) := by
  intro x h q
  unfold updM at q
  split at q
  · rw [← Option.some.inj q, show m0 t = none from rfl, newH_first c h1]; exact ⟨h1, h2⟩
  · cases q
set_option maxRecDepth 100000 in
set_option maxHeartbeats 6400000 in
theorem binds_any (k : Nat) (t : ByteArray) (c a : Int) (cur nonce code : ByteArray) (r : Bool) (t' : ByteArray) (c' a' : Int) (cur' nonce' code' : ByteArray) (r' : Bool) (w : World) (hw : KW w) (hk : k < M64) :
    Calls Tryd.prog 6 #[.int .u64 k, .agg (payC t c a cur nonce code r), .agg (payC t' c' a' cur' nonce' code' r')] w fun e w' => e = .returned (.bool true) ∧ Below w.heap.size w w' := by
  have HKW := Lib.hid hw
  have HS1 := Lib.hid (fun W => small_any t c a cur nonce code r W)
  have HS2 := Lib.hid (fun W => small_any t' c' a' cur' nonce' code' r' W)
  have HAW := Lib.hid (fun W h => awake_any W h)
  have hl := run_loadVar_row (P := Tryd.prog) w
  clear hl
  have HB2 := Lib.hid ((alloc_lt w (.cells (payC t c a cur nonce code r) 26)).trans ((alloc_lt (w.alloc (.cells (payC t c a cur nonce code r) 26)) (.cells (payC t' c' a' cur' nonce' code' r') 26)).mono (alloc_lt w (.cells (payC t c a cur nonce code r) 26)).size))
  clear hw
  cases hs : smallB t cur nonce code
  · rw [hs] at HS1
    clear hs
    unfold payC at *
    go_enter Tryd.func6, Tryd.ntmps6
    go_wp2_with fail
    refine (HS1.out _).mono ?_
    rintro e w2 ⟨rfl, hb⟩
    obtain ⟨kk, kk', hb1⟩ := box2 hb
    have HB2 := Lib.hid hb1
    clear hb hb1 kk kk'
    go_wp2_with fail
    refine (HAW.out _ (HKW.out.below HB2.out)).mono ?_
    rintro e w3 ⟨rfl, hb⟩
    have HB3 := Lib.hid (HB2.out.trans (hb.mono HB2.out.size))
    clear hb
    go_wp2_with fail
    go_ret
    exact ⟨rfl, HB3.out⟩
  · rw [hs] at HS1
    obtain ⟨z1, z2, z3⟩ := smallB_t hs
    clear hs
    cases hs' : smallB t' cur' nonce' code'
    · rw [hs'] at HS2
      clear hs'
      unfold payC at *
      go_enter Tryd.func6, Tryd.ntmps6
      go_wp2_with fail
      refine (HS1.out _).mono ?_
      rintro e w2 ⟨rfl, hb⟩
      obtain ⟨kk, kk', hb1⟩ := box2 hb
      have HB2 := Lib.hid hb1
      have k0 := cell_c kk' 0
      have k1 := cell_c kk' 1
      have k2 := cell_c kk' 2
      have k3 := cell_c kk' 3
      have k4 := cell_c kk' 4
      have k5 := cell_c kk' 5
      have k6 := cell_c kk' 6
      clear hb hb1 kk
      go_wp2_with fail
      refine (HS2.out _).mono ?_
      rintro e w2 ⟨rfl, hb⟩
      have HB3 := Lib.hid (HB2.out.trans (hb.mono HB2.out.size))
      clear hb
      go_wp2_with fail
      refine (HAW.out _ (HKW.out.below HB3.out)).mono ?_
      rintro e w3 ⟨rfl, hb⟩
      have HB4 := Lib.hid (HB3.out.trans (hb.mono HB3.out.size))
      clear hb
      go_wp2_with fail
      go_ret
      exact ⟨rfl, HB4.out⟩
    · rw [hs'] at HS2
      obtain ⟨y1, y2, y3⟩ := smallB_t hs'
      clear hs'
      have HN := Lib.hid (fun W => new_ok k 5 W (by decide) (by decide))
      have HM := Lib.hid (fun W hW => make_any k t c a cur nonce W hW hk (by have : maxLen = 2 ^ 63 - 1 := rfl; omega) (by have : maxLen = 2 ^ 63 - 1 := rfl; omega) (by have : maxLen = 2 ^ 63 - 1 := rfl; omega))
      have HM' := Lib.hid (fun W hW => make_any k t' c' a' cur' nonce' W hW hk (by have : maxLen = 2 ^ 63 - 1 := rfl; omega) (by have : maxLen = 2 ^ 63 - 1 := rfl; omega) (by have : maxLen = 2 ^ 63 - 1 := rfl; omega))
      have HCK := Lib.hid (fun B bc m sz code W h1 hg h2 h3 h4 => check_any B bc k 5 m sz t' c' a' cur' nonce' code W h1 hg h2 hk (by decide) (by decide) (by have : maxLen = 2 ^ 63 - 1 := rfl; omega) (by have : maxLen = 2 ^ 63 - 1 := rfl; omega) (by have : maxLen = 2 ^ 63 - 1 := rfl; omega) h3 h4)
      have HLA := Lib.hid (fun B bc m sz W h => last_any B bc k 5 m sz t' W h (by have : maxLen = 2 ^ 63 - 1 := rfl; omega))
      have HVZ := Lib.hid (And.intro (mkV_size k t c a cur nonce) (mkV_size k t' c' a' cur' nonce'))
      have HF := Lib.hid (ckE_first k t' c' a' cur' nonce')
      have HBAD := Lib.hid (mkV_bad (k := k) (t := t') (c := c') (a := a') (cur := cur') (nonce := nonce'))
      have HRG := Lib.hid (mkE_range (t := t') (c := c') (a := a') (cur := cur') (nonce := nonce'))
      have HL1 := Lib.hid (last_first t' c')
      have HU1 := Lib.hid (used_first t' c')
      have HG1 := Lib.hid (good1 t' c')
      have HE2 : Hid (∀ m sz, mkE t' c' a' cur' nonce' = 0 → usedM m t' c' 5 = true → ckE k 5 m sz t' c' a' cur' nonce' (mkV k t' c' a' cur' nonce') = 15) := Lib.hid (fun m sz h1 h2 => by
        unfold ckE
        rw [if_neg (by simp [h1]), if_neg (by simp), if_pos h2])
      unfold MkPost at HM HM'
      unfold payC at *
      generalize mkV k t c a cur nonce = V at *
      generalize mkV k t' c' a' cur' nonce' = V' at *
      generalize mkE t c a cur nonce = E at *
      generalize mkE t' c' a' cur' nonce' = E' at *
      go_enter Tryd.func6, Tryd.ntmps6
      go_wp2_with fail
      refine (HS1.out _).mono ?_
      rintro e w2 ⟨rfl, hb⟩
      obtain ⟨kk, kk', hb1⟩ := box2 hb
      have HB2 := Lib.hid hb1
      have KK := Lib.hid kk
      have k0 := cell_c kk' 0
      have k1 := cell_c kk' 1
      have k2 := cell_c kk' 2
      have k3 := cell_c kk' 3
      have k4 := cell_c kk' 4
      have k5 := cell_c kk' 5
      have k6 := cell_c kk' 6
      have KK' := Lib.hid kk'
      clear hb hb1 kk kk'
      go_wp2_with fail
      refine (HS2.out _).mono ?_
      rintro e w2 ⟨rfl, hb⟩
      have HB3 := Lib.hid (HB2.out.trans (hb.mono HB2.out.size))
      have KK := Lib.hid (blk_later KK.out hb)
      have KK' := Lib.hid (blk_later KK'.out hb)
      clear hb k0 k1 k2 k3 k4 k5 k6
      go_wp2_with fail
      refine (HN.out _).mono ?_
      rintro e w3 ⟨bc, rfl, hck, hb⟩
      have HB4 := Lib.hid (HB3.out.trans (hb.mono HB3.out.size))
      have HC := Lib.hid hck
      have HKB := Lib.hid (Array.getElem?_eq_some_iff.1 KK'.out).1
      have KK := Lib.hid (blk_later KK.out hb)
      have KK' := Lib.hid (blk_later KK'.out hb)
      have k0 := cell_c KK.out 0
      have k1 := cell_c KK.out 1
      have k2 := cell_c KK.out 2
      have k3 := cell_c KK.out 3
      have k4 := cell_c KK.out 4
      clear hb hck
      go_wp2_with fail
      refine (HM.out _ (HKW.out.below HB4.out)).mono ?_
      rintro e w4 ⟨rfl, hb⟩
      have HB5 := Lib.hid (HB4.out.trans (hb.mono HB4.out.size))
      have HC := Lib.hid (HC.out.below hb)
      have KK' := Lib.hid (blk_later KK'.out hb)
      clear k0 k1 k2 k3 k4
      have k0 := cell_c KK'.out 0
      have k1 := cell_c KK'.out 1
      have k2 := cell_c KK'.out 2
      have k3 := cell_c KK'.out 3
      have k4 := cell_c KK'.out 4
      clear hb KK
      go_wp2_with fail
      refine (HM'.out _ (HKW.out.below HB5.out)).mono ?_
      rintro e w5 ⟨rfl, hb⟩
      have HB6 := Lib.hid (HB5.out.trans (hb.mono HB5.out.size))
      have HC := Lib.hid (HC.out.below hb)
      have KK' := Lib.hid (blk_later KK'.out hb)
      clear k0 k1 k2 k3 k4
      have k0 := cell_c KK'.out 0
      have k1 := cell_c KK'.out 1
      have k2 := cell_c KK'.out 2
      have k3 := cell_c KK'.out 3
      have k4 := cell_c KK'.out 4
      clear hb
      by_cases qE' : E' = 0
      · subst qE'
        obtain ⟨c1, c2⟩ := HRG.out rfl
        by_cases qE : E = 0
        · subst qE
          by_cases qV : V = V'
          · subst qV
            have hq := ba_same V V rfl
            have HF0 : Hid (ckE k 5 m0 0 t' c' a' cur' nonce' V = 0) := Lib.hid (by rw [HF.out, if_neg (by simp), if_neg (by simp)])
            go_wp2_with fail
            refine (HCK.out _ bc _ 0 V _ HC.out good0 (HKW.out.below HB6.out) HVZ.out.1 (by decide)).mono ?_
            rw [HF0.out]
            rintro e w6 ⟨rfl, hck, hb⟩
            have HB7 := Lib.hid (HB6.out.trans (hb.mono HB3.out.size))
            have HC : Hid (CkW w6 _ bc k 5 (updM m0 t' (newH (histOf (m0 t')) c')) 1) := Lib.hid hck
            have KK' := Lib.hid (keepBlk KK'.out hb HKB.out)
            have HLTB := Lib.hid HKB.out
            clear k0 k1 k2 k3 k4 hck hb
            have k0 := cell_c KK'.out 0
            have k1 := cell_c KK'.out 1
            have k2 := cell_c KK'.out 2
            have k3 := cell_c KK'.out 3
            have k4 := cell_c KK'.out 4
            go_wp2_with fail
            have HBW : Hid (Below w.heap.size w w6.drew) := Lib.hid HB7.out.drew
            have HKB := Lib.hid (And.intro KK'.out HC.out)
            have KK' : Hid (w6.drew.heap[w.heap.size + 1]? = _) := Lib.hid KK'.out
            have HC : Hid (CkW w6.drew _ bc k 5 (updM m0 t' (newH (histOf (m0 t')) c')) 1) := Lib.hid (HC.out.below ((Below.refl _ _).drew))
            have HL1 := Lib.hid (HL1.out c1)
            have HE2 := Lib.hid (HE2.out (updM m0 t' (newH (histOf (m0 t')) c')) 1 trivial (HU1.out c1))
            have HG1 := Lib.hid (HG1.out c1 c2)
            have HLT := Lib.hid HB3.out.size
            clear k0 k1 k2 k3 k4
            generalize updM m0 t' (newH (histOf (m0 t')) c') = M at *
            go_region_held3 (fun w' => Below w.heap.size w w' ∧ w'.cell? ⟨w.heap.size + 1, 0, none⟩ = some (.string t') ∧ w'.cell? ⟨w.heap.size + 1, 1, none⟩ = some (.int .i64 c') ∧ w'.cell? ⟨w.heap.size + 1, 2, none⟩ = some (.int .i64 a') ∧ w'.cell? ⟨w.heap.size + 1, 3, none⟩ = some (.string cur') ∧ w'.cell? ⟨w.heap.size + 1, 4, none⟩ = some (.string nonce'))
              (exact keepB HBW.out KK'.out)
              (first
                | (go_at_call 16; refine (HLA.out _ bc _ 1 _ HC.out).mono ?_; rintro e w' ⟨rfl, rfl⟩; rw [HL1.out])
                | (go_at_call 14; refine (HCK.out _ bc _ 1 V _ HC.out HG1.out (HKW.out.below HBW.out) HVZ.out.1 (by decide)).mono ?_; rw [HE2.out]; rintro e w' ⟨rfl, -, hb⟩; have KK' := Lib.hid (keepBlk KK'.out hb HLTB.out); have HBW := Lib.hid (HBW.out.trans (hb.mono HLT.out)); clear hb)
                | (go_at_call 9; refine (HAW.out _ (HKW.out.below HBW.out)).mono ?_; rintro e w' ⟨rfl, hb⟩; have KK' := Lib.hid (blk_later KK'.out hb); have HBW := Lib.hid (HBW.out.trans (hb.mono HBW.out.size)); clear hb))
            go_wp2_with fail
            go_ret
            exact ⟨rfl, HBW.out⟩
          · have hq := ba_diff V V' qV
            have HF0 : Hid (ckE k 5 m0 0 t' c' a' cur' nonce' V = 19) := Lib.hid (by rw [HF.out, if_neg (by simp), if_pos qV])
            go_wp2_with fail
            refine (HCK.out _ bc _ 0 V _ HC.out good0 (HKW.out.below HB6.out) HVZ.out.1 (by decide)).mono ?_
            rw [HF0.out]
            rintro e w6 ⟨rfl, hck, hb⟩
            have HB7 := Lib.hid (HB6.out.trans (hb.mono HB3.out.size))
            have HC : Hid (CkW w6 _ bc k 5 m0 0) := Lib.hid hck
            have KK' := Lib.hid (keepBlk KK'.out hb HKB.out)
            clear k0 k1 k2 k3 k4 hck hb
            have k0 := cell_c KK'.out 0
            go_wp2_with fail
            refine (HLA.out _ bc _ 0 _ HC.out).mono ?_
            rintro e w7 ⟨rfl, rfl⟩
            rw [show lastM m0 t' = 0 from rfl]
            go_wp2_with fail
            refine (HAW.out _ (HKW.out.below HB7.out)).mono ?_
            rintro e w9 ⟨rfl, hb⟩
            have HB9 := Lib.hid (HB7.out.trans (hb.mono HB7.out.size))
            clear hb
            go_wp2_with fail
            go_ret
            exact ⟨rfl, HB9.out⟩
        · go_wp2_with fail
          refine (HAW.out _ (HKW.out.below HB6.out)).mono ?_
          rintro e w9 ⟨rfl, hb⟩
          have HB9 := Lib.hid (HB6.out.trans (hb.mono HB6.out.size))
          clear hb
          go_wp2_with fail
          go_ret
          exact ⟨rfl, HB9.out⟩
      · have HF0 : Hid (ckE k 5 m0 0 t' c' a' cur' nonce' V = E') := Lib.hid (by rw [HF.out, if_pos qE'])
        obtain rfl := HBAD.out qE'
        by_cases qE : E = 0
        all_goals
          (try subst qE)
          go_wp2_with fail
          refine (HCK.out _ bc _ 0 V _ HC.out good0 (HKW.out.below HB6.out) HVZ.out.1 (by decide)).mono ?_
          rw [HF0.out]
          rintro e w6 ⟨rfl, -, hb⟩
          have HB7 := Lib.hid (HB6.out.trans (hb.mono HB3.out.size))
          clear hb
          go_wp2_with fail
          refine (HAW.out _ (HKW.out.below HB7.out)).mono ?_
          rintro e w9 ⟨rfl, hb⟩
          have HB9 := Lib.hid (HB7.out.trans (hb.mono HB7.out.size))
          clear hb
          go_wp2_with fail
          go_ret
          exact ⟨rfl, HB9.out⟩
theorem cryptogramBinds_walk (w : World) (hw : KW w) (_ : True) (k : Int) (hk : (Lit.int .u64 k).wf = true) (x : ByteArray × Int × Int × ByteArray × ByteArray × ByteArray × Bool) (_ : PayOk x) (y : ByteArray × Int × Int × ByteArray × ByteArray × ByteArray × Bool) (_ : PayOk y) :
    Calls Tryd.prog 6 #[.int .u64 k, .agg (payC x.1 x.2.1 x.2.2.1 x.2.2.2.1 x.2.2.2.2.1 x.2.2.2.2.2.1 x.2.2.2.2.2.2), .agg (payC y.1 y.2.1 y.2.2.1 y.2.2.2.1 y.2.2.2.2.1 y.2.2.2.2.2.1 y.2.2.2.2.2.2)] w fun e w' => e = .returned (.bool true) ∧ Below w.heap.size w w' := by
  obtain ⟨m, rfl, hm⟩ := u64_nat hk
  exact binds_any m _ _ _ _ _ _ _ _ _ _ _ _ _ _ w hw hm
end Go.Proofs.YtodlholfhgicoaaDoor
