/- The walk of Parse. -/
import Derived.Test.YtadehobimlpmcaaDoorDigs
namespace Go.Proofs.YtadehobimlpmcaaDoor
set_option linter.unusedVariables false
open Go.RowKit

theorem curB_curL (s : ByteArray) : curB s = curL s.data.toList := by
  unfold curB curL capB capL
  rw [show s.data.toList.length = s.size by simp]
theorem expN_le (c : List UInt8) : expN c ≤ 3 := by unfold expN; split; omega; split <;> omega
theorem dig_any (s : ByteArray) (k : Nat) (w : World) (hs : s.size ≤ 1000000) (hk9 : k ≤ 100) : Calls Tryd.prog 45 #[.string s, .int .i64 k] w (DigPost (digsOf s.data.toList k) w) := by
  rcases Nat.eq_zero_or_pos k with h | h
  · subst h; exact dig_zero s w (by unfold maxLen; omega)
  · exact dig_pos s k w hs h hk9
theorem pre_head (X : List UInt8) : Lib.hasPrefix X (ByteArray.mk #[45]).data.toList = decide (X.head? = some 45) := by
  unfold Lib.hasPrefix
  cases X with
  | nil => rfl
  | cons x l =>
    show (45 == x && List.isPrefixOf [] l) = _
    rw [List.isPrefixOf_nil_left, Bool.and_true]
    by_cases h : x = 45
    · subst h; rfl
    · rw [decide_eq_false (by simpa using h), beq_eq_false_iff_ne]; exact fun e => h e.symm
theorem trim_num (l : List UInt8) : Lib.trimPrefix (l.take (l.length - 4)) (ByteArray.mk #[45]).data.toList = numOf l := by
  unfold Lib.trimPrefix numOf
  rw [pre_head]
  by_cases h : (l.take (l.length - 4)).head? = some 45
  · rw [decide_eq_true h, if_pos rfl, if_pos h]; rfl
  · rw [decide_eq_false h, if_neg h]; rfl
theorem par_short {l : List UInt8} (h0 : l ≠ []) (h : l.length < 4) : parR l = (0, [], 2) := by unfold parR; rw [if_neg h0, if_pos h]
theorem par_space {l : List UInt8} (h : 4 ≤ l.length) (hs : l[l.length - 4]? ≠ some 32) : parR l = (0, [], 2) := by
  unfold parR; rw [if_neg (by intro e; rw [e] at h; simp at h), if_neg (by omega), if_pos hs]
theorem par_cur {l : List UInt8} (h : 4 ≤ l.length) (hs : l[l.length - 4]? = some 32) (hc : curL (l.drop (l.length - 3)) = false) : parR l = (0, [], 2) := by
  unfold parR; rw [if_neg (by intro e; rw [e] at h; simp at h), if_neg (by omega), if_neg (by simpa using hs), if_pos hc]
theorem par_dig {l : List UInt8} (h : 4 ≤ l.length) (hs : l[l.length - 4]? = some 32) (hc : curL (l.drop (l.length - 3)) = true) (hd : digsOf (numOf l) (expN (l.drop (l.length - 3))) = none) : parR l = (0, [], 2) := by
  unfold parR; rw [if_neg (by intro e; rw [e] at h; simp at h), if_neg (by omega), if_neg (by simpa using hs), if_neg (by rw [hc]; simp), hd]
theorem par_some {l d : List UInt8} (h : 4 ≤ l.length) (hs : l[l.length - 4]? = some 32) (hc : curL (l.drop (l.length - 3)) = true) (hd : digsOf (numOf l) (expN (l.drop (l.length - 3))) = some d) : parR l = parD l d := by
  unfold parR; rw [if_neg (by intro e; rw [e] at h; simp at h), if_neg (by omega), if_neg (by simpa using hs), if_neg (by rw [hc]; simp), hd]
def parV (r : Int × List UInt8 × Int) : Value := .tuple #[.agg #[.int .i64 r.1, .string ⟨r.2.1.toArray⟩], .int .i64 r.2.2]
def ParPost (l : List UInt8) (w : World) (e : Ending) (w' : World) : Prop := e = .returned (parV (parR l)) ∧ Below w.heap.size w w'
theorem tot_par (n : Int) (C : ByteArray) : Value.tuple #[totV n C, .int .i64 (totE n)] = parV (totL n C.data.toList) := by
  unfold totV totE parV totL
  have : inTp n = inT n := rfl
  rw [this]
  cases inT n <;> rfl
/-- The number so far. -/
def numM (d : List UInt8) (k : Nat) : Nat := min (valD (d.take k)) 4503599627370497
theorem numM_succ {d : List UInt8} {k : Nat} (h : k < d.length) : numM d (k + 1) = min (10 * numM d k + ((d[k]).toNat - 48)) 4503599627370497 := by
  unfold numM
  rw [List.take_succ_eq_append_getElem h, valD_snoc]
  omega
theorem clone_any (s : ByteArray) (w : World) (hs : s.size ≤ 1000000) : Calls Tryd.prog 46 #[.string s] w fun e w' => e = .returned (.string s) ∧ Below w.heap.size w w' := by
  have h := Lib.hid (fun W => Tryd.stringslite_Clone s W (by omega))
  clear hs
  go_enter Tryd.func46, Tryd.ntmps46
  go_wp2_with fail
  refine (h.out _).mono ?_
  rintro e w1 ⟨rfl, hb⟩
  have HB := Lib.hid hb
  clear hb
  go_wp2_with fail
  go_ret
  exact ⟨rfl, HB.out⟩
set_option maxHeartbeats 6400000 in
theorem par_low (s : ByteArray) (w : World) (hs : s.size < 4) : Calls Tryd.prog 18 #[.string s] w (ParPost s.data.toList w) := by
  have hsl : s.data.toList.length = s.size := by simp
  by_cases h0 : s.size = 0
  · obtain rfl := ba_nil h0
    have HF := Lib.hid (show parR (ByteArray.mk #[]).data.toList = (0, [], 1) from rfl)
    clear h0 hsl hs
    go_enter Tryd.func18, Tryd.ntmps18
    go_wp2_with fail
    refine bodyPost_ret (v := .tuple #[zeroM, .int .i64 1]) ?_ rfl ?_
    · have hres : Tryd.f18.results = #[.cell 2 23, .tmp 3] := by kernel_rfl
      simp only [results, hres]
      go_simp
      rfl
    · exact ⟨by rw [HF.out]; rfl, (Below.refl _ _).alloc (Nat.le_refl _) _⟩
  · have hne : s.data.toList ≠ [] := fun e => by rw [e] at hsl; exact h0 hsl.symm
    have hem : s.toList.isEmpty = false := by rw [ByteArray.toList_eq]; simpa using hne
    have HF := Lib.hid (par_short hne (by omega))
    have hn : (s.size : Int) - 4 < 0 := by omega
    clear h0 hsl hne
    go_enter Tryd.func18, Tryd.ntmps18
    go_wp2_with fail
    refine bodyPost_ret (v := .tuple #[zeroM, .int .i64 2]) ?_ rfl ?_
    · have hres : Tryd.f18.results = #[.cell 2 23, .tmp 3] := by kernel_rfl
      simp only [results, hres]
      go_simp
      rfl
    · exact ⟨by rw [HF.out]; rfl, (Below.refl _ _).alloc (Nat.le_refl _) _⟩
theorem digs_len {s d : List UInt8} {k : Nat} (h : digsOf s k = some d) : d.length ≤ s.length := by
  unfold digsOf at h
  split at h
  · split at h
    · cases h
    · injection h with h; rw [h]; exact Nat.le_refl _
  · split at h
    · cases h
    · split at h
      · cases h
      · split at h
        · cases h
        · injection h with h
          rw [← h, List.length_append, List.length_take, List.length_drop]; omega
theorem parD_form (l d : List UInt8) : parD l d = if (l.take (l.length - 4)).head? = some 45 then (if min (valD d) 4503599627370497 = 0 then (0, [], 2) else totL (-(min (valD d) 4503599627370497 : Nat)) (l.drop (l.length - 3))) else totL (min (valD d) 4503599627370497 : Nat) (l.drop (l.length - 3)) := rfl
theorem bytesOf_at {s : ByteArray} {p : Nat} (h : p < s.size) : s.data.toList[p]? = some (s[p]'h) := by rw [List.getElem?_eq_getElem (by simpa using h)]; rfl
set_option maxHeartbeats 12800000 in
theorem par_big (s : ByteArray) (w : World) (hw : DecW w) (hs4 : 4 ≤ s.size) (hs : s.size ≤ 1000000) : Calls Tryd.prog 18 #[.string s] w (ParPost s.data.toList w) := by
  have hsl : s.data.toList.length = s.size := by simp
  have hne : s.data.toList ≠ [] := fun e => by rw [e] at hsl; simp at hsl; omega
  have hem : s.toList.isEmpty = false := by rw [ByteArray.toList_eq]; simpa using hne
  have hps := fun h => par_space (l := s.data.toList) (by omega) h
  have hpc := fun h1 h2 => par_cur (l := s.data.toList) (by omega) h1 h2
  have hpd := fun h1 h2 h3 => par_dig (l := s.data.toList) (by omega) h1 h2 h3
  have hpo := fun d h1 h2 h3 => par_some (l := s.data.toList) (d := d) (by omega) h1 h2 h3
  have htn := trim_num s.data.toList
  rw [hsl] at hps hpc hpd hpo htn
  obtain ⟨p, hp⟩ : ∃ p, s.size = p + 4 := ⟨s.size - 4, by omega⟩
  have hpz : p < s.size := by omega
  have e1 : s.size - 4 = p := by omega
  have e2 : s.size - 3 = p + 1 := by omega
  rw [e1] at hps hpc hpd hpo htn
  rw [e2] at hpc hpd hpo
  rw [bytesOf_at hpz] at hps hpc hpd hpo
  have ep : (s.size : Int) - 4 = (p : Int) := by omega
  have wp1 : IntKind.i64.wrap ((p : Int) + 1) = (p : Int) + 1 := IntWalk.i64_in _ (by omega)
  have p0 : (0 : Int) ≤ (p : Int) + 1 := by omega
  have p1 : ((p : Int) + 1).toNat = p + 1 := by omega
  by_cases hdot : (s[p]'hpz) = 32
  · have hdot' : (((s[p]'hpz).toNat : Int) != 32) = false := by rw [hdot]; rfl
    rw [hdot] at hpc hpd hpo
    obtain ⟨C, hC⟩ : ∃ C, s.extract (p + 1) s.size = C := ⟨_, rfl⟩
    obtain ⟨S, hS⟩ : ∃ S, s.extract 0 p = S := ⟨_, rfl⟩
    have hCd : s.data.toList.drop (p + 1) = C.data.toList := by rw [← hC, ext_drop]
    have hSd : s.data.toList.take p = S.data.toList := by rw [← hS, ext_take]
    rw [hCd, ← curB_curL] at hpc hpd hpo
    rw [hSd] at htn
    have hCz : C.size = 3 := by rw [← hC]; simp; omega
    have hSz : S.size = p := by rw [← hS]; simp; omega
    have hCle : C.size ≤ 1000000 := by omega
    cases hcu : curB C
    · have HF := Lib.hid (hpc rfl hcu)
      have HE := Lib.hid (fun W => exp_no C W (by unfold maxLen; omega) hcu)
      clear hps hpc hpd hpo htn hCd hSd hCz hSz hcu hdot hne hsl e1 e2 hp
      go_enter Tryd.func18, Tryd.ntmps18
      go_wp2_with fail
      refine (HE.out _).mono ?_
      rintro e w1 ⟨rfl, rfl⟩
      go_wp2_with fail
      refine bodyPost_ret (v := .tuple #[zeroM, .int .i64 2]) ?_ rfl ?_
      · have hres : Tryd.f18.results = #[.cell 2 23, .tmp 3] := by kernel_rfl
        simp only [results, hres]
        go_simp
        rfl
      · exact ⟨by rw [HF.out]; rfl, (Below.refl _ _).alloc (Nat.le_refl _) _⟩
    · have hpd := hpd rfl hcu
      have hpo := fun d => hpo d rfl hcu
      have HE := Lib.hid (fun W hW => exp_yes C W hW (by unfold maxLen; omega) hcu)
      have hCP := fun W => Tryd.strings_CutPrefix S (ByteArray.mk #[45]) W
      obtain ⟨N, hN⟩ : ∃ N, (⟨(Lib.trimPrefix S.data.toList (ByteArray.mk #[45]).data.toList).toArray⟩ : ByteArray) = N := ⟨_, rfl⟩
      have hNd : N.data.toList = numOf s.data.toList := by rw [← hN, ← htn]
      have hNz : N.size ≤ 1000000 := by
        have : N.data.toList.length ≤ S.data.toList.length := by
          rw [hNd, ← htn]; unfold Lib.trimPrefix; split
          · rw [List.length_drop]; omega
          · exact Nat.le_refl _
        have hn1 : N.data.toList.length = N.size := by simp
        have hs1 : S.data.toList.length = S.size := by simp
        omega
      rw [hN, pre_head] at hCP
      obtain ⟨neg, hneg⟩ : ∃ neg, decide (S.data.toList.head? = some 45) = neg := ⟨_, rfl⟩
      rw [hneg] at hCP
      have HCP := Lib.hid hCP
      have HDG := Lib.hid (fun W => dig_any N (expS C) W hNz (Nat.le_trans (expN_le _) (by omega)))
      rw [hNd] at HDG
      have HC := Lib.hid (fun W => clone_any C W hCle)
      have hex : expN C.data.toList = expS C := rfl
      rw [hex] at hpd hpo
      have hb' := fun d (h : digsOf (numOf s.data.toList) (expS C) = some d) => (body_digs h).2.1
      generalize expS C = EX at *
      have HW := Lib.hid hw
      cases hdg : digsOf (numOf s.data.toList) EX with
      | none =>
        have HF := Lib.hid (hpd hdg)
        rw [hdg] at HDG
        clear hps hpc hpd hpo htn hCd hSd hCz hSz hcu hdot hne hsl e1 e2 hp hex hCP hN hNd hneg hw hdg hb'
        go_enter Tryd.func18, Tryd.ntmps18
        go_wp2_with fail
        refine (HE.out _ (HW.out.below ((Below.refl _ _).alloc (Nat.le_refl _) _))).mono ?_
        rintro e w1 ⟨rfl, hb⟩
        obtain ⟨k1, hz, hb1⟩ := box1 hb
        have d0 := cell_c k1 0
        have d1 := cell_c k1 1
        have f0 := cell_f k1 0
        have f1 := cell_f k1 1
        have HB1 := Lib.hid hb1
        clear hb k1 hb1
        go_wp2_with fail
        refine (HCP.out _).mono ?_
        rintro e w2 ⟨rfl, rfl⟩
        go_wp2_with fail
        refine (HDG.out _).mono ?_
        rintro e w3 ⟨rfl, nd, rfl⟩
        have HBd := Lib.hid (dNb HB1.out nd)
        unfold digV
        go_wp2_with fail
        refine bodyPost_ret (v := .tuple #[zeroM, .int .i64 2]) ?_ rfl ?_
        · have hres : Tryd.f18.results = #[.cell 2 23, .tmp 3] := by kernel_rfl
          simp only [results, hres]
          go_simp
          rfl
        · exact ⟨by rw [HF.out]; rfl, (HBd.out.setCell (p := ⟨w.heap.size, 0, none⟩) (by simp) _).setCell (p := ⟨w.heap.size, 1, none⟩) (by simp) _⟩
      | some d =>
        have hpo := hpo d hdg
        have hda := hb' d hdg
        rw [hdg] at HDG
        obtain ⟨D, hD⟩ : ∃ D, (⟨d.toArray⟩ : ByteArray) = D := ⟨_, rfl⟩
        have hDd : D.data.toList = d := by rw [← hD]
        have HDV : Hid (digV (some d) = .tuple #[.string D, .bool true]) := by rw [← hD]; rfl
        have hDz : d.length = D.size := by rw [← hDd]; simp
        have HDA : Hid (∀ j, (h : j < D.size) → 48 ≤ (D[j]).toNat ∧ (D[j]).toNat ≤ 57) := fun j h => by
          have hm : D[j] ∈ d := by rw [← hDd]; exact Array.getElem_mem_toList h
          have := List.all_eq_true.1 hda _ hm
          unfold digB at this
          rw [Bool.and_eq_true, decide_eq_true_eq, decide_eq_true_eq] at this
          exact this
        have HST : Hid (∀ j, (h : j < D.size) → numM d (j + 1) = min (10 * numM d j + ((D[j]).toNat - 48)) 4503599627370497) := fun j h => by
          have := numM_succ (d := d) (k := j) (by omega)
          rw [this]
          have e : d[j]'(by omega) = D[j] := by
            have e1 : d[j]? = D.data.toList[j]? := by rw [hDd]
            rw [bytesOf_at h, List.getElem?_eq_getElem (by omega)] at e1
            exact Option.some.inj e1
          rw [e]
        have hDz6 : D.size ≤ 1000000 := by
          have hl := digs_len hdg
          rw [← hNd] at hl
          have hn1 : N.data.toList.length = N.size := by simp
          omega
        have hPD := parD_form s.data.toList d
        rw [hsl, e1, hSd, e2, hCd] at hPD
        rw [hPD] at hpo
        have hif : (S.data.toList.head? = some 45) = (neg = true) := by rw [← hneg, decide_eq_true_eq]
        simp only [hif] at hpo
        have hmend : min (valD d) 4503599627370497 = numM d D.size := by unfold numM; rw [← hDz, List.take_length]
        rw [hmend] at hpo
        have hmle : ∀ j, numM d j ≤ 4503599627370497 := fun j => Nat.min_le_right _ _
        have hm0 : numM d 0 = 0 := rfl
        have HPO := Lib.hid hpo
        have HML := Lib.hid hmle
        have HM0 := Lib.hid hm0
        clear hps hpc hpd hpo htn hCd hSd hCz hSz hcu hdot hne hsl e1 e2 hp hex hCP hN hNd hneg hw hdg hb' hif hPD hmend hmle hm0 hD hDd hDz hda
        cases neg
        · have hPO := HPO.out
          rw [if_neg (by simp)] at hPO
          have HPO := Lib.hid hPO
          clear hPO
          go_enter Tryd.func18, Tryd.ntmps18
          go_wp2_with fail
          refine (HE.out _ (HW.out.below ((Below.refl _ _).alloc (Nat.le_refl _) _))).mono ?_
          rintro e w1 ⟨rfl, hb⟩
          obtain ⟨k1, hz, hb1⟩ := box1 hb
          have HK1 := Lib.hid k1
          have HB1 := Lib.hid hb1
          clear hb k1 hb1
          go_wp2_with fail
          refine (HCP.out _).mono ?_
          rintro e w2 ⟨rfl, rfl⟩
          go_wp2_with fail
          refine (HDG.out _).mono ?_
          rintro e w3 ⟨rfl, nd, rfl⟩
          rw [HDV.out]
          have HBd := Lib.hid (dNb HB1.out nd)
          have k1' : (w2.drewN nd).heap[w.heap.size]? = some (.cells #[.int .i64 0, .string ⟨#[]⟩] 23) := HK1.out
          have hz' : w.heap.size < (w2.drewN nd).heap.size := hz
          have HK2 := Lib.hid k1'
          clear k1' hz
          generalize w2.drewN nd = w3 at *
          go_wp2_with fail
          go_loop [11, 58, 12] (fun vn vi _ => ∃ k : Nat, k ≤ D.size ∧ vi = .int .i64 k ∧ ∃ m : Nat, vn = .int .i64 m ∧ m ≤ 4503599627370497 ∧ Hid (numM d k = m)) (fun _ vi _ => D.size - (intOf vi).toNat)
          case atStart => exact ⟨0, Nat.zero_le _, rfl, 0, rfl, by omega, HM0⟩
          case round =>
            obtain ⟨k, hk, rfl, m, rfl, hm, HM⟩ := hrel
            by_cases hlt : k < D.size
            · have hda := HDA.out k hlt
              have hst := HST.out k hlt
              rw [HM.out] at hst
              obtain ⟨c, hc⟩ : ∃ c, (D[k]).toNat = c := ⟨_, rfl⟩
              rw [hc] at hda hst
              obtain ⟨x, rfl⟩ : ∃ x, c = x + 48 := ⟨c - 48, by omega⟩
              rw [show x + 48 - 48 = x by omega] at hst
              have ex : IntKind.u8.wrap (((x + 48 : Nat) : Int) - 48) = (x : Int) := by simp [IntKind.wrap, IntKind.bits, IntKind.signed]; omega
              have hx9 : x ≤ 9 := by omega
              have hci : ((D[k]).toNat : Int) = ((x + 48 : Nat) : Int) := by rw [hc]
              clear hc hda
              by_cases hbig : 10 * m + x ≤ 4503599627370497
              · have HN : Hid (numM d (k + 1) = 10 * m + x) := by show _ = _; rw [hst]; omega
                have hbi : 10 * (m : Int) + (x : Int) ≤ 4503599627370497 := by omega
                clear hst
                go_wp2_with fail
                go_round
                case rel => exact ⟨k + 1, by omega, by go_num, 10 * m + x, by go_num, hbig, HN⟩
                case measure => simp [intOf]; omega
              · have HN : Hid (numM d (k + 1) = 4503599627370497) := by show _ = _; rw [hst]; omega
                have hbi : ¬ 10 * (m : Int) + (x : Int) ≤ 4503599627370497 := by omega
                clear hst
                go_wp2_with fail
                go_round
                case rel => exact ⟨k + 1, by omega, by go_num, 4503599627370497, by go_num, by omega, HN⟩
                case measure => simp [intOf]; omega
            · obtain rfl : k = D.size := by omega
              have HTO := Lib.hid (fun W => tot_any (m : Int) C W)
              have HFV := Lib.hid (tot_par (m : Int) C)
              have HPF : Hid (parR s.data.toList = totL (m : Int) C.data.toList) := by
                show _ = _
                rw [HPO.out, HM.out]
              clear HPO
              cases hi : inT (m : Int)
              · have et : totE (m : Int) = 4 ∧ totV (m : Int) C = zeroM := by unfold totE totV; rw [hi]; exact ⟨rfl, rfl⟩
                rw [et.1, et.2] at HTO HFV
                clear et hi
                unfold zeroM at HTO
                go_wp2_with fail
                refine (HC.out _).mono ?_
                rintro e w4 ⟨rfl, hb⟩
                have HK3 := Lib.hid (blk_later HK2.out hb)
                have hz4 : w.heap.size < w4.heap.size := Nat.lt_of_lt_of_le hz' hb.size
                have HB4 := Lib.hid (HBd.out.trans (hb.mono HBd.out.size))
                clear hb
                go_wp2_with fail
                refine (HTO.out _).mono ?_
                rintro e w5 ⟨rfl, hb⟩
                have k5 := blk_later HK3.out hb
                have hz5 : w.heap.size < w5.heap.size := Nat.lt_of_lt_of_le hz4 hb.size
                have d0 := cell_c k5 0
                have d1 := cell_c k5 1
                have f0 := cell_f k5 0
                have f1 := cell_f k5 1
                have HB5 := Lib.hid (HB4.out.trans (hb.mono HB4.out.size))
                clear hb k5
                go_wp2_with fail
                refine bodyPost_ret (v := .tuple #[zeroM, .int .i64 4]) ?_ rfl ?_
                · have hres : Tryd.f18.results = #[.cell 2 23, .tmp 3] := by kernel_rfl
                  simp only [results, hres]
                  go_simp
                  rfl
                · exact ⟨by rw [HPF.out, ← HFV.out], (HB5.out.setCell (p := ⟨w.heap.size, 0, none⟩) (by simp) _).setCell (p := ⟨w.heap.size, 1, none⟩) (by simp) _⟩
              · have et : totE (m : Int) = 0 ∧ totV (m : Int) C = monV (m : Int) C := by unfold totE totV; rw [hi]; exact ⟨rfl, rfl⟩
                rw [et.1, et.2] at HTO HFV
                clear et hi
                unfold monV at HTO
                go_wp2_with fail
                refine (HC.out _).mono ?_
                rintro e w4 ⟨rfl, hb⟩
                have HK3 := Lib.hid (blk_later HK2.out hb)
                have hz4 : w.heap.size < w4.heap.size := Nat.lt_of_lt_of_le hz' hb.size
                have HB4 := Lib.hid (HBd.out.trans (hb.mono HBd.out.size))
                clear hb
                go_wp2_with fail
                refine (HTO.out _).mono ?_
                rintro e w5 ⟨rfl, hb⟩
                have k5 := blk_later HK3.out hb
                have hz5 : w.heap.size < w5.heap.size := Nat.lt_of_lt_of_le hz4 hb.size
                have d0 := cell_c k5 0
                have d1 := cell_c k5 1
                have f0 := cell_f k5 0
                have f1 := cell_f k5 1
                have HB5 := Lib.hid (HB4.out.trans (hb.mono HB4.out.size))
                clear hb k5
                go_wp2_with fail
                refine bodyPost_ret (v := .tuple #[monV (m : Int) C, .int .i64 0]) ?_ rfl ?_
                · have hres : Tryd.f18.results = #[.cell 2 23, .tmp 3] := by kernel_rfl
                  simp only [results, hres]
                  go_simp
                  rfl
                · exact ⟨by rw [HPF.out, ← HFV.out], (HB5.out.setCell (p := ⟨w.heap.size, 0, none⟩) (by simp) _).setCell (p := ⟨w.heap.size, 1, none⟩) (by simp) _⟩
        · have hPO := HPO.out
          rw [if_pos rfl] at hPO
          have HPO := Lib.hid hPO
          clear hPO
          go_enter Tryd.func18, Tryd.ntmps18
          go_wp2_with fail
          refine (HE.out _ (HW.out.below ((Below.refl _ _).alloc (Nat.le_refl _) _))).mono ?_
          rintro e w1 ⟨rfl, hb⟩
          obtain ⟨k1, hz, hb1⟩ := box1 hb
          have HK1 := Lib.hid k1
          have HB1 := Lib.hid hb1
          clear hb k1 hb1
          go_wp2_with fail
          refine (HCP.out _).mono ?_
          rintro e w2 ⟨rfl, rfl⟩
          go_wp2_with fail
          refine (HDG.out _).mono ?_
          rintro e w3 ⟨rfl, nd, rfl⟩
          rw [HDV.out]
          have HBd := Lib.hid (dNb HB1.out nd)
          have k1' : (w2.drewN nd).heap[w.heap.size]? = some (.cells #[.int .i64 0, .string ⟨#[]⟩] 23) := HK1.out
          have hz' : w.heap.size < (w2.drewN nd).heap.size := hz
          have HK2 := Lib.hid k1'
          clear k1' hz
          generalize w2.drewN nd = w3 at *
          go_wp2_with fail
          go_loop [11, 58, 12] (fun vn vi _ => ∃ k : Nat, k ≤ D.size ∧ vi = .int .i64 k ∧ ∃ m : Nat, vn = .int .i64 m ∧ m ≤ 4503599627370497 ∧ Hid (numM d k = m)) (fun _ vi _ => D.size - (intOf vi).toNat)
          case atStart => exact ⟨0, Nat.zero_le _, rfl, 0, rfl, by omega, HM0⟩
          case round =>
            obtain ⟨k, hk, rfl, m, rfl, hm, HM⟩ := hrel
            by_cases hlt : k < D.size
            · have hda := HDA.out k hlt
              have hst := HST.out k hlt
              rw [HM.out] at hst
              obtain ⟨c, hc⟩ : ∃ c, (D[k]).toNat = c := ⟨_, rfl⟩
              rw [hc] at hda hst
              obtain ⟨x, rfl⟩ : ∃ x, c = x + 48 := ⟨c - 48, by omega⟩
              rw [show x + 48 - 48 = x by omega] at hst
              have ex : IntKind.u8.wrap (((x + 48 : Nat) : Int) - 48) = (x : Int) := by simp [IntKind.wrap, IntKind.bits, IntKind.signed]; omega
              have hx9 : x ≤ 9 := by omega
              have hci : ((D[k]).toNat : Int) = ((x + 48 : Nat) : Int) := by rw [hc]
              clear hc hda
              by_cases hbig : 10 * m + x ≤ 4503599627370497
              · have HN : Hid (numM d (k + 1) = 10 * m + x) := by show _ = _; rw [hst]; omega
                have hbi : 10 * (m : Int) + (x : Int) ≤ 4503599627370497 := by omega
                clear hst
                go_wp2_with fail
                go_round
                case rel => exact ⟨k + 1, by omega, by go_num, 10 * m + x, by go_num, hbig, HN⟩
                case measure => simp [intOf]; omega
              · have HN : Hid (numM d (k + 1) = 4503599627370497) := by show _ = _; rw [hst]; omega
                have hbi : ¬ 10 * (m : Int) + (x : Int) ≤ 4503599627370497 := by omega
                clear hst
                go_wp2_with fail
                go_round
                case rel => exact ⟨k + 1, by omega, by go_num, 4503599627370497, by go_num, by omega, HN⟩
                case measure => simp [intOf]; omega
            · obtain rfl : k = D.size := by omega
              by_cases hm0 : m = 0
              · subst hm0
                have HF : Hid (parR s.data.toList = (0, [], 2)) := by show _ = _; rw [HPO.out, HM.out]; rfl
                have k5 := HK2.out
                have d0 := cell_c k5 0
                have d1 := cell_c k5 1
                have f0 := cell_f k5 0
                have f1 := cell_f k5 1
                clear k5
                go_wp2_with fail
                refine bodyPost_ret (v := .tuple #[zeroM, .int .i64 2]) ?_ rfl ?_
                · have hres : Tryd.f18.results = #[.cell 2 23, .tmp 3] := by kernel_rfl
                  simp only [results, hres]
                  go_simp
                  rfl
                · exact ⟨by rw [HF.out]; rfl, (HBd.out.setCell (p := ⟨w.heap.size, 0, none⟩) (by simp) _).setCell (p := ⟨w.heap.size, 1, none⟩) (by simp) _⟩
              · have hmz : ((m : Int) == 0) = false := beq_eq_false_iff_ne.2 (by omega)
                have en : IntKind.i64.wrap (-(m : Int)) = -(m : Int) := IntWalk.i64_in _ (by omega)
                have HTO := Lib.hid (fun W => tot_any (-(m : Int)) C W)
                have HFV := Lib.hid (tot_par (-(m : Int)) C)
                have HPF : Hid (parR s.data.toList = totL (-(m : Int)) C.data.toList) := by
                  show _ = _
                  rw [HPO.out, HM.out, if_neg hm0, if_pos trivial]
                clear HPO hm0
                cases hi : inT (-(m : Int))
                · have et : totE (-(m : Int)) = 4 ∧ totV (-(m : Int)) C = zeroM := by unfold totE totV; rw [hi]; exact ⟨rfl, rfl⟩
                  rw [et.1, et.2] at HTO HFV
                  clear et hi
                  unfold zeroM at HTO
                  go_wp2_with fail
                  refine (HC.out _).mono ?_
                  rintro e w4 ⟨rfl, hb⟩
                  have HK3 := Lib.hid (blk_later HK2.out hb)
                  have hz4 : w.heap.size < w4.heap.size := Nat.lt_of_lt_of_le hz' hb.size
                  have HB4 := Lib.hid (HBd.out.trans (hb.mono HBd.out.size))
                  clear hb
                  go_wp2_with fail
                  refine (HTO.out _).mono ?_
                  rintro e w5 ⟨rfl, hb⟩
                  have k5 := blk_later HK3.out hb
                  have hz5 : w.heap.size < w5.heap.size := Nat.lt_of_lt_of_le hz4 hb.size
                  have d0 := cell_c k5 0
                  have d1 := cell_c k5 1
                  have f0 := cell_f k5 0
                  have f1 := cell_f k5 1
                  have HB5 := Lib.hid (HB4.out.trans (hb.mono HB4.out.size))
                  clear hb k5
                  go_wp2_with fail
                  refine bodyPost_ret (v := .tuple #[zeroM, .int .i64 4]) ?_ rfl ?_
                  · have hres : Tryd.f18.results = #[.cell 2 23, .tmp 3] := by kernel_rfl
                    simp only [results, hres]
                    go_simp
                    rfl
                  · exact ⟨by rw [HPF.out, ← HFV.out], (HB5.out.setCell (p := ⟨w.heap.size, 0, none⟩) (by simp) _).setCell (p := ⟨w.heap.size, 1, none⟩) (by simp) _⟩
                · have et : totE (-(m : Int)) = 0 ∧ totV (-(m : Int)) C = monV (-(m : Int)) C := by unfold totE totV; rw [hi]; exact ⟨rfl, rfl⟩
                  rw [et.1, et.2] at HTO HFV
                  clear et hi
                  unfold monV at HTO
                  go_wp2_with fail
                  refine (HC.out _).mono ?_
                  rintro e w4 ⟨rfl, hb⟩
                  have HK3 := Lib.hid (blk_later HK2.out hb)
                  have hz4 : w.heap.size < w4.heap.size := Nat.lt_of_lt_of_le hz' hb.size
                  have HB4 := Lib.hid (HBd.out.trans (hb.mono HBd.out.size))
                  clear hb
                  go_wp2_with fail
                  refine (HTO.out _).mono ?_
                  rintro e w5 ⟨rfl, hb⟩
                  have k5 := blk_later HK3.out hb
                  have hz5 : w.heap.size < w5.heap.size := Nat.lt_of_lt_of_le hz4 hb.size
                  have d0 := cell_c k5 0
                  have d1 := cell_c k5 1
                  have f0 := cell_f k5 0
                  have f1 := cell_f k5 1
                  have HB5 := Lib.hid (HB4.out.trans (hb.mono HB4.out.size))
                  clear hb k5
                  go_wp2_with fail
                  refine bodyPost_ret (v := .tuple #[monV (-(m : Int)) C, .int .i64 0]) ?_ rfl ?_
                  · have hres : Tryd.f18.results = #[.cell 2 23, .tmp 3] := by kernel_rfl
                    simp only [results, hres]
                    go_simp
                    rfl
                  · exact ⟨by rw [HPF.out, ← HFV.out], (HB5.out.setCell (p := ⟨w.heap.size, 0, none⟩) (by simp) _).setCell (p := ⟨w.heap.size, 1, none⟩) (by simp) _⟩
  · have HF := Lib.hid (hps (by simpa using hdot))
    have hdot' : (((s[p]'hpz).toNat : Int) != 32) = true := by
      rw [bne_iff_ne]; intro q; apply hdot; apply UInt8.toNat_inj.1; show _ = 32; omega
    clear hps hpc hpd hpo htn hdot hne hsl e1 e2 hp
    go_enter Tryd.func18, Tryd.ntmps18
    go_wp2_with fail
    refine bodyPost_ret (v := .tuple #[zeroM, .int .i64 2]) ?_ rfl ?_
    · have hres : Tryd.f18.results = #[.cell 2 23, .tmp 3] := by kernel_rfl
      simp only [results, hres]
      go_simp
      rfl
    · exact ⟨by rw [HF.out]; rfl, (Below.refl _ _).alloc (Nat.le_refl _) _⟩
theorem par_any (s : ByteArray) (w : World) (hw : DecW w) (hs : s.size ≤ 1000000) : Calls Tryd.prog 18 #[.string s] w (ParPost s.data.toList w) := by
  by_cases h : s.size < 4
  · exact par_low s w h
  · exact par_big s w hw (by omega) hs
end Go.Proofs.YtadehobimlpmcaaDoor
