/- Decode inverts Encode, and Encode inverts Decode: the two laws. No walk. -/
import Derived.Test.YthflmdgfenojcaaGreatDoorPrt
namespace Go.Proofs.YthflmdgfenojcaaGreatDoor
set_option linter.unusedVariables false
open Go.RowKit

theorem prt_get {l : List ByteArray} {j : Nat} (h : j < l.length) : prt l j = l[j] := by
  unfold prt; rw [List.getD_eq_getElem?_getD, List.getElem?_eq_getElem h]; rfl
theorem count_lf (s : ByteArray) : Lib.countB s lfS = s.data.toList.count 10 := Lib.count_one 10 s.data.toList
/-- The lines of an encoded file, each at its place. -/
structure LinesOf (b : Bat) (s : ByteArray) : Prop where
  n : nLn s = b.rs.length + 3
  hd : lnAt s 0 = hdrB b
  rc : ∀ k, k < b.rs.length → rcL s k = recB (rcAt b.rs k)
  tr : lnAt s (nLn s - 2) = trlB b
  ck : ckL s = chkBL b
theorem LinesOf.of {b : Bat} {s : ByteArray} (h : lnS (bodyOf s) = linesB b) : LinesOf b s := by
  have hn : nLn s = b.rs.length + 3 := by unfold nLn; rw [h]; unfold linesB; simp
  have hat : ∀ k, lnAt s k = prt (linesB b) k := fun k => by unfold lnAt; rw [h]
  have hlen : (b.rs.map recB).length = b.rs.length := List.length_map _
  refine ⟨hn, ?_, ?_, ?_, ?_⟩
  · rw [hat]; rfl
  · intro k hk
    unfold rcL
    rw [hat, prt_get (by unfold linesB; simp; omega)]
    unfold linesB
    have e : 1 + k = k + 1 := by omega
    simp only [e, List.getElem_cons_succ]
    rw [List.getElem_append_left (by rw [hlen]; exact hk), List.getElem_map, rcAt_get _ _ hk]
  · rw [hat, hn, prt_get (by unfold linesB; simp)]
    unfold linesB
    have e : b.rs.length + 3 - 2 = b.rs.length + 1 := by omega
    simp only [e, List.getElem_cons_succ]
    rw [List.getElem_append_right (by rw [hlen]; exact Nat.le_refl _)]
    simp
  · unfold ckL
    rw [hat, hn, prt_get (by unfold linesB; simp)]
    unfold linesB
    have e : b.rs.length + 3 - 1 = (b.rs.length + 1) + 1 := by omega
    simp only [e, List.getElem_cons_succ]
    rw [List.getElem_append_right (by rw [hlen]; omega)]
    simp
theorem enc_data {b : Bat} (h : chkB b = 0) : (encB b).data.toList = textL b := by unfold encB; rw [if_pos h]
theorem enc_lines {b : Bat} (h : chkB b = 0) : LinesOf b (encB b) :=
  LinesOf.of (lns_of (by rw [enc_data h, join_lines]; rfl) (lines_lf h))
theorem bar4 {b : Bat} (h : headE b.id b.sd b.dt = 0) : cutS (hdrB b) = [hB, b.id, b.sd, itoS b.dt] := by
  obtain ⟨i1, i2, i3, i4⟩ := headE_zero h
  refine cut_lineB (fun y hy => ?_)
  simp only [List.mem_cons, List.not_mem_nil, or_false] at hy
  rcases hy with rfl | rfl | rfl | rfl
  · decide
  · exact idn_no i1
  · exact name_bar i2
  · exact itoS_bar _
theorem bar5 (b : Bat) : cutS (trlB b) = [tB, itoS b.rs.length, itoS (debS b.rs b.rs.length), itoS (creS b.rs b.rs.length), itoS (C7.totB (cardsOf b.rs))] := by
  refine cut_lineB (fun y hy => ?_)
  simp only [List.mem_cons, List.not_mem_nil, or_false] at hy
  rcases hy with rfl | rfl | rfl | rfl | rfl
  · decide
  · exact itoS_bar _
  · exact itoS_bar _
  · exact itoS_bar _
  · exact itoS_bar _
theorem chkBL_data (b : Bat) : (chkBL b).data.toList = [67, 124] ++ text8 (C7.crcOf (bodyL b)) := by
  unfold chkBL
  rw [lineB_data]
  simp only [List.map_cons, List.map_nil, join_cons2, join_one]; rfl
theorem deb_lt {b : Bat} (h : b.rs.length ≤ 200) : 0 ≤ debS b.rs b.rs.length ∧ debS b.rs b.rs.length ≤ 200000000000000 ∧ 0 ≤ creS b.rs b.rs.length ∧ creS b.rs b.rs.length ≤ 200000000000000 := by
  have h1 := debS_bd b.rs b.rs.length (Nat.le_refl _)
  have h2 := creS_bd b.rs b.rs.length (Nat.le_refl _)
  omega
theorem rdK_enc {b : Bat} {s : ByteArray} (h : chkB b = 0) (hl : LinesOf b s) (hsd : hdP s 2 = b.sd) : ∀ k, k ≤ b.rs.length → rdK s k = ⟨b.rs.take k, []⟩
  | 0, _ => rfl
  | k + 1, hk => by
    obtain ⟨h1, h2, h3⟩ := chkB_zero h
    obtain ⟨z1, z2, z3⟩ := ptL_zero (h3 k (by omega))
    have ih := rdK_enc h hl hsd k (by omega)
    obtain ⟨d1, d2⟩ := dec_enc z1
    unfold rdK
    rw [ih, hl.rc k (by omega), hsd]
    unfold rdStep ptD
    simp only [txt_recB, d1, d2]
    rw [if_pos (by rw [if_neg (by simp), if_neg (by simp [z2]), if_neg z3]), List.take_succ_eq_append_getElem (by omega), rcAt_get _ _ (by omega)]
theorem Rec_ext {x r : Rec} : True := trivial
/-- A valid file is decoded from its text, without rejects. -/
theorem dec_of_enc {b : Bat} (h : chkB b = 0) : fileE (encB b) = 0 ∧ fileV (encB b) = b ∧ fileB (encB b) = [] := by
  obtain ⟨h1, h2, h3⟩ := chkB_zero h
  obtain ⟨i1, i2, i3, i4⟩ := headE_zero h1
  have hl := enc_lines h
  have hdt := enc_data h
  generalize encB b = s at hl hdt
  have hq4 := bar4 h1
  have hq5 := bar5 b
  have hp : ∀ j, hdP s j = prt [hB, b.id, b.sd, itoS b.dt] j := fun j => by unfold hdP; rw [hl.hd, hq4]
  have ht : ∀ j, trP s j = prt [tB, itoS b.rs.length, itoS (debS b.rs b.rs.length), itoS (creS b.rs b.rs.length), itoS (C7.totB (cardsOf b.rs))] j := fun j => by unfold trP; rw [hl.tr, hq5]
  have nd := numV_ito (v := b.dt) (by omega)
  have hbd := deb_lt h2
  have htb := C7.totB_lt (cardsOf b.rs)
  have n1 := numV_ito (v := (b.rs.length : Int)) (by omega)
  have n2 := numV_ito (v := debS b.rs b.rs.length) (by omega)
  have n3 := numV_ito (v := creS b.rs b.rs.length) (by omega)
  have n4 := numV_ito (v := (C7.totB (cardsOf b.rs) : Int)) (by omega)
  have hnr : nRc s = b.rs.length := by unfold nRc; rw [hl.n]; omega
  have hsx : Lib.hasSuffix s.data.toList [10] = true := by
    unfold Lib.hasSuffix
    rw [List.isSuffixOf_iff_suffix, hdt]
    exact ⟨bodyL b ++ (chkBL b).data.toList, by unfold textL; rw [List.append_assoc]; rfl⟩
  have hcov : (cov s).data.toList = bodyL b := by
    have hc := cov_form hsx
    rw [hdt, hl.ck] at hc
    have e : textL b = bodyL b ++ ((chkBL b).data.toList ++ [10]) := rfl
    rw [e] at hc
    exact (List.append_cancel_right hc).symm
  have hckd : ckD s = crcS (bodyL b) := by
    apply ba_ext
    unfold ckD
    rw [Lib.extract_to_end, hl.ck, chkBL_data]; rfl
  have hform : FormF s := by
    refine ⟨⟨by rw [hl.hd, hq4]; rfl, by rw [hp]; rfl, by rw [hp]; exact nd.2⟩, ⟨?_, ?_⟩, ⟨by rw [hl.tr, hq5]; rfl, by rw [ht]; rfl, ?_⟩, ?_⟩
    · unfold Lib.hasPrefix
      rw [List.isPrefixOf_iff_prefix, hl.ck, chkBL_data]
      exact ⟨_, rfl⟩
    · rw [hckd]
      unfold isCk
      rw [Bool.and_eq_true, decide_eq_true_eq]
      refine ⟨?_, pad_low _ _⟩
      show (text8 _).toArray.size = 8
      rw [List.size_toArray, text8_len]
    · intro j hj
      match j, hj with
      | 0, _ => rw [ht]; exact n1.2
      | 1, _ => rw [ht]; exact n2.2
      | 2, _ => rw [ht]; exact n3.2
      | 3, _ => rw [ht]; exact n4.2
    · intro k hk
      rw [hl.rc k (by omega)]
      unfold Lib.hasPrefix
      rw [List.isPrefixOf_iff_prefix, recB_data]
      exact ⟨_, rfl⟩
  have hcount : ¬ Lib.countB s lfS < 3 := by
    obtain ⟨q1, q2⟩ := suffix_form hsx
    have q3 := lnS_len (bodyOf s)
    have q4 := hl.n
    unfold nLn at q4
    rw [count_lf] at q3
    rw [count_lf, q1, List.count_append]
    have : ([10] : List UInt8).count 10 = 1 := rfl
    omega
  have hcl : (clmL s).length = b.rs.length := by unfold clmL recLs; simp [hnr]
  have hat : ∀ j, j < b.rs.length → rcAt (clmL s) j = clm (recB (rcAt b.rs j)) := fun j hj => by
    rw [rcAt_get _ _ (by omega)]
    unfold clmL recLs
    simp only [List.getElem_map, List.getElem_range]
    rw [hl.rc j hj]
  have hfl : ∀ j, j < b.rs.length → (clm (recB (rcAt b.rs j))).k = (rcAt b.rs j).k ∧ (clm (recB (rcAt b.rs j))).a = (rcAt b.rs j).a ∧ (clm (recB (rcAt b.rs j))).ca = (rcAt b.rs j).ca := fun j hj => by
    have z := (ptL_zero (h3 j hj)).1
    obtain ⟨f1, f2, f3, f4, _⟩ := Fit.ints _ z
    exact clm_fields (cut_recB z) (by omega) (by omega)
  have hds := debS_congr (l := clmL s) (m := b.rs) hcl (fun j hj => by
    have hj' : j < b.rs.length := by omega
    rw [hat j hj']; exact deb_clm (hfl j hj').1 (hfl j hj').2.1) b.rs.length (by omega)
  have hcd : cardsOf (clmL s) = cardsOf b.rs := by
    unfold cardsOf
    apply List.ext_getElem
    · simp [hcl]
    · intro j u1 u2
      rw [List.length_map] at u1 u2
      rw [List.getElem_map, List.getElem_map, ← rcAt_get _ _ u1, ← rcAt_get _ _ u2, hat j u2]
      exact (hfl j u2).2.2
  have htot : TotF s := by
    refine ⟨?_, ?_, ?_, ?_⟩
    · rw [ht, hnr]; exact n1.1
    · rw [ht, hnr, hds.1]; exact n2.1
    · rw [ht, hnr, hds.2]; exact n3.1
    · rw [ht, hcd]; exact n4.1
  have hsd : hdP s 2 = b.sd := by rw [hp]; rfl
  have hE : fileE s = 0 := by
    have hv : divE s = 0 := by unfold divE; rw [if_neg hcount, if_pos ⟨hsx, hform⟩]
    unfold fileE
    rw [if_neg (by simp [hv])]
    unfold exaE
    rw [if_neg (by rw [hckd, hcov]; simp), if_neg (by simp [htot]), if_neg (by omega), hsd]
    have e1 : hdP s 1 = b.id := by rw [hp]; rfl
    have e3 : hdP s 3 = itoS b.dt := by rw [hp]; rfl
    rw [e1, e3, nd.1]; exact h1
  have hR := rdK_enc h hl hsd b.rs.length (Nat.le_refl _)
  refine ⟨hE, ?_, ?_⟩
  · unfold fileV
    rw [if_pos hE, hnr, hR, List.take_length, hsd]
    have e1 : hdP s 1 = b.id := by rw [hp]; rfl
    have e3 : hdP s 3 = itoS b.dt := by rw [hp]; rfl
    rw [e1, e3, nd.1]
  · unfold fileB
    rw [if_pos hE, hnr, hR]
/-! ### what is decoded -/
theorem rcAt_app (l : List Rec) (r : Rec) (j : Nat) (h : j < l.length) : rcAt (l ++ [r]) j = rcAt l j := by
  rw [rcAt_get _ _ (by simp; omega), rcAt_get _ _ h, List.getElem_append_left h]
theorem rcAt_end (l : List Rec) (r : Rec) : rcAt (l ++ [r]) l.length = r := by
  rw [rcAt_get _ _ (by simp), List.getElem_append_right (Nat.le_refl _)]; simp
theorem ptD_zero {sd : ByteArray} {rs : List Rec} {x : ByteArray} (h : ptD sd rs x = 0) : decE (txtOf x) = 0 ∧ (decV (txtOf x)).aq = sd ∧ ¬ (decV (txtOf x)).id ∈ idsOf rs := by
  unfold ptD at h
  split at h
  · rename_i q; exact absurd h q
  · rename_i q
    split at h
    · cases h
    · rename_i q2
      split at h
      · cases h
      · rename_i q3
        exact ⟨by omega, Decidable.not_not.1 q2, q3⟩
theorem rd_good (s : ByteArray) : ∀ k, (rdK s k).rs.length ≤ k ∧ ∀ j, j < (rdK s k).rs.length → ptL (hdP s 2) (rdK s k).rs j = 0
  | 0 => ⟨Nat.le_refl _, fun j hj => absurd hj (Nat.not_lt_zero _)⟩
  | k + 1 => by
    obtain ⟨ih1, ih2⟩ := rd_good s k
    unfold rdK rdStep
    split
    · rename_i q
      obtain ⟨z1, z2, z3⟩ := ptD_zero q
      refine ⟨by simp; omega, fun j hj => ?_⟩
      simp only [List.length_append, List.length_singleton] at hj
      rcases Nat.lt_or_ge j (rdK s k).rs.length with c | c
      · have := ptL_zero (ih2 j c)
        refine ptL_ok ?_ ?_ ?_
        · rw [rcAt_app _ _ _ c]; exact this.1
        · rw [rcAt_app _ _ _ c]; exact this.2.1
        · rw [rcAt_app _ _ _ c, List.take_append_of_le_length (by omega)]; exact this.2.2
      · obtain rfl : j = (rdK s k).rs.length := by omega
        refine ptL_ok ?_ ?_ ?_
        · rw [rcAt_end]; exact (enc_dec z1).1
        · rw [rcAt_end]; exact z2
        · rw [rcAt_end, List.take_left]; exact z3
    · exact ⟨by show (rdK s k).rs.length ≤ k + 1; omega, ih2⟩
theorem fileV_ok {s : ByteArray} (h : fileE s = 0) : fileV s = ⟨hdP s 1, hdP s 2, numV (hdP s 3), (rdK s (nRc s)).rs⟩ := by unfold fileV; rw [if_pos h]
theorem chkB_mk {id sd : ByteArray} {dt : Int} {rs : List Rec} (h : headE id sd dt = 0) (h2 : rs.length ≤ 200) (h3 : ∀ k, k < rs.length → ptL sd rs k = 0) : chkB ⟨id, sd, dt, rs⟩ = 0 := chkB_ok (b := ⟨id, sd, dt, rs⟩) h h2 h3
theorem hdrB_mk (id sd : ByteArray) (dt : Int) (rs : List Rec) : hdrB ⟨id, sd, dt, rs⟩ = lineB [hB, id, sd, itoS dt] := rfl
theorem dec_good {s : ByteArray} (h : fileE s = 0) : chkB (fileV s) = 0 := by
  have hn := (file_zero h).2.2.2.2.1
  have hh := (file_zero h).2.2.2.2.2.1
  have hg := rd_good s (nRc s)
  rw [fileV_ok h]
  exact chkB_mk hh (Nat.le_trans hg.1 hn) hg.2
theorem rdStep_ok {sd x : ByteArray} {st : RdS} {i : Nat} (h : ptD sd st.rs x = 0) : rdStep sd st i x = ⟨st.rs ++ [decV (txtOf x)], st.bad⟩ := by unfold rdStep; rw [if_pos h]
theorem rdStep_no {sd x : ByteArray} {st : RdS} {i : Nat} (h : ¬ ptD sd st.rs x = 0) : rdStep sd st i x = ⟨st.rs, st.bad ++ [(i, lnId x, ptD sd st.rs x)]⟩ := by unfold rdStep; rw [if_neg h]
theorem rdK_succ (s : ByteArray) (k : Nat) : rdK s (k + 1) = rdStep (hdP s 2) (rdK s k) k (rcL s k) := rfl
theorem rd_bad1 (s : ByteArray) (n : Nat) (h : (rdK s (n + 1)).bad = []) : (rdK s n).bad = [] ∧ ptD (hdP s 2) (rdK s n).rs (rcL s n) = 0 := by
  rw [rdK_succ] at h
  generalize rdK s n = st at *
  by_cases q : ptD (hdP s 2) st.rs (rcL s n) = 0
  · rw [rdStep_ok q] at h; exact ⟨h, q⟩
  · rw [rdStep_no q] at h; simp at h
theorem rd_bad (s : ByteArray) (n : Nat) : (rdK s n).bad = [] → ∀ k, k ≤ n → (rdK s k).bad = [] := by
  induction n with
  | zero =>
    intro h k hk
    obtain rfl : k = 0 := by omega
    exact h
  | succ n ih =>
    intro h k hk
    rcases Nat.lt_or_ge k (n + 1) with c | c
    · exact ih (rd_bad1 s n h).1 k (by omega)
    · obtain rfl : k = n + 1 := by omega
      exact h
theorem rd_all (s : ByteArray) (n : Nat) (h : (rdK s n).bad = []) (k : Nat) : k ≤ n → (rdK s k).rs = (List.range k).map (fun j => decV (txtOf (rcL s j))) ∧ ∀ j, j < k → decE (txtOf (rcL s j)) = 0 := by
  induction k with
  | zero => exact fun _ => ⟨rfl, fun j hj => absurd hj (Nat.not_lt_zero _)⟩
  | succ k ih =>
    intro hk
    obtain ⟨ih1, ih2⟩ := ih (by omega)
    have q := (rd_bad1 s k (rd_bad s n h (k + 1) hk)).2
    rw [rdK_succ, rdStep_ok q]
    refine ⟨?_, fun j hj => ?_⟩
    · show (rdK s k).rs ++ [decV (txtOf (rcL s k))] = _
      rw [List.range_succ, List.map_append, ← ih1]; rfl
    · rcases Nat.lt_or_ge j k with c | c
      · exact ih2 j c
      · obtain rfl : j = k := by omega
        exact (ptD_zero q).1
theorem list4 (l : List ByteArray) (h : l.length = 4) : ∃ a b c d, l = [a, b, c, d] := by
  match l, h with
  | [a, b, c, d], _ => exact ⟨a, b, c, d, rfl⟩
theorem list5 (l : List ByteArray) (h : l.length = 5) : ∃ a b c d e, l = [a, b, c, d, e] := by
  match l, h with
  | [a, b, c, d, e], _ => exact ⟨a, b, c, d, e, rfl⟩
theorem line_cut (x : ByteArray) : lineB (cutS x) = x := by
  apply ba_ext
  rw [lineB_data, cutS_data, join_cut]
set_option maxHeartbeats 3200000 in
/-- The text of what is decoded without rejects is the text. -/
theorem enc_of_dec {s : ByteArray} (h : fileE s = 0) (hb : fileB s = []) : encB (fileV s) = s := by
  have hgood := dec_good h
  obtain ⟨hsx, ⟨⟨a1, a2, a3⟩, hck, ⟨b1, b2, b3⟩, hrc⟩, hcd, htot, hn, hh, hcnt⟩ := file_zero h
  have HT := Lib.hid htot
  clear htot hh
  have hbad : (rdK s (nRc s)).bad = [] := by unfold fileB at hb; rw [if_pos h] at hb; exact hb
  obtain ⟨hrs, hdec⟩ := rd_all s (nRc s) hbad (nRc s) (Nat.le_refl _)
  have hfv := fileV_ok h
  clear h
  have hlen : (fileV s).rs.length = nRc s := by rw [hfv]; show (rdK s (nRc s)).rs.length = _; rw [hrs]; simp
  have hrat : ∀ j, j < nRc s → rcAt (fileV s).rs j = decV (txtOf (rcL s j)) := fun j hj => by
    rw [rcAt_get _ _ (by omega)]
    simp only [hfv, hrs, List.getElem_map, List.getElem_range]
  have hline : ∀ j, j < nRc s → recB (rcAt (fileV s).rs j) = rcL s j := fun j hj => by
    apply ba_ext
    rw [hrat j hj, recB_data, (enc_dec (hdec j hj)).2, ← txt_rline _ (hrc j hj)]
  -- the header
  have hH : hdrB (fileV s) = lnAt s 0 := by
    obtain ⟨x0, x1, x2, x3, hx⟩ := list4 _ a1
    have e0 : hdP s 0 = x0 := by unfold hdP; rw [hx]; rfl
    have e1 : hdP s 1 = x1 := by unfold hdP; rw [hx]; rfl
    have e2 : hdP s 2 = x2 := by unfold hdP; rw [hx]; rfl
    have e3 : hdP s 3 = x3 := by unfold hdP; rw [hx]; rfl
    rw [← line_cut (lnAt s 0), hx]
    rw [hfv, hdrB_mk, num_back a3, e1, e2, e3, ← e0, a2]; rfl
  -- the totals
  have hcl : (clmL s).length = nRc s := by unfold clmL recLs; simp
  have hat : ∀ j, j < nRc s → rcAt (clmL s) j = clm (rcL s j) := fun j hj => by
    rw [rcAt_get _ _ (by omega)]
    unfold clmL recLs
    simp only [List.getElem_map, List.getElem_range]
  have hfl : ∀ j, j < nRc s → (clm (rcL s j)).k = (rcAt (fileV s).rs j).k ∧ (clm (rcL s j)).a = (rcAt (fileV s).rs j).a ∧ (clm (rcL s j)).ca = (rcAt (fileV s).rs j).ca := fun j hj => by
    have z := (enc_dec (hdec j hj)).1
    rw [← hrat j hj] at z
    obtain ⟨f1, f2, f3, f4, _⟩ := Fit.ints _ z
    have := cut_recB z
    rw [hline j hj] at this
    exact clm_fields this (by omega) (by omega)
  have hds := debS_congr (l := clmL s) (m := (fileV s).rs) (by omega) (fun j hj => by
    have hj' : j < nRc s := by omega
    rw [hat j hj']; exact deb_clm (hfl j hj').1 (hfl j hj').2.1) (nRc s) (by omega)
  have hcards : cardsOf (clmL s) = cardsOf (fileV s).rs := by
    unfold cardsOf
    apply List.ext_getElem
    · simp [hcl, hlen]
    · intro j u1 u2
      rw [List.length_map] at u1 u2
      rw [List.getElem_map, List.getElem_map, ← rcAt_get _ _ u1, ← rcAt_get _ _ u2, hat j (by omega)]
      exact (hfl j (by omega)).2.2
  have hT : trlB (fileV s) = lnAt s (nLn s - 2) := by
    obtain ⟨x0, x1, x2, x3, x4, hx⟩ := list5 _ b1
    have e0 : trP s 0 = x0 := by unfold trP; rw [hx]; rfl
    have e1 : trP s 1 = x1 := by unfold trP; rw [hx]; rfl
    have e2 : trP s 2 = x2 := by unfold trP; rw [hx]; rfl
    have e3 : trP s 3 = x3 := by unfold trP; rw [hx]; rfl
    have e4 : trP s 4 = x4 := by unfold trP; rw [hx]; rfl
    rw [← line_cut (lnAt s (nLn s - 2)), hx]
    unfold trlB
    obtain ⟨t1, t2, t3, t4⟩ := HT.out
    rw [hlen, ← hds.1, ← hds.2, ← hcards, ← t1, ← t2, ← t3, ← t4, num_back (b3 0 (by omega)), num_back (b3 1 (by omega)), num_back (b3 2 (by omega)), num_back (b3 3 (by omega))]
    rw [e1, e2, e3, e4, ← e0, b2]; rfl
  -- all lines
  have hn3 : nLn s = nRc s + 3 := by
    obtain ⟨q1, q2⟩ := suffix_form hsx
    have q3 := lnS_len (bodyOf s)
    rw [count_lf] at q3 hcnt
    rw [q1, List.count_append] at hcnt
    have : ([10] : List UInt8).count 10 = 1 := rfl
    unfold nRc nLn
    omega
  have hall : lnS (bodyOf s) = lnAt s 0 :: ((fileV s).rs.map recB ++ [lnAt s (nLn s - 2), ckL s]) := by
    apply List.ext_getElem
    · have : (lnS (bodyOf s)).length = nLn s := rfl
      simp [this, hn3, hlen]
    · intro j u1 u2
      have u3 : j < nLn s := u1
      rw [← prt_get u1]
      show lnAt s j = _
      cases j with
      | zero => rfl
      | succ j =>
        rw [List.getElem_cons_succ]
        have hm : ((fileV s).rs.map recB).length = nRc s := by simp [hlen]
        rcases Nat.lt_or_ge j (nRc s) with c | c
        · rw [List.getElem_append_left (by omega), List.getElem_map, ← rcAt_get _ _ (by omega), hline j c]
          unfold rcL; rw [Nat.add_comm]
        · rw [List.getElem_append_right (by omega)]
          simp only [hm]
          have hj : j - nRc s = 0 ∨ j - nRc s = 1 := by omega
          rcases hj with hj | hj
          · simp only [hj, List.getElem_cons_zero]
            rw [show j + 1 = nLn s - 2 by omega]
          · simp only [hj, List.getElem_cons_succ, List.getElem_cons_zero]
            unfold ckL; rw [show j + 1 = nLn s - 1 by omega]
  have hbody : (bodyOf s).data.toList ++ [10] = (lnAt s 0 :: ((fileV s).rs.map recB ++ [lnAt s (nLn s - 2), ckL s])).flatMap (fun x => x.data.toList ++ [10]) := by
    have hj := join_cut 10 (bodyOf s).data.toList
    rw [← lnS_data, hall] at hj
    have hf := flat_join (((fileV s).rs.map recB ++ [lnAt s (nLn s - 2), ckL s]).map (·.data.toList)) (lnAt s 0).data.toList
    rw [List.map_cons] at hj
    rw [hj] at hf
    rw [← hf, List.flatMap_cons, List.flatMap_cons, List.flatMap_map]
  have hs := (suffix_form hsx).1
  rw [hbody] at hs
  have hcv := cov_form hsx
  have hB : bodyL (fileV s) = (cov s).data.toList := by
    have e2 : bodyL (fileV s) = (hdrB (fileV s)).data.toList ++ [10] ++ ((fileV s).rs.map recB).flatMap (fun x => x.data.toList ++ [10]) ++ ((trlB (fileV s)).data.toList ++ [10]) := by
      unfold bodyL bodyK
      rw [List.take_length, List.flatMap_map]; rfl
    rw [hs] at hcv
    simp only [List.flatMap_cons, List.flatMap_append, List.flatMap_nil, List.append_nil] at hcv
    rw [e2, hH, hT]
    simp only [← List.append_assoc] at hcv
    have h1 := List.append_cancel_right hcv
    have h2 := List.append_cancel_right h1
    simp only [← List.append_assoc]
    exact h2
  apply ba_ext
  rw [enc_data hgood, textL, hB, chkL_form, hcv, (ck_form hck).1, hcd]
  simp only [List.append_assoc]; rfl
end Go.Proofs.YthflmdgfenojcaaGreatDoor
