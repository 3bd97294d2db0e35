/- Part of the proof over this seat. -/
import Derived.Test.YthflmdgfenojcaaGreatDoorQBd
import Derived.Test.YthflmdgfenojcaaGreatDoorQC7p
namespace Go.Proofs.YthflmdgfenojcaaGreatDoor
set_option linter.unusedVariables false
open Go.RowKit
theorem join_last (c : UInt8) : ∀ (r : List (List UInt8)) (x : List UInt8), ∃ pre, Lib.join (x :: r) [c] = pre ++ (x :: r).getLast (by simp)
  | [], x => ⟨[], by rw [join_one]; rfl⟩
  | y :: r, x => by
    obtain ⟨pre, h⟩ := join_last c r y
    refine ⟨x ++ c :: pre, ?_⟩
    rw [join_cons2, h, List.getLast_cons_cons]
    simp
theorem cut_last (c : UInt8) (l : List UInt8) : ∃ pre, l = pre ++ (cutL c l).getLast (cutL_ne c l) := by
  have h := join_cut c l
  obtain ⟨x, r, hx⟩ : ∃ x r, cutL c l = x :: r := ⟨_, _, cutL_form c l⟩
  obtain ⟨pre, hp⟩ := join_last c r x
  refine ⟨pre, ?_⟩
  have e : (cutL c l).getLast (cutL_ne c l) = (x :: r).getLast (by simp) := by congr 1
  rw [e, ← hp, ← hx, h]
theorem last_line (s : ByteArray) : ∃ pre, (bodyOf s).data.toList = pre ++ (ckL s).data.toList := by
  obtain ⟨pre, h⟩ := cut_last 10 (bodyOf s).data.toList
  refine ⟨pre, ?_⟩
  have e : (cutL 10 (bodyOf s).data.toList).getLast (cutL_ne 10 _) = (ckL s).data.toList := by
    have hd := lnS_data (bodyOf s)
    have hne : lnS (bodyOf s) ≠ [] := by intro q; have := lnS_len (bodyOf s); rw [q] at this; simp at this
    have e1 : (ckL s) = (lnS (bodyOf s)).getLast hne := by
      have hl : 0 < (lnS (bodyOf s)).length := List.length_pos_iff.2 hne
      unfold ckL lnAt prt nLn
      rw [List.getD_eq_getElem?_getD, List.getElem?_eq_getElem (by omega), Option.getD_some, List.getLast_eq_getElem]
    rw [e1]
    simp only [← hd]
    rw [List.getLast_map]
  rw [← e]; exact h
theorem suffix_form {s : ByteArray} (h : Lib.hasSuffix s.data.toList [10] = true) : s.data.toList = (bodyOf s).data.toList ++ [10] ∧ (bodyOf s).data.toList.length + 1 = s.size := by
  unfold Lib.hasSuffix at h
  obtain ⟨p, hp⟩ := List.isSuffixOf_iff_suffix.1 h
  have hz : s.size = p.length + 1 := by rw [Lib.size_eq, ← hp]; simp
  have e : (bodyOf s).data.toList = p := by
    unfold bodyOf
    rw [Lib.extract_data, ← hp, hz]
    simp
  rw [e]
  exact ⟨hp.symm, by omega⟩
theorem cov_form {s : ByteArray} (h : Lib.hasSuffix s.data.toList [10] = true) : s.data.toList = (cov s).data.toList ++ ((ckL s).data.toList ++ [10]) := by
  obtain ⟨h1, h2⟩ := suffix_form h
  obtain ⟨pre, hp⟩ := last_line s
  have e : (cov s).data.toList = pre := by
    unfold cov
    rw [Lib.extract_data, h1, hp]
    have : (ckL s).size = (ckL s).data.toList.length := rfl
    rw [hp, List.length_append] at h2
    rw [List.drop_zero, this, List.append_assoc, List.take_append_of_le_length (by omega), List.take_of_length_le (by omega)]
  rw [e, h1, hp, List.append_assoc]
theorem ck_form {s : ByteArray} (h : CkF s) : (ckL s).data.toList = [67, 124] ++ (ckD s).data.toList ∧ (ckD s).data.toList.length = 8 := by
  obtain ⟨h1, h2⟩ := h
  unfold Lib.hasPrefix at h1
  obtain ⟨p, hp⟩ := List.isPrefixOf_iff_prefix.1 h1
  have e : (ckD s).data.toList = p := by
    unfold ckD
    rw [Lib.extract_to_end, ← hp]; rfl
  unfold isCk at h2
  rw [Bool.and_eq_true, decide_eq_true_eq] at h2
  refine ⟨by rw [e, hp], h2.1⟩
theorem chkL_form (l : List UInt8) : chkL l = [67, 124] ++ (text8 (C7.crcOf l) ++ [10]) := by
  unfold chkL lineL crcS
  rw [show ([(⟨#[67]⟩ : ByteArray), ⟨(text8 (C7.crcOf l)).toArray⟩] : List ByteArray).length = 1 + 1 from rfl, joinK_succ _ 1 (by omega) (by simp), joinK_one _ (by simp)]
  simp [strAt]
theorem crcOf_lt (l : List UInt8) : C7.crcOf l < 4294967296 := by
  unfold C7.crcOf
  exact Nat.xor_lt_two_pow (n := 32) (C7.crcReg_lt l _ (by omega)) (by omega)
theorem file_zero {s : ByteArray} (h : fileE s = 0) : Lib.hasSuffix s.data.toList [10] = true ∧ FormF s ∧ ckD s = crcS (cov s).data.toList ∧ TotF s ∧ nRc s ≤ 200 ∧ headE (hdP s 1) (hdP s 2) (numV (hdP s 3)) = 0 ∧ 3 ≤ Lib.countB s lfS := by
  unfold fileE at h
  split at h
  · rename_i q; exact absurd h q
  · rename_i q
    have hd : divE s = 0 := by omega
    unfold divE at hd
    split at hd
    · cases hd
    · rename_i q3
      split at hd
      · rename_i q1
        unfold exaE at h
        split at h
        · cases h
        · rename_i q4
          split at h
          · cases h
          · rename_i q5
            split at h
            · cases h
            · rename_i q6
              exact ⟨q1.1, q1.2, Decidable.not_not.1 q4, Decidable.not_not.1 q5, by omega, h, by omega⟩
      · cases hd
end Go.Proofs.YthflmdgfenojcaaGreatDoor
namespace Go.Proofs.YthflmdgfenojcaaGreatDoor
set_option linter.unusedVariables false
open Go.RowKit
theorem itoa_lf (v : Int) : ∀ b ∈ Lib.itoa v, b ≠ 10 := by
  intro b hb e
  subst e
  unfold Lib.itoa at hb
  split at hb
  · rcases List.mem_cons.1 hb with h | h
    · exact absurd h (by decide)
    · have := (decDigits_all _ _ h).1
      exact absurd this (by decide)
  · have := (decDigits_all _ _ hb).1
    exact absurd this (by decide)
theorem idn_lf {s : ByteArray} (h : idB s = true) : ∀ b ∈ s.data.toList, b ≠ 10 := by
  intro b hb e
  subst e
  unfold idB at h
  simp only [Bool.and_eq_true, List.all_eq_true] at h
  have := h.2 _ hb
  exact absurd this (by decide)
theorem name_lf {l : List UInt8} (h : nameB l = true) : ∀ b ∈ l, b ≠ 10 := by
  intro b hb e
  subst e
  unfold nameB at h
  simp only [Bool.and_eq_true, List.all_eq_true] at h
  have := h.2 _ hb
  exact absurd this (by decide)
theorem empty_lf {s : ByteArray} (h : emptyB s = true) : ∀ b ∈ s.data.toList, b ≠ 10 := by
  intro b hb
  unfold emptyB at h
  have h0 : s.data.toList.length = 0 := by simpa using h
  rw [List.length_eq_zero_iff.1 h0] at hb; cases hb
theorem pan_lf {s : ByteArray} (h : panE s = 0) : ∀ b ∈ s.data.toList, b ≠ 10 := by
  intro b hb e
  subst e
  unfold panE at h
  split at h
  · cases h
  · split at h
    · cases h
    · split at h
      · cases h
      · rename_i q
        have hd : digsB s = true := by simpa using q
        unfold digsB at hd
        rw [List.all_eq_true] at hd
        exact absurd (hd _ hb) (by decide)
theorem cur_lf {a : Int} {s : ByteArray} (h : monE a s = 0) : ∀ b ∈ s.data.toList, b ≠ 10 := by
  intro b hb e
  subst e
  unfold monE at h
  split at h
  · rename_i q
    unfold curB at q
    simp only [Bool.and_eq_true, List.all_eq_true] at q
    exact absurd (q.2 _ hb) (by decide)
  · cases h
theorem itoS_lf (v : Int) : ∀ b ∈ (itoS v).data.toList, b ≠ 10 := itoa_lf v
theorem finS_lf (f : Bool) : ∀ b ∈ (finS f).data.toList, b ≠ 10 := by cases f <;> decide
theorem texts_lf {r : Rec} (h : chkE r = 0) : ∀ y ∈ r.texts, ∀ b ∈ y.data.toList, b ≠ 10 := by
  obtain ⟨t1, t2, t3, t4, t5, t6, t7⟩ := chk_texts h
  intro x hx
  unfold Rec.texts at hx
  simp only [List.mem_cons, List.not_mem_nil, or_false] at hx
  rcases hx with rfl | rfl | rfl | rfl | rfl | rfl | rfl | rfl | rfl | rfl | rfl | rfl
  · exact itoS_lf _
  · exact idn_lf t1
  · rcases t2 with t2 | t2
    · exact empty_lf t2
    · exact idn_lf t2
  · exact name_lf t3
  · exact name_lf t4
  · exact idn_lf t5
  · exact pan_lf t6
  · exact itoS_lf _
  · exact cur_lf t7
  · exact itoS_lf _
  · exact itoS_lf _
  · exact finS_lf _
theorem join_no (c : UInt8) (hc : c ≠ 124) : ∀ (ps : List (List UInt8)), (∀ y ∈ ps, ∀ b ∈ y, b ≠ c) → ∀ b ∈ Lib.join ps [124], b ≠ c
  | [], _, b, hb => by rw [Lib.join_nil] at hb; cases hb
  | [x], h, b, hb => by rw [join_one] at hb; exact h x (by simp) b hb
  | x :: y :: r, h, b, hb => by
    rw [join_cons2] at hb
    rcases List.mem_append.1 hb with q | q
    · exact h x (by simp) b q
    · rcases List.mem_cons.1 q with rfl | q
      · exact fun e => hc e.symm
      · exact join_no c hc (y :: r) (fun z hz => h z (List.mem_cons_of_mem _ hz)) b q
/-- A line without its line feed. -/
def lineB (ps : List ByteArray) : ByteArray := ⟨(joinK ps ps.length).toArray⟩
theorem lineB_data (ps : List ByteArray) : (lineB ps).data.toList = Lib.join (ps.map (·.data.toList)) [124] := by
  show joinK ps ps.length = _
  unfold joinK; rw [List.take_length]
theorem lineB_lf {ps : List ByteArray} (h : ∀ y ∈ ps, ∀ b ∈ y.data.toList, b ≠ 10) : ∀ b ∈ (lineB ps).data.toList, b ≠ 10 := by
  rw [lineB_data]
  refine join_no 10 (by decide) _ (fun y hy => ?_)
  obtain ⟨x, hx, rfl⟩ := List.mem_map.1 hy
  exact h x hx
/-- The parts of such a line. -/
theorem cut_lineB {x : ByteArray} {ps : List ByteArray} (h : ∀ y ∈ x :: ps, ∀ b ∈ y.data.toList, b ≠ 124) : cutS (lineB (x :: ps)) = x :: ps := by
  apply map_inj
  rw [cutS_data, lineB_data]
  refine cut_join 124 _ _ (fun y hy => ?_)
  obtain ⟨z, hz, rfl⟩ := List.mem_map.1 (show y ∈ (x :: ps).map (·.data.toList) from hy)
  exact h z hz
theorem encS_lf {r : Rec} (h : chkE r = 0) : ∀ b ∈ (encS r).data.toList, b ≠ 10 := by
  show ∀ b ∈ Lib.join (r.texts.map (·.data.toList)) [124], b ≠ 10
  refine join_no 10 (by decide) _ (fun y hy => ?_)
  obtain ⟨x, hx, rfl⟩ := List.mem_map.1 hy
  exact texts_lf h x hx
def hB : ByteArray := ⟨#[72]⟩
def rB : ByteArray := ⟨#[82]⟩
def tB : ByteArray := ⟨#[84]⟩
def cB : ByteArray := ⟨#[67]⟩
def recB (r : Rec) : ByteArray := lineB [rB, encS r]
theorem recB_data (r : Rec) : (recB r).data.toList = [82, 124] ++ (encS r).data.toList := by
  unfold recB
  rw [lineB_data]
  simp only [List.map_cons, List.map_nil, join_cons2, join_one]; rfl
/-- The parts of a record line are R and those of the record. -/
theorem cut_rline (x : ByteArray) (s : ByteArray) (h : x.data.toList = [82, 124] ++ s.data.toList) : cutS x = rB :: cutS s := by
  apply map_inj
  rw [cutS_data, List.map_cons, cutS_data, h]
  show cutL 124 (82 :: 124 :: s.data.toList) = [82] :: _
  rw [cutL, if_neg (by decide), cutL, if_pos rfl]; rfl
theorem cut_recB {r : Rec} (h : chkE r = 0) : cutS (recB r) = rB :: r.texts := by rw [cut_rline _ (encS r) (recB_data r), cut_enc h]
theorem txt_rline (x : ByteArray) (h : Lib.hasPrefix x.data.toList [82, 124] = true) : x.data.toList = [82, 124] ++ (txtOf x).data.toList := by
  unfold Lib.hasPrefix at h
  obtain ⟨p, hp⟩ := List.isPrefixOf_iff_prefix.1 h
  have e : (txtOf x).data.toList = p := by unfold txtOf; rw [Lib.extract_to_end, ← hp]; rfl
  rw [e, hp]
theorem ba_ext {x y : ByteArray} (h : x.data.toList = y.data.toList) : x = y := ByteArray.ext (Array.ext' h)
theorem txt_recB (r : Rec) : txtOf (recB r) = encS r := by
  apply ba_ext
  unfold txtOf
  rw [Lib.extract_to_end, recB_data]; rfl
/-- A record's fields that count, as claimed by its line. -/
theorem clm_fields {x : ByteArray} {r : Rec} (h : cutS x = rB :: r.texts) (hk : -9223372036854775808 ≤ r.k ∧ r.k ≤ 9223372036854775807) (ha : -9223372036854775808 ≤ r.a ∧ r.a ≤ 9223372036854775807) : (clm x).k = r.k ∧ (clm x).a = r.a ∧ (clm x).ca = r.ca := by
  have n1 := numV_ito hk
  have n2 := numV_ito ha
  unfold clm
  rw [h, if_pos ⟨rfl, n1.2, n2.2⟩]
  exact ⟨n1.1, n2.1, rfl⟩
theorem deb_clm {x r : Rec} (hk : x.k = r.k) (ha : x.a = r.a) : debR x = debR r ∧ creR x = creR r := by
  unfold debR creR amtR; rw [hk, ha]; exact ⟨rfl, rfl⟩
theorem debS_congr {l m : List Rec} (hl : l.length = m.length) (h : ∀ j, j < l.length → debR (rcAt l j) = debR (rcAt m j) ∧ creR (rcAt l j) = creR (rcAt m j)) : ∀ k, k ≤ l.length → debS l k = debS m k ∧ creS l k = creS m k
  | 0, _ => ⟨rfl, rfl⟩
  | k + 1, hk => by
    have ih := debS_congr hl h k (by omega)
    have hj := h k (by omega)
    rw [debS_succ l k (by omega), debS_succ m k (by omega), creS_succ l k (by omega), creS_succ m k (by omega), ih.1, ih.2, hj.1, hj.2]; exact ⟨rfl, rfl⟩
def hdrB (b : Bat) : ByteArray := lineB [hB, b.id, b.sd, itoS b.dt]
def trlB (b : Bat) : ByteArray := lineB [tB, itoS b.rs.length, itoS (debS b.rs b.rs.length), itoS (creS b.rs b.rs.length), itoS (C7.totB (cardsOf b.rs))]
def chkBL (b : Bat) : ByteArray := lineB [cB, crcS (bodyL b)]
def linesB (b : Bat) : List ByteArray := hdrB b :: (b.rs.map recB ++ [trlB b, chkBL b])
theorem flat_join : ∀ (r : List (List UInt8)) (x : List UInt8), (x :: r).flatMap (fun y => y ++ [10]) = Lib.join (x :: r) [10] ++ [10]
  | [], x => by rw [join_one]; simp
  | y :: r, x => by
    rw [List.flatMap_cons, flat_join r y, join_cons2]; simp
theorem textL_lines (b : Bat) : textL b = (linesB b).flatMap (fun x => x.data.toList ++ [10]) := by
  unfold textL linesB
  have e1 : chkL (bodyL b) = (chkBL b).data.toList ++ [10] := rfl
  have e2 : bodyL b = (hdrB b).data.toList ++ [10] ++ (b.rs.map recB).flatMap (fun x => x.data.toList ++ [10]) ++ ((trlB b).data.toList ++ [10]) := by
    unfold bodyL bodyK
    rw [List.take_length, List.flatMap_map]; rfl
  rw [e1]
  conv => lhs; arg 1; rw [e2]
  simp only [List.flatMap_cons, List.flatMap_append, List.flatMap_nil, List.append_assoc, List.append_nil]
theorem join_lines (b : Bat) : textL b = Lib.join ((linesB b).map (·.data.toList)) [10] ++ [10] := by
  rw [textL_lines]
  have := flat_join ((b.rs.map recB ++ [trlB b, chkBL b]).map (·.data.toList)) (hdrB b).data.toList
  unfold linesB
  rw [List.map_cons, ← this, List.flatMap_cons, List.flatMap_cons, List.flatMap_map]
theorem d16_lf (n : Nat) (h : n < 16) : d16 n ≠ 10 ∧ d16 n ≠ 124 := by
  have key : ∀ n : Fin 16, d16 n.1 ≠ 10 ∧ d16 n.1 ≠ 124 := by decide
  exact key ⟨n, h⟩
theorem pad16_lf : ∀ (k n : Nat), ∀ b ∈ pad 16 d16 k n, b ≠ 10 ∧ b ≠ 124
  | 0, n, b, hb => by cases hb
  | k + 1, n, b, hb => by
    rw [pad] at hb
    rcases List.mem_append.1 hb with q | q
    · exact pad16_lf k (n / 16) b q
    · rw [List.mem_singleton] at q; subst q; exact d16_lf _ (Nat.mod_lt _ (by omega))
theorem lines_lf {b : Bat} (h : chkB b = 0) : ∀ y ∈ linesB b, ∀ c ∈ y.data.toList, c ≠ 10 := by
  obtain ⟨h1, h2, h3⟩ := chkB_zero h
  obtain ⟨i1, i2, i3, i4⟩ := headE_zero h1
  intro y hy
  unfold linesB at hy
  rcases List.mem_cons.1 hy with rfl | hy
  · refine lineB_lf (fun z hz => ?_)
    simp only [List.mem_cons, List.not_mem_nil, or_false] at hz
    rcases hz with rfl | rfl | rfl | rfl
    · decide
    · exact idn_lf i1
    · exact name_lf i2
    · exact itoS_lf _
  rcases List.mem_append.1 hy with hy | hy
  · obtain ⟨r, hr, rfl⟩ := List.mem_map.1 hy
    obtain ⟨k, hk, rfl⟩ := List.getElem_of_mem hr
    have hz := (ptL_zero (h3 k hk)).1
    rw [rcAt_get _ _ hk] at hz
    refine lineB_lf (fun z hz' => ?_)
    simp only [List.mem_cons, List.not_mem_nil, or_false] at hz'
    rcases hz' with rfl | rfl
    · decide
    · exact encS_lf hz
  · simp only [List.mem_cons, List.not_mem_nil, or_false] at hy
    rcases hy with rfl | rfl
    · refine lineB_lf (fun z hz => ?_)
      simp only [List.mem_cons, List.not_mem_nil, or_false] at hz
      rcases hz with rfl | rfl | rfl | rfl | rfl
      · decide
      · exact itoS_lf _
      · exact itoS_lf _
      · exact itoS_lf _
      · exact itoS_lf _
    · refine lineB_lf (fun z hz => ?_)
      simp only [List.mem_cons, List.not_mem_nil, or_false] at hz
      rcases hz with rfl | rfl
      · decide
      · exact fun c hc => (pad16_lf _ _ c hc).1
theorem lns_of {s : ByteArray} {x : ByteArray} {r : List ByteArray} (hs : s.data.toList = Lib.join ((x :: r).map (·.data.toList)) [10] ++ [10]) (hl : ∀ y ∈ x :: r, ∀ c ∈ y.data.toList, c ≠ 10) : lnS (bodyOf s) = x :: r := by
  apply map_inj
  rw [lnS_data]
  have e : (bodyOf s).data.toList = Lib.join ((x :: r).map (·.data.toList)) [10] := by
    unfold bodyOf
    have hz : s.size = (Lib.join ((x :: r).map (·.data.toList)) [10]).length + 1 := by rw [Lib.size_eq, hs]; simp
    rw [Lib.extract_data, hs, hz]
    simp
  rw [e]
  refine cut_join 10 _ _ (fun y hy => ?_)
  obtain ⟨z, hz, rfl⟩ := List.mem_map.1 (show y ∈ (x :: r).map (·.data.toList) from hy)
  exact hl z hz
end Go.Proofs.YthflmdgfenojcaaGreatDoor
namespace Go.Proofs.YthflmdgfenojcaaGreatDoor
set_option linter.unusedVariables false
open Go.RowKit
theorem prt_get {l : List ByteArray} {j : Nat} (h : j < l.length) : prt l j = l[j] := by
  unfold prt; rw [List.getD_eq_getElem?_getD, List.getElem?_eq_getElem h]; rfl
theorem count_lf (s : ByteArray) : Lib.countB s lfS = s.data.toList.count 10 := Lib.count_one 10 s.data.toList
/-- The lines of an encoded file, each at its place. -/
structure LinesOf (b : Bat) (s : ByteArray) : Prop where
  n : nLn s = b.rs.length + 3
  hd : lnAt s 0 = hdrB b
  rc : ∀ k, k < b.rs.length → rcL s k = recB (rcAt b.rs k)
  tr : lnAt s (nLn s - 2) = trlB b
  ck : ckL s = chkBL b
theorem LinesOf.of {b : Bat} {s : ByteArray} (h : lnS (bodyOf s) = linesB b) : LinesOf b s := by
  have hn : nLn s = b.rs.length + 3 := by unfold nLn; rw [h]; unfold linesB; simp
  have hat : ∀ k, lnAt s k = prt (linesB b) k := fun k => by unfold lnAt; rw [h]
  have hlen : (b.rs.map recB).length = b.rs.length := List.length_map _
  refine ⟨hn, ?_, ?_, ?_, ?_⟩
  · rw [hat]; rfl
  · intro k hk
    unfold rcL
    rw [hat, prt_get (by unfold linesB; simp; omega)]
    unfold linesB
    have e : 1 + k = k + 1 := by omega
    simp only [e, List.getElem_cons_succ]
    rw [List.getElem_append_left (by rw [hlen]; exact hk), List.getElem_map, rcAt_get _ _ hk]
  · rw [hat, hn, prt_get (by unfold linesB; simp)]
    unfold linesB
    have e : b.rs.length + 3 - 2 = b.rs.length + 1 := by omega
    simp only [e, List.getElem_cons_succ]
    rw [List.getElem_append_right (by rw [hlen]; exact Nat.le_refl _)]
    simp
  · unfold ckL
    rw [hat, hn, prt_get (by unfold linesB; simp)]
    unfold linesB
    have e : b.rs.length + 3 - 1 = (b.rs.length + 1) + 1 := by omega
    simp only [e, List.getElem_cons_succ]
    rw [List.getElem_append_right (by rw [hlen]; omega)]
    simp
theorem enc_data {b : Bat} (h : chkB b = 0) : (encB b).data.toList = textL b := by unfold encB; rw [if_pos h]
theorem enc_lines {b : Bat} (h : chkB b = 0) : LinesOf b (encB b) :=
  LinesOf.of (lns_of (by rw [enc_data h, join_lines]; rfl) (lines_lf h))
theorem bar4 {b : Bat} (h : headE b.id b.sd b.dt = 0) : cutS (hdrB b) = [hB, b.id, b.sd, itoS b.dt] := by
  obtain ⟨i1, i2, i3, i4⟩ := headE_zero h
  refine cut_lineB (fun y hy => ?_)
  simp only [List.mem_cons, List.not_mem_nil, or_false] at hy
  rcases hy with rfl | rfl | rfl | rfl
  · decide
  · exact idn_no i1
  · exact name_bar i2
  · exact itoS_bar _
theorem bar5 (b : Bat) : cutS (trlB b) = [tB, itoS b.rs.length, itoS (debS b.rs b.rs.length), itoS (creS b.rs b.rs.length), itoS (C7.totB (cardsOf b.rs))] := by
  refine cut_lineB (fun y hy => ?_)
  simp only [List.mem_cons, List.not_mem_nil, or_false] at hy
  rcases hy with rfl | rfl | rfl | rfl | rfl
  · decide
  · exact itoS_bar _
  · exact itoS_bar _
  · exact itoS_bar _
  · exact itoS_bar _
theorem chkBL_data (b : Bat) : (chkBL b).data.toList = [67, 124] ++ text8 (C7.crcOf (bodyL b)) := by
  unfold chkBL
  rw [lineB_data]
  simp only [List.map_cons, List.map_nil, join_cons2, join_one]; rfl
theorem deb_lt {b : Bat} (h : b.rs.length ≤ 200) : 0 ≤ debS b.rs b.rs.length ∧ debS b.rs b.rs.length ≤ 200000000000000 ∧ 0 ≤ creS b.rs b.rs.length ∧ creS b.rs b.rs.length ≤ 200000000000000 := by
  have h1 := debS_bd b.rs b.rs.length (Nat.le_refl _)
  have h2 := creS_bd b.rs b.rs.length (Nat.le_refl _)
  omega
theorem rdK_enc {b : Bat} {s : ByteArray} (h : chkB b = 0) (hl : LinesOf b s) (hsd : hdP s 2 = b.sd) : ∀ k, k ≤ b.rs.length → rdK s k = ⟨b.rs.take k, []⟩
  | 0, _ => rfl
  | k + 1, hk => by
    obtain ⟨h1, h2, h3⟩ := chkB_zero h
    obtain ⟨z1, z2, z3⟩ := ptL_zero (h3 k (by omega))
    have ih := rdK_enc h hl hsd k (by omega)
    obtain ⟨d1, d2⟩ := dec_enc z1
    unfold rdK
    rw [ih, hl.rc k (by omega), hsd]
    unfold rdStep ptD
    simp only [txt_recB, d1, d2]
    rw [if_pos (by rw [if_neg (by simp), if_neg (by simp [z2]), if_neg z3]), List.take_succ_eq_append_getElem (by omega), rcAt_get _ _ (by omega)]
/-- A valid file is decoded from its text, without rejects. -/
theorem dec_of_enc {b : Bat} (h : chkB b = 0) : fileE (encB b) = 0 ∧ fileV (encB b) = b ∧ fileB (encB b) = [] := by
  obtain ⟨h1, h2, h3⟩ := chkB_zero h
  obtain ⟨i1, i2, i3, i4⟩ := headE_zero h1
  have hl := enc_lines h
  have hdt := enc_data h
  generalize encB b = s at hl hdt
  have hq4 := bar4 h1
  have hq5 := bar5 b
  have hp : ∀ j, hdP s j = prt [hB, b.id, b.sd, itoS b.dt] j := fun j => by unfold hdP; rw [hl.hd, hq4]
  have ht : ∀ j, trP s j = prt [tB, itoS b.rs.length, itoS (debS b.rs b.rs.length), itoS (creS b.rs b.rs.length), itoS (C7.totB (cardsOf b.rs))] j := fun j => by unfold trP; rw [hl.tr, hq5]
  have nd := numV_ito (v := b.dt) (by omega)
  have hbd := deb_lt h2
  have htb := C7.totB_lt (cardsOf b.rs)
  have n1 := numV_ito (v := (b.rs.length : Int)) (by omega)
  have n2 := numV_ito (v := debS b.rs b.rs.length) (by omega)
  have n3 := numV_ito (v := creS b.rs b.rs.length) (by omega)
  have n4 := numV_ito (v := (C7.totB (cardsOf b.rs) : Int)) (by omega)
  have hnr : nRc s = b.rs.length := by unfold nRc; rw [hl.n]; omega
  have hsx : Lib.hasSuffix s.data.toList [10] = true := by
    unfold Lib.hasSuffix
    rw [List.isSuffixOf_iff_suffix, hdt]
    exact ⟨bodyL b ++ (chkBL b).data.toList, by unfold textL; rw [List.append_assoc]; rfl⟩
  have hcov : (cov s).data.toList = bodyL b := by
    have hc := cov_form hsx
    rw [hdt, hl.ck] at hc
    have e : textL b = bodyL b ++ ((chkBL b).data.toList ++ [10]) := rfl
    rw [e] at hc
    exact (List.append_cancel_right hc).symm
  have hckd : ckD s = crcS (bodyL b) := by
    apply ba_ext
    unfold ckD
    rw [Lib.extract_to_end, hl.ck, chkBL_data]; rfl
  have hform : FormF s := by
    refine ⟨⟨by rw [hl.hd, hq4]; rfl, by rw [hp]; rfl, by rw [hp]; exact nd.2⟩, ⟨?_, ?_⟩, ⟨by rw [hl.tr, hq5]; rfl, by rw [ht]; rfl, ?_⟩, ?_⟩
    · unfold Lib.hasPrefix
      rw [List.isPrefixOf_iff_prefix, hl.ck, chkBL_data]
      exact ⟨_, rfl⟩
    · rw [hckd]
      unfold isCk
      rw [Bool.and_eq_true, decide_eq_true_eq]
      refine ⟨?_, pad_low _ _⟩
      show (text8 _).toArray.size = 8
      rw [List.size_toArray, text8_len]
    · intro j hj
      match j, hj with
      | 0, _ => rw [ht]; exact n1.2
      | 1, _ => rw [ht]; exact n2.2
      | 2, _ => rw [ht]; exact n3.2
      | 3, _ => rw [ht]; exact n4.2
    · intro k hk
      rw [hl.rc k (by omega)]
      unfold Lib.hasPrefix
      rw [List.isPrefixOf_iff_prefix, recB_data]
      exact ⟨_, rfl⟩
  have hcount : ¬ Lib.countB s lfS < 3 := by
    obtain ⟨q1, q2⟩ := suffix_form hsx
    have q3 := lnS_len (bodyOf s)
    have q4 := hl.n
    unfold nLn at q4
    rw [count_lf] at q3
    rw [count_lf, q1, List.count_append]
    have : ([10] : List UInt8).count 10 = 1 := rfl
    omega
  have hcl : (clmL s).length = b.rs.length := by unfold clmL recLs; simp [hnr]
  have hat : ∀ j, j < b.rs.length → rcAt (clmL s) j = clm (recB (rcAt b.rs j)) := fun j hj => by
    rw [rcAt_get _ _ (by omega)]
    unfold clmL recLs
    simp only [List.getElem_map, List.getElem_range]
    rw [hl.rc j hj]
  have hfl : ∀ j, j < b.rs.length → (clm (recB (rcAt b.rs j))).k = (rcAt b.rs j).k ∧ (clm (recB (rcAt b.rs j))).a = (rcAt b.rs j).a ∧ (clm (recB (rcAt b.rs j))).ca = (rcAt b.rs j).ca := fun j hj => by
    have z := (ptL_zero (h3 j hj)).1
    obtain ⟨f1, f2, f3, f4, _⟩ := Fit.ints _ z
    exact clm_fields (cut_recB z) (by omega) (by omega)
  have hds := debS_congr (l := clmL s) (m := b.rs) hcl (fun j hj => by
    have hj' : j < b.rs.length := by omega
    rw [hat j hj']; exact deb_clm (hfl j hj').1 (hfl j hj').2.1) b.rs.length (by omega)
  have hcd : cardsOf (clmL s) = cardsOf b.rs := by
    unfold cardsOf
    apply List.ext_getElem
    · simp [hcl]
    · intro j u1 u2
      rw [List.length_map] at u1 u2
      rw [List.getElem_map, List.getElem_map, ← rcAt_get _ _ u1, ← rcAt_get _ _ u2, hat j u2]
      exact (hfl j u2).2.2
  have htot : TotF s := by
    refine ⟨?_, ?_, ?_, ?_⟩
    · rw [ht, hnr]; exact n1.1
    · rw [ht, hnr, hds.1]; exact n2.1
    · rw [ht, hnr, hds.2]; exact n3.1
    · rw [ht, hcd]; exact n4.1
  have hsd : hdP s 2 = b.sd := by rw [hp]; rfl
  have hE : fileE s = 0 := by
    have hv : divE s = 0 := by unfold divE; rw [if_neg hcount, if_pos ⟨hsx, hform⟩]
    unfold fileE
    rw [if_neg (by simp [hv])]
    unfold exaE
    rw [if_neg (by rw [hckd, hcov]; simp), if_neg (by simp [htot]), if_neg (by omega), hsd]
    have e1 : hdP s 1 = b.id := by rw [hp]; rfl
    have e3 : hdP s 3 = itoS b.dt := by rw [hp]; rfl
    rw [e1, e3, nd.1]; exact h1
  have hR := rdK_enc h hl hsd b.rs.length (Nat.le_refl _)
  refine ⟨hE, ?_, ?_⟩
  · unfold fileV
    rw [if_pos hE, hnr, hR, List.take_length, hsd]
    have e1 : hdP s 1 = b.id := by rw [hp]; rfl
    have e3 : hdP s 3 = itoS b.dt := by rw [hp]; rfl
    rw [e1, e3, nd.1]
  · unfold fileB
    rw [if_pos hE, hnr, hR]
theorem rcAt_app (l : List Rec) (r : Rec) (j : Nat) (h : j < l.length) : rcAt (l ++ [r]) j = rcAt l j := by
  rw [rcAt_get _ _ (by simp; omega), rcAt_get _ _ h, List.getElem_append_left h]
theorem rcAt_end (l : List Rec) (r : Rec) : rcAt (l ++ [r]) l.length = r := by
  rw [rcAt_get _ _ (by simp), List.getElem_append_right (Nat.le_refl _)]; simp
theorem ptD_zero {sd : ByteArray} {rs : List Rec} {x : ByteArray} (h : ptD sd rs x = 0) : decE (txtOf x) = 0 ∧ (decV (txtOf x)).aq = sd ∧ ¬ (decV (txtOf x)).id ∈ idsOf rs := by
  unfold ptD at h
  split at h
  · rename_i q; exact absurd h q
  · rename_i q
    split at h
    · cases h
    · rename_i q2
      split at h
      · cases h
      · rename_i q3
        exact ⟨by omega, Decidable.not_not.1 q2, q3⟩
theorem rd_good (s : ByteArray) : ∀ k, (rdK s k).rs.length ≤ k ∧ ∀ j, j < (rdK s k).rs.length → ptL (hdP s 2) (rdK s k).rs j = 0
  | 0 => ⟨Nat.le_refl _, fun j hj => absurd hj (Nat.not_lt_zero _)⟩
  | k + 1 => by
    obtain ⟨ih1, ih2⟩ := rd_good s k
    unfold rdK rdStep
    split
    · rename_i q
      obtain ⟨z1, z2, z3⟩ := ptD_zero q
      refine ⟨by simp; omega, fun j hj => ?_⟩
      simp only [List.length_append, List.length_singleton] at hj
      rcases Nat.lt_or_ge j (rdK s k).rs.length with c | c
      · have := ptL_zero (ih2 j c)
        refine ptL_ok ?_ ?_ ?_
        · rw [rcAt_app _ _ _ c]; exact this.1
        · rw [rcAt_app _ _ _ c]; exact this.2.1
        · rw [rcAt_app _ _ _ c, List.take_append_of_le_length (by omega)]; exact this.2.2
      · obtain rfl : j = (rdK s k).rs.length := by omega
        refine ptL_ok ?_ ?_ ?_
        · rw [rcAt_end]; exact (enc_dec z1).1
        · rw [rcAt_end]; exact z2
        · rw [rcAt_end, List.take_left]; exact z3
    · exact ⟨by show (rdK s k).rs.length ≤ k + 1; omega, ih2⟩
theorem fileV_ok {s : ByteArray} (h : fileE s = 0) : fileV s = ⟨hdP s 1, hdP s 2, numV (hdP s 3), (rdK s (nRc s)).rs⟩ := by unfold fileV; rw [if_pos h]
theorem chkB_mk {id sd : ByteArray} {dt : Int} {rs : List Rec} (h : headE id sd dt = 0) (h2 : rs.length ≤ 200) (h3 : ∀ k, k < rs.length → ptL sd rs k = 0) : chkB ⟨id, sd, dt, rs⟩ = 0 := chkB_ok (b := ⟨id, sd, dt, rs⟩) h h2 h3
theorem dec_good {s : ByteArray} (h : fileE s = 0) : chkB (fileV s) = 0 := by
  have hn := (file_zero h).2.2.2.2.1
  have hh := (file_zero h).2.2.2.2.2.1
  have hg := rd_good s (nRc s)
  rw [fileV_ok h]
  exact chkB_mk hh (Nat.le_trans hg.1 hn) hg.2
theorem rdStep_ok {sd x : ByteArray} {st : RdS} {i : Nat} (h : ptD sd st.rs x = 0) : rdStep sd st i x = ⟨st.rs ++ [decV (txtOf x)], st.bad⟩ := by unfold rdStep; rw [if_pos h]
theorem rdStep_no {sd x : ByteArray} {st : RdS} {i : Nat} (h : ¬ ptD sd st.rs x = 0) : rdStep sd st i x = ⟨st.rs, st.bad ++ [(i, lnId x, ptD sd st.rs x)]⟩ := by unfold rdStep; rw [if_neg h]
theorem rdK_succ (s : ByteArray) (k : Nat) : rdK s (k + 1) = rdStep (hdP s 2) (rdK s k) k (rcL s k) := rfl
end Go.Proofs.YthflmdgfenojcaaGreatDoor
