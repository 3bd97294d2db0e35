/- Decode inverts Encode, and Encode inverts Decode: the plain law of files. No walk. -/
import Derived.Test.YthflmdgfenojcaaGreatDoorPdt
namespace Go.Proofs.YthflmdgfenojcaaGreatDoor
set_option linter.unusedVariables false
open Go.RowKit

theorem itoa_lf (v : Int) : ∀ b ∈ Lib.itoa v, b ≠ 10 := by
  intro b hb e
  subst e
  unfold Lib.itoa at hb
  split at hb
  · rcases List.mem_cons.1 hb with h | h
    · exact absurd h (by decide)
    · have := (decDigits_all _ _ h).1
      exact absurd this (by decide)
  · have := (decDigits_all _ _ hb).1
    exact absurd this (by decide)
theorem idn_lf {s : ByteArray} (h : idB s = true) : ∀ b ∈ s.data.toList, b ≠ 10 := by
  intro b hb e
  subst e
  unfold idB at h
  simp only [Bool.and_eq_true, List.all_eq_true] at h
  have := h.2 _ hb
  exact absurd this (by decide)
theorem name_lf {l : List UInt8} (h : nameB l = true) : ∀ b ∈ l, b ≠ 10 := by
  intro b hb e
  subst e
  unfold nameB at h
  simp only [Bool.and_eq_true, List.all_eq_true] at h
  have := h.2 _ hb
  exact absurd this (by decide)
theorem empty_lf {s : ByteArray} (h : emptyB s = true) : ∀ b ∈ s.data.toList, b ≠ 10 := by
  intro b hb
  unfold emptyB at h
  have h0 : s.data.toList.length = 0 := by simpa using h
  rw [List.length_eq_zero_iff.1 h0] at hb; cases hb
theorem pan_lf {s : ByteArray} (h : panE s = 0) : ∀ b ∈ s.data.toList, b ≠ 10 := by
  intro b hb e
  subst e
  unfold panE at h
  split at h
  · cases h
  · split at h
    · cases h
    · split at h
      · cases h
      · rename_i q
        have hd : digsB s = true := by simpa using q
        unfold digsB at hd
        rw [List.all_eq_true] at hd
        exact absurd (hd _ hb) (by decide)
theorem cur_lf {a : Int} {s : ByteArray} (h : monE a s = 0) : ∀ b ∈ s.data.toList, b ≠ 10 := by
  intro b hb e
  subst e
  unfold monE at h
  split at h
  · rename_i q
    unfold curB at q
    simp only [Bool.and_eq_true, List.all_eq_true] at q
    exact absurd (q.2 _ hb) (by decide)
  · cases h
theorem itoS_lf (v : Int) : ∀ b ∈ (itoS v).data.toList, b ≠ 10 := itoa_lf v
theorem finS_lf (f : Bool) : ∀ b ∈ (finS f).data.toList, b ≠ 10 := by cases f <;> decide
/-! ### lines of a file -/
theorem texts_lf {r : Rec} (h : chkE r = 0) : ∀ y ∈ r.texts, ∀ b ∈ y.data.toList, b ≠ 10 := by
  obtain ⟨t1, t2, t3, t4, t5, t6, t7⟩ := chk_texts h
  intro x hx
  unfold Rec.texts at hx
  simp only [List.mem_cons, List.not_mem_nil, or_false] at hx
  rcases hx with rfl | rfl | rfl | rfl | rfl | rfl | rfl | rfl | rfl | rfl | rfl | rfl
  · exact itoS_lf _
  · exact idn_lf t1
  · rcases t2 with t2 | t2
    · exact empty_lf t2
    · exact idn_lf t2
  · exact name_lf t3
  · exact name_lf t4
  · exact idn_lf t5
  · exact pan_lf t6
  · exact itoS_lf _
  · exact cur_lf t7
  · exact itoS_lf _
  · exact itoS_lf _
  · exact finS_lf _
theorem join_no (c : UInt8) (hc : c ≠ 124) : ∀ (ps : List (List UInt8)), (∀ y ∈ ps, ∀ b ∈ y, b ≠ c) → ∀ b ∈ Lib.join ps [124], b ≠ c
  | [], _, b, hb => by rw [Lib.join_nil] at hb; cases hb
  | [x], h, b, hb => by rw [join_one] at hb; exact h x (by simp) b hb
  | x :: y :: r, h, b, hb => by
    rw [join_cons2] at hb
    rcases List.mem_append.1 hb with q | q
    · exact h x (by simp) b q
    · rcases List.mem_cons.1 q with rfl | q
      · exact fun e => hc e.symm
      · exact join_no c hc (y :: r) (fun z hz => h z (List.mem_cons_of_mem _ hz)) b q
/-- A line without its line feed. -/
def lineB (ps : List ByteArray) : ByteArray := ⟨(joinK ps ps.length).toArray⟩
theorem lineB_data (ps : List ByteArray) : (lineB ps).data.toList = Lib.join (ps.map (·.data.toList)) [124] := by
  show joinK ps ps.length = _
  unfold joinK; rw [List.take_length]
theorem lineL_B (ps : List ByteArray) : lineL ps = (lineB ps).data.toList ++ [10] := rfl
theorem lineB_lf {ps : List ByteArray} (h : ∀ y ∈ ps, ∀ b ∈ y.data.toList, b ≠ 10) : ∀ b ∈ (lineB ps).data.toList, b ≠ 10 := by
  rw [lineB_data]
  refine join_no 10 (by decide) _ (fun y hy => ?_)
  obtain ⟨x, hx, rfl⟩ := List.mem_map.1 hy
  exact h x hx
/-- The parts of such a line. -/
theorem cut_lineB {x : ByteArray} {ps : List ByteArray} (h : ∀ y ∈ x :: ps, ∀ b ∈ y.data.toList, b ≠ 124) : cutS (lineB (x :: ps)) = x :: ps := by
  apply map_inj
  rw [cutS_data, lineB_data]
  refine cut_join 124 _ _ (fun y hy => ?_)
  obtain ⟨z, hz, rfl⟩ := List.mem_map.1 (show y ∈ (x :: ps).map (·.data.toList) from hy)
  exact h z hz
theorem encS_lf {r : Rec} (h : chkE r = 0) : ∀ b ∈ (encS r).data.toList, b ≠ 10 := by
  show ∀ b ∈ Lib.join (r.texts.map (·.data.toList)) [124], b ≠ 10
  refine join_no 10 (by decide) _ (fun y hy => ?_)
  obtain ⟨x, hx, rfl⟩ := List.mem_map.1 hy
  exact texts_lf h x hx
def hB : ByteArray := ⟨#[72]⟩
def rB : ByteArray := ⟨#[82]⟩
def tB : ByteArray := ⟨#[84]⟩
def cB : ByteArray := ⟨#[67]⟩
def recB (r : Rec) : ByteArray := lineB [rB, encS r]
theorem recB_data (r : Rec) : (recB r).data.toList = [82, 124] ++ (encS r).data.toList := by
  unfold recB
  rw [lineB_data]
  simp only [List.map_cons, List.map_nil, join_cons2, join_one]; rfl
/-- The parts of a record line are R and those of the record. -/
theorem cut_rline (x : ByteArray) (s : ByteArray) (h : x.data.toList = [82, 124] ++ s.data.toList) : cutS x = rB :: cutS s := by
  apply map_inj
  rw [cutS_data, List.map_cons, cutS_data, h]
  show cutL 124 (82 :: 124 :: s.data.toList) = [82] :: _
  rw [cutL, if_neg (by decide), cutL, if_pos rfl]; rfl
theorem cut_recB {r : Rec} (h : chkE r = 0) : cutS (recB r) = rB :: r.texts := by rw [cut_rline _ (encS r) (recB_data r), cut_enc h]
theorem txt_rline (x : ByteArray) (h : Lib.hasPrefix x.data.toList [82, 124] = true) : x.data.toList = [82, 124] ++ (txtOf x).data.toList := by
  unfold Lib.hasPrefix at h
  obtain ⟨p, hp⟩ := List.isPrefixOf_iff_prefix.1 h
  have e : (txtOf x).data.toList = p := by unfold txtOf; rw [Lib.extract_to_end, ← hp]; rfl
  rw [e, hp]
theorem ba_ext {x y : ByteArray} (h : x.data.toList = y.data.toList) : x = y := ByteArray.ext (Array.ext' h)
theorem txt_recB (r : Rec) : txtOf (recB r) = encS r := by
  apply ba_ext
  unfold txtOf
  rw [Lib.extract_to_end, recB_data]; rfl
/-- A record's fields that count, as claimed by its line. -/
theorem clm_fields {x : ByteArray} {r : Rec} (h : cutS x = rB :: r.texts) (hk : -9223372036854775808 ≤ r.k ∧ r.k ≤ 9223372036854775807) (ha : -9223372036854775808 ≤ r.a ∧ r.a ≤ 9223372036854775807) : (clm x).k = r.k ∧ (clm x).a = r.a ∧ (clm x).ca = r.ca := by
  have n1 := numV_ito hk
  have n2 := numV_ito ha
  unfold clm
  rw [h, if_pos ⟨rfl, n1.2, n2.2⟩]
  exact ⟨n1.1, n2.1, rfl⟩
theorem deb_clm {x r : Rec} (hk : x.k = r.k) (ha : x.a = r.a) : debR x = debR r ∧ creR x = creR r := by
  unfold debR creR amtR; rw [hk, ha]; exact ⟨rfl, rfl⟩
theorem debS_congr {l m : List Rec} (hl : l.length = m.length) (h : ∀ j, j < l.length → debR (rcAt l j) = debR (rcAt m j) ∧ creR (rcAt l j) = creR (rcAt m j)) : ∀ k, k ≤ l.length → debS l k = debS m k ∧ creS l k = creS m k
  | 0, _ => ⟨rfl, rfl⟩
  | k + 1, hk => by
    have ih := debS_congr hl h k (by omega)
    have hj := h k (by omega)
    rw [debS_succ l k (by omega), debS_succ m k (by omega), creS_succ l k (by omega), creS_succ m k (by omega), ih.1, ih.2, hj.1, hj.2]; exact ⟨rfl, rfl⟩
/-! ### the lines of an encoded file -/
def hdrB (b : Bat) : ByteArray := lineB [hB, b.id, b.sd, itoS b.dt]
def trlB (b : Bat) : ByteArray := lineB [tB, itoS b.rs.length, itoS (debS b.rs b.rs.length), itoS (creS b.rs b.rs.length), itoS (C7.totB (cardsOf b.rs))]
def chkBL (b : Bat) : ByteArray := lineB [cB, crcS (bodyL b)]
def linesB (b : Bat) : List ByteArray := hdrB b :: (b.rs.map recB ++ [trlB b, chkBL b])
theorem flat_join : ∀ (r : List (List UInt8)) (x : List UInt8), (x :: r).flatMap (fun y => y ++ [10]) = Lib.join (x :: r) [10] ++ [10]
  | [], x => by rw [join_one]; simp
  | y :: r, x => by
    rw [List.flatMap_cons, flat_join r y, join_cons2]; simp
theorem textL_lines (b : Bat) : textL b = (linesB b).flatMap (fun x => x.data.toList ++ [10]) := by
  unfold textL linesB
  have e1 : chkL (bodyL b) = (chkBL b).data.toList ++ [10] := rfl
  have e2 : bodyL b = (hdrB b).data.toList ++ [10] ++ (b.rs.map recB).flatMap (fun x => x.data.toList ++ [10]) ++ ((trlB b).data.toList ++ [10]) := by
    unfold bodyL bodyK
    rw [List.take_length, List.flatMap_map]; rfl
  rw [e1]
  conv => lhs; arg 1; rw [e2]
  simp only [List.flatMap_cons, List.flatMap_append, List.flatMap_nil, List.append_assoc, List.append_nil]
theorem join_lines (b : Bat) : textL b = Lib.join ((linesB b).map (·.data.toList)) [10] ++ [10] := by
  rw [textL_lines]
  have := flat_join ((b.rs.map recB ++ [trlB b, chkBL b]).map (·.data.toList)) (hdrB b).data.toList
  unfold linesB
  rw [List.map_cons, ← this, List.flatMap_cons, List.flatMap_cons, List.flatMap_map]
theorem d16_lf (n : Nat) (h : n < 16) : d16 n ≠ 10 ∧ d16 n ≠ 124 := by
  have key : ∀ n : Fin 16, d16 n.1 ≠ 10 ∧ d16 n.1 ≠ 124 := by decide
  exact key ⟨n, h⟩
theorem pad16_lf : ∀ (k n : Nat), ∀ b ∈ pad 16 d16 k n, b ≠ 10 ∧ b ≠ 124
  | 0, n, b, hb => by cases hb
  | k + 1, n, b, hb => by
    rw [pad] at hb
    rcases List.mem_append.1 hb with q | q
    · exact pad16_lf k (n / 16) b q
    · rw [List.mem_singleton] at q; subst q; exact d16_lf _ (Nat.mod_lt _ (by omega))
theorem lines_lf {b : Bat} (h : chkB b = 0) : ∀ y ∈ linesB b, ∀ c ∈ y.data.toList, c ≠ 10 := by
  obtain ⟨h1, h2, h3⟩ := chkB_zero h
  obtain ⟨i1, i2, i3, i4⟩ := headE_zero h1
  intro y hy
  unfold linesB at hy
  rcases List.mem_cons.1 hy with rfl | hy
  · refine lineB_lf (fun z hz => ?_)
    simp only [List.mem_cons, List.not_mem_nil, or_false] at hz
    rcases hz with rfl | rfl | rfl | rfl
    · decide
    · exact idn_lf i1
    · exact name_lf i2
    · exact itoS_lf _
  rcases List.mem_append.1 hy with hy | hy
  · obtain ⟨r, hr, rfl⟩ := List.mem_map.1 hy
    obtain ⟨k, hk, rfl⟩ := List.getElem_of_mem hr
    have hz := (ptL_zero (h3 k hk)).1
    rw [rcAt_get _ _ hk] at hz
    refine lineB_lf (fun z hz' => ?_)
    simp only [List.mem_cons, List.not_mem_nil, or_false] at hz'
    rcases hz' with rfl | rfl
    · decide
    · exact encS_lf hz
  · simp only [List.mem_cons, List.not_mem_nil, or_false] at hy
    rcases hy with rfl | rfl
    · refine lineB_lf (fun z hz => ?_)
      simp only [List.mem_cons, List.not_mem_nil, or_false] at hz
      rcases hz with rfl | rfl | rfl | rfl | rfl
      · decide
      · exact itoS_lf _
      · exact itoS_lf _
      · exact itoS_lf _
      · exact itoS_lf _
    · refine lineB_lf (fun z hz => ?_)
      simp only [List.mem_cons, List.not_mem_nil, or_false] at hz
      rcases hz with rfl | rfl
      · decide
      · exact fun c hc => (pad16_lf _ _ c hc).1
theorem lns_of {s : ByteArray} {x : ByteArray} {r : List ByteArray} (hs : s.data.toList = Lib.join ((x :: r).map (·.data.toList)) [10] ++ [10]) (hl : ∀ y ∈ x :: r, ∀ c ∈ y.data.toList, c ≠ 10) : lnS (bodyOf s) = x :: r := by
  apply map_inj
  rw [lnS_data]
  have e : (bodyOf s).data.toList = Lib.join ((x :: r).map (·.data.toList)) [10] := by
    unfold bodyOf
    have hz : s.size = (Lib.join ((x :: r).map (·.data.toList)) [10]).length + 1 := by rw [Lib.size_eq, hs]; simp
    rw [Lib.extract_data, hs, hz]
    simp
  rw [e]
  refine cut_join 10 _ _ (fun y hy => ?_)
  obtain ⟨z, hz, rfl⟩ := List.mem_map.1 (show y ∈ (x :: r).map (·.data.toList) from hy)
  exact hl z hz
end Go.Proofs.YthflmdgfenojcaaGreatDoor
