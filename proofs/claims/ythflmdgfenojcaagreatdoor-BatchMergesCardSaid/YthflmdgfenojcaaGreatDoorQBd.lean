/- Part of the proof over this seat. -/
import Derived.Maps.Own
import Derived.Maps.OwnSet
import Derived.Maps.Views
import Derived.OneCell
import Derived.Test.YthflmdgfenojcaaGreatDoorQSl
import Derived.Test.YthflmdgfenojcaaGreatDoorQC7p
import Derived.Test.YthflmdgfenojcaaGreatDoorQRws
import Derived.Test.YthflmdgfenojcaaGreatDoorQHx
namespace Go.Proofs.YthflmdgfenojcaaGreatDoor
set_option linter.unusedVariables false
open Go.RowKit
/-- The first number that is not 0 among f 0 .. f (n - 1), or 0. -/
def firstE (f : Nat → Int) : Nat → Int
  | 0 => 0
  | n + 1 => if firstE f n ≠ 0 then firstE f n else f n
theorem firstE_zero (f : Nat → Int) : ∀ n, (∀ j, j < n → f j = 0) → firstE f n = 0
  | 0, _ => rfl
  | n + 1, h => by
    unfold firstE
    rw [firstE_zero f n (fun j hj => h j (by omega)), if_neg (by simp)]; exact h n (by omega)
theorem firstE_at (f : Nat → Int) (k : Nat) : ∀ n, k < n → (∀ j, j < k → f j = 0) → f k ≠ 0 → firstE f n = f k
  | 0, h, _, _ => absurd h (Nat.not_lt_zero _)
  | n + 1, h, h0, h1 => by
    unfold firstE
    rcases Nat.lt_or_ge k n with q | q
    · rw [firstE_at f k n q h0 h1, if_pos h1]
    · obtain rfl : k = n := by omega
      rw [firstE_zero f k h0, if_neg (by simp)]
theorem firstE_all (f : Nat → Int) : ∀ n, firstE f n = 0 → ∀ j, j < n → f j = 0
  | 0, _, j, hj => absurd hj (Nat.not_lt_zero _)
  | n + 1, h, j, hj => by
    unfold firstE at h
    split at h
    · rename_i q; exact absurd h q
    · rename_i q
      have q' : firstE f n = 0 := by omega
      rcases Nat.lt_or_ge j n with c | c
      · exact firstE_all f n q' j c
      · obtain rfl : j = n := by omega
        exact h
/-- A file of records. -/
structure Bat where
  id : ByteArray
  sd : ByteArray
  dt : Int
  rs : List Rec
def idsOf (l : List Rec) : List ByteArray := l.map fun r => r.id
instance (x : ByteArray) (l : List ByteArray) : Decidable (x ∈ l) := decidable_of_iff (l.any (fun y => decide (y = x)) = true) (by simp)
/-- What is wrong with the record k of a list. -/
def ptL (sd : ByteArray) (rs : List Rec) (k : Nat) : Int :=
  if chkE (rcAt rs k) ≠ 0 then chkE (rcAt rs k) else if (rcAt rs k).aq ≠ sd then 5 else if (rcAt rs k).id ∈ idsOf (rs.take k) then 7 else 0
def headE (id sd : ByteArray) (dt : Int) : Int := if idB id = true ∧ nameB sd.data.toList = true then (if 0 ≤ dt ∧ dt ≤ 99999 then 0 else 14) else 5
def chkB (b : Bat) : Int := if headE b.id b.sd b.dt ≠ 0 then headE b.id b.sd b.dt else if 200 < b.rs.length then 3 else firstE (ptL b.sd b.rs) b.rs.length
theorem ptL_chk {sd : ByteArray} {rs : List Rec} {k : Nat} (h : chkE (rcAt rs k) ≠ 0) : ptL sd rs k = chkE (rcAt rs k) := by unfold ptL; rw [if_pos h]
theorem ptL_aq {sd : ByteArray} {rs : List Rec} {k : Nat} (h : chkE (rcAt rs k) = 0) (h2 : (rcAt rs k).aq ≠ sd) : ptL sd rs k = 5 := by unfold ptL; rw [if_neg (by simp [h]), if_pos h2]
theorem ptL_id {sd : ByteArray} {rs : List Rec} {k : Nat} (h : chkE (rcAt rs k) = 0) (h2 : (rcAt rs k).aq = sd) (h3 : (rcAt rs k).id ∈ idsOf (rs.take k)) : ptL sd rs k = 7 := by unfold ptL; rw [if_neg (by simp [h]), if_neg (by simp [h2]), if_pos h3]
theorem ptL_ok {sd : ByteArray} {rs : List Rec} {k : Nat} (h : chkE (rcAt rs k) = 0) (h2 : (rcAt rs k).aq = sd) (h3 : ¬ (rcAt rs k).id ∈ idsOf (rs.take k)) : ptL sd rs k = 0 := by unfold ptL; rw [if_neg (by simp [h]), if_neg (by simp [h2]), if_neg h3]
theorem ptL_zero {sd : ByteArray} {rs : List Rec} {k : Nat} (h : ptL sd rs k = 0) : chkE (rcAt rs k) = 0 ∧ (rcAt rs k).aq = sd ∧ ¬ (rcAt rs k).id ∈ idsOf (rs.take k) := by
  unfold ptL at h
  split at h
  · rename_i q; exact absurd h q
  · rename_i q
    split at h
    · cases h
    · rename_i q2
      split at h
      · cases h
      · rename_i q3
        exact ⟨by omega, Decidable.not_not.1 q2, q3⟩
theorem headE_zero {id sd : ByteArray} {dt : Int} (h : headE id sd dt = 0) : idB id = true ∧ nameB sd.data.toList = true ∧ 0 ≤ dt ∧ dt ≤ 99999 := by
  unfold headE at h
  split at h
  · rename_i q
    split at h
    · rename_i q2; exact ⟨q.1, q.2, q2⟩
    · cases h
  · cases h
theorem chkB_zero {b : Bat} (h : chkB b = 0) : headE b.id b.sd b.dt = 0 ∧ b.rs.length ≤ 200 ∧ ∀ k, k < b.rs.length → ptL b.sd b.rs k = 0 := by
  unfold chkB at h
  split at h
  · rename_i q; exact absurd h q
  · rename_i q
    split at h
    · cases h
    · rename_i q2
      exact ⟨by omega, by omega, firstE_all _ _ h⟩
theorem chkB_ok {b : Bat} (h : headE b.id b.sd b.dt = 0) (h2 : b.rs.length ≤ 200) (h3 : ∀ k, k < b.rs.length → ptL b.sd b.rs k = 0) : chkB b = 0 := by
  unfold chkB
  rw [if_neg (by simp [h]), if_neg (by omega), firstE_zero _ _ h3]
def strAt (ps : List ByteArray) (k : Nat) : ByteArray := ps.getD k ByteArray.empty
theorem strAt_get (ps : List ByteArray) (k : Nat) (h : k < ps.length) : strAt ps k = ps[k] := by unfold strAt; simp [h]
/-- The first k parts, with bars between them. -/
def joinK (ps : List ByteArray) (k : Nat) : List UInt8 := Lib.join ((ps.take k).map (·.data.toList)) [124]
def lineL (ps : List ByteArray) : List UInt8 := joinK ps ps.length ++ [10]
theorem joinK_zero (ps : List ByteArray) : joinK ps 0 = [] := rfl
theorem joinK_one (ps : List ByteArray) (h : 0 < ps.length) : joinK ps 1 = (strAt ps 0).data.toList := by
  cases ps with
  | nil => exact absurd h (Nat.not_lt_zero _)
  | cons x r => exact Lib.join_one _ _
theorem joinK_succ (ps : List ByteArray) (k : Nat) (h0 : 0 < k) (h : k < ps.length) : joinK ps (k + 1) = joinK ps k ++ [124] ++ (strAt ps k).data.toList := by
  cases ps with
  | nil => exact absurd h (Nat.not_lt_zero _)
  | cons x r =>
    obtain ⟨j, rfl⟩ : ∃ j, k = j + 1 := ⟨k - 1, by omega⟩
    have hj : j < r.length := by simpa using h
    have hg : (r.map (·.data.toList))[j]? = some ((strAt (x :: r) (j + 1)).data.toList) := by
      rw [strAt_get _ _ h, List.getElem?_map, List.getElem?_eq_getElem hj]; rfl
    unfold joinK
    simp only [List.take_succ_cons, List.map_cons, Lib.join_cons, List.map_take]
    rw [Lib.joinTail_take_succ _ _ j _ hg]
    simp [List.append_assoc]
theorem joinK_len (ps : List ByteArray) (M : Nat) (hM : ∀ i, i < ps.length → (strAt ps i).size ≤ M) : ∀ k, k ≤ ps.length → (joinK ps k).length ≤ k * (M + 1)
  | 0, _ => by rw [joinK_zero]; simp
  | k + 1, h => by
    have ih := joinK_len ps M hM k (by omega)
    have hm := hM k (by omega)
    have e : (strAt ps k).data.toList.length = (strAt ps k).size := rfl
    rcases Nat.eq_zero_or_pos k with h0 | h0
    · subst h0
      rw [joinK_one ps (by omega), e]; omega
    · rw [joinK_succ ps k h0 (by omega)]
      simp only [List.length_append, List.length_singleton, e]
      rw [Nat.succ_mul]; omega
theorem lineL_len (ps : List ByteArray) (M : Nat) (hM : ∀ i, i < ps.length → (strAt ps i).size ≤ M) : (lineL ps).length ≤ ps.length * (M + 1) + 1 := by
  have := joinK_len ps M hM ps.length (Nat.le_refl _)
  unfold lineL; simp; omega
def hdrL (id sd : ByteArray) (dt : Int) : List UInt8 := lineL [⟨#[72]⟩, id, sd, itoS dt]
def recL' (r : Rec) : List UInt8 := lineL [⟨#[82]⟩, encS r]
def trlL (n : Nat) (d c h : Int) : List UInt8 := lineL [⟨#[84]⟩, itoS n, itoS d, itoS c, itoS h]
def crcS (l : List UInt8) : ByteArray := ⟨(text8 (C7.crcOf l)).toArray⟩
def chkL (l : List UInt8) : List UInt8 := lineL [⟨#[67]⟩, crcS l]
/-- The header and the first k record lines. -/
def bodyK (b : Bat) (k : Nat) : List UInt8 := hdrL b.id b.sd b.dt ++ (b.rs.take k).flatMap recL'
def bodyL (b : Bat) : List UInt8 := bodyK b b.rs.length ++ trlL b.rs.length (debS b.rs b.rs.length) (creS b.rs b.rs.length) (C7.totB (cardsOf b.rs))
def textL (b : Bat) : List UInt8 := bodyL b ++ chkL (bodyL b)
def encB (b : Bat) : ByteArray := if chkB b = 0 then ⟨(textL b).toArray⟩ else ⟨#[]⟩
theorem bodyK_succ (b : Bat) (k : Nat) (h : k < b.rs.length) : bodyK b (k + 1) = bodyK b k ++ recL' (rcAt b.rs k) := by
  unfold bodyK
  rw [List.take_succ_eq_append_getElem h, List.flatMap_append, rcAt_get b.rs k h]
  simp
theorem nd_pow (k : Nat) : ∀ u, 1 ≤ k → u < 10 ^ k → Lib.nDigits u ≤ k := by
  induction k with
  | zero => intro u h; omega
  | succ k ih =>
    intro u _ hu
    rw [Lib.nDigits]
    split
    · omega
    · rcases Nat.eq_zero_or_pos k with h0 | h0
      · subst h0; simp at hu; omega
      · have := ih (u / 10) h0 (by rw [Nat.pow_succ] at hu; omega)
        omega
theorem itoS_size (v : Int) (h : -9223372036854775808 ≤ v ∧ v ≤ 9223372036854775807) : (itoS v).size ≤ 20 := by
  have hd : Lib.nDigits v.natAbs ≤ 19 := nd_pow 19 _ (by omega) (by omega)
  show (Lib.itoa v).toArray.size ≤ 20
  rw [List.size_toArray]
  unfold Lib.itoa
  have e1 := Lib.decDigits_length v.natAbs
  split
  · rw [List.length_cons, e1]; omega
  · rename_i q
    have : v.toNat = v.natAbs := by omega
    rw [this, e1]; omega
end Go.Proofs.YthflmdgfenojcaaGreatDoor
namespace Go.Proofs.YthflmdgfenojcaaGreatDoor
set_option linter.unusedVariables false
open Go.RowKit Go.Maps
theorem law9 : Keyed Tryz.prog 9 := string_keyed Tryz.underlying9
theorem zero4 (w : World) : (zeroValue 4).run Tryz.prog w = .ok (.bool false) w := by kernel_rfl
def skey (t : ByteArray) : Lit := .string t.data.toList
theorem skey_inj {x y : ByteArray} (h : skey x = skey y) : x = y := by
  unfold skey at h
  injection h with h
  exact ByteArray.ext (Array.ext' h)
/-- Block b is a map that holds true at the texts of l, and at no other. -/
def SSet (w : World) (b : Nat) (l : List ByteArray) : Prop :=
  ∃ (n : Nat) (D : DataW Unit), w.ownsMap Tryz.prog 9 (plainElem Tryz.prog 4) b n D ∧ IsMap D ∧ n ≤ l.length ∧ ∀ d : ByteArray, D.atKey (skey d) (.lit (.bool false)) = .lit (.bool (decide (d ∈ l)))
theorem SSet.made (w : World) : SSet (w.alloc (.map #[] 0)) w.heap.size [] :=
  ⟨0, .map [], World.ownsMap_made _ _ _ _, isMap_empty, by simp, fun d => by simp only [List.not_mem_nil, decide_false]; rfl⟩
theorem SSet.kept {w w' : World} {b : Nat} {l : List ByteArray} (h : SSet w b l) {row : Option Nat} (hg : w.grownBy w' row) (hne : some b ≠ row) : SSet w' b l := by
  obtain ⟨n, D, h1, h2, h3, h4⟩ := h
  exact ⟨n, D, h1.kept hg hne, h2, h3, h4⟩
theorem SSet.below {w w' : World} {b : Nat} {l : List ByteArray} (h : SSet w b l) (hb : Below w.heap.size w w') : SSet w' b l :=
  h.kept (row := none) ⟨hb.os, hb.tape, hb.output, hb.size, fun k hk _ => hb.block k hk⟩ (by simp)
theorem SSet.lt {w : World} {b : Nat} {l : List ByteArray} (h : SSet w b l) : b < w.heap.size := by
  obtain ⟨n, D, h1, h2, h3, h4⟩ := h
  exact h1.lt
set_option maxRecDepth 100000 in
theorem SSet.look {w : World} {b : Nat} {l : List ByteArray} (h : SSet w b l) (d : ByteArray) (hd : d.size ≤ maxLen) :
    (Instr.lookup 143 (.map (some b)) (.string d) false).run Tryz.prog w = .ok (.bool (decide (d ∈ l))) w := by
  obtain ⟨n, D, h1, h2, h3, h4⟩ := h
  obtain ⟨v, ps, hrun, hv⟩ := h1.lookup law9 Tryz.underlying143 (zero4 w) (plainElem_bool Tryz.underlying4 false) (WideMaps.keyOf_string_mk Tryz.underlying9 hd)
  have h5 := h4 d
  unfold skey at h5
  rw [h5] at hv
  rw [hrun]
  unfold plainElem at hv
  rw [Tryz.underlying4] at hv
  cases v <;> simp at hv
  rw [hv.1]
set_option maxRecDepth 100000 in
theorem SSet.put {w : World} {b : Nat} {l : List ByteArray} (h : SSet w b l) (hl : l.length < 1000000) (d : ByteArray) (hd : d.size ≤ maxLen) :
    ∃ w', (Instr.mapUpdate 143 (.map (some b)) (.string d) (.bool true)).run Tryz.prog w = .ok () w' ∧ SSet w' b (l ++ [d]) ∧ w.grownBy w' (some b) := by
  obtain ⟨n, D, h1, h2, h3, h4⟩ := h
  obtain ⟨w', hrun, hown, hg⟩ := h1.update law9 Tryz.underlying143 (by unfold maxLen; omega) (WideMaps.keyOf_string_mk Tryz.underlying9 hd) (plainElem_bool Tryz.underlying4 true)
  refine ⟨w', hrun, ⟨n + 1, _, hown, h2.put _ _, by simp; omega, fun x => ?_⟩, hg⟩
  by_cases hx : x = d
  · subst hx
    exact (atKey_put_same h2 (show WideAt.IsKeyLit (skey x) from trivial) _ _).trans (by simp)
  · refine (atKey_put_other (fun e => hx (skey_inj e)) _ _).trans ?_
    rw [h4 x]; simp [hx]
end Go.Proofs.YthflmdgfenojcaaGreatDoor
namespace Go.Proofs.YthflmdgfenojcaaGreatDoor
set_option linter.unusedVariables false
open Go.RowKit
def lfS : ByteArray := ⟨#[10]⟩
/-- The lines of a text. -/
def lnS (s : ByteArray) : List ByteArray := Lib.splitB lfS 0 (Lib.countB s lfS) s
theorem lnS_data (s : ByteArray) : (lnS s).map (·.data.toList) = cutL 10 s.data.toList := by
  unfold lnS
  rw [Lib.splitB_data, ← splitK_cut]
  have h : Lib.countB s lfS = s.data.toList.count 10 := Lib.count_one 10 s.data.toList
  rw [h]; rfl
theorem lnS_len (s : ByteArray) : (lnS s).length = Lib.countB s lfS + 1 := Lib.splitB_all lfS (by decide) 0 _ s rfl
theorem lnS_size (s : ByteArray) : ∀ x ∈ lnS s, x.size ≤ s.size := by
  intro x hx
  have h : x.data.toList ∈ (lnS s).map (·.data.toList) := List.mem_map_of_mem hx
  rw [lnS_data] at h
  have := cutL_len 10 _ _ h
  simpa using this
def bodyOf (s : ByteArray) : ByteArray := s.extract 0 (s.size - 1)
def nLn (s : ByteArray) : Nat := (lnS (bodyOf s)).length
def lnAt (s : ByteArray) (k : Nat) : ByteArray := prt (lnS (bodyOf s)) k
/-- The parts of the header and of the trailer; the check line, its digits, and what it covers. -/
def hdP (s : ByteArray) (j : Nat) : ByteArray := prt (cutS (lnAt s 0)) j
def trP (s : ByteArray) (j : Nat) : ByteArray := prt (cutS (lnAt s (nLn s - 2))) j
def ckL (s : ByteArray) : ByteArray := lnAt s (nLn s - 1)
def ckD (s : ByteArray) : ByteArray := (ckL s).extract 2 (ckL s).size
def cov (s : ByteArray) : ByteArray := s.extract 0 (s.size - 1 - (ckL s).size)
def nRc (s : ByteArray) : Nat := nLn s - 3
def rcL (s : ByteArray) (k : Nat) : ByteArray := lnAt s (1 + k)
def isCk (x : ByteArray) : Bool := decide (x.size = 8) && lowHex x.data.toList
def HdF (s : ByteArray) : Prop := (cutS (lnAt s 0)).length = 4 ∧ hdP s 0 = ⟨#[72]⟩ ∧ numOK (hdP s 3) = true
def CkF (s : ByteArray) : Prop := Lib.hasPrefix (ckL s).data.toList [67, 124] = true ∧ isCk (ckD s) = true
def TrF (s : ByteArray) : Prop := (cutS (lnAt s (nLn s - 2))).length = 5 ∧ trP s 0 = ⟨#[84]⟩ ∧ ∀ j, j < 4 → numOK (trP s (j + 1)) = true
def RcF (s : ByteArray) : Prop := ∀ k, k < nRc s → Lib.hasPrefix (rcL s k).data.toList [82, 124] = true
def FormF (s : ByteArray) : Prop := HdF s ∧ CkF s ∧ TrF s ∧ RcF s
instance (s : ByteArray) : Decidable (FormF s) := by unfold FormF HdF CkF TrF RcF; infer_instance
def divE (s : ByteArray) : Int := if Lib.countB s lfS < 3 then 1 else if Lib.hasSuffix s.data.toList [10] = true ∧ FormF s then 0 else 2
/-- The record whose fields count for the totals of a record line. -/
def clm (x : ByteArray) : Rec := if (cutS x).length = 13 ∧ numOK (prt (cutS x) 1) = true ∧ numOK (prt (cutS x) 8) = true then ⟨numV (prt (cutS x) 1), ⟨#[]⟩, ⟨#[]⟩, ⟨#[]⟩, ⟨#[]⟩, ⟨#[]⟩, prt (cutS x) 7, numV (prt (cutS x) 8), ⟨#[]⟩, 0, 0, false⟩ else zrec
def recLs (s : ByteArray) : List ByteArray := (List.range (nRc s)).map (rcL s)
def clmL (s : ByteArray) : List Rec := (recLs s).map clm
def TotF (s : ByteArray) : Prop := numV (trP s 1) = (nRc s : Int) ∧ numV (trP s 2) = debS (clmL s) (nRc s) ∧ numV (trP s 3) = creS (clmL s) (nRc s) ∧ numV (trP s 4) = (C7.totB (cardsOf (clmL s)) : Int)
instance (s : ByteArray) : Decidable (TotF s) := by unfold TotF; infer_instance
def exaE (s : ByteArray) : Int := if ckD s ≠ crcS (cov s).data.toList then 9 else if ¬ TotF s then 9 else if 200 < nRc s then 3 else headE (hdP s 1) (hdP s 2) (numV (hdP s 3))
def fileE (s : ByteArray) : Int := if divE s ≠ 0 then divE s else exaE s
structure RdS where
  rs : List Rec
  bad : List (Nat × ByteArray × Int)
def lnId (x : ByteArray) : ByteArray := if (cutS x).length = 13 then prt (cutS x) 2 else ⟨#[]⟩
def txtOf (x : ByteArray) : ByteArray := x.extract 2 x.size
def ptD (sd : ByteArray) (rs : List Rec) (x : ByteArray) : Int := if decE (txtOf x) ≠ 0 then decE (txtOf x) else if (decV (txtOf x)).aq ≠ sd then 5 else if (decV (txtOf x)).id ∈ idsOf rs then 7 else 0
def rdStep (sd : ByteArray) (st : RdS) (i : Nat) (x : ByteArray) : RdS := if ptD sd st.rs x = 0 then ⟨st.rs ++ [decV (txtOf x)], st.bad⟩ else ⟨st.rs, st.bad ++ [(i, lnId x, ptD sd st.rs x)]⟩
def rdK (s : ByteArray) : Nat → RdS
  | 0 => ⟨[], []⟩
  | k + 1 => rdStep (hdP s 2) (rdK s k) k (rcL s k)
def fileV (s : ByteArray) : Bat := if fileE s = 0 then ⟨hdP s 1, hdP s 2, numV (hdP s 3), (rdK s (nRc s)).rs⟩ else ⟨⟨#[]⟩, ⟨#[]⟩, 0, []⟩
def fileB (s : ByteArray) : List (Nat × ByteArray × Int) := if fileE s = 0 then (rdK s (nRc s)).bad else []
end Go.Proofs.YthflmdgfenojcaaGreatDoor
