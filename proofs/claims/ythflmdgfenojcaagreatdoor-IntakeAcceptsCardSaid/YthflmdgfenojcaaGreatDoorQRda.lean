/- Part of the proof over this seat. -/
import Derived.Test.YthflmdgfenojcaaGreatDoorQCr
import Derived.Test.YthflmdgfenojcaaGreatDoorQPr
import Derived.Test.YthflmdgfenojcaaGreatDoorQCl
import Derived.Test.YthflmdgfenojcaaGreatDoorQDcd
namespace Go.Proofs.YthflmdgfenojcaaGreatDoor
set_option linter.unusedVariables false
open Go.RowKit
theorem isCk_all (s : ByteArray) (hh : ∀ j, (hj : j < s.size) → hexN (s[j]).toNat = true) : isCk s = decide (s.size = 8) := by
  by_cases h : s.size = 8
  · rw [isCk_yes s h hh, decide_eq_true h]
  · rw [isCk_size s h, decide_eq_false h]
set_option maxHeartbeats 1600000 in
theorem rhex_any (s : ByteArray) (w : World) (hs : s.size ≤ maxLen) : Calls Tryz.prog 123 #[.string s] w fun e w' => e = .returned (.bool (isCk s)) ∧ w = w' := by
  have hno := Lib.hid (isCk_no s)
  have hy := Lib.hid (isCk_all s)
  have HI := Lib.hid (fun k => hexN_iff k)
  unfold maxLen at hs
  go_enter Tryz.func123, Tryz.ntmps123
  go_wp2_with fail
  go_loop [3] (fun i => ∃ k : Nat, k ≤ s.size ∧ i = .int .i64 k ∧ Hid (∀ j, j < k → (h' : j < s.size) → hexN (s[j]).toNat = true)) (fun i => s.size - (intOf i).toNat)
  case atStart => exact ⟨0, by omega, rfl, Lib.hid (fun j h _ => by omega)⟩
  case round =>
    obtain ⟨k, hk, rfl, hall⟩ := hrel
    by_cases hlt : k < s.size
    · have hstep := Lib.hid (fun (hw : hexN (s[k]).toNat = true) j (h : j < k + 1) (h' : j < s.size) => show hexN (s[j]).toNat = true from by
        rcases Nat.lt_or_ge j k with c | c
        · exact hall.out j c h'
        · obtain rfl : j = k := by omega
          exact hw)
      have hN := Lib.hid (fun h => hno.out k hlt h)
      have hI := Lib.hid (HI.out (s[k]).toNat)
      go_wp2_with fail
      all_goals first
        | (refine ⟨⟨k + 1, by omega, by go_num, Lib.hid (hstep.out (hI.out.2 (by simp at *; omega)))⟩, by simp [intOf]; omega⟩)
        | (go_ret
           refine ⟨?_, rfl⟩
           rw [hN.out (by cases hc : hexN (s[k]).toNat; rfl; exfalso; have := hI.out.1 hc; simp at *; omega)]; try rfl)
    · obtain rfl : k = s.size := by omega
      have HE := Lib.hid (hy.out (fun j hj => hall.out j hj hj))
      by_cases h8 : s.size = 8
      · have h8b : ((s.size : Int) == 8) = true := by simp; omega
        rw [decide_eq_true h8] at HE
        go_wp2_with fail
        go_ret
        exact ⟨by rw [HE.out]; try rfl, rfl⟩
      · have h8b : ((s.size : Int) == 8) = false := by simp; omega
        rw [decide_eq_false h8] at HE
        go_wp2_with fail
        go_ret
        exact ⟨by rw [HE.out]; try rfl, rfl⟩
end Go.Proofs.YthflmdgfenojcaaGreatDoor
namespace Go.Proofs.YthflmdgfenojcaaGreatDoor
set_option linter.unusedVariables false
open Go.RowKit
/-- What digits spell. -/
def spl (l : List UInt8) : Nat := l.foldl (fun a c => a * 10 + (c.toNat - 48)) 0
def isDig (c : UInt8) : Prop := 48 ≤ c.toNat ∧ c.toNat ≤ 57
theorem spl_snoc (l : List UInt8) (c : UInt8) : spl (l ++ [c]) = spl l * 10 + (c.toNat - 48) := by unfold spl; rw [List.foldl_append]; rfl
theorem snoc_ind {P : List UInt8 → Prop} (h0 : P []) (hs : ∀ l c, P l → P (l ++ [c])) (l : List UInt8) : P l := by
  have : ∀ r : List UInt8, P r.reverse := fun r => by
    induction r with
    | nil => exact h0
    | cons c r ih => rw [List.reverse_cons]; exact hs _ _ ih
  have h := this l.reverse
  rwa [List.reverse_reverse] at h
theorem spl_take_le : ∀ (l : List UInt8) (k : Nat), spl (l.take k) ≤ spl l := by
  intro l
  induction l using snoc_ind with
  | h0 => intro k; simp
  | hs l c ih =>
    intro k
    rcases Nat.lt_or_ge k (l ++ [c]).length with h | h
    · rw [List.take_append_of_le_length (by simp at h; omega), spl_snoc]
      have := ih k; omega
    · rw [List.take_of_length_le h]
      exact Nat.le_refl _
theorem spl_dec (u : Nat) : spl (Lib.decDigits u) = u := by
  induction u using Nat.strongRecOn with
  | _ u ih =>
    have dig : ∀ d, d < 10 → (UInt8.ofNat (48 + d)).toNat = 48 + d := fun d hd => by rw [UInt8.toNat_ofNat']; omega
    rw [Lib.decDigits]
    split
    · rename_i h
      show spl ([] ++ [_]) = u
      rw [spl_snoc, dig u h]; simp [spl]
    · rename_i h
      rw [spl_snoc, ih (u / 10) (by omega), dig (u % 10) (by omega)]; omega
theorem dec_zero {u : Nat} {r : List UInt8} (h : Lib.decDigits u = 48 :: r) : u = 0 ∧ r = [] := by
  induction u using Nat.strongRecOn generalizing r with
  | _ u ih =>
    have dig : ∀ d, d < 10 → (UInt8.ofNat (48 + d)).toNat = 48 + d := fun d hd => by rw [UInt8.toNat_ofNat']; omega
    rw [Lib.decDigits] at h
    split at h
    · rename_i h10
      injection h with h1 h2
      have := congrArg UInt8.toNat h1
      rw [dig u h10] at this
      have : (48 : UInt8).toNat = 48 := rfl
      exact ⟨by omega, h2.symm⟩
    · rename_i h10
      obtain ⟨b, r', hf, hb⟩ := decDigits_form (u / 10)
      rw [hf] at h
      injection h with h1 h2
      rw [h1] at hf
      have := (ih (u / 10) (by omega) hf).1
      omega
theorem dec_spl : ∀ (l : List UInt8), l ≠ [] → (∀ c ∈ l, isDig c) → (l.head? = some 48 → l.length = 1) → Lib.decDigits (spl l) = l := by
  intro l
  induction l using snoc_ind with
  | h0 => intro h; exact absurd rfl h
  | hs l c ih =>
    intro _ hd h0
    have hc := hd c (by simp)
    unfold isDig at hc
    have eC : UInt8.ofNat (48 + (c.toNat - 48)) = c := by
      apply UInt8.toNat_inj.1
      rw [UInt8.toNat_ofNat']; omega
    rw [spl_snoc]
    cases l with
    | nil =>
      rw [Lib.decDigits, dif_pos (by simp [spl]; omega)]
      simp [spl]; simpa using eC
    | cons b r =>
      have hb := hd b (by simp)
      have hne : b ≠ 48 := fun e => by
        have := h0 (by simp [e])
        simp at this
      have hIH := ih (by simp) (fun x hx => hd x (List.mem_append_left _ hx)) (fun e => by simp at e; exact absurd e hne)
      have h1 : 1 ≤ spl (b :: r) := by
        rcases Nat.eq_zero_or_pos (spl (b :: r)) with z | z
        · rw [z] at hIH
          rw [Lib.decDigits, dif_pos (by omega)] at hIH
          injection hIH with e1 e2
          exact absurd (by simpa using e1.symm) hne
        · exact z
      rw [Lib.decDigits, dif_neg (by omega)]
      rw [show (spl (b :: r) * 10 + (c.toNat - 48)) / 10 = spl (b :: r) by omega, hIH, show (spl (b :: r) * 10 + (c.toNat - 48)) % 10 = c.toNat - 48 by omega, eC]
/-- A text's sign and its digits. -/
def ngS (s : ByteArray) : Bool := decide (s.data.toList.head? = some 45)
def dgS (s : ByteArray) : List UInt8 := if ngS s then s.data.toList.tail else s.data.toList
theorem numOK_form {s : ByteArray} (h : numOK s = true) : dgS s ≠ [] ∧ (∀ c ∈ dgS s, isDig c) ∧ ((dgS s).head? = some 48 → (dgS s).length = 1 ∧ ngS s = false) ∧ spl (dgS s) ≤ 9223372036854775808 ∧ (ngS s = false → spl (dgS s) ≠ 9223372036854775808) := by
  unfold numOK at h
  obtain ⟨v, hv⟩ := Option.isSome_iff_exists.1 h
  obtain ⟨hp, rfl⟩ := numR_some hv
  have hr := parse_range hp
  have e : (itoS v).data.toList = Lib.itoa v := rfl
  by_cases hn : v < 0
  · have e' : (itoS v).data.toList = 45 :: Lib.decDigits v.natAbs := by rw [e]; unfold Lib.itoa; rw [if_pos hn]
    have hg : ngS (itoS v) = true := by unfold ngS; rw [e']; rfl
    have hd : dgS (itoS v) = Lib.decDigits v.natAbs := by unfold dgS; rw [hg, e']; rfl
    rw [hd, hg, spl_dec]
    obtain ⟨b, r, hf, hb⟩ := decDigits_form v.natAbs
    refine ⟨by rw [hf]; simp, fun c hc => decDigits_all _ c hc, fun h0 => ?_, by omega, fun q => by cases q⟩
    rw [hf] at h0
    simp at h0
    rw [h0] at hf
    have := (dec_zero hf).1
    omega
  · have e' : (itoS v).data.toList = Lib.decDigits v.natAbs := by rw [e]; unfold Lib.itoa; rw [if_neg hn]; congr 1; omega
    obtain ⟨b, r, hf, hb⟩ := decDigits_form v.natAbs
    have hg : ngS (itoS v) = false := by
      unfold ngS; rw [e', hf]; simp; intro q; rw [q] at hb
      have : (45 : UInt8).toNat = 45 := rfl
      omega
    have hd : dgS (itoS v) = Lib.decDigits v.natAbs := by unfold dgS; rw [hg, e']; rfl
    rw [hd, hg, spl_dec]
    refine ⟨by rw [hf]; simp, fun c hc => decDigits_all _ c hc, fun h0 => ?_, by omega, fun _ => by omega⟩
    rw [hf] at h0
    simp at h0
    rw [h0] at hf
    have := (dec_zero hf).2
    rw [hf, this]; exact ⟨rfl, rfl⟩
theorem numOK_of {s : ByteArray} (h1 : dgS s ≠ []) (h2 : ∀ c ∈ dgS s, isDig c) (h3 : (dgS s).head? = some 48 → (dgS s).length = 1 ∧ ngS s = false) (h4 : spl (dgS s) ≤ 9223372036854775808) (h5 : ngS s = false → spl (dgS s) ≠ 9223372036854775808) :
    numR s = some (if ngS s then -(spl (dgS s) : Int) else (spl (dgS s) : Int)) := by
  have hD := dec_spl (dgS s) h1 h2 (fun q => (h3 q).1)
  cases hg : ngS s with
  | true =>
    have hs : s.data.toList = 45 :: dgS s := by
      have hd : dgS s = s.data.toList.tail := by unfold dgS; rw [hg]; rfl
      unfold ngS at hg
      rw [hd]
      cases hl : s.data.toList with
      | nil => rw [hl] at hg; simp at hg
      | cons b r => rw [hl] at hg; simp at hg; rw [hg]; rfl
    have hp : 1 ≤ spl (dgS s) := by
      rcases Nat.eq_zero_or_pos (spl (dgS s)) with z | z
      · rw [z] at hD
        have : (dgS s).head? = some 48 := by rw [← hD, Lib.decDigits, dif_pos (by omega)]; rfl
        have := (h3 this).2
        rw [hg] at this; cases this
      · exact z
    have : s = itoS (-(spl (dgS s) : Int)) := by
      apply ByteArray.ext
      apply Array.toList_inj.1
      rw [show (itoS (-(spl (dgS s) : Int))).data.toList = Lib.itoa (-(spl (dgS s) : Int)) from rfl, Lib.itoa_neg _ hp, hD]; exact hs
    rw [if_pos rfl]
    have hN := numR_ito (-(spl (dgS s) : Int)) (by omega)
    rw [← this] at hN
    exact hN
  | false =>
    have hs : s.data.toList = dgS s := by unfold dgS; rw [hg]; rfl
    have : s = itoS (spl (dgS s) : Int) := by
      apply ByteArray.ext
      apply Array.toList_inj.1
      rw [show (itoS (spl (dgS s) : Int)).data.toList = Lib.itoa (spl (dgS s) : Int) from rfl, Lib.itoa_nonneg, hD]; exact hs
    have h5' := h5 hg
    rw [if_neg (by simp)]
    have hN := numR_ito (spl (dgS s) : Int) (by omega)
    rw [← this] at hN
    exact hN
theorem dat_len (s : ByteArray) : s.data.toList.length = s.size := by simp
theorem dat_get (d : ByteArray) (k : Nat) (hk : k < d.size) : d.data.toList[k]'(by rw [dat_len]; exact hk) = d[k] := by simp; rfl
theorem spl_step (d : ByteArray) (k : Nat) (hk : k < d.size) : spl (d.data.toList.take (k + 1)) = spl (d.data.toList.take k) * 10 + ((d[k]).toNat - 48) := by
  rw [List.take_succ_eq_append_getElem (by rw [dat_len]; exact hk), spl_snoc, dat_get d k hk]
theorem rn_bad {s d : ByteArray} (hd : dgS s = d.data.toList) (k : Nat) (hk : k < d.size) (h : ¬ isDig (d[k])) : numOK s = false := by
  cases hc : numOK s with
  | false => rfl
  | true => exact absurd ((numOK_form hc).2.1 (d[k]) (by rw [hd, ← dat_get d k hk]; exact List.getElem_mem _)) h
theorem rn_over {s d : ByteArray} (hd : dgS s = d.data.toList) (k : Nat) (hk : k < d.size) (h : 9223372036854775808 < spl (d.data.toList.take k) * 10 + ((d[k]).toNat - 48)) : numOK s = false := by
  cases hc : numOK s with
  | false => rfl
  | true =>
    have h4 := (numOK_form hc).2.2.2.1
    rw [hd] at h4
    have := spl_take_le d.data.toList (k + 1)
    rw [spl_step d k hk] at this
    omega
theorem rn_zero {s d : ByteArray} {g : Bool} (hd : dgS s = d.data.toList) (hg : ngS s = g) (h0 : 0 < d.size) (h48 : (d[0]).toNat = 48) (h : 1 < d.size ∨ g = true) : numOK s = false := by
  cases hc : numOK s with
  | false => rfl
  | true =>
    have h3 := (numOK_form hc).2.2.1
    rw [hd, hg] at h3
    have : d.data.toList.head? = some 48 := by
      rw [List.head?_eq_getElem?, List.getElem?_eq_getElem (by rw [dat_len]; exact h0), dat_get d 0 h0]
      congr 1; exact UInt8.toNat_inj.1 h48
    have := h3 this
    rw [dat_len] at this
    rcases h with q | q
    · omega
    · rw [q] at this; exact absurd this.2 (by simp)
theorem rn_none {s d : ByteArray} (hd : dgS s = d.data.toList) (h0 : d.size = 0) : numOK s = false := by
  cases hc : numOK s with
  | false => rfl
  | true =>
    have h3 := (numOK_form hc).1
    rw [hd] at h3
    exact absurd (List.eq_nil_of_length_eq_zero (by rw [dat_len]; exact h0)) h3
theorem rn_end {s d : ByteArray} {g : Bool} (hd : dgS s = d.data.toList) (hg : ngS s = g) (h0 : 0 < d.size) (hz : (d[0]).toNat = 48 → ¬ (1 < d.size ∨ g = true)) (hall : ∀ j, (hj : j < d.size) → isDig (d[j])) (hb : spl d.data.toList ≤ 9223372036854775808) (h5 : g = false → spl d.data.toList ≠ 9223372036854775808) :
    numOK s = true ∧ numV s = if g then -(spl d.data.toList : Int) else (spl d.data.toList : Int) := by
  have := numOK_of (s := s) (by rw [hd]; intro e; have := congrArg List.length e; rw [dat_len] at this; have h9 : d.size = 0 := this; omega) (fun c hc => by
    rw [hd] at hc
    obtain ⟨j, hj, rfl⟩ := List.getElem_of_mem hc
    rw [dat_len] at hj
    rw [dat_get d j hj]; exact hall j hj) (fun h => by
    rw [hd, List.head?_eq_getElem?, List.getElem?_eq_getElem (by rw [dat_len]; exact h0), dat_get d 0 h0] at h
    have h48 : (d[0]).toNat = 48 := by injection h with h; rw [h]; rfl
    have := hz h48
    rw [hd, dat_len, hg]
    refine ⟨by omega, ?_⟩
    cases g
    · rfl
    · exact absurd (Or.inr rfl) this) (by rw [hd]; exact hb) (by rw [hd, hg]; exact h5)
  rw [hd, hg] at this
  unfold numOK numV
  rw [this]; exact ⟨rfl, rfl⟩
theorem rn_max {s d : ByteArray} {g : Bool} (hd : dgS s = d.data.toList) (hg : ngS s = false) (h : spl d.data.toList = 9223372036854775808) : numOK s = false := by
  cases hc : numOK s with
  | false => rfl
  | true =>
    have h5 := (numOK_form hc).2.2.2.2 hg
    rw [hd] at h5
    exact absurd h h5
theorem dg_neg {s : ByteArray} (h0 : 0 < s.size) (h : (s[0]).toNat = 45) : ngS s = true ∧ dgS s = (s.extract 1 s.size).data.toList := by
  have e : s.data.toList.head? = some 45 := by
    rw [List.head?_eq_getElem?, List.getElem?_eq_getElem (by rw [dat_len]; exact h0), dat_get s 0 h0]
    congr 1; exact UInt8.toNat_inj.1 h
  have hg : ngS s = true := by unfold ngS; rw [e]; rfl
  refine ⟨hg, ?_⟩
  unfold dgS; rw [hg, if_pos rfl]
  simp [← List.drop_one]
  exact (List.take_of_length_le (by simp)).symm
theorem dg_pos {s : ByteArray} (h : ∀ h0 : 0 < s.size, (s[0]).toNat ≠ 45) : ngS s = false ∧ dgS s = s.data.toList := by
  have hg : ngS s = false := by
    unfold ngS
    apply decide_eq_false
    intro e
    rcases Nat.eq_zero_or_pos s.size with z | z
    · rw [show s.data.toList = [] from List.eq_nil_of_length_eq_zero (by rw [dat_len]; exact z)] at e; cases e
    · rw [List.head?_eq_getElem?, List.getElem?_eq_getElem (by rw [dat_len]; exact z), dat_get s 0 z] at e
      injection e with e
      exact h z (by rw [e]; rfl)
  exact ⟨hg, by unfold dgS; rw [hg]; rfl⟩
theorem tq_iff (a x : Nat) (hx : x ≤ 9) : -(a : Int) < (-9223372036854775808 + (x : Int)).tdiv 10 ↔ 9223372036854775808 < a * 10 + x := by
  have e : (-9223372036854775808 + (x : Int)).tdiv 10 = -(((9223372036854775808 - x) / 10 : Nat) : Int) := by
    rw [show -9223372036854775808 + (x : Int) = -((9223372036854775808 - x : Nat) : Int) by omega, Int.neg_tdiv]
    rfl
  rw [e]; omega
def RNum (s : ByteArray) (w : World) (e : Ending) (w' : World) : Prop := (∃ v, e = .returned (.tuple #[.int .i64 v, .bool (numOK s)]) ∧ (numOK s = true → v = numV s)) ∧ w = w'
theorem rn_ne {s : ByteArray} (hpos : 0 < s.size) : s.toList.isEmpty = false := by
  rw [ByteArray.toList_eq]
  cases h : s.data.toList with
  | nil => exfalso; have := dat_len s; rw [h] at this; have : 0 = s.size := this; omega
  | cons a b => rfl
end Go.Proofs.YthflmdgfenojcaaGreatDoor
namespace Go.Proofs.YthflmdgfenojcaaGreatDoor
set_option linter.unusedVariables false
open Go.RowKit
theorem cut_none {s : ByteArray} (h : ∀ b ∈ s.data.toList, b ≠ 124) : cutS s = [s] := by
  apply map_inj
  rw [cutS_data]
  have := cut_skip 124 [] s.data.toList h
  simpa [cutL] using this
theorem cut_join2 {x p q : ByteArray} (h : cutS x = [p, q]) : x.data.toList = p.data.toList ++ 124 :: q.data.toList := by
  have := join_cut 124 x.data.toList
  rw [← cutS_data, h] at this
  simp only [List.map_cons, List.map_nil, join_cons2, join_one] at this
  exact this.symm
theorem len2 {l : List ByteArray} (h : l.length = 2) : l = [prt l 0, prt l 1] := by
  match l, h with
  | [a, b], _ => rfl
theorem cut_cline (x d : ByteArray) (h : x.data.toList = [67, 124] ++ d.data.toList) : cutS x = cB :: cutS d := by
  apply map_inj
  rw [cutS_data, List.map_cons, cutS_data, h]
  show cutL 124 (67 :: 124 :: d.data.toList) = [67] :: _
  rw [cutL, if_neg (by decide), cutL, if_pos rfl]; rfl
theorem isCk_bar {d : ByteArray} (h : isCk d = true) : ∀ b ∈ d.data.toList, b ≠ 124 := by
  intro b hb e
  unfold isCk lowHex at h
  rw [Bool.and_eq_true] at h
  have := List.all_eq_true.1 h.2 b hb
  rw [e] at this
  exact absurd this (by decide)
theorem ckF_cut {s : ByteArray} (h : CkF s) : cutS (ckL s) = [cB, ckD s] := by
  rw [cut_cline _ _ (ck_form h).1, cut_none (isCk_bar h.2)]
theorem ckF_iff (s : ByteArray) : CkF s ↔ (cutS (ckL s)).length = 2 ∧ prt (cutS (ckL s)) 0 = cB ∧ isCk (prt (cutS (ckL s)) 1) = true := by
  constructor
  · intro h
    rw [ckF_cut h]
    exact ⟨rfl, rfl, h.2⟩
  · intro ⟨h1, h2, h3⟩
    have hl := len2 h1
    have hj := cut_join2 hl
    rw [h2] at hj
    have hj : (ckL s).data.toList = [67, 124] ++ (prt (cutS (ckL s)) 1).data.toList := hj
    have hD : ckD s = prt (cutS (ckL s)) 1 := by
      apply ba_ext
      unfold ckD
      rw [Lib.extract_to_end, hj]; rfl
    refine ⟨?_, by rw [hD]; exact h3⟩
    unfold Lib.hasPrefix
    rw [hj]
    exact List.isPrefixOf_iff_prefix.2 ⟨_, rfl⟩
theorem numOK_ito {s : ByteArray} (h : numOK s = true) : s = itoS (numV s) := by
  unfold numOK at h
  obtain ⟨v, hv⟩ := Option.isSome_iff_exists.1 h
  unfold numV
  rw [hv]
  exact (numR_some hv).2
def clmT (t : ByteArray) : Rec := if (cutS t).length = 12 ∧ numOK (prt (cutS t) 0) = true ∧ numOK (prt (cutS t) 7) = true then ⟨numV (prt (cutS t) 0), ⟨#[]⟩, ⟨#[]⟩, ⟨#[]⟩, ⟨#[]⟩, ⟨#[]⟩, prt (cutS t) 6, numV (prt (cutS t) 7), ⟨#[]⟩, 0, 0, false⟩ else zrec
theorem clmT_no {x : ByteArray} (h : (cutS x).length ≠ 12) : clmT x = zrec := by unfold clmT; rw [if_neg (fun q => h q.1)]
theorem clmT_no0 {x : ByteArray} (h : numOK (prt (cutS x) 0) = false) : clmT x = zrec := by unfold clmT; rw [if_neg (fun q => by rw [h] at q; exact absurd q.2.1 (by decide))]
theorem clmT_no7 {x : ByteArray} (h : numOK (prt (cutS x) 7) = false) : clmT x = zrec := by unfold clmT; rw [if_neg (fun q => by rw [h] at q; exact absurd q.2.2 (by decide))]
theorem clmT_yes {x : ByteArray} (h : (cutS x).length = 12) (h1 : numOK (prt (cutS x) 0) = true) (h8 : numOK (prt (cutS x) 7) = true) : clmT x = ⟨numV (prt (cutS x) 0), ⟨#[]⟩, ⟨#[]⟩, ⟨#[]⟩, ⟨#[]⟩, ⟨#[]⟩, prt (cutS x) 6, numV (prt (cutS x) 7), ⟨#[]⟩, 0, 0, false⟩ := by unfold clmT; rw [if_pos ⟨h, h1, h8⟩]
theorem cut_txt {x : ByteArray} (h : Lib.hasPrefix x.data.toList [82, 124] = true) : cutS x = rB :: cutS (txtOf x) := cut_rline x (txtOf x) (txt_rline x h)
theorem clm_txt {x : ByteArray} (h : Lib.hasPrefix x.data.toList [82, 124] = true) : clm x = clmT (txtOf x) := by
  unfold clm clmT
  rw [cut_txt h]
  simp [prt]
/-- The name that a reject of a text of a record bears. -/
def idT (t : ByteArray) : ByteArray := if (cutS t).length = 12 then prt (cutS t) 1 else ⟨#[]⟩
theorem idT_txt {x : ByteArray} (h : Lib.hasPrefix x.data.toList [82, 124] = true) : lnId x = idT (txtOf x) := by
  unfold lnId idT
  rw [cut_txt h]
  simp [prt]
/-- The texts of the records of a file. -/
def rtx (s : ByteArray) : List ByteArray := (List.range (nRc s)).map fun k => txtOf (rcL s k)
theorem rtx_len (s : ByteArray) : (rtx s).length = nRc s := by unfold rtx; simp
theorem rtx_get (s : ByteArray) (k : Nat) (h : k < nRc s) : prt (rtx s) k = txtOf (rcL s k) := by
  unfold prt rtx; rw [List.getD_eq_getElem?_getD, List.getElem?_map, List.getElem?_range h]; rfl
theorem clmL_len (s : ByteArray) : (clmL s).length = nRc s := by
  have h : (clmL s).length = (recLs s).length := List.length_map _
  have h2 : (recLs s).length = (List.range (nRc s)).length := List.length_map _
  rw [h, h2, List.length_range]
theorem map_map_eq {α β γ : Type} (f : β → γ) (g : α → β) (h : α → γ) : ∀ l : List α, (∀ k ∈ l, f (g k) = h k) → (l.map g).map f = l.map h
  | [], _ => rfl
  | x :: l, q => by
    rw [List.map_cons, List.map_cons, List.map_cons, q x List.mem_cons_self, map_map_eq f g h l (fun k hk => q k (List.mem_cons_of_mem _ hk))]
theorem clmL_rtx {s : ByteArray} (h : RcF s) : clmL s = (rtx s).map clmT := by
  have h1 : clmL s = (List.range (nRc s)).map (fun k => clmT (txtOf (rcL s k))) := by
    show ((List.range (nRc s)).map (rcL s)).map clm = _
    exact map_map_eq clm (rcL s) (fun k => clmT (txtOf (rcL s k))) _ (fun k hk => clm_txt (h k (List.mem_range.1 hk)))
  have h2 : (rtx s).map clmT = (List.range (nRc s)).map (fun k => clmT (txtOf (rcL s k))) := by
    show ((List.range (nRc s)).map (fun k => txtOf (rcL s k))).map clmT = _
    exact map_map_eq clmT (fun k => txtOf (rcL s k)) (fun k => clmT (txtOf (rcL s k))) _ (fun k hk => rfl)
  rw [h1, h2]
def trlT (s : ByteArray) : ByteArray := lineB [tB, itoS (nRc s), itoS (debS (clmL s) (nRc s)), itoS (creS (clmL s) (nRc s)), itoS (C7.totB (cardsOf (clmL s)))]
theorem len5 {l : List ByteArray} (h : l.length = 5) : l = [prt l 0, prt l 1, prt l 2, prt l 3, prt l 4] := by
  match l, h with
  | [a, b, c, d, e], _ => rfl
theorem lineB_cut {x : ByteArray} : lineB (cutS x) = x := by
  apply ba_ext
  rw [lineB_data, cutS_data, join_cut]
theorem tot_iff {s : ByteArray} (h : TrF s) (hn : nRc s ≤ 1000001) : TotF s ↔ lnAt s (nLn s - 2) = trlT s := by
  obtain ⟨h1, h2, h3⟩ := h
  have hl := len5 h1
  have hbd := debS_bd (clmL s) (nRc s) (Nat.le_of_eq (clmL_len s).symm)
  have hbc := creS_bd (clmL s) (nRc s) (Nat.le_of_eq (clmL_len s).symm)
  have htb := C7.totB_lt (cardsOf (clmL s))
  unfold trlT TotF
  constructor
  · intro ⟨t1, t2, t3, t4⟩
    have e : ∀ j, j < 4 → trP s (j + 1) = itoS (numV (trP s (j + 1))) := fun j hj => numOK_ito (h3 j hj)
    have e1 := e 0 (by omega)
    have e2 := e 1 (by omega)
    have e3 := e 2 (by omega)
    have e4 := e 3 (by omega)
    rw [t1] at e1
    rw [t2] at e2
    rw [t3] at e3
    rw [t4] at e4
    rw [← lineB_cut (x := lnAt s (nLn s - 2)), hl]
    unfold trP at h2 e1 e2 e3 e4
    rw [h2, e1, e2, e3, e4]; rfl
  · intro e
    have hc : cutS (lnAt s (nLn s - 2)) = [tB, itoS (nRc s), itoS (debS (clmL s) (nRc s)), itoS (creS (clmL s) (nRc s)), itoS (C7.totB (cardsOf (clmL s)))] := by
      rw [e]
      refine cut_lineB (fun y hy => ?_)
      simp only [List.mem_cons, List.not_mem_nil, or_false] at hy
      rcases hy with rfl | rfl | rfl | rfl | rfl
      · decide
      · exact itoS_bar _
      · exact itoS_bar _
      · exact itoS_bar _
      · exact itoS_bar _
    unfold trP
    rw [hc]
    refine ⟨(numV_ito (by omega)).1, (numV_ito (by omega)).1, (numV_ito (by omega)).1, (numV_ito (by omega)).1⟩
theorem chk_iff {s : ByteArray} (h : CkF s) : ckD s = crcS (cov s).data.toList ↔ ckL s = ⟨#[67, 124]⟩ ++ crcS (cov s).data.toList := by
  have hf := (ck_form h).1
  constructor
  · intro e
    apply ba_ext
    rw [hf, e, ByteArray.data_append, Array.toList_append]
  · intro e
    rw [e, ByteArray.data_append, Array.toList_append] at hf
    apply ba_ext
    exact (List.append_cancel_left hf).symm
end Go.Proofs.YthflmdgfenojcaaGreatDoor
namespace Go.Proofs.YthflmdgfenojcaaGreatDoor
set_option linter.unusedVariables false
open Go.RowKit
set_option maxHeartbeats 3200000 in
theorem rnum_0 (s : ByteArray) (w : World) (hs : s.size ≤ 1000000) (h0 : s.size = 0) : Calls Tryz.prog 73 #[.string s] w (RNum s w) := by
  unfold RNum
  have HN := Lib.hid (rn_none (s := s) (d := s) (dg_pos (fun h => by omega)).2 h0)
  obtain rfl : s = ⟨#[]⟩ := ByteArray.ext (Array.eq_empty_of_size_eq_zero h0)
  go_enter Tryz.func73, Tryz.ntmps73
  go_wp2_with fail
  all_goals (go_ret2; exact ⟨⟨_, by rw [HN.out]; rfl, fun h => by rw [HN.out] at h; cases h⟩, rfl⟩)
set_option maxHeartbeats 3200000 in
theorem rnum_n0 (s : ByteArray) (w : World) (hs : s.size ≤ 1000000) (hpos : 0 < s.size) (h45 : (s[0]).toNat = 45) (d : ByteArray) (hde : s.extract 1 s.size = d) (hd0 : d.size = 0) : Calls Tryz.prog 73 #[.string s] w (RNum s w) := by
  unfold RNum
  have hneb : s.toList.isEmpty = false := rn_ne hpos
  have HG := Lib.hid (dg_neg hpos h45)
  have h45b : (((s[0]).toNat : Int) == 45) = true := by simp; omega
  rw [hde] at HG
  have HN := Lib.hid (rn_none (s := s) (d := d) HG.out.2 hd0)
  have hdn : d.toList.isEmpty = true := by
    rw [ByteArray.toList_eq, show d.data.toList = [] from List.eq_nil_of_length_eq_zero (by rw [dat_len]; exact hd0)]; rfl
  go_enter Tryz.func73, Tryz.ntmps73
  go_wp2_with fail
  all_goals (go_ret2; exact ⟨⟨_, by rw [HN.out]; rfl, fun h => by rw [HN.out] at h; cases h⟩, rfl⟩)
set_option maxHeartbeats 3200000 in
theorem rnum_n1 (s : ByteArray) (w : World) (hs : s.size ≤ 1000000) (hpos : 0 < s.size) (h45 : (s[0]).toNat = 45) (d : ByteArray) (hde : s.extract 1 s.size = d) (hdp : 0 < d.size) (h48 : (d[0]).toNat = 48) : Calls Tryz.prog 73 #[.string s] w (RNum s w) := by
  unfold RNum
  have hneb : s.toList.isEmpty = false := rn_ne hpos
  have HG := Lib.hid (dg_neg hpos h45)
  have h45b : (((s[0]).toNat : Int) == 45) = true := by simp; omega
  rw [hde] at HG
  have hdn : d.toList.isEmpty = false := rn_ne hdp
  have HN := Lib.hid (rn_zero HG.out.2 HG.out.1 hdp h48 (Or.inr rfl))
  have h48b : (((d[0]).toNat : Int) == 48) = true := by simp; omega
  go_enter Tryz.func73, Tryz.ntmps73
  go_wp2_with fail
  all_goals (go_ret2; exact ⟨⟨_, by rw [HN.out]; rfl, fun h => by rw [HN.out] at h; cases h⟩, rfl⟩)
set_option maxHeartbeats 3200000 in
theorem rnum_n2 (s : ByteArray) (w : World) (hs : s.size ≤ 1000000) (hpos : 0 < s.size) (h45 : (s[0]).toNat = 45) (d : ByteArray) (hde : s.extract 1 s.size = d) (hdp : 0 < d.size) (hdz : d.size ≤ 1000000) (h48 : (d[0]).toNat ≠ 48) : Calls Tryz.prog 73 #[.string s] w (RNum s w) := by
  unfold RNum
  have hneb : s.toList.isEmpty = false := rn_ne hpos
  have HG := Lib.hid (dg_neg hpos h45)
  have h45b : (((s[0]).toNat : Int) == 45) = true := by simp; omega
  rw [hde] at HG
  have hdn : d.toList.isEmpty = false := rn_ne hdp
  have h48b : (((d[0]).toNat : Int) == 48) = false := by simp; omega
  have HB := Lib.hid (fun k hk h => rn_bad (s := s) (d := d) HG.out.2 k hk h)
  have HO := Lib.hid (fun k hk h => rn_over (s := s) (d := d) HG.out.2 k hk h)
  have HS := Lib.hid (fun k hk => spl_step d k hk)
  have HE := Lib.hid (fun hall hb => rn_end (s := s) (d := d) (g := true) HG.out.2 HG.out.1 hdp (fun q1 q2 => h48 q1) hall hb (fun q => by cases q))
  go_enter Tryz.func73, Tryz.ntmps73
  go_wp2_with fail
  go_loop [6, 7] (fun n i => ∃ k : Nat, k ≤ d.size ∧ i = .int .i64 k ∧ n = .int .i64 (-(spl (d.data.toList.take k) : Int)) ∧ spl (d.data.toList.take k) ≤ 9223372036854775808 ∧ Hid (∀ j, j < k → (h' : j < d.size) → isDig (d[j]))) (fun _ i => d.size - (intOf i).toNat)
  case atStart => exact ⟨0, by omega, rfl, by simp [spl], by simp [spl], Lib.hid (fun j h _ => by omega)⟩
  case round =>
    obtain ⟨k, hk, rfl, rfl, hsp, hall⟩ := hrel
    have hcap := Lib.hid hsp
    by_cases hlt : k < d.size
    · have hS := Lib.hid (HS.out k hlt)
      by_cases hd : isDig (d[k])
      · have hd' := hd
        unfold isDig at hd'
        have hT := Lib.hid (tq_iff (spl (d.data.toList.take k)) ((d[k]).toNat - 48) (by omega))
        rw [show ((((d[k]).toNat - 48 : Nat)) : Int) = ((d[k]).toNat : Int) - 48 by omega] at hT
        by_cases ho : 9223372036854775808 < spl (d.data.toList.take k) * 10 + ((d[k]).toNat - 48)
        · have HN := Lib.hid (HO.out k hlt ho)
          have hT := hT.out.2 ho
          go_wp2_with fail
          go_ret2
          exact ⟨⟨_, by rw [HN.out]; rfl, fun h => by rw [HN.out] at h; cases h⟩, rfl⟩
        · have hT : ¬ _ := fun q => ho (hT.out.1 q)
          have hstep := Lib.hid (fun j (h : j < k + 1) (h' : j < d.size) => show isDig (d[j]) from by
            rcases Nat.lt_or_ge j k with c | c
            · exact hall.out j c h'
            · obtain rfl : j = k := by omega
              exact hd)
          have h10 := Lib.hid ho
          go_wp2_with fail
          have h11 := h10.out
          have hd2 := hd'
          clear hT ho hsp
          refine ⟨⟨k + 1, by omega, by go_num, ?_, ?_, hstep⟩, by simp [intOf]; omega⟩
          · rw [hS.out]; congr 1; omega
          · rw [hS.out]; omega
      · have HN := Lib.hid (HB.out k hlt hd)
        unfold isDig at hd
        go_wp2_with fail
        all_goals first
          | (exfalso; simp at *; omega)
          | (go_ret2
             exact ⟨⟨_, by rw [HN.out]; rfl, fun h => by rw [HN.out] at h; cases h⟩, rfl⟩)
    · obtain rfl : k = d.size := by omega
      have hb := hsp
      rw [List.take_of_length_le (by rw [dat_len]; omega)] at hb
      have hT : List.take d.size d.data.toList = d.data.toList := List.take_of_length_le (by rw [dat_len]; omega)
      have hE := Lib.hid (HE.out (fun j hj => hall.out j hj hj) hb)
      go_wp2_with fail
      go_ret2
      refine ⟨⟨_, by rw [hE.out.1]; rfl, fun _ => ?_⟩, rfl⟩
      first | (rw [hE.out.2]; rfl) | (rw [hT, hE.out.2]; rfl)
set_option maxHeartbeats 3200000 in
theorem rnum_p0 (s : ByteArray) (w : World) (hs : s.size ≤ 1000000) (hpos : 0 < s.size) (h45 : (s[0]).toNat ≠ 45) (h48 : (s[0]).toNat = 48) (h1 : 1 < s.size) : Calls Tryz.prog 73 #[.string s] w (RNum s w) := by
  unfold RNum
  have hneb : s.toList.isEmpty = false := rn_ne hpos
  have HG := Lib.hid (dg_pos (s := s) (fun _ => h45))
  have h45b : (((s[0]).toNat : Int) == 45) = false := by simp; omega
  have HN := Lib.hid (rn_zero HG.out.2 HG.out.1 hpos h48 (Or.inl h1))
  have h48b : (((s[0]).toNat : Int) == 48) = true := by simp; omega
  go_enter Tryz.func73, Tryz.ntmps73
  go_wp2_with fail
  all_goals (go_ret2; exact ⟨⟨_, by rw [HN.out]; rfl, fun h => by rw [HN.out] at h; cases h⟩, rfl⟩)
set_option maxHeartbeats 3200000 in
theorem rnum_p1 (s : ByteArray) (w : World) (hs : s.size ≤ 1000000) (hpos : 0 < s.size) (h45 : (s[0]).toNat ≠ 45) (h48 : (s[0]).toNat ≠ 48) : Calls Tryz.prog 73 #[.string s] w (RNum s w) := by
  unfold RNum
  have hneb : s.toList.isEmpty = false := rn_ne hpos
  have HG := Lib.hid (dg_pos (s := s) (fun _ => h45))
  have h45b : (((s[0]).toNat : Int) == 45) = false := by simp; omega
  have HB := Lib.hid (fun k hk h => rn_bad (s := s) (d := s) HG.out.2 k hk h)
  have HO := Lib.hid (fun k hk h => rn_over (s := s) (d := s) HG.out.2 k hk h)
  have HS := Lib.hid (fun k hk => spl_step s k hk)
  have HE := Lib.hid (fun hall hb h5 => rn_end (s := s) (d := s) (g := false) HG.out.2 HG.out.1 hpos (fun q1 q2 => by simp at q2; omega) hall hb h5)
  have HM := Lib.hid (fun h => rn_max (s := s) (d := s) (g := false) HG.out.2 HG.out.1 h)
  have h48b : (((s[0]).toNat : Int) == 48) = false := by simp; omega
  go_enter Tryz.func73, Tryz.ntmps73
  go_wp2_with fail
  go_loop [6, 7] (fun n i => ∃ k : Nat, k ≤ s.size ∧ i = .int .i64 k ∧ n = .int .i64 (-(spl (s.data.toList.take k) : Int)) ∧ spl (s.data.toList.take k) ≤ 9223372036854775808 ∧ Hid (∀ j, j < k → (h' : j < s.size) → isDig (s[j]))) (fun _ i => s.size - (intOf i).toNat)
  case atStart => exact ⟨0, by omega, rfl, by simp [spl], by simp [spl], Lib.hid (fun j h _ => by omega)⟩
  case round =>
    obtain ⟨k, hk, rfl, rfl, hsp, hall⟩ := hrel
    have hcap := Lib.hid hsp
    by_cases hlt : k < s.size
    · have hS := Lib.hid (HS.out k hlt)
      by_cases hd : isDig (s[k])
      · have hd' := hd
        unfold isDig at hd'
        have hT := Lib.hid (tq_iff (spl (s.data.toList.take k)) ((s[k]).toNat - 48) (by omega))
        rw [show ((((s[k]).toNat - 48 : Nat)) : Int) = ((s[k]).toNat : Int) - 48 by omega] at hT
        by_cases ho : 9223372036854775808 < spl (s.data.toList.take k) * 10 + ((s[k]).toNat - 48)
        · have HN := Lib.hid (HO.out k hlt ho)
          have hT := hT.out.2 ho
          go_wp2_with fail
          go_ret2
          exact ⟨⟨_, by rw [HN.out]; rfl, fun h => by rw [HN.out] at h; cases h⟩, rfl⟩
        · have hT : ¬ _ := fun q => ho (hT.out.1 q)
          have hstep := Lib.hid (fun j (h : j < k + 1) (h' : j < s.size) => show isDig (s[j]) from by
            rcases Nat.lt_or_ge j k with c | c
            · exact hall.out j c h'
            · obtain rfl : j = k := by omega
              exact hd)
          have h10 := Lib.hid ho
          go_wp2_with fail
          have h11 := h10.out
          have hd2 := hd'
          clear hT ho hsp
          refine ⟨⟨k + 1, by omega, by go_num, ?_, ?_, hstep⟩, by simp [intOf]; omega⟩
          · rw [hS.out]; congr 1; omega
          · rw [hS.out]; omega
      · have HN := Lib.hid (HB.out k hlt hd)
        unfold isDig at hd
        go_wp2_with fail
        all_goals first
          | (exfalso; simp at *; omega)
          | (go_ret2
             exact ⟨⟨_, by rw [HN.out]; rfl, fun h => by rw [HN.out] at h; cases h⟩, rfl⟩)
    · obtain rfl : k = s.size := by omega
      have hb := hsp
      rw [List.take_of_length_le (by rw [dat_len]; omega)] at hb
      have hT : List.take s.size s.data.toList = s.data.toList := List.take_of_length_le (by rw [dat_len]; omega)
      by_cases hm : spl s.data.toList = 9223372036854775808
      · have HN := Lib.hid (HM.out hm)
        have hmb : (-(spl s.data.toList : Int) != -9223372036854775808) = false := by rw [hm]; decide
        clear hm
        go_wp2_with fail
        go_ret2
        exact ⟨⟨_, by rw [HN.out]; rfl, fun h => by rw [HN.out] at h; cases h⟩, rfl⟩
      · have hE := Lib.hid (HE.out (fun j hj => hall.out j hj hj) hb (fun _ => hm))
        have hmb : (-(spl s.data.toList : Int) != -9223372036854775808) = true := by simp; omega
        have hcp : spl s.data.toList ≤ 9223372036854775807 := by omega
        clear hm
        go_wp2_with fail
        go_ret2
        refine ⟨⟨_, by rw [hE.out.1]; rfl, fun _ => ?_⟩, rfl⟩
        rw [hE.out.2]; simp
set_option maxHeartbeats 3200000 in
theorem rnum_p2 (s : ByteArray) (w : World) (hs : s.size ≤ 1000000) (hpos : 0 < s.size) (h45 : (s[0]).toNat ≠ 45) (h48 : (s[0]).toNat = 48) (h1 : ¬ 1 < s.size) : Calls Tryz.prog 73 #[.string s] w (RNum s w) := by
  unfold RNum
  have hneb : s.toList.isEmpty = false := rn_ne hpos
  have HG := Lib.hid (dg_pos (s := s) (fun _ => h45))
  have h45b : (((s[0]).toNat : Int) == 45) = false := by simp; omega
  have HB := Lib.hid (fun k hk h => rn_bad (s := s) (d := s) HG.out.2 k hk h)
  have HO := Lib.hid (fun k hk h => rn_over (s := s) (d := s) HG.out.2 k hk h)
  have HS := Lib.hid (fun k hk => spl_step s k hk)
  have HE := Lib.hid (fun hall hb h5 => rn_end (s := s) (d := s) (g := false) HG.out.2 HG.out.1 hpos (fun q1 q2 => by simp at q2; omega) hall hb h5)
  have HM := Lib.hid (fun h => rn_max (s := s) (d := s) (g := false) HG.out.2 HG.out.1 h)
  have h48b : (((s[0]).toNat : Int) == 48) = true := by simp; omega
  go_enter Tryz.func73, Tryz.ntmps73
  go_wp2_with fail
  go_loop [6, 7] (fun n i => ∃ k : Nat, k ≤ s.size ∧ i = .int .i64 k ∧ n = .int .i64 (-(spl (s.data.toList.take k) : Int)) ∧ spl (s.data.toList.take k) ≤ 9223372036854775808 ∧ Hid (∀ j, j < k → (h' : j < s.size) → isDig (s[j]))) (fun _ i => s.size - (intOf i).toNat)
  case atStart => exact ⟨0, by omega, rfl, by simp [spl], by simp [spl], Lib.hid (fun j h _ => by omega)⟩
  case round =>
    obtain ⟨k, hk, rfl, rfl, hsp, hall⟩ := hrel
    have hcap := Lib.hid hsp
    by_cases hlt : k < s.size
    · have hS := Lib.hid (HS.out k hlt)
      by_cases hd : isDig (s[k])
      · have hd' := hd
        unfold isDig at hd'
        have hT := Lib.hid (tq_iff (spl (s.data.toList.take k)) ((s[k]).toNat - 48) (by omega))
        rw [show ((((s[k]).toNat - 48 : Nat)) : Int) = ((s[k]).toNat : Int) - 48 by omega] at hT
        by_cases ho : 9223372036854775808 < spl (s.data.toList.take k) * 10 + ((s[k]).toNat - 48)
        · have HN := Lib.hid (HO.out k hlt ho)
          have hT := hT.out.2 ho
          go_wp2_with fail
          go_ret2
          exact ⟨⟨_, by rw [HN.out]; rfl, fun h => by rw [HN.out] at h; cases h⟩, rfl⟩
        · have hT : ¬ _ := fun q => ho (hT.out.1 q)
          have hstep := Lib.hid (fun j (h : j < k + 1) (h' : j < s.size) => show isDig (s[j]) from by
            rcases Nat.lt_or_ge j k with c | c
            · exact hall.out j c h'
            · obtain rfl : j = k := by omega
              exact hd)
          have h10 := Lib.hid ho
          go_wp2_with fail
          have h11 := h10.out
          have hd2 := hd'
          clear hT ho hsp
          refine ⟨⟨k + 1, by omega, by go_num, ?_, ?_, hstep⟩, by simp [intOf]; omega⟩
          · rw [hS.out]; congr 1; omega
          · rw [hS.out]; omega
      · have HN := Lib.hid (HB.out k hlt hd)
        unfold isDig at hd
        go_wp2_with fail
        all_goals first
          | (exfalso; simp at *; omega)
          | (go_ret2
             exact ⟨⟨_, by rw [HN.out]; rfl, fun h => by rw [HN.out] at h; cases h⟩, rfl⟩)
    · obtain rfl : k = s.size := by omega
      have hb := hsp
      rw [List.take_of_length_le (by rw [dat_len]; omega)] at hb
      have hT : List.take s.size s.data.toList = s.data.toList := List.take_of_length_le (by rw [dat_len]; omega)
      by_cases hm : spl s.data.toList = 9223372036854775808
      · have HN := Lib.hid (HM.out hm)
        have hmb : (-(spl s.data.toList : Int) != -9223372036854775808) = false := by rw [hm]; decide
        clear hm
        go_wp2_with fail
        go_ret2
        exact ⟨⟨_, by rw [HN.out]; rfl, fun h => by rw [HN.out] at h; cases h⟩, rfl⟩
      · have hE := Lib.hid (HE.out (fun j hj => hall.out j hj hj) hb (fun _ => hm))
        have hmb : (-(spl s.data.toList : Int) != -9223372036854775808) = true := by simp; omega
        have hcp : spl s.data.toList ≤ 9223372036854775807 := by omega
        clear hm
        go_wp2_with fail
        go_ret2
        refine ⟨⟨_, by rw [hE.out.1]; rfl, fun _ => ?_⟩, rfl⟩
        rw [hE.out.2]; simp
theorem rnum_any (s : ByteArray) (w : World) (hs : s.size ≤ 1000000) : Calls Tryz.prog 73 #[.string s] w (RNum s w) := by
  by_cases h0 : s.size = 0
  · exact rnum_0 s w hs h0
  have hpos : 0 < s.size := by omega
  by_cases h45 : (s[0]).toNat = 45
  · by_cases hd0 : (s.extract 1 s.size).size = 0
    · exact rnum_n0 s w hs hpos h45 _ rfl hd0
    have hdp : 0 < (s.extract 1 s.size).size := by omega
    by_cases h48 : ((s.extract 1 s.size)[0]).toNat = 48
    · exact rnum_n1 s w hs hpos h45 _ rfl hdp h48
    · exact rnum_n2 s w hs hpos h45 _ rfl hdp (by rw [ByteArray.size_extract]; omega) h48
  · by_cases h48 : (s[0]).toNat = 48
    · by_cases h1 : 1 < s.size
      · exact rnum_p0 s w hs hpos h45 h48 h1
      · exact rnum_p2 s w hs hpos h45 h48 h1
    · exact rnum_p1 s w hs hpos h45 h48
end Go.Proofs.YthflmdgfenojcaaGreatDoor
namespace Go.Proofs.YthflmdgfenojcaaGreatDoor
set_option linter.unusedVariables false
open Go.RowKit Go.Sort
def PrtPost (s t : ByteArray) (n : Nat) (w : World) (e : Ending) (w' : World) : Prop :=
  e = .returned (.tuple #[.slice (some ⟨w.heap.size, 0, none⟩) (cutS s).length (cutS s).length, .bool (decide ((cutS s).length = n ∧ prt (cutS s) 0 = t))]) ∧ w'.heap[w.heap.size]? = some (.cells ((cutS s).map Value.string).toArray 9) ∧ Below w.heap.size w w'
set_option maxHeartbeats 3200000 in
theorem rparts_any (s t : ByteArray) (n : Nat) (w : World) (hw : KW w) (hs : s.size ≤ 1000000) (hn : 0 < n) : Calls Tryz.prog 121 #[.string s, .string t, .int .i64 n] w (PrtPost s t n w) := by
  have HSP := Lib.hid (split_any s w hw hs)
  unfold SplPost at HSP
  unfold PrtPost
  generalize cutS s = l at *
  have HH := Lib.hid (heap_alloc_new w (.cells (l.map Value.string).toArray 9))
  have HB := Lib.hid (bx w (.cells (l.map Value.string).toArray 9))
  by_cases hl : l.length = n
  · have hlb : ((l.length : Int) == (n : Int)) = true := by simp; omega
    have hl0 : 0 < l.length := by omega
    have hlI : (0 : Int) < (l.length : Int) := by omega
    have c0 := str_cell (W := w.alloc (.cells (l.map Value.string).toArray 9)) (heap_alloc_new w _) 0 (by omega)
    by_cases ht : prt l 0 = t
    · have hd := Lib.hid (show decide (l.length = n ∧ prt l 0 = t) = true from decide_eq_true ⟨hl, ht⟩)
      obtain ⟨q, -⟩ := str_eq ht
      generalize (l.map Value.string).toArray = C at *
      generalize prt l 0 = p at *
      clear hw hl ht
      go_enter Tryz.func121, Tryz.ntmps121
      go_wp2_with fail
      refine HSP.out.mono ?_
      rintro e w1 ⟨rfl, rfl⟩
      go_wp2_with fail
      go_quiet (fail)
      go_wp2_with fail
      rename Nat => n1
      go_ret2
      exact ⟨by rw [hd.out]; rfl, HH.out, dNb HB.out n1⟩
    · have hd := Lib.hid (show decide (l.length = n ∧ prt l 0 = t) = false from decide_eq_false (fun q => ht q.2))
      obtain ⟨q, -⟩ := str_ne ht
      generalize (l.map Value.string).toArray = C at *
      generalize prt l 0 = p at *
      clear hw hl ht
      go_enter Tryz.func121, Tryz.ntmps121
      go_wp2_with fail
      refine HSP.out.mono ?_
      rintro e w1 ⟨rfl, rfl⟩
      go_wp2_with fail
      go_quiet (fail)
      go_wp2_with fail
      rename Nat => n1
      go_ret2
      exact ⟨by rw [hd.out]; rfl, HH.out, dNb HB.out n1⟩
  · have hlb : ((l.length : Int) == (n : Int)) = false := by simp; omega
    have hd := Lib.hid (show decide (l.length = n ∧ prt l 0 = t) = false from decide_eq_false (fun q => hl q.1))
    generalize (l.map Value.string).toArray = C at *
    generalize prt l 0 = p at *
    clear hw hl
    go_enter Tryz.func121, Tryz.ntmps121
    go_wp2_with fail
    refine HSP.out.mono ?_
    rintro e w1 ⟨rfl, rfl⟩
    go_wp2_with fail
    go_quiet (fail)
    go_wp2_with fail
    rename Nat => n1
    go_ret2
    exact ⟨by rw [hd.out]; rfl, HH.out, dNb HB.out n1⟩
theorem nall_no {l : List ByteArray} {k : Nat} (hk : k < l.length) (h : numOK (prt l k) = false) : l.all numOK = false :=
  List.all_eq_false.2 ⟨prt l k, by rw [prt_get hk]; exact List.getElem_mem hk, by rw [h]; decide⟩
theorem nall_yes {l : List ByteArray} (h : ∀ j, j < l.length → numOK (prt l j) = true) : l.all numOK = true :=
  List.all_eq_true.2 (fun x hx => by
    obtain ⟨j, hj, rfl⟩ := List.getElem_of_mem hx
    rw [← prt_get hj]; exact h j hj)
set_option maxHeartbeats 3200000 in
theorem rnums_any (A : Option Addr) (cp : Nat) (l : List ByteArray) (w : World) (hr : IsRow w A (l.map Value.string)) (hsz : ∀ x ∈ l, x.size ≤ 1000000) (hm : l.length ≤ 1000000) : Calls Tryz.prog 122 #[.slice A l.length cp] w fun e w' => e = .returned (.bool (l.all numOK)) ∧ w = w' := by
  have HR := Lib.hid hr
  have HSZ := Lib.hid hsz
  have HNO := Lib.hid (fun k hk h => nall_no (l := l) (k := k) hk h)
  have HYE := Lib.hid (nall_yes (l := l))
  clear hr hsz
  generalize l.all numOK = B at *
  go_enter Tryz.func122, Tryz.ntmps122
  go_wp2_with fail
  go_loop [3] (fun i => ∃ k : Nat, k ≤ l.length ∧ i = .int .i64 k ∧ Hid (∀ j, j < k → numOK (prt l j) = true)) (fun i => l.length - (intOf i).toNat)
  case atStart => exact ⟨0, Nat.zero_le _, rfl, Lib.hid (fun j hj => absurd hj (Nat.not_lt_zero _))⟩
  case round =>
    obtain ⟨k, hk, rfl, HW⟩ := hrel
    by_cases hlt : k < l.length
    · obtain ⟨b, off, rfl, hcell⟩ := row_str HR.out k hlt
      have c0 := hcell k hlt
      have kI : (k : Int) < (l.length : Int) := by omega
      have k0 : (0 : Int) ≤ (k : Int) := by omega
      have HN := Lib.hid (fun W => rnum_any (prt l k) W (Nat.le_trans (HSZ.out _ (by rw [prt_get hlt]; exact List.getElem_mem hlt)) (by omega)))
      unfold RNum at HN
      have HN0 := Lib.hid (HNO.out k hlt)
      have HST := Lib.hid (fun (h : numOK (prt l k) = true) j (hj : j < k + 1) => show numOK (prt l j) = true from by
        rcases Nat.lt_or_ge j k with c | c
        · exact HW.out j c
        · obtain rfl : j = k := by omega
          exact h)
      clear hcell
      cases hc : numOK (prt l k) with
      | false =>
        have HE := Lib.hid (HN0.out hc)
        rw [hc] at HN
        clear hc HN0 HST
        generalize prt l k = p at *
        go_wp2_with fail
        refine (HN.out _).mono ?_
        rintro e w1 ⟨⟨v, rfl, -⟩, rfl⟩
        go_wp2_with fail
        go_ret
        exact ⟨by rw [HE.out]; rfl, rfl⟩
      | true =>
        have HW2 := Lib.hid (HST.out hc)
        rw [hc] at HN
        clear hc HN0 HST
        generalize prt l k = p at *
        go_wp2_with fail
        refine (HN.out _).mono ?_
        rintro e w1 ⟨⟨v, rfl, -⟩, rfl⟩
        go_wp2_with fail
        exact ⟨⟨k + 1, by omega, by go_num, HW2⟩, by simp [intOf]; omega⟩
    · obtain rfl : k = l.length := by omega
      have kI : ¬ (l.length : Int) < (l.length : Int) := by omega
      have HE := Lib.hid (HYE.out HW.out)
      go_wp2_with fail
      go_ret
      exact ⟨by rw [HE.out]; rfl, rfl⟩
end Go.Proofs.YthflmdgfenojcaaGreatDoor
namespace Go.Proofs.YthflmdgfenojcaaGreatDoor
set_option linter.unusedVariables false
open Go.RowKit Go.Sort
theorem row_drop {W : World} {B : Nat} {l : List ByteArray} (k : Nat) (h : W.heap[B]? = some (.cells (l.map Value.string).toArray 9)) : IsRow W (some ⟨B, k, none⟩) ((l.drop k).map Value.string) :=
  .inr ⟨B, k, rfl, fun j v hj => by
    rw [cell_c h, List.getElem?_toArray]
    rw [List.map_drop, List.getElem?_drop] at hj
    exact hj⟩
theorem drop_len {l : List ByteArray} {n : Nat} (k : Nat) (h : l.length = n) : (l.drop k).length = n - k := by rw [List.length_drop, h]
theorem drop_size {l : List ByteArray} {M : Nat} (k : Nat) (h : ∀ x ∈ l, x.size ≤ M) : ∀ x ∈ l.drop k, x.size ≤ M := fun x hx => h x (List.mem_of_mem_drop hx)
set_option maxRecDepth 100000 in
theorem cut22 (B n k c : Nat) (hk : k < n) (V : World) (h1 : (k : Int) ≤ 1000) (hc : n ≤ c) : (Instr.slice 22 (.slice (some ⟨B, 0, none⟩) n c) (some (.int .i64 (k : Int))) none none).run Tryz.prog V = .ok (.slice (some ⟨B, k, none⟩) (n - k) (c - k)) V := by
  rw [run_slice_l V 22 _ n c Tryz.underlying22 .i64 (k : Int) (by omega) (by omega)]
  have e2 : Program.elem Tryz.prog 22 = 9 := by kernel_rfl
  have hz : ¬ c = k := by omega
  rw [e2, Tryz.sizeOf9]
  simp only [Result.andThen, sliced, Int.toNat_natCast]
  rw [if_neg hz]
  simp [Addr.add]
  exact fun h => h.symm
/-- What the parts of a file's first and last lines say of its form. -/
theorem hd_iff (s : ByteArray) : HdF s ↔ ((cutS (lnAt s 0)).length = 4 ∧ prt (cutS (lnAt s 0)) 0 = hB) ∧ ((cutS (lnAt s 0)).drop 3).all numOK = true := by
  unfold HdF hdP
  constructor
  · intro ⟨h1, h2, h3⟩
    refine ⟨⟨h1, h2⟩, ?_⟩
    generalize cutS (lnAt s 0) = l at *
    match l, h1 with
    | [a, b, c, d], _ => simpa [prt] using h3
  · intro ⟨⟨h1, h2⟩, h3⟩
    refine ⟨h1, h2, ?_⟩
    generalize cutS (lnAt s 0) = l at *
    match l, h1 with
    | [a, b, c, d], _ => simpa [prt] using h3
theorem tr_iff (s : ByteArray) : TrF s ↔ ((cutS (lnAt s (nLn s - 2))).length = 5 ∧ prt (cutS (lnAt s (nLn s - 2))) 0 = tB) ∧ ((cutS (lnAt s (nLn s - 2))).drop 1).all numOK = true := by
  unfold TrF trP
  constructor
  · intro ⟨h1, h2, h3⟩
    refine ⟨⟨h1, h2⟩, ?_⟩
    generalize cutS (lnAt s (nLn s - 2)) = l at *
    match l, h1 with
    | [a, b, c, d, e], _ =>
      have e1 := h3 0 (by omega)
      have e2 := h3 1 (by omega)
      have e3 := h3 2 (by omega)
      have e4 := h3 3 (by omega)
      simp [prt] at e1 e2 e3 e4
      simp [e1, e2, e3, e4]
  · intro ⟨⟨h1, h2⟩, h3⟩
    refine ⟨h1, h2, ?_⟩
    generalize cutS (lnAt s (nLn s - 2)) = l at *
    match l, h1 with
    | [a, b, c, d, e], _ =>
      simp at h3
      intro j hj
      match j, hj with
      | 0, _ => exact h3.1
      | 1, _ => exact h3.2.1
      | 2, _ => exact h3.2.2.1
      | 3, _ => exact h3.2.2.2
structure FrmF (s : ByteArray) (FO : Bool) (BX BY BZ NH NT HC : Bool) : Prop where
  x : BX = false → FO = false
  y : BY = false → FO = false
  z : BZ = false → FO = false
  h : BX = true → NH = false → FO = false
  t : BY = true → NT = false → FO = false
  c : BZ = true → HC = false → FO = false
  r : ∀ k, k < nRc s → Lib.hasPrefix (rcL s k).data.toList [82, 124] = false → FO = false
  ok : BX = true → BY = true → BZ = true → NH = true → NT = true → HC = true → (∀ k, k < nRc s → Lib.hasPrefix (rcL s k).data.toList [82, 124] = true) → FO = true
theorem frm_facts (s : ByteArray) : FrmF s (decide (FormF s)) (decide ((cutS (lnAt s 0)).length = 4 ∧ prt (cutS (lnAt s 0)) 0 = hB)) (decide ((cutS (lnAt s (nLn s - 2))).length = 5 ∧ prt (cutS (lnAt s (nLn s - 2))) 0 = tB)) (decide ((cutS (lnAt s (nLn s - 1))).length = 2 ∧ prt (cutS (lnAt s (nLn s - 1))) 0 = cB))
    (((cutS (lnAt s 0)).drop 3).all numOK) (((cutS (lnAt s (nLn s - 2))).drop 1).all numOK) (isCk (prt (cutS (lnAt s (nLn s - 1))) 1)) := by
  have h1 := hd_iff s
  have h2 := tr_iff s
  have h3 := ckF_iff s
  have eck : ckL s = lnAt s (nLn s - 1) := rfl
  rw [eck] at h3
  refine ⟨fun q => decide_eq_false (fun f => ?_), fun q => decide_eq_false (fun f => ?_), fun q => decide_eq_false (fun f => ?_), fun _ q => decide_eq_false (fun f => ?_), fun _ q => decide_eq_false (fun f => ?_), fun _ q => decide_eq_false (fun f => ?_), fun k hk q => decide_eq_false (fun f => ?_), fun a b c d e f g => decide_eq_true ?_⟩
  · exact of_decide_eq_false q (h1.1 f.1).1
  · exact of_decide_eq_false q (h2.1 f.2.2.1).1
  · exact of_decide_eq_false q ⟨(h3.1 f.2.1).1, (h3.1 f.2.1).2.1⟩
  · rw [(h1.1 f.1).2] at q; cases q
  · rw [(h2.1 f.2.2.1).2] at q; cases q
  · rw [(h3.1 f.2.1).2.2] at q; cases q
  · rw [f.2.2.2 k hk] at q; cases q
  · have a := of_decide_eq_true a
    have b := of_decide_eq_true b
    have c := of_decide_eq_true c
    exact ⟨h1.2 ⟨a, d⟩, h3.2 ⟨c.1, c.2, f⟩, h2.2 ⟨b, e⟩, g⟩
set_option maxRecDepth 1000000 in
set_option maxHeartbeats 12800000 in
theorem rform_any (s : ByteArray) (w : World) (hw : KW w) (hs : s.size ≤ 1000000) (h3 : 3 ≤ nLn s) (hNB : nLn s ≤ 1000001) (g : Nat) (hg : w.heap[g]? = some (.cells ((lnS (bodyOf s)).map Value.string).toArray 9)) :
    Calls Tryz.prog 69 #[.slice (some ⟨g, 0, none⟩) (nLn s) (nLn s)] w fun e w' => e = .returned (.bool (decide (FormF s))) ∧ Below w.heap.size w w' := by
  have HKW := Lib.hid hw
  have HF := Lib.hid (frm_facts s)
  have HLS : ∀ k, (lnAt s k).size ≤ 1000000 := fun k => Nat.le_trans (lnAt_size s k) hs
  have HX : Hid (∀ W, KW W → Calls Tryz.prog 121 #[.string (lnAt s 0), .string ⟨#[72]⟩, .int .i64 4] W (PrtPost (lnAt s 0) hB 4 W)) := Lib.hid (fun W hW => rparts_any _ hB 4 W hW (HLS 0) (by omega))
  have HY : Hid (∀ W, KW W → Calls Tryz.prog 121 #[.string (lnAt s (nLn s - 2)), .string ⟨#[84]⟩, .int .i64 5] W (PrtPost (lnAt s (nLn s - 2)) tB 5 W)) := Lib.hid (fun W hW => rparts_any _ tB 5 W hW (HLS _) (by omega))
  have HZ : Hid (∀ W, KW W → Calls Tryz.prog 121 #[.string (lnAt s (nLn s - 1)), .string ⟨#[67]⟩, .int .i64 2] W (PrtPost (lnAt s (nLn s - 1)) cB 2 W)) := Lib.hid (fun W hW => rparts_any _ cB 2 W hW (HLS _) (by omega))
  have HC0 := Lib.hid (fun k (h : k < nLn s) => show w.cell? ⟨g, k, none⟩ = some (.string (lnAt s k)) from str_cell hg k h)
  have HRC := Lib.hid (fun k (h : k < nRc s) => show w.cell? ⟨g, 1 + k, none⟩ = some (.string (rcL s k)) from str_cell hg (1 + k) (by unfold nRc at h; unfold nLn at h; omega))
  have HZ0 := Lib.hid (fun x hx => Nat.le_trans (cutS_size (lnAt s 0) x hx) (HLS 0))
  have HZ1 := Lib.hid (fun x hx => Nat.le_trans (cutS_size (lnAt s (nLn s - 2)) x hx) (HLS _))
  have HZ2 := Lib.hid (fun j => Nat.le_trans (prt_size (lnAt s (nLn s - 1)) j) (HLS _))
  have HPF := Lib.hid (fun x W => Tryz.strings_HasPrefix x ⟨#[82, 124]⟩ W)
  have hnr : nRc s = nLn s - 3 := rfl
  have c0 := HC0.out 0 (by omega)
  have HC2 := Lib.hid (HC0.out (nLn s - 2) (by omega))
  have HC1 := Lib.hid (HC0.out (nLn s - 1) (by omega))
  unfold PrtPost at HX HY HZ
  clear hw hs HLS HC0
  generalize decide (FormF s) = FO at *
  generalize cutS (lnAt s 0) = l0 at *
  generalize cutS (lnAt s (nLn s - 2)) = l1 at *
  generalize cutS (lnAt s (nLn s - 1)) = l2 at *
  generalize lnAt s 0 = x0 at *
  generalize lnAt s (nLn s - 2) = x1 at *
  generalize lnAt s (nLn s - 1) = x2 at *
  generalize nLn s = n at *
  generalize hm : nRc s = m at *
  have HM := Lib.hid hm
  clear hm
  generalize hBX : decide (l0.length = 4 ∧ prt l0 0 = hB) = BX at *
  generalize hBY : decide (l1.length = 5 ∧ prt l1 0 = tB) = BY at *
  generalize hBZ : decide (l2.length = 2 ∧ prt l2 0 = cB) = BZ at *
  have HBX := Lib.hid hBX
  have HBY := Lib.hid hBY
  have HBZ := Lib.hid hBZ
  clear hBX hBY hBZ
  go_enter Tryz.func69, Tryz.ntmps69
  go_wp2_with fail
  refine (HX.out _ HKW.out).mono ?_
  rintro e w1 ⟨rfl, hh, hb⟩
  have HB1 := Lib.hid hb
  have HH1 := Lib.hid hh
  have c2 := cell_later hb HC2.out
  clear hb hh c0
  go_wp2_with fail
  refine (HY.out _ (HKW.out.below HB1.out)).mono ?_
  rintro e w2 ⟨rfl, hh, hb⟩
  have HB2 := Lib.hid (HB1.out.trans (hb.mono HB1.out.size))
  have HH1 := Lib.hid (blk_later HH1.out hb)
  have HH2 := Lib.hid hh
  have c1 := cell_later HB2.out HC1.out
  clear hb hh c2
  go_wp2_with fail
  refine (HZ.out _ (HKW.out.below HB2.out)).mono ?_
  rintro e w3 ⟨rfl, hh, hb⟩
  have HB3 := Lib.hid (HB2.out.trans (hb.mono HB2.out.size))
  have HH1 := Lib.hid (blk_later HH1.out hb)
  have HH2 := Lib.hid (blk_later HH2.out hb)
  have HH3 := Lib.hid hh
  clear hb hh c1 HX HY HZ HC1 HC2
  generalize w1.heap.size = g1 at *
  generalize w2.heap.size = g2 at *
  cases BX with
  | false =>
    have HE := Lib.hid (HF.out.x rfl)
    clear HF
    go_wp2_with fail
    go_ret
    exact ⟨by rw [HE.out]; rfl, HB3.out⟩
  | true =>
  cases BY with
  | false =>
    have HE := Lib.hid (HF.out.y rfl)
    clear HF
    go_wp2_with fail
    go_ret
    exact ⟨by rw [HE.out]; rfl, HB3.out⟩
  | true =>
  cases BZ with
  | false =>
    have HE := Lib.hid (HF.out.z rfl)
    clear HF
    go_wp2_with fail
    go_ret
    exact ⟨by rw [HE.out]; rfl, HB3.out⟩
  | true =>
  have h4 := (of_decide_eq_true HBX.out).1
  have h5 := (of_decide_eq_true HBY.out).1
  have h6 := (of_decide_eq_true HBZ.out).1
  have HN0 := Lib.hid (rnums_any (some ⟨w.heap.size, 3, none⟩) 1 (l0.drop 3) w3 (row_drop 3 HH1.out) (drop_size 3 HZ0.out) (by rw [drop_len 3 h4]; omega))
  have HN1 := Lib.hid (rnums_any (some ⟨g1, 1, none⟩) 4 (l1.drop 1) w3 (row_drop 1 HH2.out) (drop_size 1 HZ1.out) (by rw [drop_len 1 h5]; omega))
  have k1 := str_cell HH3.out 1 (by omega)
  have HN2 := Lib.hid (fun W => rhex_any (prt l2 1) W (Nat.le_trans (HZ2.out 1) (by unfold maxLen; omega)))
  rw [drop_len 3 h4] at HN0
  rw [drop_len 1 h5] at HN1
  rw [h4, h5, h6]
  have s0 := fun V => cut22 w.heap.size 4 3 4 (by omega) V (by omega) (by omega)
  have s1 := fun V => cut22 g1 5 1 5 (by omega) V (by omega) (by omega)
  generalize (l0.drop 3).all numOK = NH at *
  generalize (l1.drop 1).all numOK = NT at *
  generalize isCk (prt l2 1) = HC at *
  generalize prt l2 1 = p1 at *
  clear HBX HBY HBZ h4 h5 h6 HZ0 HZ1 HZ2
  cases NH with
  | false =>
    have HE := Lib.hid (HF.out.h rfl rfl)
    clear HF
    go_wp2_with fail
    refine HN0.out.mono ?_
    rintro e w4 ⟨rfl, rfl⟩
    go_wp2_with fail
    go_ret
    exact ⟨by rw [HE.out]; rfl, HB3.out⟩
  | true =>
  cases NT with
  | false =>
    have HE := Lib.hid (HF.out.t rfl rfl)
    clear HF
    go_wp2_with fail
    refine HN0.out.mono ?_
    rintro e w4 ⟨rfl, rfl⟩
    go_wp2_with fail
    refine HN1.out.mono ?_
    rintro e w4 ⟨rfl, rfl⟩
    go_wp2_with fail
    go_ret
    exact ⟨by rw [HE.out]; rfl, HB3.out⟩
  | true =>
  cases HC with
  | false =>
    have HE := Lib.hid (HF.out.c rfl rfl)
    clear HF
    go_wp2_with fail
    refine HN0.out.mono ?_
    rintro e w4 ⟨rfl, rfl⟩
    go_wp2_with fail
    refine HN1.out.mono ?_
    rintro e w4 ⟨rfl, rfl⟩
    go_wp2_with fail
    refine (HN2.out _).mono ?_
    rintro e w4 ⟨rfl, rfl⟩
    go_wp2_with fail
    go_ret
    exact ⟨by rw [HE.out]; rfl, HB3.out⟩
  | true =>
  have HR := Lib.hid (fun k (hk : k < m) => HF.out.r k (by rw [HM.out]; exact hk))
  have HOK := Lib.hid (fun (h : ∀ k, k < m → Lib.hasPrefix (rcL s k).data.toList [82, 124] = true) => HF.out.ok rfl rfl rfl rfl rfl rfl (fun k hk => h k (by rw [← HM.out]; exact hk)))
  clear HF
  go_wp2_with fail
  refine HN0.out.mono ?_
  rintro e w4 ⟨rfl, rfl⟩
  go_wp2_with fail
  refine HN1.out.mono ?_
  rintro e w4 ⟨rfl, rfl⟩
  go_wp2_with fail
  refine (HN2.out _).mono ?_
  rintro e w4 ⟨rfl, rfl⟩
  clear HN0 HN1 HN2 k1 s0 s1 HH1 HH2 HH3
  go_wp2_with fail
  go_loop [10] (fun i => ∃ k : Nat, k ≤ m ∧ i = .int .i64 ((1 + k : Nat) : Int) ∧ Hid (∀ j, j < k → Lib.hasPrefix (rcL s j).data.toList [82, 124] = true)) (fun i => m + 1 - (intOf i).toNat)
  case atStart => exact ⟨0, Nat.zero_le _, rfl, Lib.hid (fun j hj => absurd hj (Nat.not_lt_zero _))⟩
  case round =>
    obtain ⟨k, hk, rfl, HW⟩ := hrel
    by_cases hlt : k < m
    · have c0 := cell_later HB3.out (HRC.out k hlt)
      have kI : ((1 + k : Nat) : Int) < (n : Int) - 2 := by omega
      have HP := Lib.hid (HPF.out (rcL s k))
      have HN := Lib.hid (HR.out k hlt)
      have HST := Lib.hid (fun (h : Lib.hasPrefix (rcL s k).data.toList [82, 124] = true) j (hj : j < k + 1) => show Lib.hasPrefix (rcL s j).data.toList [82, 124] = true from by
        rcases Nat.lt_or_ge j k with c | c
        · exact HW.out j c
        · obtain rfl : j = k := by omega
          exact h)
      cases hc : Lib.hasPrefix (rcL s k).data.toList [82, 124] with
      | false =>
        have HE := Lib.hid (HN.out hc)
        rw [hc] at HP
        clear hc HST
        generalize rcL s k = p at *
        go_wp2_with fail
        refine (HP.out _).mono ?_
        rintro e w4 ⟨rfl, rfl⟩
        go_wp2_with fail
        go_ret
        exact ⟨by rw [HE.out]; rfl, HB3.out⟩
      | true =>
        have HW2 := Lib.hid (HST.out hc)
        rw [hc] at HP
        clear hc HST
        generalize rcL s k = p at *
        go_wp2_with fail
        refine (HP.out _).mono ?_
        rintro e w4 ⟨rfl, rfl⟩
        go_wp2_with fail
        exact ⟨⟨k + 1, by omega, by go_num, HW2⟩, by simp [intOf]; omega⟩
    · obtain rfl : k = m := by omega
      have kI : ¬ ((1 + k : Nat) : Int) < (n : Int) - 2 := by omega
      have HE := Lib.hid (HOK.out HW.out)
      go_wp2_with fail
      go_ret
      exact ⟨by rw [HE.out]; rfl, HB3.out⟩
end Go.Proofs.YthflmdgfenojcaaGreatDoor
namespace Go.Proofs.YthflmdgfenojcaaGreatDoor
set_option linter.unusedVariables false
open Go.RowKit Go.Sort
/-- What has been cut, and what is left, with no bar before i. -/
structure CutI (s : ByteArray) (f i : Nat) (ps : List ByteArray) : Prop where
  c : cutL 124 s.data.toList = ps.map (·.data.toList) ++ cutL 124 (s.data.toList.drop f)
  n : ∀ j (hj : j < s.size), f ≤ j → j < i → (s[j]).toNat ≠ 124
theorem CutI.start (s : ByteArray) : CutI s 0 0 [] := ⟨by simp, fun j _ _ h => absurd h (Nat.not_lt_zero _)⟩
theorem CutI.step {s : ByteArray} {f i : Nat} {ps : List ByteArray} (h : CutI s f i ps) (hi : i < s.size) (hb : (s[i]).toNat ≠ 124) : CutI s f (i + 1) ps :=
  ⟨h.c, fun j hj h1 h2 => by
    rcases Nat.lt_or_ge j i with c | c
    · exact h.n j hj h1 c
    · obtain rfl : j = i := by omega
      exact hb⟩
theorem piece_no {s : ByteArray} {f i : Nat} (hi : i ≤ s.size) (h : ∀ j (hj : j < s.size), f ≤ j → j < i → (s[j]).toNat ≠ 124) : ∀ b ∈ (s.extract f i).data.toList, b ≠ 124 := by
  intro b hb e
  rw [Lib.extract_data] at hb
  obtain ⟨k, hk, he⟩ := List.getElem_of_mem hb
  rw [List.length_take, List.length_drop, dat_len] at hk
  rw [List.getElem_take, List.getElem_drop, dat_get s (f + k) (by omega)] at he
  exact h (f + k) (by omega) (by omega) (by omega) (by rw [he, e]; rfl)
theorem CutI.bar {s : ByteArray} {f i : Nat} {ps : List ByteArray} (h : CutI s f i ps) (hf : f ≤ i) (hi : i < s.size) (hb : (s[i]).toNat = 124) : CutI s (i + 1) (i + 1) (ps ++ [s.extract f i]) := by
  refine ⟨?_, fun j hj h1 h2 => by omega⟩
  have e : s.data.toList.drop f = (s.extract f i).data.toList ++ 124 :: s.data.toList.drop (i + 1) := by
    rw [Lib.extract_data]
    have h1 : s.data.toList.drop i = 124 :: s.data.toList.drop (i + 1) := by
      rw [List.drop_eq_getElem_cons (by rw [dat_len]; exact hi), dat_get s i hi]
      congr 1
      exact UInt8.toNat_inj.1 hb
    rw [← h1]
    have h2 : s.data.toList.drop i = (s.data.toList.drop f).drop (i - f) := by rw [List.drop_drop]; congr 1; omega
    rw [h2, List.take_append_drop]
  rw [h.c, e, cut_skip 124 _ _ (piece_no (Nat.le_of_lt hi) h.n), List.map_append, List.append_assoc]
  congr 1
  rw [cutL, if_pos rfl]
  simp
theorem CutI.end {s : ByteArray} {f : Nat} {ps : List ByteArray} (h : CutI s f s.size ps) : cutS s = ps ++ [s.extract f s.size] := by
  apply map_inj
  rw [cutS_data, h.c, List.map_append]
  congr 1
  have e : s.data.toList.drop f = (s.extract f s.size).data.toList := by
    rw [Lib.extract_data, List.take_of_length_le (by rw [List.length_drop, dat_len]; omega)]
  rw [e]
  have := cut_skip 124 [] _ (piece_no (Nat.le_refl _) h.n)
  simpa [cutL] using this
def StrsPost (l : List ByteArray) (w : World) (e : Ending) (w' : World) : Prop := ∃ v, e = .returned v ∧ w'.ownsRow w.heap.size 9 1 v l.length (l.map Value.string) ∧ Below w.heap.size w w'
structure CutR (s : ByteArray) (f i : Nat) (ps : List ByteArray) (w : World) (v : Value) (W : World) : Prop where
  c : CutI s f i ps
  n : ps.length ≤ i
  o : W.ownsRow w.heap.size 9 1 v ps.length (ps.map Value.string)
  b : Below w.heap.size w W
set_option maxRecDepth 100000 in
set_option maxHeartbeats 3200000 in
theorem rcut_any (s : ByteArray) (w : World) (hs : s.size ≤ 1000000) : Calls Tryz.prog 162 #[.string s, .int .u8 124] w (StrsPost (cutS s) w) := by
  obtain ⟨i9, HI⟩ := info_parts info9
  have HI := Lib.hid HI
  have HS0 : Hid (CutR s 0 0 [] w (.slice none 0 0) w) := Lib.hid ⟨CutI.start s, Nat.le_refl _, World.ownsRow_nil _ _ _ _, Below.refl _ _⟩
  go_enter Tryz.func162, Tryz.ntmps162
  go_wp2_with fail
  go_loopw [5, 6, 7] (fun v fv iv wr => ∃ (f i : Nat) (ps : List ByteArray), f ≤ i ∧ i ≤ s.size ∧ fv = .int .i64 f ∧ iv = .int .i64 i ∧ Hid (CutR s f i ps w v wr)) (fun _ _ iv _ => s.size - (intOf iv).toNat)
  case atStart => exact ⟨0, 0, [], Nat.le_refl _, Nat.zero_le _, rfl, rfl, HS0⟩
  case round =>
    clear HS0
    obtain ⟨f, i, ps, hf, hi, rfl, rfl, HW⟩ := hrel
    have hpl := HW.out.n
    by_cases hlt : i < s.size
    · have iI : (i : Int) < (s.size : Int) := by omega
      by_cases hb : (s[i]).toNat = 124
      · have hbb : (((s[i]).toNat : Int) == 124) = true := by simp; omega
        have HC := Lib.hid (HW.out.c.bar hf hlt hb)
        have HO := Lib.hid (HW.out.o.alloc (.cells #[.string (s.extract f i)] 9))
        have HB := Lib.hid (HW.out.b.trans ((bx wr (.cells #[.string (s.extract f i)] 9)).mono HW.out.b.size))
        have hsz := HW.out.b.size
        have hqs : (s.extract f i).size = i - f := by rw [ByteArray.size_extract]; omega
        clear hb
        go_wp2_with (at_builtin; refine wpList_append_own _ rfl (.tmp 19) (.tmp 24) _ rfl w.heap.size 9 i9 _ 1 16 Tryz.underlying22 HI.out.1 HI.out.2.1 HI.out.2.2.1 HI.out.2.2.2 rfl (by omega) _ _ _ rfl HO.out ⟨wr.heap.size, 0, none⟩ 1 1 [.string (s.extract f i)] rfl rfl (World.news_of_block (cs := #[.string (s.extract f i)]) (t := 9) (fr := (0, 0)) (heap_alloc_new wr _)) (by simp [Value.oneCell']) (by unfold maxLen; omega) (by omega) (by simp; omega) ?_; intro v2 w2 hown hgrow hnil; have HA := Lib.hid hown; have HG := Lib.hid hgrow; clear hown hgrow hnil)
        have HW2 : Hid (CutR s (i + 1) (i + 1) (ps ++ [s.extract f i]) w v2 w2) := Lib.hid ⟨HC.out, by simp; omega, by rw [List.length_append, List.map_append]; simpa using HA.out, HB.out.grown HG.out HB.out.size (fun j hj => (HO.out.lt j hj).1)⟩
        exact ⟨⟨i + 1, i + 1, _, by omega, by omega, by go_num, by go_num, HW2⟩, by simp [intOf]; omega⟩
      · have hbb : (((s[i]).toNat : Int) == 124) = false := by simp; omega
        have HW2 : Hid (CutR s f (i + 1) ps w u5 wr) := Lib.hid ⟨HW.out.c.step hlt hb, by omega, HW.out.o, HW.out.b⟩
        clear hb
        go_wp2_with fail
        exact ⟨⟨f, i + 1, ps, by omega, by omega, rfl, by go_num, HW2⟩, by simp [intOf]; omega⟩
    · obtain rfl : i = s.size := by omega
      have iI : ¬ (s.size : Int) < (s.size : Int) := by omega
      have HE := Lib.hid (HW.out.c.end)
      have HO := Lib.hid (HW.out.o.alloc (.cells #[.string (s.extract f s.size)] 9))
      have HB := Lib.hid (HW.out.b.trans ((bx wr (.cells #[.string (s.extract f s.size)] 9)).mono HW.out.b.size))
      have hsz := HW.out.b.size
      go_wp2_with (at_builtin; refine wpList_append_own _ rfl (.tmp 28) (.tmp 32) _ rfl w.heap.size 9 i9 _ 1 16 Tryz.underlying22 HI.out.1 HI.out.2.1 HI.out.2.2.1 HI.out.2.2.2 rfl (by omega) _ _ _ rfl HO.out ⟨wr.heap.size, 0, none⟩ 1 1 [.string (s.extract f s.size)] rfl rfl (World.news_of_block (cs := #[.string (s.extract f s.size)]) (t := 9) (fr := (0, 0)) (heap_alloc_new wr _)) (by simp [Value.oneCell']) (by unfold maxLen; omega) (by omega) (by simp; omega) ?_; intro v2 w2 hown hgrow hnil; have HA := Lib.hid hown; have HG := Lib.hid hgrow; clear hown hgrow hnil)
      go_ret
      exact ⟨_, rfl, by rw [HE.out, List.length_append, List.map_append]; simpa using HA.out, HB.out.grown HG.out HB.out.size (fun j hj => (HO.out.lt j hj).1)⟩
end Go.Proofs.YthflmdgfenojcaaGreatDoor
