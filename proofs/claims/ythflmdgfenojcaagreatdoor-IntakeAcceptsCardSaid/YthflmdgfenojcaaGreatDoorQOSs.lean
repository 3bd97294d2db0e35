/- Part of the proof over this seat. -/
import Derived.Test.YthflmdgfenojcaaGreatDoorQIKm
import Derived.Test.YthflmdgfenojcaaGreatDoorQFew
namespace Go.Proofs.YthflmdgfenojcaaGreatDoor
set_option linter.unusedVariables false
open Go.RowKit
/-- The pairs of sender and name of accepted records. -/
def prs (good : List (ByteArray × Rec)) : List (ByteArray × ByteArray) := good.map fun g => (g.1, g.2.id)
theorem prs_app (a b : List (ByteArray × Rec)) : prs (a ++ b) = prs a ++ prs b := List.map_append
theorem prs_mem {good : List (ByteArray × Rec)} {sd id : ByteArray} : (sd, id) ∈ prs good ↔ seenB good sd id = true := by
  constructor
  · intro h
    obtain ⟨g, hg, e⟩ := List.mem_map.1 h
    injection e with e1 e2
    exact seenB_of hg e1 e2
  · intro h
    obtain ⟨g, hg, e1, e2⟩ := seenB_true h
    exact List.mem_map.2 ⟨g, hg, by rw [e1, e2]⟩
theorem mem_put {sd : ByteArray} {r : Rej} {y : ByteArray × Rej} : ∀ l, y ∈ putB sd r l → y ∈ l ∨ y = (sd, r)
  | [], h => .inr (List.mem_singleton.1 h)
  | x :: l, h => by
    unfold putB at h
    split at h
    · rcases List.mem_cons.1 h with h | h
      · exact .inr h
      · exact .inl (List.mem_cons_of_mem _ h)
    · rcases List.mem_cons.1 h with h | h
      · exact .inl (by rw [h]; exact List.mem_cons_self)
      · rcases mem_put l h with h | h
        · exact .inl (List.mem_cons_of_mem _ h)
        · exact .inr h
theorem laced_mono {l : List Rej} {i : Nat} (h : Laced l i) : Laced l (i + 1) := ⟨h.up, fun j hj => Nat.lt_succ_of_lt (h.lt j hj)⟩
theorem rejAt_app {l : List Rej} {x : Rej} {j : Nat} (hj : j < l.length) : rejAt (l ++ [x]) j = rejAt l j := by
  unfold rejAt; rw [List.getD_eq_getElem?_getD, List.getElem?_append_left hj, ← List.getD_eq_getElem?_getD]
theorem rejAt_end {l : List Rej} {x : Rej} : rejAt (l ++ [x]) l.length = x := by
  unfold rejAt; rw [List.getD_eq_getElem?_getD]; simp
theorem laced_app {l : List Rej} {i : Nat} (h : Laced l i) (x : Rej) (hx : x.1 = i) : Laced (l ++ [x]) (i + 1) := by
  refine ⟨fun a j hij hj => ?_, fun j hj => ?_⟩
  · have hj' : j < l.length + 1 := by simpa using hj
    rcases Nat.lt_or_ge j l.length with c | c
    · rw [rejAt_app (by omega), rejAt_app c]; exact h.up a j hij c
    · obtain rfl : j = l.length := by omega
      rw [rejAt_app hij, rejAt_end, hx]
      exact h.lt a hij
  · have hj' : j < l.length + 1 := by simpa using hj
    rcases Nat.lt_or_ge j l.length with c | c
    · rw [rejAt_app c]; exact Nat.lt_succ_of_lt (h.lt j c)
    · obtain rfl : j = l.length := by omega
      rw [rejAt_end, hx]; exact Nat.lt_succ_self _
/-- What is kept while a file's lines are treated, behind i of them. -/
structure TrOk (i : Nat) (t : TreS) : Prop where
  nd : (prs t.good).Nodup
  op : ∀ x ∈ t.bad, x.2.2.1 ≠ noS ∧ seenB t.good x.1 x.2.2.1 = false
  lc : Laced t.out i
  cd : ∀ x ∈ t.out, x.2.2 ≠ 0
  n : t.acc.length + t.out.length = i
theorem TrOk.bad {i : Nat} {t : TreS} (h : TrOk i t) (sd : ByteArray) (x : Rej) (hx : x.1 = i) (hc : x.2.2 ≠ 0) : TrOk (i + 1) (trBad sd x t) := by
  refine ⟨h.nd, fun y hy => ?_, laced_app h.lc x hx, fun y hy => ?_, ?_⟩
  · have hy : y ∈ keepB t.good sd x t.bad := hy
    unfold keepB at hy
    split at hy
    · exact h.op y hy
    · rename_i q
      rcases mem_put _ hy with hy | rfl
      · exact h.op y hy
      · exact ⟨fun e => q (.inl e), by cases hs : seenB t.good sd x.2.1 with | false => exact hs | true => exact absurd (.inr hs) q⟩
  · have hy : y ∈ t.out ++ [x] := hy
    rcases List.mem_append.1 hy with hy | hy
    · exact h.cd y hy
    · rw [List.mem_singleton.1 hy]; exact hc
  · show t.acc.length + (t.out ++ [x]).length = i + 1
    rw [List.length_append, List.length_singleton]; have := h.n; omega
theorem TrOk.good {i : Nat} {t : TreS} (h : TrOk i t) (sd : ByteArray) (r : Rec) : TrOk (i + 1) (trGood sd i r t) := by
  by_cases q : seenB t.good sd r.id = true
  · unfold trGood
    rw [if_pos q]
    refine ⟨h.nd, h.op, laced_app h.lc (i, r.id, 15) rfl, fun y hy => ?_, ?_⟩
    · have hy : y ∈ t.out ++ [(i, r.id, 15)] := hy
      rcases List.mem_append.1 hy with hy | hy
      · exact h.cd y hy
      · rw [List.mem_singleton.1 hy]; show (15 : Int) ≠ 0; decide
    · show t.acc.length + (t.out ++ [((i, r.id, 15) : Rej)]).length = i + 1
      rw [List.length_append, List.length_singleton]; have := h.n; omega
  · have q' : seenB t.good sd r.id = false := by simpa using q
    unfold trGood
    rw [if_neg q]
    refine ⟨?_, fun y hy => ?_, laced_mono h.lc, h.cd, ?_⟩
    · show (prs (t.good ++ [(sd, r)])).Nodup
      rw [prs_app]
      refine List.nodup_append.2 ⟨h.nd, by simp [prs], fun a ha b hb e => ?_⟩
      have hb : b = (sd, r.id) := List.mem_singleton.1 hb
      rw [e, hb] at ha
      rw [prs_mem.1 ha] at q'; cases q'
    · have hy : y ∈ delB sd r.id t.bad := hy
      unfold delB at hy
      obtain ⟨h1, h2⟩ := List.mem_filter.1 hy
      obtain ⟨h3, h4⟩ := h.op y h1
      refine ⟨h3, ?_⟩
      show seenB (t.good ++ [(sd, r)]) _ _ = false
      rw [seenB_app, h4, Bool.false_or]
      unfold seenB
      simp only [List.any_cons, List.any_nil, Bool.or_false]
      cases hd : (decide (sd = y.1) && decide (r.id = y.2.2.1)) with
      | false => rfl
      | true =>
        exfalso
        simp at hd h2
        exact h2.elim (fun q => q hd.1.symm) (fun q => q hd.2.symm)
    · show (t.acc ++ [r]).length + t.out.length = i + 1
      rw [List.length_append, List.length_singleton]; have := h.n; omega
theorem trK_ok (sd : ByteArray) (rs : List Rec) (bad : List Rej) (t0 : TreS) (h : Laced bad (rs.length + bad.length)) (hc : ∀ x ∈ bad, x.2.2 ≠ 0) (h0 : TrOk 0 t0) : ∀ i, i ≤ rs.length + bad.length → TrOk i (trK sd rs bad t0 i).t
  | 0, _ => h0
  | i + 1, hi => by
    have ih := trK_ok sd rs bad t0 h hc h0 i (by omega)
    rw [trK_succ]
    generalize trK sd rs bad t0 i = s at *
    unfold trStep
    split
    · rename_i q
      exact ih.bad sd _ q.2 (hc _ (by rw [rejAt_get bad s.r q.1]; exact List.getElem_mem q.1))
    · exact ih.good sd _
theorem trS_in (sd : ByteArray) (rs : List Rec) (bad : List Rej) (t0 : TreS) (h : Laced bad (rs.length + bad.length)) (h0 : ∀ r ∈ t0.acc, r ∈ rs) : ∀ i, i ≤ rs.length + bad.length → ∀ r ∈ (trK sd rs bad t0 i).t.acc, r ∈ rs
  | 0, _ => h0
  | i + 1, hi => by
    have ih := trS_in sd rs bad t0 h h0 i (by omega)
    have hk := trK_good sd rs bad t0 h i (by omega)
    rw [trK_succ]
    generalize trK sd rs bad t0 i = s at *
    unfold trStep
    split
    · exact ih
    · rename_i q
      have hk := hk q
      unfold trGood
      split
      · exact ih
      · intro r hr
        have hr : r ∈ s.t.acc ++ [rcAt rs s.k] := hr
        rcases List.mem_append.1 hr with hr | hr
        · exact ih r hr
        · rw [List.mem_singleton.1 hr, rcAt_get rs s.k hk]; exact List.getElem_mem hk
/-- What an intake keeps. -/
structure InOk (st : InS) : Prop where
  nd : (prs st.good).Nodup
  op : ∀ x ∈ st.bad, x.2.2.1 ≠ noS ∧ seenB st.good x.1 x.2.2.1 = false
theorem inOk0 (l : List ByteArray) : InOk (inS0 l) := ⟨List.nodup_nil, fun x h => by cases h⟩
theorem file_aq {s : ByteArray} (h : fileE s = 0) : ∀ r ∈ (fileV s).rs, r.aq = (fileV s).sd := by
  intro r hr
  obtain ⟨_, _, h3⟩ := chkB_zero (dec_good h)
  obtain ⟨k, hk, rfl⟩ := List.getElem_of_mem hr
  have := (ptL_zero (h3 k hk)).2.1
  rwa [rcAt_get _ _ hk] at this
theorem accE_zero {st : InS} {date : Int} {s : ByteArray} (h : accE st date s = 0) : ¬ (date < 0 ∨ 99999 < date) ∧ fileE s = 0 ∧ (fileV s).sd ∈ st.sds ∧ ¬ date < (fileV s).dt ∧ inF st.fs (fileV s).sd (fileV s).id = false ∧ ¬ 64 ≤ st.fs.length := by
  unfold accE at h
  split at h
  · cases h
  · rename_i q1
    split at h
    · rename_i q; exact absurd h q
    · rename_i q2
      split at h
      · cases h
      · rename_i q3
        split at h
        · cases h
        · rename_i q4
          split at h
          · cases h
          · rename_i q5
            split at h
            · cases h
            · rename_i q6
              exact ⟨q1, Decidable.not_not.1 q2, Decidable.not_not.1 q3, q4, by simpa using q5, q6⟩
/-- What a file that is accepted leaves. -/
structure AccLaw (st : InS) (date : Int) (s : ByteArray) : Prop where
  ok : InOk (accS st date s)
  gd : (accS st date s).good = st.good ++ (accG st date s).map fun r => ((fileV s).sd, r)
  aq : ∀ r ∈ accG st date s, r.aq = (fileV s).sd
  n : (accG st date s).length + (accB st date s).length = (fileV s).rs.length + (fileB s).length
  lc : Laced (accB st date s) ((accG st date s).length + (accB st date s).length)
  cd : ∀ x ∈ accB st date s, x.2.2 ≠ 0
  sds : (accS st date s).sds = st.sds
  fs : (accS st date s).fs.length = st.fs.length + 1
  dup : accE (accS st date s) date s = 15
theorem acc_law {st : InS} (hok : InOk st) {date : Int} {s : ByteArray} (h : accE st date s = 0) : AccLaw st date s := by
  obtain ⟨q1, q2, q3, q4, q5, q6⟩ := accE_zero h
  have hL := file_laced s
  have hC : ∀ x ∈ fileB s, x.2.2 ≠ 0 := fun x hx => by rw [fileB_of q2] at hx; exact rd_code s _ x hx
  have hT := trK_ok (fileV s).sd (fileV s).rs (fileB s) ⟨st.good, st.bad, [], []⟩ hL hC ⟨hok.nd, hok.op, laced_nil 0, (fun x h => by cases h), rfl⟩ _ (Nat.le_refl _)
  obtain ⟨l, t1, t2, t3⟩ := trS_good (fileV s).sd (fileV s).rs (fileB s) ⟨st.good, st.bad, [], []⟩ ((fileV s).rs.length + (fileB s).length)
  have eS : accS st date s = ⟨st.sds, st.fs ++ [((fileV s).sd, (fileV s).id)], (accT st s).good, (accT st s).bad⟩ := by unfold accS; rw [if_pos h]
  have eG : accG st date s = (accT st s).acc := by unfold accG; rw [if_pos h]
  have eB : accB st date s = (accT st s).out := by unfold accB; rw [if_pos h]
  have eT : accT st s = (trK (fileV s).sd (fileV s).rs (fileB s) ⟨st.good, st.bad, [], []⟩ ((fileV s).rs.length + (fileB s).length)).t := rfl
  rw [← eT] at hT t1 t2
  have t1 : (accT st s).acc = l := by simpa using t1
  have t2 : (accT st s).good = st.good ++ l.map (fun r => ((fileV s).sd, r)) := t2
  have hl : ∀ r ∈ (accT st s).acc, r ∈ (fileV s).rs := by
    rw [eT]
    exact trS_in (fileV s).sd (fileV s).rs (fileB s) ⟨st.good, st.bad, [], []⟩ hL (fun r h => by cases h) _ (Nat.le_refl _)
  refine ⟨⟨by rw [eS]; exact hT.nd, by rw [eS]; exact hT.op⟩, by rw [eS, eG, t1]; exact t2, fun r hr => ?_, ?_, ?_, ?_, by rw [eS], by rw [eS]; simp, ?_⟩
  · rw [eG] at hr
    exact file_aq q2 r (hl r hr)
  · rw [eG, eB]; exact hT.n
  · rw [eG, eB, hT.n]; exact hT.lc
  · rw [eB]; exact hT.cd
  · rw [eS]
    refine accE_5 q1 q2 q3 q4 ?_
    unfold inF
    rw [List.any_append]
    simp
end Go.Proofs.YthflmdgfenojcaaGreatDoor
namespace Go.Proofs.YthflmdgfenojcaaGreatDoor
set_option linter.unusedVariables false
open Go.RowKit Go.Sort
def fileT (x : Int × ByteArray) : List Value := [.int .i64 x.1, .string x.2]
def flAt (l : List (Int × ByteArray)) (k : Nat) : Int × ByteArray := l.getD k (0, noS)
theorem flAt_get (l : List (Int × ByteArray)) (k : Nat) (h : k < l.length) : flAt l k = l[k] := by unfold flAt; simp [h]
theorem row_fl {w : World} {A : Option Addr} {l : List (Int × ByteArray)} (hr : IsRow w A (l.flatMap fileT)) (j : Nat) (h : j < l.length) :
    ∃ b off, A = some ⟨b, off, none⟩ ∧ ∀ k, k < l.length → w.cell? ⟨b, off + k * 2, none⟩ = some (.int .i64 (flAt l k).1) ∧ w.cell? ⟨b, off + k * 2 + 1, none⟩ = some (.string (flAt l k).2) := by
  obtain ⟨b, off, rfl, hc⟩ := row_flat fileT 2 (by decide) (fun _ => rfl) hr j h
  refine ⟨b, off, rfl, fun k hk => ?_⟩
  rw [flAt_get l k hk]
  exact ⟨hc k hk 0 _ rfl, hc k hk 1 _ rfl⟩
def shrtB (l : List (Int × ByteArray)) (n : Nat) : Bool := (l.all fun x => decide (x.2.size ≤ 5000)) && decide (l.length ≤ n)
theorem shrtB_no {l : List (Int × ByteArray)} {n k : Nat} (hk : k < l.length) (h : 5000 < (flAt l k).2.size) : shrtB l n = false := by
  unfold shrtB
  rw [List.all_eq_false.2 ⟨flAt l k, by rw [flAt_get l k hk]; exact List.getElem_mem hk, by simp; omega⟩]; rfl
theorem shrtB_end {l : List (Int × ByteArray)} {n : Nat} (h : ∀ j, j < l.length → (flAt l j).2.size ≤ 5000) : shrtB l n = decide (l.length ≤ n) := by
  unfold shrtB
  rw [List.all_eq_true.2 (fun x hx => by
    obtain ⟨j, hj, rfl⟩ := List.getElem_of_mem hx
    have := h j hj
    rw [flAt_get l j hj] at this
    exact decide_eq_true this), Bool.true_and]
theorem shrtB_true {l : List (Int × ByteArray)} {n : Nat} (h : shrtB l n = true) : l.length ≤ n ∧ ∀ j, j < l.length → (flAt l j).2.size ≤ 5000 := by
  unfold shrtB at h
  rw [Bool.and_eq_true] at h
  refine ⟨of_decide_eq_true h.2, fun j hj => ?_⟩
  have := List.all_eq_true.1 h.1 l[j] (List.getElem_mem hj)
  rw [flAt_get l j hj]; exact of_decide_eq_true this
set_option maxRecDepth 100000 in
set_option maxHeartbeats 3200000 in
theorem shrt_any (A : Option Addr) (cp : Nat) (l : List (Int × ByteArray)) (n : Nat) (w : World) (hr : IsRow w A (l.flatMap fileT)) (hs : ∀ x ∈ l, x.2.size ≤ maxLen) (hm : l.length ≤ maxLen) (hn : n ≤ 1000) : Calls Tryz.prog 13 #[.slice A l.length cp, .int .i64 n] w fun e w' => e = .returned (.bool (shrtB l n)) ∧ w = w' := by
  have HR := Lib.hid hr
  have HSZ := Lib.hid hs
  have HNO := Lib.hid (fun k hk h => shrtB_no (l := l) (n := n) (k := k) hk h)
  have HYE := Lib.hid (shrtB_end (l := l) (n := n))
  unfold maxLen at hm
  clear hr hs
  generalize shrtB l n = B at *
  go_enter Tryz.func13, Tryz.ntmps13
  go_wp2_with fail
  go_loop [5] (fun i => ∃ k : Nat, k ≤ l.length ∧ i = .int .i64 k ∧ Hid (∀ j, j < k → (flAt l j).2.size ≤ 5000)) (fun i => l.length - (intOf i).toNat)
  case atStart => exact ⟨0, Nat.zero_le _, rfl, Lib.hid (fun j hj => absurd hj (Nat.not_lt_zero _))⟩
  case round =>
    obtain ⟨k, hk, rfl, HW⟩ := hrel
    by_cases hlt : k < l.length
    · obtain ⟨b, off, rfl, hcell⟩ := row_fl HR.out k hlt
      have c1 := (hcell k hlt).2
      have kI : (k : Int) < (l.length : Int) := by omega
      have k0 : (0 : Int) ≤ (k : Int) := by omega
      have hsz : (flAt l k).2.size ≤ 9223372036854775807 := by
        have := HSZ.out (flAt l k) (by rw [flAt_get l k hlt]; exact List.getElem_mem hlt)
        unfold maxLen at this; omega
      have HN0 := Lib.hid (HNO.out k hlt)
      have HST := Lib.hid (fun (h : (flAt l k).2.size ≤ 5000) j (hj : j < k + 1) => show (flAt l j).2.size ≤ 5000 from by
        rcases Nat.lt_or_ge j k with c | c
        · exact HW.out j c
        · obtain rfl : j = k := by omega
          exact h)
      clear hcell
      generalize (flAt l k).2 = p at *
      by_cases hp : 5000 < p.size
      · have HE := Lib.hid (HN0.out hp)
        have hpI : (5000 : Int) < (p.size : Int) := by omega
        clear hp HN0 HST
        go_wp2_with fail
        go_ret
        exact ⟨by rw [HE.out]; rfl, rfl⟩
      · have HW2 := Lib.hid (HST.out (by omega))
        have hpI : ¬ (5000 : Int) < (p.size : Int) := by omega
        clear hp HN0 HST
        go_wp2_with fail
        exact ⟨⟨k + 1, by omega, by go_num, HW2⟩, by simp [intOf]; omega⟩
    · obtain rfl : k = l.length := by omega
      have kI : ¬ (l.length : Int) < (l.length : Int) := by omega
      have HE := Lib.hid (HYE.out HW.out)
      by_cases hq : l.length ≤ n
      · have hqI : (l.length : Int) ≤ (n : Int) := by omega
        have HE2 := Lib.hid (HE.out.trans (decide_eq_true hq))
        clear HE hq
        go_wp2_with fail
        go_ret
        exact ⟨by rw [HE2.out]; rfl, rfl⟩
      · have hqI : ¬ (l.length : Int) ≤ (n : Int) := by omega
        have HE2 := Lib.hid (HE.out.trans (decide_eq_false hq))
        clear HE hq
        go_wp2_with fail
        go_ret
        exact ⟨by rw [HE2.out]; rfl, rfl⟩
def namsB (l : List ByteArray) : Bool := (l.all fun x => decide (x.size ≤ 100)) && decide (l.length ≤ 20)
theorem namsB_no {l : List ByteArray} {k : Nat} (hk : k < l.length) (h : 100 < (stA l k).size) : namsB l = false := by
  unfold namsB
  rw [List.all_eq_false.2 ⟨stA l k, by rw [stA_get l k hk]; exact List.getElem_mem hk, by simp; omega⟩]; rfl
theorem namsB_end {l : List ByteArray} (h : ∀ j, j < l.length → (stA l j).size ≤ 100) : namsB l = decide (l.length ≤ 20) := by
  unfold namsB
  rw [List.all_eq_true.2 (fun x hx => by
    obtain ⟨j, hj, rfl⟩ := List.getElem_of_mem hx
    have := h j hj
    rw [stA_get l j hj] at this
    exact decide_eq_true this), Bool.true_and]
theorem namsB_true {l : List ByteArray} (h : namsB l = true) : l.length ≤ 20 ∧ ∀ x ∈ l, x.size ≤ 100 := by
  unfold namsB at h
  rw [Bool.and_eq_true] at h
  exact ⟨of_decide_eq_true h.2, fun x hx => of_decide_eq_true (List.all_eq_true.1 h.1 x hx)⟩
set_option maxRecDepth 100000 in
set_option maxHeartbeats 3200000 in
theorem nams_any (A : Option Addr) (cp : Nat) (l : List ByteArray) (w : World) (hr : IsRow w A (l.map Value.string)) (hs : ∀ x ∈ l, x.size ≤ maxLen) (hm : l.length ≤ maxLen) : Calls Tryz.prog 12 #[.slice A l.length cp] w fun e w' => e = .returned (.bool (namsB l)) ∧ w = w' := by
  have HR := Lib.hid hr
  have HSZ := Lib.hid hs
  have HNO := Lib.hid (fun k hk h => namsB_no (l := l) (k := k) hk h)
  have HYE := Lib.hid (namsB_end (l := l))
  unfold maxLen at hm
  clear hr hs
  generalize namsB l = B at *
  go_enter Tryz.func12, Tryz.ntmps12
  go_wp2_with fail
  go_loop [3] (fun i => ∃ k : Nat, k ≤ l.length ∧ i = .int .i64 k ∧ Hid (∀ j, j < k → (stA l j).size ≤ 100)) (fun i => l.length - (intOf i).toNat)
  case atStart => exact ⟨0, Nat.zero_le _, rfl, Lib.hid (fun j hj => absurd hj (Nat.not_lt_zero _))⟩
  case round =>
    obtain ⟨k, hk, rfl, HW⟩ := hrel
    by_cases hlt : k < l.length
    · obtain ⟨b, off, rfl, hcell⟩ := row_st HR.out k hlt
      have c1 := hcell k hlt
      have kI : (k : Int) < (l.length : Int) := by omega
      have k0 : (0 : Int) ≤ (k : Int) := by omega
      have hsz : (stA l k).size ≤ 9223372036854775807 := by
        have := HSZ.out (stA l k) (by rw [stA_get l k hlt]; exact List.getElem_mem hlt)
        unfold maxLen at this; omega
      have HN0 := Lib.hid (HNO.out k hlt)
      have HST := Lib.hid (fun (h : (stA l k).size ≤ 100) j (hj : j < k + 1) => show (stA l j).size ≤ 100 from by
        rcases Nat.lt_or_ge j k with c | c
        · exact HW.out j c
        · obtain rfl : j = k := by omega
          exact h)
      clear hcell
      generalize stA l k = p at *
      by_cases hp : 100 < p.size
      · have HE := Lib.hid (HN0.out hp)
        have hpI : (100 : Int) < (p.size : Int) := by omega
        clear hp HN0 HST
        go_wp2_with fail
        go_ret
        exact ⟨by rw [HE.out]; rfl, rfl⟩
      · have HW2 := Lib.hid (HST.out (by omega))
        have hpI : ¬ (100 : Int) < (p.size : Int) := by omega
        clear hp HN0 HST
        go_wp2_with fail
        exact ⟨⟨k + 1, by omega, by go_num, HW2⟩, by simp [intOf]; omega⟩
    · obtain rfl : k = l.length := by omega
      have kI : ¬ (l.length : Int) < (l.length : Int) := by omega
      have HE := Lib.hid (HYE.out HW.out)
      by_cases hq : l.length ≤ 20
      · have hqI : (l.length : Int) ≤ 20 := by omega
        have HE2 := Lib.hid (HE.out.trans (decide_eq_true hq))
        clear HE hq
        go_wp2_with fail
        go_ret
        exact ⟨by rw [HE2.out]; rfl, rfl⟩
      · have hqI : ¬ (l.length : Int) ≤ 20 := by omega
        have HE2 := Lib.hid (HE.out.trans (decide_eq_false hq))
        clear HE hq
        go_wp2_with fail
        go_ret
        exact ⟨by rw [HE2.out]; rfl, rfl⟩
set_option maxRecDepth 100000 in
set_option maxHeartbeats 6400000 in
theorem srecs_any (A B : Option Addr) (cp cq : Nat) (l : List Rec) (w : World) (hA : IsRow w A (l.flatMap recF)) (hB : IsRow w B (l.flatMap recF)) (hm : l.length ≤ maxLen) : Calls Tryz.prog 19 #[.slice A l.length cp, .slice B l.length cq] w (BPost true w) := by
  have HA := Lib.hid hA
  have HB := Lib.hid hB
  unfold BPost
  unfold maxLen at hm
  clear hA hB
  go_enter Tryz.func19, Tryz.ntmps19
  go_wp2_with fail
  go_loopw [5] (fun i wr => ∃ k : Nat, k ≤ l.length ∧ i = .int .i64 k ∧ Hid (Below w.heap.size w wr)) (fun i _ => l.length - (intOf i).toNat)
  case atStart => exact ⟨0, Nat.zero_le _, rfl, Lib.hid (Below.refl _ _)⟩
  case round =>
    obtain ⟨k, hk, rfl, HW⟩ := hrel
    by_cases hlt : k < l.length
    · have kI : (k : Int) < (l.length : Int) := by omega
      have k0 : (0 : Int) ≤ (k : Int) := by omega
      rcases row_rc HA.out k hlt with ⟨b, off, rfl, hcell⟩
      rcases row_rc HB.out k hlt with ⟨b', off', rfl, hcell'⟩
      have HC := Lib.hid ((hcell k hlt).later HW.out)
      have HD := Lib.hid ((hcell' k hlt).later HW.out)
      have hne := fun W => neq_same (rcAt l k) W
      clear hcell hcell'
      generalize rcAt l k = r at *
      obtain ⟨K, id, au, aq, is, me, ca, a, cu, d, c, f⟩ := r
      have c0 := HC.out.c0
      have c1 := HC.out.c1
      have c2 := HC.out.c2
      have c3 := HC.out.c3
      have c4 := HC.out.c4
      have c5 := HC.out.c5
      have c6 := HC.out.c6
      have c7 := HC.out.c7
      have c8 := HC.out.c8
      have c9 := HC.out.c9
      have c10 := HC.out.c10
      have c11 := HC.out.c11
      have d0 := HD.out.c0
      have d1 := HD.out.c1
      have d2 := HD.out.c2
      have d3 := HD.out.c3
      have d4 := HD.out.c4
      have d5 := HD.out.c5
      have d6 := HD.out.c6
      have d7 := HD.out.c7
      have d8 := HD.out.c8
      have d9 := HD.out.c9
      have d10 := HD.out.c10
      have d11 := HD.out.c11
      unfold Rec.val Rec.cells at hne
      dsimp only at c0 c1 c2 c3 c4 c5 c6 c7 c8 c9 c10 c11 d0 d1 d2 d3 d4 d5 d6 d7 d8 d9 d10 d11 hne
      go_wp2_with fail
      go_quiet (fail)
      rename Nat => nq
      have HX := Lib.hid (dNb HW.out nq)
      go_wp2_with fail
      go_roundw
      case rel => exact ⟨k + 1, by omega, by go_num, HX⟩
      case measure => simp [intOf]; omega
    · obtain rfl : k = l.length := by omega
      have kI : ¬ (l.length : Int) < (l.length : Int) := by omega
      go_wp2_with fail
      go_ret
      exact ⟨rfl, HW.out⟩
set_option maxRecDepth 100000 in
theorem neq65 (r : Rej) (W : World) : (binOp .neq 65 (.agg #[.int .i64 (r.1 : Int), .string r.2.1, .int .i64 r.2.2]) (.agg #[.int .i64 (r.1 : Int), .string r.2.1, .int .i64 r.2.2])).run Tryz.prog W = .ok (.bool false) W := by
  rw [run_neq_struct]
  rw [run_equalIn_struct _ _ _ _ _ Tryz.underlying65 Tryz.stoodInHeld65]
  go_simp
set_option maxRecDepth 100000 in
set_option maxHeartbeats 6400000 in
theorem srejs_any (A B : Option Addr) (cp cq : Nat) (l : List Rej) (w : World) (hA : IsRow w A (l.flatMap rejF)) (hB : IsRow w B (l.flatMap rejF)) (hm : l.length ≤ maxLen) : Calls Tryz.prog 20 #[.slice A l.length cp, .slice B l.length cq] w (BPost true w) := by
  have HA := Lib.hid hA
  have HB := Lib.hid hB
  unfold BPost
  unfold maxLen at hm
  clear hA hB
  go_enter Tryz.func20, Tryz.ntmps20
  go_wp2_with fail
  go_loopw [5] (fun i wr => ∃ k : Nat, k ≤ l.length ∧ i = .int .i64 k ∧ Hid (Below w.heap.size w wr)) (fun i _ => l.length - (intOf i).toNat)
  case atStart => exact ⟨0, Nat.zero_le _, rfl, Lib.hid (Below.refl _ _)⟩
  case round =>
    obtain ⟨k, hk, rfl, HW⟩ := hrel
    by_cases hlt : k < l.length
    · have kI : (k : Int) < (l.length : Int) := by omega
      have k0 : (0 : Int) ≤ (k : Int) := by omega
      rcases row_rej HA.out k hlt with ⟨b, off, rfl, hcell⟩
      rcases row_rej HB.out k hlt with ⟨b', off', rfl, hcell'⟩
      obtain ⟨p0, p1, p2⟩ := hcell k hlt
      obtain ⟨q0, q1, q2⟩ := hcell' k hlt
      have c0 := cell_later HW.out p0
      have c1 := cell_later HW.out p1
      have c2 := cell_later HW.out p2
      have d0 := cell_later HW.out q0
      have d1 := cell_later HW.out q1
      have d2 := cell_later HW.out q2
      have hne := fun W => neq65 (rejAt l k) W
      clear hcell hcell'
      clear p0 p1 p2 q0 q1 q2
      generalize rejAt l k = r at *
      obtain ⟨x, y, z⟩ := r
      dsimp only at c0 c1 c2 d0 d1 d2 hne
      go_wp2_with fail
      go_quiet (fail)
      rename Nat => nq
      have HX := Lib.hid (dNb HW.out nq)
      go_wp2_with fail
      go_roundw
      case rel => exact ⟨k + 1, by omega, by go_num, HX⟩
      case measure => simp [intOf]; omega
    · obtain rfl : k = l.length := by omega
      have kI : ¬ (l.length : Int) < (l.length : Int) := by omega
      go_wp2_with fail
      go_ret
      exact ⟨rfl, HW.out⟩
set_option maxRecDepth 100000 in
set_option maxHeartbeats 6400000 in
theorem sstrs_any (A B : Option Addr) (cp cq : Nat) (l : List ByteArray) (w : World) (hA : IsRow w A (l.map Value.string)) (hB : IsRow w B (l.map Value.string)) (hm : l.length ≤ maxLen) : Calls Tryz.prog 21 #[.slice A l.length cp, .slice B l.length cq] w (BPost true w) := by
  have HA := Lib.hid hA
  have HB := Lib.hid hB
  unfold BPost
  unfold maxLen at hm
  clear hA hB
  go_enter Tryz.func21, Tryz.ntmps21
  go_wp2_with fail
  go_loopw [5] (fun i wr => ∃ k : Nat, k ≤ l.length ∧ i = .int .i64 k ∧ Hid (Below w.heap.size w wr)) (fun i _ => l.length - (intOf i).toNat)
  case atStart => exact ⟨0, Nat.zero_le _, rfl, Lib.hid (Below.refl _ _)⟩
  case round =>
    obtain ⟨k, hk, rfl, HW⟩ := hrel
    by_cases hlt : k < l.length
    · have kI : (k : Int) < (l.length : Int) := by omega
      have k0 : (0 : Int) ≤ (k : Int) := by omega
      rcases row_st HA.out k hlt with ⟨b, off, rfl, hcell⟩
      rcases row_st HB.out k hlt with ⟨b', off', rfl, hcell'⟩
      have c0 := cell_later HW.out (hcell k hlt)
      have d0 := cell_later HW.out (hcell' k hlt)
      have q9 := (str_eq (rfl : stA l k = stA l k)).1
      clear hcell hcell'
      generalize stA l k = p at *
      go_wp2_with fail
      go_quiet (fail)
      rename Nat => nq
      have HX := Lib.hid (dNb HW.out nq)
      go_wp2_with fail
      go_roundw
      case rel => exact ⟨k + 1, by omega, by go_num, HX⟩
      case measure => simp [intOf]; omega
    · obtain rfl : k = l.length := by omega
      have kI : ¬ (l.length : Int) < (l.length : Int) := by omega
      go_wp2_with fail
      go_ret
      exact ⟨rfl, HW.out⟩
end Go.Proofs.YthflmdgfenojcaaGreatDoor
namespace Go.Proofs.YthflmdgfenojcaaGreatDoor
set_option linter.unusedVariables false
open Go.RowKit Go.Sort
/-- The counts: of the first k senders behind a file, of the others ahead of it. -/
def cntM (sds : List ByteArray) (g0 g1 : List (ByteArray × Rec)) (k : Nat) : Array Value := ((List.range sds.length).map fun j => Value.int .i64 ((recsOf (if j < k then g1 else g0) (stA sds j)).length : Int)).toArray
theorem cntM_size (sds : List ByteArray) (g0 g1 : List (ByteArray × Rec)) (k : Nat) : (cntM sds g0 g1 k).size = sds.length := by unfold cntM; simp
theorem cntM_at (sds : List ByteArray) (g0 g1 : List (ByteArray × Rec)) (k j : Nat) (hj : j < sds.length) : (cntM sds g0 g1 k)[j]? = some (.int .i64 ((recsOf (if j < k then g1 else g0) (stA sds j)).length : Int)) := by
  unfold cntM
  rw [List.getElem?_toArray, List.getElem?_map, List.getElem?_range hj]; rfl
theorem cntM_ext {sds : List ByteArray} {C : Array Value} {g0 g1 : List (ByteArray × Rec)} {k : Nat} (hn : C.size = sds.length) (h : ∀ j, j < sds.length → C[j]? = some (.int .i64 ((recsOf (if j < k then g1 else g0) (stA sds j)).length : Int))) : C = cntM sds g0 g1 k := by
  apply Array.ext (by rw [hn, cntM_size])
  intro j h1 h2
  have q1 := h j (by rw [← hn]; exact h1)
  have q2 := cntM_at sds g0 g1 k j (by rw [← hn]; exact h1)
  rw [Array.getElem?_eq_getElem h1] at q1
  rw [Array.getElem?_eq_getElem h2] at q2
  injection q1 with q1
  injection q2 with q2
  rw [q1, q2]
theorem cntM_all (sds : List ByteArray) (g0 g1 : List (ByteArray × Rec)) : cntM sds g0 g1 sds.length = cntM sds g1 g1 0 :=
  cntM_ext (cntM_size _ _ _ _) (fun j hj => by rw [cntM_at _ _ _ _ _ hj, if_pos hj, if_neg (Nat.not_lt_zero _)])
theorem cntM_zero (sds : List ByteArray) (g0 g1 : List (ByteArray × Rec)) : cntM sds g0 g1 0 = cntM sds g0 g0 0 :=
  cntM_ext (cntM_size _ _ _ _) (fun j hj => by rw [cntM_at _ _ _ _ _ hj, if_neg (Nat.not_lt_zero _), if_neg (Nat.not_lt_zero _)])
theorem cntM_set (sds : List ByteArray) (g0 g1 : List (ByteArray × Rec)) (k : Nat) (hk : k < sds.length) : (cntM sds g0 g1 k).setIfInBounds k (.int .i64 ((recsOf g1 (stA sds k)).length : Int)) = cntM sds g0 g1 (k + 1) :=
  cntM_ext (by rw [Array.size_setIfInBounds, cntM_size]) (fun j hj => by
    by_cases h : j = k
    · subst h
      rw [Array.getElem?_setIfInBounds_self_of_lt (by rw [cntM_size]; exact hk), if_pos (Nat.lt_succ_self _)]
    · rw [Array.getElem?_setIfInBounds_ne (fun e => h e.symm), cntM_at _ _ _ _ _ hj]
      by_cases h2 : j < k
      · rw [if_pos h2, if_pos (by omega)]
      · rw [if_neg h2, if_neg (by omega)])
theorem cntM_keep (sds : List ByteArray) (g0 g1 : List (ByteArray × Rec)) (k : Nat) (he : (recsOf g1 (stA sds k)).length = (recsOf g0 (stA sds k)).length) : cntM sds g0 g1 k = cntM sds g0 g1 (k + 1) :=
  cntM_ext (cntM_size _ _ _ _) (fun j hj => by
    rw [cntM_at _ _ _ _ _ hj]
    by_cases h : j = k
    · subst h
      rw [if_neg (Nat.lt_irrefl _), if_pos (Nat.lt_succ_self _), he]
    · by_cases h2 : j < k
      · rw [if_pos h2, if_pos (by omega)]
      · rw [if_neg h2, if_neg (by omega)])
theorem recs_more (g : List (ByteArray × Rec)) (sd d : ByteArray) (G : List Rec) : (recsOf (g ++ G.map fun r => (sd, r)) d).length = (recsOf g d).length + (if d = sd then G.length else 0) := by
  rw [recsOf_app, List.length_append]
  split <;> rfl
theorem make_cnt (n : Nat) (hn : n ≤ 1000) (w : World) :
    (Instr.makeSlice 53 (.int .i64 (n : Int)) (.int .i64 (n : Int))).run Tryz.prog w = .ok (.slice (some ⟨w.heap.size, 0, none⟩) n n) (w.alloc (.cells (madeCells #[.int .i64 0] (n * 1)) 3)) := by
  have mk3 : (Tryz.prog.info? 3).map (fun i => (i.zero, i.size, i.bytes)) = some (some (.int .i64 0), 1, 8) := by kernel_rfl
  obtain ⟨i0, hi0, hz0, hz1, hz2⟩ := info_parts mk3
  have := run_make w 53 3 i0 _ Tryz.underlying53 hi0 hz0 .i64 .i64 (n : Int) (n : Int) (by omega) (by omega) (by rw [hz2]; omega) (by omega)
  rw [this, hz1]
  rfl
theorem made_cnt (sds : List ByteArray) : madeCells #[Value.int .i64 0] (sds.length * 1) = cntM sds [] [] 0 :=
  cntM_ext (by rw [size_madeCells]; omega) (fun j hj => by
    unfold madeCells
    rw [Array.getElem?_map, Array.getElem?_range, if_pos (by omega), Option.map_some]
    have e : j % (#[Value.int .i64 0] : Array Value).size = 0 := Nat.mod_one j
    rw [e, if_neg (Nat.not_lt_zero _)]; rfl)
structure OnS (w : World) (sds : List ByteArray) (st : InS) (N bx : Nat) (F : Nat → Prop) (b : InB) (v7 : Value) (al : List (ByteArray × ByteArray)) (B8 : Nat) (C : Array Value) (W : World) : Prop where
  i : InW w st st.good N F b W
  hx : b.x = bx
  hs : st.sds = sds
  o7 : W.ownsRow w.heap.size 59 2 v7 al.length (al.flatMap fileF)
  n7 : ∀ g, v7.ownBlock = some g → ¬ F g
  c8 : W.heap[B8]? = some (.cells C 3)
  n8 : ¬ F B8
  l8 : w.heap.size ≤ B8
section
variable {w : World} {sds : List ByteArray} {st st' : InS} {N M bx : Nat} {F F' : Nat → Prop} {b b' : InB} {v7 u : Value} {al : List (ByteArray × ByteArray)} {B8 : Nat} {C : Array Value} {W W' : World}
theorem OnS.below (h : OnS w sds st N bx F b v7 al B8 C W) (hb : Below W.heap.size W W') : OnS w sds st N bx F b v7 al B8 C W' :=
  ⟨h.i.below hb, h.hx, h.hs, own_later h.o7 hb, h.n7, blk_later h.c8 hb, h.n8, h.l8⟩
theorem OnS.acc (h : OnS w sds st N bx F b v7 al B8 C W) (hi : InW w st' st'.good M F' b' W') (hx : b'.x = bx) (hs : st'.sds = st.sds) (hk : KeptE F W W') (hf : ∀ k, F' k → F k ∨ W.heap.size ≤ k) : OnS w sds st' M bx F' b' v7 al B8 C W' := by
  have hno : ∀ k, k < W.heap.size → ¬ F k → ¬ F' k := fun k h1 h2 h3 => by rcases hf k h3 with q | q; exact h2 q; omega
  exact ⟨hi, hx, hs.trans h.hs, hk.own h.o7 h.n7, fun g hg => hno g (own_lt h.o7 hg).2 (h.n7 g hg), hk.heap h.c8 h.n8, hno _ (Array.getElem?_eq_some_iff.1 h.c8).1 h.n8, h.l8⟩
theorem OnS.mono (h : OnS w sds st N bx F b v7 al B8 C W) (hM : N ≤ M) : OnS w sds st M bx F b v7 al B8 C W := { h with i := h.i.mono hM }
theorem OnS.ne8 (h : OnS w sds st N bx F b v7 al B8 C W) : v7.ownBlock ≠ some B8 := fun e => by
  obtain ⟨cur, hc⟩ := own_obj h.o7 e
  rw [h.c8] at hc
  injection hc with hc
  injection hc with _ hc
  exact absurd hc (by decide)
theorem OnS.app (h : OnS w sds st N bx F b v7 al B8 C W) (p : ByteArray × ByteArray) (ho : W'.ownsRow w.heap.size 59 2 u (al.length + 1) (al.flatMap fileF ++ fileF p)) (hg : W.grownBy W' v7.ownBlock) (hw : u.ownBlock = v7.ownBlock ∨ u.ownBlock = some W.heap.size) :
    OnS w sds st N bx F b u (al ++ [p]) B8 C W' := by
  have hbe : Below w.heap.size w W' := h.i.be.grown hg h.i.be.size (fun j hj => (h.o7.lt j hj).1)
  refine ⟨h.i.same hbe hg.size (fun k hk => hg.block k (h.i.fp k hk).2 (fun e => h.n7 k e.symm hk)), h.hx, h.hs, ?_, fun g hg' => ?_, grown_lt (B := 0) hg h.c8 (fun e => h.ne8 e.symm), h.n8, h.l8⟩
  · rw [List.length_append, List.flatMap_append]; simpa using ho
  · rcases hw with q | q
    · exact h.n7 g (by rw [← q]; exact hg')
    · rw [q] at hg'
      injection hg' with hg'
      intro hf
      have := (h.i.fp g hf).2
      omega
theorem OnS.count (h : OnS w sds st N bx F b v7 al B8 C W) (k : Nat) (x : Value) : OnS w sds st N bx F b v7 al B8 (C.setIfInBounds k x) (W.setCell ⟨B8, k, none⟩ x) := by
  have hset : W.grownBy (W.setCell ⟨B8, k, none⟩ x) (some B8) := ⟨rfl, rfl, rfl, by simp [World.setCell], fun j _ hj => Below.heap_setCell _ _ _ _ (fun e => hj (by rw [e]))⟩
  have hbe : Below w.heap.size w (W.setCell ⟨B8, k, none⟩ x) := h.i.be.setCell (p := ⟨B8, k, none⟩) h.l8 _
  exact ⟨h.i.same hbe hset.size (fun j hj => hset.block j (h.i.fp j hj).2 (fun e => h.n8 (by injection e with e; rw [← e]; exact hj))), h.hx, h.hs, h.o7.kept hset (.inr h.ne8), h.n7, heap_set1 h.c8 k x, h.n8, h.l8⟩
end
/-- The state with what Accept has answered. -/
structure OnA (w : World) (sds : List ByteArray) (st : InS) (N bx : Nat) (F : Nat → Prop) (b : InB) (v7 : Value) (al : List (ByteArray × ByteArray)) (B8 : Nat) (C : Array Value) (A8 : Option Addr) (c8 : Nat) (G : List Rec) (A9 : Option Addr) (c9 : Nat) (Bl : List Rej) (W : World) : Prop where
  s : OnS w sds st N bx F b v7 al B8 C W
  o8 : W.ownsRow w.heap.size 57 12 (.slice A8 G.length c8) G.length (G.flatMap recF)
  o9 : W.ownsRow w.heap.size 65 3 (.slice A9 Bl.length c9) Bl.length (Bl.flatMap rejF)
  n8 : ∀ g, (Value.slice A8 G.length c8).ownBlock = some g → ¬ F g
  n9 : ∀ g, (Value.slice A9 Bl.length c9).ownBlock = some g → ¬ F g
section
variable {w : World} {sds : List ByteArray} {st st' : InS} {N M bx : Nat} {F F' : Nat → Prop} {b b' : InB} {v7 u : Value} {al : List (ByteArray × ByteArray)} {B8 c8 c9 : Nat} {A8 A9 : Option Addr} {G : List Rec} {Bl : List Rej} {C : Array Value} {W W' : World}
theorem OnA.below (h : OnA w sds st N bx F b v7 al B8 C A8 c8 G A9 c9 Bl W) (hb : Below W.heap.size W W') : OnA w sds st N bx F b v7 al B8 C A8 c8 G A9 c9 Bl W' :=
  ⟨h.s.below hb, own_later h.o8 hb, own_later h.o9 hb, h.n8, h.n9⟩
theorem OnA.acc (h : OnA w sds st N bx F b v7 al B8 C A8 c8 G A9 c9 Bl W) (hi : InW w st' st'.good M F' b' W') (hx : b'.x = bx) (hs : st'.sds = st.sds) (hk : KeptE F W W') (hf : ∀ k, F' k → F k ∨ W.heap.size ≤ k) : OnA w sds st' M bx F' b' v7 al B8 C A8 c8 G A9 c9 Bl W' := by
  have hno : ∀ k, k < W.heap.size → ¬ F k → ¬ F' k := fun k h1 h2 h3 => by rcases hf k h3 with q | q; exact h2 q; omega
  exact ⟨h.s.acc hi hx hs hk hf, hk.own h.o8 h.n8, hk.own h.o9 h.n9, fun g hg => hno g (own_lt h.o8 hg).2 (h.n8 g hg), fun g hg => hno g (own_lt h.o9 hg).2 (h.n9 g hg)⟩
theorem OnA.app (h : OnA w sds st N bx F b v7 al B8 C A8 c8 G A9 c9 Bl W) (p : ByteArray × ByteArray) (ho : W'.ownsRow w.heap.size 59 2 u (al.length + 1) (al.flatMap fileF ++ fileF p)) (hg : W.grownBy W' v7.ownBlock) (hw : u.ownBlock = v7.ownBlock ∨ u.ownBlock = some W.heap.size) :
    OnA w sds st N bx F b u (al ++ [p]) B8 C A8 c8 G A9 c9 Bl W' :=
  ⟨h.s.app p ho hg hw, h.o8.kept hg (own_ne h.s.o7 h.o8 (by decide)), h.o9.kept hg (own_ne h.s.o7 h.o9 (by decide)), h.n8, h.n9⟩
theorem own_ne3 {B e size n g : Nat} {v : Value} {xs : List Value} {C : Array Value} (ho : W.ownsRow B e size v n xs) (hc : W.heap[g]? = some (.cells C 3)) (he : e ≠ 3) : v.ownBlock ≠ some g := fun q => by
  obtain ⟨cur, hq⟩ := own_obj ho q
  rw [hc] at hq
  injection hq with hq
  injection hq with _ hq
  exact he hq.symm
theorem own_neT {B e T size n g : Nat} {v : Value} {xs : List Value} {C : Array Value} (ho : W.ownsRow B e size v n xs) (hc : W.heap[g]? = some (.cells C T)) (he : e ≠ T) : some g ≠ v.ownBlock := fun q => by
  obtain ⟨cur, hq⟩ := own_obj ho q.symm
  rw [hc] at hq
  injection hq with hq
  injection hq with _ hq
  exact he hq.symm
theorem OnA.count (h : OnA w sds st N bx F b v7 al B8 C A8 c8 G A9 c9 Bl W) (k : Nat) (x : Value) : OnA w sds st N bx F b v7 al B8 (C.setIfInBounds k x) A8 c8 G A9 c9 Bl (W.setCell ⟨B8, k, none⟩ x) := by
  have hset : W.grownBy (W.setCell ⟨B8, k, none⟩ x) (some B8) := ⟨rfl, rfl, rfl, by simp [World.setCell], fun j _ hj => Below.heap_setCell _ _ _ _ (fun e => hj (by rw [e]))⟩
  exact ⟨h.s.count k x, h.o8.kept hset (.inr (own_ne3 h.o8 h.s.c8 (by decide))), h.o9.kept hset (.inr (own_ne3 h.o9 h.s.c8 (by decide))), h.n8, h.n9⟩
end
theorem trK_szb (sd : ByteArray) (rs : List Rec) (bad : List Rej) (t0 : TreS) (M : Nat) (hb : ∀ x ∈ bad, x.2.1.size ≤ M) (h0 : ∀ x ∈ t0.bad, x.2.2.1.size ≤ M) : ∀ i, ∀ x ∈ (trK sd rs bad t0 i).t.bad, x.2.2.1.size ≤ M
  | 0 => h0
  | i + 1 => by
    have ih := trK_szb sd rs bad t0 M hb h0 i
    rw [trK_succ]
    generalize trK sd rs bad t0 i = s at *
    unfold trStep
    split
    · rename_i q
      intro y hy
      have hy : y ∈ keepB s.t.good sd (rejAt bad s.r) s.t.bad := hy
      unfold keepB at hy
      split at hy
      · exact ih y hy
      · rcases mem_put _ hy with hy | rfl
        · exact ih y hy
        · exact hb _ (by rw [rejAt_get bad s.r q.1]; exact List.getElem_mem q.1)
    · intro y hy
      have hy : y ∈ (trGood sd i (rcAt rs s.k) s.t).bad := hy
      unfold trGood at hy
      split at hy
      · exact ih y hy
      · have hy : y ∈ delB sd (rcAt rs s.k).id s.t.bad := hy
        unfold delB at hy
        exact ih y (List.mem_filter.1 hy).1
theorem acc_szb {st : InS} {d : Int} {s : ByteArray} (hf : fileE s = 0) (hs : s.size ≤ 1000000) (h0 : accE st d s = 0) (h : ∀ x ∈ st.bad, x.2.2.1.size ≤ 1000000) : ∀ x ∈ (accS st d s).bad, x.2.2.1.size ≤ 1000000 := by
  have eS : accS st d s = ⟨st.sds, st.fs ++ [((fileV s).sd, (fileV s).id)], (accT st s).good, (accT st s).bad⟩ := by unfold accS; rw [if_pos h0]
  rw [eS]
  exact trK_szb (fileV s).sd (fileV s).rs (fileB s) ⟨st.good, st.bad, [], []⟩ 1000000 (fun x hx => Nat.le_trans ((file_ok hf).b x hx) hs) h _
theorem open_in {bad : List (ByteArray × Rej)} {sd : ByteArray} {r : Rej} (h : r ∈ openOf bad sd) : (sd, r) ∈ bad := by
  unfold openOf at h
  obtain ⟨x, hx, rfl⟩ := List.mem_map.1 h
  obtain ⟨h1, h2⟩ := List.mem_filter.1 hx
  have h2 : x.1 = sd := by simpa using h2
  rw [← h2]; exact h1
theorem open_len (bad : List (ByteArray × Rej)) (sd : ByteArray) : (openOf bad sd).length ≤ bad.length := by
  unfold openOf
  rw [List.length_map]
  exact List.length_filter_le _ _
/-- What the walk carries from file to file. -/
structure OnC (sds : List ByteArray) (st : InS) (i : Nat) : Prop where
  ok : InOk st
  ob : st.bad.length ≤ 800 * i
  fs : st.fs.length ≤ i
  gl : st.good.length ≤ 200 * i
  sb : ∀ x ∈ st.bad, x.2.2.1.size ≤ 1000000
theorem OnC.next {sds : List ByteArray} {st : InS} {i : Nat} (h : OnC sds st i) {d : Int} {s : ByteArray} (hL : AccLaw st d s) (hn : (fileV s).rs.length + (fileB s).length ≤ 200) (ho : (accS st d s).bad.length ≤ 800 * i + 400) (hsb : ∀ x ∈ (accS st d s).bad, x.2.2.1.size ≤ 1000000) : OnC sds (accS st d s) (i + 1) :=
  ⟨hL.ok, by omega, by have := hL.fs; have := h.fs; omega, by
    rw [hL.gd, List.length_append, List.length_map]
    have := hL.n; have := h.gl; omega, hsb⟩
theorem OnC.same {sds : List ByteArray} {st : InS} {i : Nat} (h : OnC sds st i) : OnC sds st (i + 1) :=
  ⟨h.ok, by have := h.ob; omega, by have := h.fs; omega, by have := h.gl; omega, h.sb⟩
theorem prs_map (sd : ByteArray) (G : List Rec) : prs (G.map fun r => (sd, r)) = G.map fun r => (sd, r.id) := by
  unfold prs
  rw [List.map_map]; rfl
theorem take_more (sd : ByteArray) (G : List Rec) (k : Nat) (hk : k < G.length) : (G.take (k + 1)).map (fun r => (sd, r.id)) = (G.take k).map (fun r => (sd, r.id)) ++ [(sd, (rcAt G k).id)] := by
  rw [List.take_succ_eq_append_getElem hk, List.map_append, rcAt_get G k hk]; rfl
theorem al_new {g : List (ByteArray × Rec)} {sd : ByteArray} {G : List Rec} (h : (prs (g ++ G.map fun r => (sd, r))).Nodup) {k : Nat} (hk : k < G.length) : ¬ (sd, (rcAt G k).id) ∈ prs g ++ (G.take k).map (fun r => (sd, r.id)) := by
  intro hm
  have e : G = G.take k ++ (G[k] :: G.drop (k + 1)) := by rw [← List.drop_eq_getElem_cons hk, List.take_append_drop]
  rw [prs_app, prs_map, e, List.map_append, List.map_cons, ← List.append_assoc] at h
  rw [rcAt_get G k hk] at hm
  exact (List.nodup_append.1 h).2.2 _ hm _ List.mem_cons_self rfl
theorem fAt_mem {l : List (ByteArray × ByteArray)} {m : Nat} (h : m < l.length) : fAt l m ∈ l := by rw [fAt_get l m h]; exact List.getElem_mem h
theorem acc_sz {st : InS} {d : Int} {s : ByteArray} (hf : fileE s = 0) (hs : s.size ≤ 1000000) (h0 : accE st d s = 0) : ∀ r ∈ accG st d s, r.id.size ≤ maxLen ∧ (fileV s).sd.size ≤ maxLen := by
  intro r hr
  have eG : accG st d s = (accT st s).acc := by unfold accG; rw [if_pos h0]
  rw [eG] at hr
  have h1 := trS_in (fileV s).sd (fileV s).rs (fileB s) ⟨st.good, st.bad, [], []⟩ (file_laced s) (fun r h => by cases h) _ (Nat.le_refl _) r hr
  have h2 := (file_ok hf).r r h1
  have h3 := (szR_fit' (show szR r ≤ 100000000 by omega)).1
  have h4 := (file_ok hf).sz
  exact ⟨h3, by unfold maxLen; omega⟩
theorem mk59 : (Tryz.prog.info? 59).map (fun i => (i.zero, i.size, i.bytes)) = some (some (.agg #[.string ⟨#[]⟩, .string ⟨#[]⟩]), 2, 32) := by kernel_rfl
theorem reads_new (w : World) (x y : Value) : Reads (w.alloc (.cells #[x, y] 59)) (w.alloc (.cells #[x, y] 59)).heap.size 2 (some ⟨w.heap.size, 0, none⟩) 1 [x, y] :=
  ⟨rfl, fun _ => ⟨_, rfl, by rw [World.size_alloc]; exact Nat.lt_succ_self _, fun j u hj => by
    have e : ({ block := w.heap.size, off := 0, spot := none } : Addr).add j = ⟨w.heap.size, 0 + j, none⟩ := by unfold Addr.add; split <;> simp_all
    rw [e, cell_c (heap_alloc_new w _), Nat.zero_add]
    simpa using hj⟩⟩
/-- Accept as the walk meets it. -/
def AccOn (w : World) (st : InS) (d : Int) (s : ByteArray) (M bx : Nat) (F : Nat → Prop) (W : World) (e : Ending) (W' : World) : Prop :=
  ∃ A8 c8 A9 c9 F' b', e = .returned (.tuple #[.slice A8 (accG st d s).length c8, .slice A9 (accB st d s).length c9, .int .i64 (accE st d s)]) ∧ InW w (accS st d s) (accS st d s).good M F' b' W' ∧ (accS st d s).bad.length ≤ M ∧ b'.x = bx ∧ (∀ k, F' k → F k ∨ W.heap.size ≤ k) ∧ (∀ k, F k → F' k) ∧ KeptE F W W' ∧
    W'.ownsRow W.heap.size 57 12 (.slice A8 (accG st d s).length c8) (accG st d s).length ((accG st d s).flatMap recF) ∧ W'.ownsRow W.heap.size 65 3 (.slice A9 (accB st d s).length c9) (accB st d s).length ((accB st d s).flatMap rejF) ∧
    (∀ g, (Value.slice A8 (accG st d s).length c8).ownBlock = some g → ¬ F' g) ∧ (∀ g, (Value.slice A9 (accB st d s).length c9).ownBlock = some g → ¬ F' g)
theorem acc_on {w : World} {st : InS} {N bx : Nat} {F : Nat → Prop} {b : InB} {W : World} (h : InW w st st.good N F b W) (hx : b.x = bx) (hw0 : BW w) (hob : st.bad.length ≤ N) (d : Int) (s : ByteArray) (hs : s.size ≤ 1000000) (hN : N < 700000) (hfl : st.fs.length ≤ 64) (hgl : st.good.length ≤ 100000) :
    Calls Tryz.prog 17 #[.pointer (some ⟨bx, 0, none⟩), .int .i64 d, .string s] W (AccOn w st d s (N + 400) bx F W) := by
  have hc := accept_any h (hw0.below h.be) hob d s hs hN hfl hgl
  rw [hx] at hc
  refine hc.mono ?_
  rintro e W' ⟨v8, v9, F', b', rfl, q1, q2, q3, q4, q5, q6, q7, q8, q9, q10⟩
  obtain ⟨A8, c8, rfl, -, -⟩ := own_form q7
  obtain ⟨A9, c9, rfl, -, -⟩ := own_form q8
  exact ⟨A8, c8, A9, c9, F', b', rfl, q1, q2, q3.trans hx, q4, q5, q6, q7, q8, q9, q10⟩
end Go.Proofs.YthflmdgfenojcaaGreatDoor
