/- Part of the proof over this seat. -/
import Derived.DeepKeys4
import Derived.Maps.Own
import Derived.Maps.OwnSet
import Derived.Maps.Views
import Derived.Outline
import Derived.Laws.IdiomCopy
import Derived.Deep.RegionLaw
import Derived.Deep.RegionWith
import Derived.Test.YthflmdgfenojcaaGreatDoorQBase
import Derived.Test.YthflmdgfenojcaaGreatDoorQBd
import Derived.Test.YthflmdgfenojcaaGreatDoorQPr
import Derived.Test.YthflmdgfenojcaaGreatDoorQDcd
import Derived.Test.YthflmdgfenojcaaGreatDoorQRds
import Derived.Test.YthflmdgfenojcaaGreatDoorQFew
import Derived.Test.YthflmdgfenojcaaGreatDoorQDcw
import Derived.Test.YthflmdgfenojcaaGreatDoorQLTo
import Derived.Test.YthflmdgfenojcaaGreatDoorQLCd
namespace Go.Proofs.YthflmdgfenojcaaGreatDoor
set_option linter.unusedVariables false
open Go.RowKit Go.Maps Go.WideMaps
theorem laidK : laidOutB Tryz.prog = true := by kernel_rfl
theorem law103 : Keyed Tryz.prog 103 := Keyed.of_law (deep_law_laid laidK (m := 3) (by omega) (of_decide_eq_true (by kernel_rfl)) (by kernel_rfl) (by kernel_rfl))
def keyV (sd id : ByteArray) : Value := .agg #[.string sd, .string id]
def kkey (sd id : ByteArray) : Lit := .string (keyBytes [.string sd.data.toList, .string id.data.toList])
theorem keyT103 : Tryz.prog.keyType 103 = true := by kernel_rfl
theorem cells103 : Tryz.prog.cellsOf 103 = 2 := by kernel_rfl
theorem cells9K : Tryz.prog.cellsOf 9 = 1 := by kernel_rfl
theorem tsz : ∃ n, Tryz.prog.types.size = n + 1 := ⟨Tryz.prog.types.size - 1, by
  have : 0 < Tryz.prog.types.size := of_decide_eq_true (by kernel_rfl)
  omega⟩
theorem kkey_of {sd id : ByteArray} (h1 : sd.size ≤ maxLen) (h2 : id.size ≤ maxLen) : keyOf Tryz.prog 103 (keyV sd id) = some (kkey sd id) := by
  obtain ⟨n, hn⟩ := tsz
  unfold keyOf keyV kkey
  rw [Tryz.underlying103]
  simp only [keyT103, Value.formed, Tryz.underlying103, cells103, hn]
  have hs : ∀ s : ByteArray, s.size ≤ maxLen → Tryz.prog.keyLits (n + 1) 9 [.string s] = some [.string s.data.toList] := fun s hs => by
    unfold Program.keyLits; rw [Tryz.underlying9]; simp [hs]
  unfold Program.keyLits
  rw [Tryz.underlying103]
  have hc : (Value.agg #[Value.string sd, Value.string id]).cells = #[Value.string sd, Value.string id] := rfl
  rw [hc]
  simp [cells103, cells9K, hs _ h1, hs _ h2]
theorem kkey_inj {a b c d : ByteArray} (h1 : a.size ≤ maxLen) (h2 : b.size ≤ maxLen) (h3 : c.size ≤ maxLen) (h4 : d.size ≤ maxLen) (h : kkey a b = kkey c d) : a = c ∧ b = d := by
  have hk : WideMaps.KeyLaw Tryz.prog 103 := deep_law_laid laidK (m := 3) (by omega) (of_decide_eq_true (by kernel_rfl)) (by kernel_rfl) (by kernel_rfl)
  have e := hk.inj (kkey_of h1 h2) (by rw [h]; exact kkey_of h3 h4)
  unfold keyV at e
  injection e with e
  have e : [Value.string a, Value.string b] = [Value.string c, Value.string d] := congrArg Array.toList e
  injection e with e1 e
  injection e with e2 _
  injection e1 with e1
  injection e2 with e2
  exact ⟨e1, e2⟩
end Go.Proofs.YthflmdgfenojcaaGreatDoor
namespace Go.Proofs.YthflmdgfenojcaaGreatDoor
set_option linter.unusedVariables false
open Go.RowKit Go.Maps
def RV (v : Value) : Option (DataW Value × List MemPlace) := some (.held v, [])
/-- Block b is a map of sz entries: m. -/
def VMap (w : World) (k : TypeId) (b : Nat) (m : Lit → Option Value) (sz : Nat) : Prop :=
  ∃ D : DataW Value, w.ownsMap Tryz.prog k RV b sz D ∧ Maps.size D = sz ∧ ∀ t : Lit, Maps.has D t = (m t).isSome ∧ ∀ v, m t = some v → ∀ zd, D.atKey t zd = .held v
section
variable {w w' : World} {k b : Nat} {m : Lit → Option Value} {sz : Nat}
theorem VMap.made (w : World) (k : TypeId) : VMap (w.alloc (.map #[] 0)) k w.heap.size (fun _ => none) 0 :=
  ⟨.map [], World.ownsMap_made _ _ _ _, rfl, fun t => ⟨rfl, fun h hh => by cases hh⟩⟩
theorem VMap.lt (h : VMap w k b m sz) : b < w.heap.size := by
  obtain ⟨D, h1, _⟩ := h
  exact h1.lt
/-- The map lies in its block alone. -/
theorem VMap.same (h : VMap w k b m sz) (he : w'.heap[b]? = w.heap[b]?) : VMap w' k b m sz := by
  obtain ⟨D, ⟨es, clock, hb, F, hs, hD⟩, h2⟩ := h
  exact ⟨D, ⟨es, clock, he.trans hb, F, hs, hD⟩, h2⟩
set_option maxRecDepth 100000 in
theorem VMap.look_ok (h : VMap w k b m sz) (K : Keyed Tryz.prog k) {t e : TypeId} (ht : Tryz.prog.underlying t = some (.map k e)) {z : Value} (hz : (zeroValue e).run Tryz.prog w = .ok z w) {key : Value} {kl : Lit} (hk : keyOf Tryz.prog k key = some kl) :
    (Instr.lookup t (.map (some b)) key true).run Tryz.prog w = .ok (.tuple #[(m kl).getD z, .bool (m kl).isSome]) w := by
  obtain ⟨D, h1, h2, h3⟩ := h
  obtain ⟨v, ps, hrun, hv⟩ := h1.look_ok K ht hz (zd := .held z) (zp := []) rfl hk
  obtain ⟨k1, k2⟩ := h3 kl
  rw [hrun, k1]
  unfold RV at hv
  injection hv with hv
  injection hv with hv _
  cases hm : m kl with
  | none =>
    rw [hm] at k1
    rw [Maps.atKey_of_not_has k1] at hv
    injection hv with hv
    rw [hv]; rfl
  | some x =>
    rw [k2 x hm] at hv
    injection hv with hv
    rw [hv]; rfl
set_option maxRecDepth 100000 in
theorem VMap.look (h : VMap w k b m sz) (K : Keyed Tryz.prog k) {t e : TypeId} (ht : Tryz.prog.underlying t = some (.map k e)) {z : Value} (hz : (zeroValue e).run Tryz.prog w = .ok z w) {key : Value} {kl : Lit} (hk : keyOf Tryz.prog k key = some kl) :
    (Instr.lookup t (.map (some b)) key false).run Tryz.prog w = .ok ((m kl).getD z) w := by
  obtain ⟨D, h1, h2, h3⟩ := h
  obtain ⟨v, ps, hrun, hv⟩ := h1.lookup K ht hz (zd := .held z) (zp := []) rfl hk
  obtain ⟨k1, k2⟩ := h3 kl
  rw [hrun]
  unfold RV at hv
  injection hv with hv
  injection hv with hv _
  cases hm : m kl with
  | none =>
    rw [hm] at k1
    rw [Maps.atKey_of_not_has k1] at hv
    injection hv with hv
    rw [hv]; rfl
  | some x =>
    rw [k2 x hm] at hv
    injection hv with hv
    rw [hv]; rfl
set_option maxRecDepth 100000 in
theorem VMap.store (h : VMap w k b m sz) (K : Keyed Tryz.prog k) {t e : TypeId} (ht : Tryz.prog.underlying t = some (.map k e)) (hsz : sz < 1000000) {key : Value} {kl : Lit} (hk : keyOf Tryz.prog k key = some kl) (hlit : WideAt.IsKeyLit kl) (v : Value) :
    ∃ w' m', (Instr.mapUpdate t (.map (some b)) key v).run Tryz.prog w = .ok () w' ∧ VMap w' k b m' (if (m kl).isSome then sz else sz + 1) ∧ w.grownBy w' (some b) ∧ m' kl = some v ∧ ∀ y, y ≠ kl → m' y = m y := by
  classical
  obtain ⟨D, h1, h2, h3⟩ := h
  have htidy := h1.tidy K
  obtain ⟨w', hrun, hown, hg⟩ := h1.update K ht (by unfold maxLen; omega) hk (d := .held v) (ps := []) rfl
  refine ⟨w', fun x => if x = kl then some v else m x, hrun, ⟨D.put kl (.held v), ?_, ?_, fun y => ?_⟩, hg, by simp, fun y hy => by simp [hy]⟩
  · obtain ⟨es, clock, hb, F, hs, hD⟩ := hown
    refine ⟨es, clock, hb, F, ?_, hD⟩
    have e1 : Maps.size (D.put kl (.held v)) = es.size := by
      rw [hD]; simp [Maps.size, length_sorted]
    rw [Maps.size_put htidy, (h3 kl).1, h2] at e1
    omega
  · show Maps.size (D.put kl (.held v)) = _
    rw [Maps.size_put htidy, (h3 kl).1, h2]
  · by_cases hy : y = kl
    · subst hy
      simp only [if_true]
      refine ⟨Maps.has_put_same htidy.isMap hlit _, fun h hh zd => ?_⟩
      obtain rfl : v = h := Option.some.inj hh
      exact Maps.atKey_put_same htidy.isMap hlit _ zd
    · simp only [if_neg hy]
      exact ⟨(Maps.has_put_other hy _).trans (h3 y).1, fun h hh zd => (Maps.atKey_put_other hy _ zd).trans ((h3 y).2 h hh zd)⟩
end
end Go.Proofs.YthflmdgfenojcaaGreatDoor
namespace Go.Proofs.YthflmdgfenojcaaGreatDoor
set_option linter.unusedVariables false
open Go.RowKit
abbrev Rej := Nat × ByteArray × Int
def noS : ByteArray := ⟨#[]⟩
structure InS where
  sds : List ByteArray
  fs : List (ByteArray × ByteArray)
  good : List (ByteArray × Rec)
  bad : List (ByteArray × Rej)
def inS0 (sds : List ByteArray) : InS := ⟨sds, [], [], []⟩
def seenB (good : List (ByteArray × Rec)) (sd id : ByteArray) : Bool := good.any fun g => decide (g.1 = sd) && decide (g.2.id = id)
theorem seenB_app (l m : List (ByteArray × Rec)) (sd id : ByteArray) : seenB (l ++ m) sd id = (seenB l sd id || seenB m sd id) := by unfold seenB; rw [List.any_append]
theorem seenB_true {l : List (ByteArray × Rec)} {sd id : ByteArray} (h : seenB l sd id = true) : ∃ g ∈ l, g.1 = sd ∧ g.2.id = id := by
  unfold seenB at h
  obtain ⟨g, hg, h⟩ := List.any_eq_true.1 h
  simp at h
  exact ⟨g, hg, h⟩
theorem seenB_of {l : List (ByteArray × Rec)} {sd id : ByteArray} {g : ByteArray × Rec} (hg : g ∈ l) (h1 : g.1 = sd) (h2 : g.2.id = id) : seenB l sd id = true := by
  unfold seenB
  exact List.any_eq_true.2 ⟨g, hg, by simp [h1, h2]⟩
/-- The open rejects: one is laid, or takes the place of the one of its name. -/
def putB (sd : ByteArray) (r : Rej) : List (ByteArray × Rej) → List (ByteArray × Rej)
  | [] => [(sd, r)]
  | x :: l => if x.1 = sd ∧ x.2.2.1 = r.2.1 then (sd, r) :: l else x :: putB sd r l
def delB (sd id : ByteArray) (l : List (ByteArray × Rej)) : List (ByteArray × Rej) := l.filter fun x => !(decide (x.1 = sd) && decide (x.2.2.1 = id))
def keepB (good : List (ByteArray × Rec)) (sd : ByteArray) (r : Rej) (bad : List (ByteArray × Rej)) : List (ByteArray × Rej) := if r.2.1 = noS ∨ seenB good sd r.2.1 = true then bad else putB sd r bad
/-- The same of one sender. -/
def putR (r : Rej) : List Rej → List Rej
  | [] => [r]
  | x :: l => if x.2.1 = r.2.1 then r :: l else x :: putR r l
def delR (id : ByteArray) (l : List Rej) : List Rej := l.filter fun x => !decide (x.2.1 = id)
def openOf (bad : List (ByteArray × Rej)) (sd : ByteArray) : List Rej := (bad.filter fun x => decide (x.1 = sd)).map (·.2)
theorem openOf_put (sd : ByteArray) (r : Rej) : ∀ l, openOf (putB sd r l) sd = putR r (openOf l sd)
  | [] => by simp [openOf, putB, putR]
  | x :: l => by
    have ih := openOf_put sd r l
    unfold putB
    by_cases h : x.1 = sd
    · by_cases h2 : x.2.2.1 = r.2.1
      · rw [if_pos ⟨h, h2⟩]
        simp [openOf, putR, h, h2]
      · rw [if_neg (fun q => h2 q.2)]
        unfold openOf at ih ⊢
        simp only [List.filter_cons, h, decide_true, if_true, List.map_cons, putR, if_neg h2, ih]
    · rw [if_neg (fun q => h q.1)]
      unfold openOf at ih ⊢
      rw [List.filter_cons_of_neg (by simp [h]), List.filter_cons_of_neg (by simp [h])]
      exact ih
theorem openOf_put_ne (sd sd' : ByteArray) (r : Rej) (h : sd ≠ sd') : ∀ l, openOf (putB sd r l) sd' = openOf l sd'
  | [] => by simp [openOf, putB, h]
  | x :: l => by
    have ih := openOf_put_ne sd sd' r h l
    unfold putB
    by_cases h2 : x.1 = sd ∧ x.2.2.1 = r.2.1
    · rw [if_pos h2]
      unfold openOf
      simp [h, h2.1]
    · rw [if_neg h2]
      unfold openOf at ih ⊢
      simp only [List.filter_cons]
      split
      · simp only [List.map_cons, ih]
      · exact ih
theorem openOf_del (sd id : ByteArray) (l) : openOf (delB sd id l) sd = delR id (openOf l sd) := by
  unfold openOf delB delR
  rw [List.filter_filter, List.filter_map, List.filter_filter]
  congr 1
  apply List.filter_congr
  intro x _
  by_cases h : x.1 = sd <;> by_cases h2 : x.2.2.1 = id <;> simp [h, h2]
theorem openOf_del_ne (sd sd' id : ByteArray) (h : sd ≠ sd') (l) : openOf (delB sd id l) sd' = openOf l sd' := by
  unfold openOf delB
  rw [List.filter_filter]
  congr 1
  apply List.filter_congr
  intro x _
  by_cases h1 : x.1 = sd'
  · have : decide (x.1 = sd) = false := decide_eq_false (fun q => h (q ▸ h1))
    rw [this]; simp
  · simp [h1]
structure TreS where
  good : List (ByteArray × Rec)
  bad : List (ByteArray × Rej)
  acc : List Rec
  out : List Rej
def trGood (sd : ByteArray) (i : Nat) (r : Rec) (t : TreS) : TreS :=
  if seenB t.good sd r.id = true then ⟨t.good, t.bad, t.acc, t.out ++ [(i, r.id, 15)]⟩ else ⟨t.good ++ [(sd, r)], delB sd r.id t.bad, t.acc ++ [r], t.out⟩
def trBad (sd : ByteArray) (x : Rej) (t : TreS) : TreS := ⟨t.good, keepB t.good sd x t.bad, t.acc, t.out ++ [x]⟩
structure TrK where
  t : TreS
  k : Nat
  r : Nat
def rejAt (l : List Rej) (k : Nat) : Rej := l.getD k (0, noS, 0)
theorem rejAt_get (l : List Rej) (k : Nat) (h : k < l.length) : rejAt l k = l[k] := by unfold rejAt; simp [h]
def trStep (sd : ByteArray) (rs : List Rec) (bad : List Rej) (i : Nat) (s : TrK) : TrK :=
  if s.r < bad.length ∧ (rejAt bad s.r).1 = i then ⟨trBad sd (rejAt bad s.r) s.t, s.k, s.r + 1⟩ else ⟨trGood sd i (rcAt rs s.k) s.t, s.k + 1, s.r⟩
def trK (sd : ByteArray) (rs : List Rec) (bad : List Rej) (t0 : TreS) : Nat → TrK
  | 0 => ⟨t0, 0, 0⟩
  | i + 1 => trStep sd rs bad i (trK sd rs bad t0 i)
theorem trK_succ (sd) (rs : List Rec) (bad : List Rej) (t0 : TreS) (i : Nat) : trK sd rs bad t0 (i + 1) = trStep sd rs bad i (trK sd rs bad t0 i) := rfl
/-- The rejects of a file, in their order among its n lines. -/
structure Laced (bad : List Rej) (n : Nat) : Prop where
  up : ∀ j k, j < k → k < bad.length → (rejAt bad j).1 < (rejAt bad k).1
  lt : ∀ j, j < bad.length → (rejAt bad j).1 < n
theorem Laced.room {bad : List Rej} {n : Nat} (h : Laced bad n) : ∀ d j, j + d = bad.length → j < bad.length → (rejAt bad j).1 + d ≤ n
  | 0, j, hj, hl => by omega
  | 1, j, hj, hl => by have := h.lt j hl; omega
  | d + 2, j, hj, hl => by
    have := Laced.room h (d + 1) (j + 1) (by omega) (by omega)
    have := h.up j (j + 1) (by omega) (by omega)
    omega
/-- Where the lines are behind i of them. -/
theorem trK_at (sd) (rs : List Rec) (bad : List Rej) (t0 : TreS) (h : Laced bad (rs.length + bad.length)) : ∀ i, i ≤ rs.length + bad.length →
    (trK sd rs bad t0 i).k + (trK sd rs bad t0 i).r = i ∧ (trK sd rs bad t0 i).k ≤ rs.length ∧ (trK sd rs bad t0 i).r ≤ bad.length ∧ ((trK sd rs bad t0 i).r < bad.length → i ≤ (rejAt bad (trK sd rs bad t0 i).r).1)
  | 0, _ => ⟨rfl, Nat.zero_le _, Nat.zero_le _, fun _ => Nat.zero_le _⟩
  | i + 1, hi => by
    obtain ⟨h1, h2, h3, h4⟩ := trK_at sd rs bad t0 h i (by omega)
    rw [trK_succ]
    generalize trK sd rs bad t0 i = s at *
    unfold trStep
    by_cases q : s.r < bad.length ∧ (rejAt bad s.r).1 = i
    · rw [if_pos q]
      refine ⟨by show s.k + (s.r + 1) = i + 1; omega, h2, q.1, fun q2 => ?_⟩
      have := h.up s.r (s.r + 1) (by omega) q2
      show i + 1 ≤ (rejAt bad (s.r + 1)).1
      omega
    · rw [if_neg q]
      have hk : s.k < rs.length := by
        rcases Nat.lt_or_ge s.r bad.length with c | c
        · have := h.room (bad.length - s.r) s.r (by omega) c
          have := h4 c
          have : (rejAt bad s.r).1 ≠ i := fun e => q ⟨c, e⟩
          omega
        · omega
      refine ⟨by show s.k + 1 + s.r = i + 1; omega, hk, h3, fun q2 => ?_⟩
      have := h4 q2
      have : (rejAt bad s.r).1 ≠ i := fun e => q ⟨q2, e⟩
      show i + 1 ≤ (rejAt bad s.r).1
      omega
theorem trK_good (sd) (rs : List Rec) (bad : List Rej) (t0 : TreS) (h : Laced bad (rs.length + bad.length)) (i : Nat) (hi : i < rs.length + bad.length)
    (q : ¬ ((trK sd rs bad t0 i).r < bad.length ∧ (rejAt bad (trK sd rs bad t0 i).r).1 = i)) : (trK sd rs bad t0 i).k < rs.length := by
  have h1 := trK_at sd rs bad t0 h (i + 1) hi
  rw [trK_succ] at h1
  unfold trStep at h1
  rw [if_neg q] at h1
  exact h1.2.1
def trAll (sd : ByteArray) (rs : List Rec) (bad : List Rej) (t0 : TreS) : TreS := (trK sd rs bad t0 (rs.length + bad.length)).t
theorem rd_laced (s : ByteArray) : ∀ k, Laced (rdK s k).bad k
  | 0 => ⟨fun j k _ h => absurd h (Nat.not_lt_zero _), fun j h => absurd h (Nat.not_lt_zero _)⟩
  | k + 1 => by
    have ih := rd_laced s k
    rw [rdK_succ]
    by_cases q : ptD (hdP s 2) (rdK s k).rs (rcL s k) = 0
    · rw [rdStep_ok q]
      exact ⟨ih.up, fun j hj => Nat.lt_succ_of_lt (ih.lt j hj)⟩
    · rw [rdStep_no q]
      generalize (rdK s k).bad = l at *
      have e1 : ∀ x : Rej, ∀ j, j < l.length → rejAt (l ++ [x]) j = rejAt l j := fun x j hj => by
        unfold rejAt; rw [List.getD_eq_getElem?_getD, List.getElem?_append_left hj, ← List.getD_eq_getElem?_getD]
      have e2 : ∀ x : Rej, rejAt (l ++ [x]) l.length = x := fun x => by
        unfold rejAt; rw [List.getD_eq_getElem?_getD]; simp
      refine ⟨fun i j hij hj => ?_, fun j hj => ?_⟩
      · have hj' : j < l.length + 1 := by simpa using hj
        rcases Nat.lt_or_ge j l.length with c | c
        · rw [e1 _ i (by omega), e1 _ j c]; exact ih.up i j hij c
        · obtain rfl : j = l.length := by omega
          rw [e1 _ i hij, e2]
          exact ih.lt i hij
      · have hj' : j < l.length + 1 := by simpa using hj
        rcases Nat.lt_or_ge j l.length with c | c
        · rw [e1 _ j c]; exact Nat.lt_succ_of_lt (ih.lt j c)
        · obtain rfl : j = l.length := by omega
          rw [e2]; exact Nat.lt_succ_self _
theorem rd_sum (s : ByteArray) : ∀ k, (rdK s k).rs.length + (rdK s k).bad.length = k
  | 0 => rfl
  | k + 1 => by
    have ih := rd_sum s k
    rw [rdK_succ]
    by_cases q : ptD (hdP s 2) (rdK s k).rs (rcL s k) = 0
    · rw [rdStep_ok q]; simp; omega
    · rw [rdStep_no q]; simp; omega
theorem rd_code (s : ByteArray) : ∀ k, ∀ x ∈ (rdK s k).bad, x.2.2 ≠ 0
  | 0, x, h => by cases h
  | k + 1, x, h => by
    rw [rdK_succ] at h
    by_cases q : ptD (hdP s 2) (rdK s k).rs (rcL s k) = 0
    · rw [rdStep_ok q] at h
      exact rd_code s k x h
    · rw [rdStep_no q] at h
      have ih := rd_code s k
      generalize ptD (hdP s 2) (rdK s k).rs (rcL s k) = E at *
      generalize rdK s k = st at *
      dsimp only at h
      rcases List.mem_append.1 h with h | h
      · exact ih x h
      · rw [List.mem_singleton.1 h]; exact q
theorem laced_of (s : ByteArray) (n : Nat) (rs : List Rec) (B : List Rej) (e1 : rs = (rdK s n).rs) (e2 : B = (rdK s n).bad) : Laced B (rs.length + B.length) := by
  rw [e1, e2, rd_sum]; exact rd_laced s n
theorem laced_nil (n : Nat) : Laced [] n := ⟨fun j k _ h => absurd h (Nat.not_lt_zero _), fun j h => absurd h (Nat.not_lt_zero _)⟩
theorem fileV_rs {s : ByteArray} (h : fileE s = 0) : (fileV s).rs = (rdK s (nRc s)).rs := by rw [fileV_ok h]
theorem fileB_of {s : ByteArray} (h : fileE s = 0) : fileB s = (rdK s (nRc s)).bad := by unfold fileB; rw [if_pos h]
theorem fileB_no {s : ByteArray} (h : ¬ fileE s = 0) : fileB s = [] := by unfold fileB; rw [if_neg h]
theorem file_laced (s : ByteArray) : Laced (fileB s) ((fileV s).rs.length + (fileB s).length) := by
  by_cases h : fileE s = 0
  · exact laced_of s (nRc s) _ _ (fileV_rs h) (fileB_of h)
  · rw [fileB_no h]; exact laced_nil _
def inF (fs : List (ByteArray × ByteArray)) (sd id : ByteArray) : Bool := fs.any fun x => decide (x.1 = sd) && decide (x.2 = id)
def accE (st : InS) (date : Int) (s : ByteArray) : Int :=
  if date < 0 ∨ 99999 < date then 14 else if fileE s ≠ 0 then fileE s else if ¬ (fileV s).sd ∈ st.sds then 6 else if date < (fileV s).dt then 14
  else if inF st.fs (fileV s).sd (fileV s).id = true then 15 else if 64 ≤ st.fs.length then 12 else 0
def accT (st : InS) (s : ByteArray) : TreS := trAll (fileV s).sd (fileV s).rs (fileB s) ⟨st.good, st.bad, [], []⟩
def accS (st : InS) (date : Int) (s : ByteArray) : InS := if accE st date s = 0 then ⟨st.sds, st.fs ++ [((fileV s).sd, (fileV s).id)], (accT st s).good, (accT st s).bad⟩ else st
def accG (st : InS) (date : Int) (s : ByteArray) : List Rec := if accE st date s = 0 then (accT st s).acc else []
def accB (st : InS) (date : Int) (s : ByteArray) : List Rej := if accE st date s = 0 then (accT st s).out else []
def recsOf (good : List (ByteArray × Rec)) (sd : ByteArray) : List Rec := (good.filter fun x => decide (x.1 = sd)).map (·.2)
end Go.Proofs.YthflmdgfenojcaaGreatDoor
namespace Go.Proofs.YthflmdgfenojcaaGreatDoor
set_option linter.unusedVariables false
open Go.RowKit Go.Sort Go.Maps
/-- Nothing but the blocks of F, and new ones, has changed. -/
structure KeptE (F : Nat → Prop) (w w' : World) : Prop where
  os : w'.os = w.os
  tape : w'.tape = w.tape
  output : w'.output = w.output
  size : w.heap.size ≤ w'.heap.size
  block : ∀ k, k < w.heap.size → ¬ F k → w'.heap[k]? = w.heap[k]?
section
variable {F G : Nat → Prop} {a b c w w' : World}
theorem KeptE.refl (F : Nat → Prop) (w : World) : KeptE F w w := ⟨rfl, rfl, rfl, Nat.le_refl _, fun _ _ _ => rfl⟩
theorem KeptE.of_below (h : Below w.heap.size w w') : KeptE F w w' := ⟨h.os, h.tape, h.output, h.size, fun k hk _ => h.block k hk⟩
theorem KeptE.of_grown {g : Nat} (h : w.grownBy w' (some g)) (hg : F g) : KeptE F w w' :=
  ⟨h.os, h.tape, h.output, h.size, fun k hk hf => h.block k hk (fun e => hf (by injection e with e; rw [e]; exact hg))⟩
theorem KeptE.of_grown' {o : Option Nat} (h : w.grownBy w' o) (hg : ∀ g, o = some g → F g) : KeptE F w w' :=
  ⟨h.os, h.tape, h.output, h.size, fun k hk hf => h.block k hk (fun e => hf (hg k e.symm))⟩
theorem KeptE.trans (h : KeptE F a b) (k : KeptE G b c) (hfg : ∀ j, G j → F j ∨ a.heap.size ≤ j) : KeptE F a c :=
  ⟨k.os.trans h.os, k.tape.trans h.tape, k.output.trans h.output, Nat.le_trans h.size k.size, fun j hj hf =>
    (k.block j (Nat.lt_of_lt_of_le hj h.size) (fun q => by rcases hfg j q with q | q; exact hf q; omega)).trans (h.block j hj hf)⟩
theorem KeptE.mono (h : KeptE F w w') (hg : ∀ j, F j → G j) : KeptE G w w' := ⟨h.os, h.tape, h.output, h.size, fun k hk hf => h.block k hk (fun q => hf (hg k q))⟩
theorem KeptE.below {B : Nat} (h : KeptE F w w') (hB : B ≤ w.heap.size) (hf : ∀ k, F k → B ≤ k) : Below B w w' :=
  ⟨h.os, h.tape, h.output, h.size, fun k hk => h.block k (by omega) (fun q => by have := hf k q; omega)⟩
theorem KeptE.heap (h : KeptE F w w') {k : Nat} {o : Obj} (ho : w.heap[k]? = some o) (hf : ¬ F k) : w'.heap[k]? = some o := by
  rw [h.block k (Array.getElem?_eq_some_iff.1 ho).1 hf]; exact ho
theorem own_same {B e size n : Nat} {v : Value} {xs : List Value} (h : w.ownsRow B e size v n xs) (hs : ∀ g, v.ownBlock = some g → w'.heap[g]? = w.heap[g]?) : w'.ownsRow B e size v n xs := by
  refine ⟨h.1, ?_⟩
  rcases h.2 with q | ⟨g, cap, cur, q1, q2, q3, q4⟩
  · exact .inl q
  · exact .inr ⟨g, cap, cur, q1, q2, (hs g (by rw [q1]; rfl)).trans q3, q4⟩
theorem own_lt {B e size n : Nat} {v : Value} {xs : List Value} (h : w.ownsRow B e size v n xs) {g : Nat} (hg : v.ownBlock = some g) : B ≤ g ∧ g < w.heap.size := h.lt g hg
theorem KeptE.own {B e size n : Nat} {v : Value} {xs : List Value} (h : KeptE F w w') (ho : w.ownsRow B e size v n xs) (hf : ∀ g, v.ownBlock = some g → ¬ F g) : w'.ownsRow B e size v n xs :=
  own_same ho (fun g hg => h.block g (own_lt ho hg).2 (hf g hg))
/-- A row's block holds cells of its elements' type. -/
theorem own_obj {B e size n : Nat} {v : Value} {xs : List Value} (h : w.ownsRow B e size v n xs) {g : Nat} (hg : v.ownBlock = some g) : ∃ cur, w.heap[g]? = some (.cells cur e (0, 0)) := by
  rcases h.2 with ⟨rfl, _⟩ | ⟨g', cap, cur, rfl, _, q, _⟩
  · cases hg
  · have : g' = g := by injection hg
    exact ⟨cur, by rw [← this]; exact q⟩
end
def fileF (x : ByteArray × ByteArray) : List Value := [.string x.1, .string x.2]
def totOf (good : List (ByteArray × Rec)) (d : ByteArray) : Value :=
  totV (recsOf good d).length (debS (recsOf good d) (recsOf good d).length) (creS (recsOf good d) (recsOf good d).length) (C7.totB (cardsOf (recsOf good d)))
/-- Where an intake lies. -/
structure InB where
  x : Nat
  t : Nat
  r : Nat
  o : Nat
  fv : Value
  ov : ByteArray → Value
def InB.cells (b : InB) : Array Value := #[.map (some b.t), b.fv, .map (some b.r), .map (some b.o)]
def noSl : Value := .slice none 0 0
structure InW (w0 : World) (st : InS) (tg : List (ByteArray × Rec)) (N : Nat) (F : Nat → Prop) (b : InB) (W : World) : Prop where
  be : Below w0.heap.size w0 W
  fp : ∀ k, F k → w0.heap.size ≤ k ∧ k < W.heap.size
  fx : F b.x
  ft : F b.t
  fr : F b.r
  fo : F b.o
  ff : ∀ g, b.fv.ownBlock = some g → F g
  fw : ∀ d g, (b.ov d).ownBlock = some g → F g
  x : W.heap[b.x]? = some (.cells b.cells 94)
  t : ∃ m n, VMap W 9 b.t m n ∧ n ≤ 1000 ∧ ∀ d : ByteArray, m (skey d) = if d ∈ st.sds then some (totOf tg d) else none
  f : W.ownsRow w0.heap.size 103 2 b.fv st.fs.length (st.fs.flatMap fileF)
  r : ∃ m n, VMap W 103 b.r m n ∧ n ≤ N ∧ ∀ sd id : ByteArray, sd.size ≤ maxLen → id.size ≤ maxLen → m (kkey sd id) = if seenB st.good sd id = true then some (.bool true) else none
  o : ∃ m n, VMap W 9 b.o m n ∧ n ≤ N ∧ ∀ d, (m (skey d)).getD noSl = b.ov d
  ow : ∀ d, W.ownsRow w0.heap.size 65 3 (b.ov d) (openOf st.bad d).length ((openOf st.bad d).flatMap rejF)
  od : ∀ d d', d ≠ d' → (b.ov d).ownBlock = none ∨ (b.ov d).ownBlock ≠ (b.ov d').ownBlock
  ntr : b.t ≠ b.r
  nto : b.t ≠ b.o
  nro : b.r ≠ b.o
section
variable {w0 : World} {st : InS} {tg : List (ByteArray × Rec)} {N : Nat} {F : Nat → Prop} {b : InB} {W W' : World}
theorem InW.same (h : InW w0 st tg N F b W) (hbe : Below w0.heap.size w0 W') (hsz : W.heap.size ≤ W'.heap.size) (hs : ∀ k, F k → W'.heap[k]? = W.heap[k]?) : InW w0 st tg N F b W' := by
  obtain ⟨m1, n1, v1, s1, q1⟩ := h.t
  obtain ⟨m2, n2, v2, s2, q2⟩ := h.r
  obtain ⟨m3, n3, v3, s3, q3⟩ := h.o
  exact ⟨hbe, fun k hk => ⟨(h.fp k hk).1, by have := (h.fp k hk).2; omega⟩, h.fx, h.ft, h.fr, h.fo, h.ff, h.fw, (hs _ h.fx).trans h.x, ⟨m1, n1, v1.same (hs _ h.ft), s1, q1⟩,
    own_same h.f (fun g hg => hs g (h.ff g hg)), ⟨m2, n2, v2.same (hs _ h.fr), s2, q2⟩, ⟨m3, n3, v3.same (hs _ h.fo), s3, q3⟩, fun d => own_same (h.ow d) (fun g hg => hs g (h.fw d g hg)), h.od, h.ntr, h.nto, h.nro⟩
theorem InW.below (h : InW w0 st tg N F b W) (hb : Below W.heap.size W W') : InW w0 st tg N F b W' :=
  h.same (h.be.trans (hb.mono h.be.size)) hb.size (fun k hk => hb.block k (h.fp k hk).2)
theorem InW.drewN (h : InW w0 st tg N F b W) (n : Nat) : InW w0 st tg N F b (W.drewN n) := h.below (below_drewN W n)
theorem InW.keptE {G : Nat → Prop} (h : InW w0 st tg N F b W) (hk : KeptE G W W') (hd : ∀ k, F k → ¬ G k) (hG : ∀ k, G k → w0.heap.size ≤ k) : InW w0 st tg N F b W' :=
  h.same (h.be.trans (hk.below h.be.size hG)) hk.size (fun k hk' => hk.block k (h.fp k hk').2 (hd k hk'))
theorem InW.mono {M : Nat} (h : InW w0 st tg N F b W) (hM : N ≤ M) : InW w0 st tg M F b W := by
  obtain ⟨m2, n2, v2, s2, q2⟩ := h.r
  obtain ⟨m3, n3, v3, s3, q3⟩ := h.o
  exact { h with r := ⟨m2, n2, v2, by omega, q2⟩, o := ⟨m3, n3, v3, by omega, q3⟩ }
theorem InW.grow {o : Option Nat} (h : InW w0 st tg N F b W) (hg : W.grownBy W' o) (ho : ∀ g, o = some g → w0.heap.size ≤ g) : Below w0.heap.size w0 W' := h.be.grown hg h.be.size ho
theorem zero46 (w : World) : (zeroValue 46).run Tryz.prog w = .ok (totV 0 0 0 0) w := by kernel_rfl
theorem zero35 (w : World) : (zeroValue 35).run Tryz.prog w = .ok noSl w := by kernel_rfl
theorem skey_of {d : ByteArray} (h : d.size ≤ maxLen) : keyOf Tryz.prog 9 (.string d) = some (skey d) := WideMaps.keyOf_string_mk Tryz.underlying9 h
theorem InW.knows (h : InW w0 st tg N F b W) (d : ByteArray) (hd : d.size ≤ maxLen) :
    ∃ v, (Instr.lookup 89 (.map (some b.t)) (.string d) true).run Tryz.prog W = .ok (.tuple #[v, .bool (decide (d ∈ st.sds))]) W ∧ ∃ n x y z, v = totV n x y z := by
  obtain ⟨m, n, v, s, q⟩ := h.t
  have hl := v.look_ok law9 Tryz.underlying89 (zero46 W) (skey_of hd)
  rw [q d] at hl
  by_cases hin : d ∈ st.sds
  · rw [if_pos hin] at hl
    refine ⟨_, by rw [hl, decide_eq_true hin]; rfl, ?_⟩
    unfold totOf
    exact ⟨_, _, _, _, rfl⟩
  · rw [if_neg hin] at hl
    exact ⟨_, by rw [hl, decide_eq_false hin]; rfl, _, _, _, _, rfl⟩
theorem InW.total (h : InW w0 st tg N F b W) (d : ByteArray) (hd : d.size ≤ maxLen) :
    (Instr.lookup 89 (.map (some b.t)) (.string d) false).run Tryz.prog W = .ok (if d ∈ st.sds then totOf tg d else totV 0 0 0 0) W := by
  obtain ⟨m, n, v, s, q⟩ := h.t
  have hl := v.look law9 Tryz.underlying89 (zero46 W) (skey_of hd)
  rw [q d] at hl
  rw [hl]
  split <;> rfl
theorem InW.seen (h : InW w0 st tg N F b W) (sd id : ByteArray) (h1 : sd.size ≤ maxLen) (h2 : id.size ≤ maxLen) :
    (Instr.lookup 90 (.map (some b.r)) (.agg #[.string sd, .string id]) false).run Tryz.prog W = .ok (.bool (seenB st.good sd id)) W := by
  obtain ⟨m, n, v, s, q⟩ := h.r
  have hl := v.look law103 Tryz.underlying90 (zero4 W) (kkey_of h1 h2)
  rw [q sd id h1 h2] at hl
  unfold keyV at hl
  rw [hl]
  cases seenB st.good sd id <;> rfl
theorem InW.opened (h : InW w0 st tg N F b W) (d : ByteArray) (hd : d.size ≤ maxLen) :
    (Instr.lookup 91 (.map (some b.o)) (.string d) false).run Tryz.prog W = .ok (b.ov d) W := by
  obtain ⟨m, n, v, s, q⟩ := h.o
  have hl := v.look law9 Tryz.underlying91 (zero35 W) (skey_of hd)
  rw [q d] at hl
  exact hl
/-- The blocks of maps, of the intake itself and of rows are not each other's. -/
theorem own_map {B e size n : Nat} {v : Value} {xs : List Value} {k g : Nat} {m : Lit → Option Value} {sz : Nat} (h : W.ownsRow B e size v n xs) (hv : v.ownBlock = some g) (hm : VMap W k g m sz) : False := by
  obtain ⟨cur, hc⟩ := own_obj h hv
  obtain ⟨D, ⟨es, cl, hb, _⟩, _⟩ := hm
  rw [hb] at hc
  cases hc
theorem own_x (h : InW w0 st tg N F b W) {B e size n : Nat} {v : Value} {xs : List Value} (ho : W.ownsRow B e size v n xs) (he : e ≠ 94) : v.ownBlock ≠ some b.x := fun q => by
  obtain ⟨cur, hc⟩ := own_obj ho q
  rw [h.x] at hc
  injection hc with hc
  injection hc with _ hc
  exact he hc.symm
/-- A record is seen from now on. -/
theorem InW.put (h : InW w0 st tg N F b W) (hN : N < 999999) (sd : ByteArray) (r : Rec) (h1 : sd.size ≤ maxLen) (h2 : r.id.size ≤ maxLen) :
    ∃ W', (Instr.mapUpdate 90 (.map (some b.r)) (.agg #[.string sd, .string r.id]) (.bool true)).run Tryz.prog W = .ok () W' ∧ InW w0 ⟨st.sds, st.fs, st.good ++ [(sd, r)], st.bad⟩ tg (N + 1) F b W' ∧ W.grownBy W' (some b.r) := by
  obtain ⟨m, n, v, s, q⟩ := h.r
  obtain ⟨W', m', hrun, hv', hg, hm1, hm2⟩ := v.store law103 Tryz.underlying90 (by omega) (kkey_of h1 h2) (show WideAt.IsKeyLit (kkey sd r.id) from trivial) (.bool true)
  have hs : ∀ k, F k → k ≠ b.r → W'.heap[k]? = W.heap[k]? := fun k hk hne => hg.block k (h.fp k hk).2 (fun e => hne (by injection e))
  obtain ⟨m1, n1, v1, s1, q1⟩ := h.t
  obtain ⟨m3, n3, v3, s3, q3⟩ := h.o
  refine ⟨W', hrun, ⟨h.grow hg (fun g e => by injection e with e; rw [← e]; exact (h.fp _ h.fr).1), fun k hk => ⟨(h.fp k hk).1, Nat.lt_of_lt_of_le (h.fp k hk).2 hg.size⟩, h.fx, h.ft, h.fr, h.fo, h.ff, h.fw, ?_, ⟨m1, n1, v1.same (hs _ h.ft h.ntr), s1, q1⟩, ?_, ?_,
    ⟨m3, n3, v3.same (hs _ h.fo (fun e => h.nro e.symm)), by omega, q3⟩, ?_, h.od, h.ntr, h.nto, h.nro⟩, hg⟩
  · rw [hs _ h.fx (fun e => by have h4 := h.x; rw [e] at h4; obtain ⟨D, ⟨es, cl, hb, _⟩, _⟩ := v; rw [hb] at h4; cases h4)]; exact h.x
  · exact own_same h.f (fun g hg' => hs g (h.ff g hg') (fun e => own_map h.f (by rw [hg', e]) v))
  · refine ⟨_, _, hv', by split <;> omega, fun sd' id' k1 k2 => ?_⟩
    rw [seenB_app]
    by_cases hk : kkey sd' id' = kkey sd r.id
    · obtain ⟨e1, e2⟩ := kkey_inj k1 k2 h1 h2 hk
      rw [hk, hm1, e1, e2, if_pos]
      simp [seenB]
    · rw [hm2 _ hk, q sd' id' k1 k2]
      have : seenB [(sd, r)] sd' id' = false := by
        unfold seenB
        simp only [List.any_cons, List.any_nil, Bool.or_false, Bool.and_eq_false_iff, decide_eq_false_iff_not]
        by_cases e1 : sd = sd'
        · by_cases e2 : r.id = id'
          · exact absurd (by rw [e1, e2]) hk
          · exact .inr e2
        · exact .inl e1
      rw [this, Bool.or_false]
  · exact fun d => own_same (h.ow d) (fun g hg' => hs g (h.fw d g hg') (fun e => own_map (h.ow d) (by rw [hg', e]) v))
/-- The totals of a sender are laid anew. -/
theorem InW.tally (h : InW w0 st tg N F b W) (tg' : List (ByteArray × Rec)) (sd : ByteArray) (h1 : sd.size ≤ maxLen) (hin : sd ∈ st.sds) (ho : ∀ d, d ≠ sd → totOf tg' d = totOf tg d) :
    ∃ W', (Instr.mapUpdate 89 (.map (some b.t)) (.string sd) (totOf tg' sd)).run Tryz.prog W = .ok () W' ∧ InW w0 st tg' N F b W' ∧ W.grownBy W' (some b.t) := by
  obtain ⟨m, n, v, s, q⟩ := h.t
  obtain ⟨W', m', hrun, hv', hg, hm1, hm2⟩ := v.store law9 Tryz.underlying89 (by omega) (skey_of h1) (show WideAt.IsKeyLit (skey sd) from trivial) (totOf tg' sd)
  have hs : ∀ k, F k → k ≠ b.t → W'.heap[k]? = W.heap[k]? := fun k hk hne => hg.block k (h.fp k hk).2 (fun e => hne (by injection e))
  obtain ⟨m2, n2, v2, s2, q2⟩ := h.r
  obtain ⟨m3, n3, v3, s3, q3⟩ := h.o
  refine ⟨W', hrun, ⟨h.grow hg (fun g e => by injection e with e; rw [← e]; exact (h.fp _ h.ft).1), fun k hk => ⟨(h.fp k hk).1, Nat.lt_of_lt_of_le (h.fp k hk).2 hg.size⟩, h.fx, h.ft, h.fr, h.fo, h.ff, h.fw, ?_, ?_, ?_, ⟨m2, n2, v2.same (hs _ h.fr (fun e => h.ntr e.symm)), s2, q2⟩,
    ⟨m3, n3, v3.same (hs _ h.fo (fun e => h.nto e.symm)), s3, q3⟩, ?_, h.od, h.ntr, h.nto, h.nro⟩, hg⟩
  · rw [hs _ h.fx (fun e => by have h4 := h.x; rw [e] at h4; obtain ⟨D, ⟨es, cl, hb, _⟩, _⟩ := v; rw [hb] at h4; cases h4)]; exact h.x
  · have e1 : (m (skey sd)).isSome = true := by rw [q sd, if_pos hin]; rfl
    rw [if_pos e1] at hv'
    refine ⟨_, _, hv', s, fun d => ?_⟩
    by_cases hk : d = sd
    · rw [hk, hm1, if_pos hin]
    · rw [hm2 _ (fun e => hk (skey_inj e)), q d, ho d hk]
  · exact own_same h.f (fun g hg' => hs g (h.ff g hg') (fun e => own_map h.f (by rw [hg', e]) v))
  · exact fun d => own_same (h.ow d) (fun g hg' => hs g (h.fw d g hg') (fun e => own_map (h.ow d) (by rw [hg', e]) v))
/-- The open rejects of a sender are laid anew: their row first (W to W1), then the map. -/
def updO (f : ByteArray → Value) (d : ByteArray) (v : Value) : ByteArray → Value := fun x => if x = d then v else f x
theorem InW.reopen (h : InW w0 st tg N F b W) (hN : N < 999999) {W1 : World} (sd : ByteArray) (h1 : sd.size ≤ maxLen) (bad' : List (ByteArray × Rej)) (u : Value)
    (hu : W1.ownsRow w0.heap.size 65 3 u (openOf bad' sd).length ((openOf bad' sd).flatMap rejF)) (hg1 : W.grownBy W1 (b.ov sd).ownBlock) (hub : u.ownBlock = none ∨ u.ownBlock = (b.ov sd).ownBlock ∨ ∃ g, u.ownBlock = some g ∧ W.heap.size ≤ g)
    (ho : ∀ d, d ≠ sd → openOf bad' d = openOf st.bad d) :
    ∃ W' F' b', (Instr.mapUpdate 91 (.map (some b.o)) (.string sd) u).run Tryz.prog W1 = .ok () W' ∧ InW w0 ⟨st.sds, st.fs, st.good, bad'⟩ tg (N + 1) F' b' W' ∧ b'.x = b.x ∧ (∀ k, F' k → F k ∨ W.heap.size ≤ k) ∧ (∀ k, F k → F' k) ∧ KeptE F W W' ∧ W1.grownBy W' (some b.o) := by
  obtain ⟨m, n, v, s, q⟩ := h.o
  obtain ⟨m1, n1, v1, s1, q1⟩ := h.t
  obtain ⟨m2, n2, v2, s2, q2⟩ := h.r
  have hsa : ∀ k, F k → some k ≠ (b.ov sd).ownBlock → W1.heap[k]? = W.heap[k]? := fun k hk hne => hg1.block k (h.fp k hk).2 hne
  have hmo : ∀ {g k : Nat} {m : Lit → Option Value} {sz : Nat}, VMap W k g m sz → some g ≠ (b.ov sd).ownBlock := fun hm e => own_map (h.ow sd) e.symm hm
  have v' : VMap W1 9 b.o m n := v.same (hsa _ h.fo (hmo v))
  obtain ⟨W', m', hrun, hv', hg, hm1, hm2⟩ := v'.store law9 Tryz.underlying91 (by omega) (skey_of h1) (show WideAt.IsKeyLit (skey sd) from trivial) u
  have hs : ∀ k, F k → k ≠ b.o → some k ≠ (b.ov sd).ownBlock → W'.heap[k]? = W.heap[k]? := fun k hk hne hne2 =>
    (hg.block k (Nat.lt_of_lt_of_le (h.fp k hk).2 hg1.size) (fun e => hne (by injection e))).trans (hsa k hk hne2)
  have hfo : ∀ g, (b.ov sd).ownBlock = some g → F g := h.fw sd
  have hne : ∀ d, d ≠ sd → ∀ g, (b.ov d).ownBlock = some g → some g ≠ (b.ov sd).ownBlock := fun d hd g hg' e => by
    rcases h.od d sd hd with k | k
    · rw [k] at hg'; cases hg'
    · exact k (by rw [hg', e])
  have hub2 : ∀ g, u.ownBlock = some g → ((b.ov sd).ownBlock = some g ∨ W.heap.size ≤ g) := fun g hg' => by
    rcases hub with k | k | ⟨g', k, k2⟩
    · rw [k] at hg'; cases hg'
    · exact .inl (by rw [← k]; exact hg')
    · rw [hg'] at k; injection k with k; exact .inr (by omega)
  refine ⟨W', fun k => F k ∨ u.ownBlock = some k, ⟨b.x, b.t, b.r, b.o, b.fv, updO b.ov sd u⟩, hrun, ⟨?_, ?_, .inl h.fx, .inl h.ft, .inl h.fr, .inl h.fo, fun g hg' => .inl (h.ff g hg'), ?_, ?_, ⟨m1, n1, v1.same (hs _ h.ft h.nto (hmo v1)), s1, q1⟩, ?_,
    ⟨m2, n2, v2.same (hs _ h.fr h.nro (hmo v2)), by omega, q2⟩, ?_, ?_, ?_, h.ntr, h.nto, h.nro⟩, rfl, ?_, fun k hk => .inl hk, ?_, hg⟩
  · exact (h.grow hg1 (fun g e => (h.fp g (hfo g e)).1)).grown hg (Nat.le_trans h.be.size hg1.size) (fun g e => by injection e with e; rw [← e]; exact (h.fp _ h.fo).1)
  · intro k hk
    rcases hk with hk | hk
    · exact ⟨(h.fp k hk).1, Nat.lt_of_lt_of_le (h.fp k hk).2 (Nat.le_trans hg1.size hg.size)⟩
    · have := own_lt hu hk
      exact ⟨this.1, Nat.lt_of_lt_of_le this.2 hg.size⟩
  · intro d g hg'
    show F g ∨ u.ownBlock = some g
    by_cases hd : d = sd
    · right
      have hg' : (updO b.ov sd u d).ownBlock = some g := hg'
      unfold updO at hg'; rw [if_pos hd] at hg'; exact hg'
    · left
      have hg' : (updO b.ov sd u d).ownBlock = some g := hg'
      unfold updO at hg'; rw [if_neg hd] at hg'; exact h.fw d g hg'
  · show W'.heap[b.x]? = _
    rw [hs _ h.fx (fun e => by have h4 := h.x; rw [e] at h4; obtain ⟨D, ⟨es, cl, hb, _⟩, _⟩ := v; rw [hb] at h4; cases h4) (fun e => own_x h (h.ow sd) (by decide) e.symm)]; exact h.x
  · exact own_same h.f (fun g hg' => hs g (h.ff g hg') (fun e => own_map h.f (by rw [hg', e]) v) (fun e => by
      have := own_ne (h.ow sd) h.f (by decide)
      rcases this with k | k
      · rw [k] at hg'; cases hg'
      · exact k (by rw [hg', e])))
  · refine ⟨_, _, hv', by split <;> omega, fun d => ?_⟩
    show _ = updO b.ov sd u d
    unfold updO
    by_cases hk : d = sd
    · rw [hk, hm1, if_pos rfl]; rfl
    · rw [hm2 _ (fun e => hk (skey_inj e)), if_neg hk, q d]
  · intro d
    show W'.ownsRow _ 65 3 (updO b.ov sd u d) _ _
    unfold updO
    by_cases hk : d = sd
    · subst hk
      rw [if_pos rfl]
      exact own_same hu (fun g hg' => hg.block g (own_lt hu hg').2 (fun e => own_map hu (by rw [hg', e]) v'))
    · rw [if_neg hk, ho d hk]
      exact own_same (h.ow d) (fun g hg' => hs g (h.fw d g hg') (fun e => own_map (h.ow d) (by rw [hg', e]) v) (hne d hk g hg'))
  · intro d d' hdd
    show (updO b.ov sd u d).ownBlock = none ∨ (updO b.ov sd u d).ownBlock ≠ (updO b.ov sd u d').ownBlock
    unfold updO
    by_cases hk : d = sd
    · have hk' : ¬ d' = sd := fun e => hdd (hk.trans e.symm)
      rw [if_pos hk, if_neg hk']
      cases hub' : u.ownBlock with
      | none => exact .inl rfl
      | some g =>
        right
        intro e
        rcases hub2 g hub' with k | k
        · exact hne d' hk' g e.symm k.symm
        · have := (h.fp g (h.fw d' g e.symm)).2; omega
    · rw [if_neg hk]
      by_cases hk' : d' = sd
      · rw [if_pos hk']
        cases hd1 : (b.ov d).ownBlock with
        | none => exact .inl rfl
        | some g =>
          right
          intro e
          rcases hub2 g e.symm with k | k
          · exact hne d hk g hd1 k.symm
          · have := (h.fp g (h.fw d g hd1)).2; omega
      · rw [if_neg hk']; exact h.od d d' hdd
  · intro k hk
    rcases hk with hk | hk
    · exact .inl hk
    · rcases hub2 k hk with q | q
      · exact .inl (hfo k q)
      · exact .inr q
  · exact (KeptE.of_grown' hg1 hfo).trans (KeptE.of_grown (F := F) hg h.fo) (fun j hj => .inl hj)
/-- The open rejects of a sender, one of which is laid anew in its place (no map is written). -/
theorem InW.replace (h : InW w0 st tg N F b W) (sd : ByteArray) (bad' : List (ByteArray × Rej)) (hl : (openOf bad' sd).length = (openOf st.bad sd).length)
    (hu : W'.ownsRow w0.heap.size 65 3 (b.ov sd) (openOf bad' sd).length ((openOf bad' sd).flatMap rejF)) (hg1 : W.grownBy W' (b.ov sd).ownBlock) (ho : ∀ d, d ≠ sd → openOf bad' d = openOf st.bad d) :
    InW w0 ⟨st.sds, st.fs, st.good, bad'⟩ tg N F b W' := by
  obtain ⟨m, n, v, s, q⟩ := h.o
  obtain ⟨m1, n1, v1, s1, q1⟩ := h.t
  obtain ⟨m2, n2, v2, s2, q2⟩ := h.r
  have hs : ∀ k, F k → some k ≠ (b.ov sd).ownBlock → W'.heap[k]? = W.heap[k]? := fun k hk hne => hg1.block k (h.fp k hk).2 hne
  have hmo : ∀ {g k : Nat} {m : Lit → Option Value} {sz : Nat}, VMap W k g m sz → some g ≠ (b.ov sd).ownBlock := fun hm e => own_map (h.ow sd) e.symm hm
  refine ⟨h.grow hg1 (fun g e => (h.fp g (h.fw sd g e)).1), fun k hk => ⟨(h.fp k hk).1, Nat.lt_of_lt_of_le (h.fp k hk).2 hg1.size⟩, h.fx, h.ft, h.fr, h.fo, h.ff, h.fw, ?_, ⟨m1, n1, v1.same (hs _ h.ft (hmo v1)), s1, q1⟩, ?_,
    ⟨m2, n2, v2.same (hs _ h.fr (hmo v2)), s2, q2⟩, ⟨m, n, v.same (hs _ h.fo (hmo v)), s, q⟩, fun d => ?_, h.od, h.ntr, h.nto, h.nro⟩
  · rw [hs _ h.fx (fun e => own_x h (h.ow sd) (by decide) e.symm)]; exact h.x
  · exact own_same h.f (fun g hg' => hs g (h.ff g hg') (fun e => by
      have := own_ne (h.ow sd) h.f (by decide)
      rcases this with k | k
      · rw [k] at hg'; cases hg'
      · exact k (by rw [hg', e])))
  · by_cases hk : d = sd
    · rw [hk]; exact hu
    · rw [ho d hk]
      exact own_same (h.ow d) (fun g hg' => hs g (h.fw d g hg') (fun e => by
        rcases h.od d sd hk with k | k
        · rw [k] at hg'; cases hg'
        · exact k (by rw [hg', e])))
/-- A file is laid behind the others: its row first (W to W1), then the field. -/
theorem InW.filed (h : InW w0 st tg N F b W) {W1 : World} (x : ByteArray × ByteArray) (u : Value)
    (hu : W1.ownsRow w0.heap.size 103 2 u (st.fs.length + 1) (st.fs.flatMap fileF ++ fileF x)) (hg1 : W.grownBy W1 b.fv.ownBlock) (hub : u.ownBlock = b.fv.ownBlock ∨ ∃ g, u.ownBlock = some g ∧ W.heap.size ≤ g) :
    InW w0 ⟨st.sds, st.fs ++ [x], st.good, st.bad⟩ tg N (fun k => F k ∨ u.ownBlock = some k) ⟨b.x, b.t, b.r, b.o, u, b.ov⟩ (W1.setCell ⟨b.x, 1, none⟩ u) ∧ KeptE F W (W1.setCell ⟨b.x, 1, none⟩ u) ∧ (∀ k, u.ownBlock = some k → F k ∨ W.heap.size ≤ k) := by
  obtain ⟨m, n, v, s, q⟩ := h.o
  obtain ⟨m1, n1, v1, s1, q1⟩ := h.t
  obtain ⟨m2, n2, v2, s2, q2⟩ := h.r
  have hsa : ∀ k, F k → some k ≠ b.fv.ownBlock → W1.heap[k]? = W.heap[k]? := fun k hk hne => hg1.block k (h.fp k hk).2 hne
  have hx1 : W1.heap[b.x]? = some (.cells b.cells 94) := (hsa _ h.fx (fun e => own_x h h.f (by decide) e.symm)).trans h.x
  have hg : W1.grownBy (W1.setCell ⟨b.x, 1, none⟩ u) (some b.x) := ⟨rfl, rfl, rfl, by simp [World.setCell], fun k _ hk => Below.heap_setCell _ _ _ _ (fun e => hk (by rw [e]))⟩
  have hs : ∀ k, F k → k ≠ b.x → some k ≠ b.fv.ownBlock → (W1.setCell ⟨b.x, 1, none⟩ u).heap[k]? = W.heap[k]? := fun k hk hne hne2 =>
    (hg.block k (Nat.lt_of_lt_of_le (h.fp k hk).2 hg1.size) (fun e => hne (by injection e))).trans (hsa k hk hne2)
  have hmo : ∀ {g k : Nat} {m : Lit → Option Value} {sz : Nat}, VMap W k g m sz → some g ≠ b.fv.ownBlock := fun hm e => own_map h.f e.symm hm
  have hmx : ∀ {g k : Nat} {m : Lit → Option Value} {sz : Nat}, VMap W k g m sz → g ≠ b.x := fun hm e => by
    have h4 := h.x
    rw [← e] at h4
    obtain ⟨D, ⟨es, cl, hb, _⟩, _⟩ := hm
    rw [hb] at h4; cases h4
  refine ⟨⟨?_, ?_, .inl h.fx, .inl h.ft, .inl h.fr, .inl h.fo, fun g hg' => .inr hg', fun d g hg' => .inl (h.fw d g hg'), ?_, ⟨m1, n1, v1.same (hs _ h.ft (hmx v1) (hmo v1)), s1, q1⟩, ?_,
    ⟨m2, n2, v2.same (hs _ h.fr (hmx v2) (hmo v2)), s2, q2⟩, ⟨m, n, v.same (hs _ h.fo (hmx v) (hmo v)), s, q⟩, ?_, h.od, h.ntr, h.nto, h.nro⟩, ?_, ?_⟩
  · exact (h.grow hg1 (fun g e => (h.fp g (h.ff g e)).1)).grown hg (Nat.le_trans h.be.size hg1.size) (fun g e => by injection e with e; rw [← e]; exact (h.fp _ h.fx).1)
  · intro k hk
    rcases hk with hk | hk
    · exact ⟨(h.fp k hk).1, Nat.lt_of_lt_of_le (h.fp k hk).2 (Nat.le_trans hg1.size hg.size)⟩
    · have := own_lt hu hk
      exact ⟨this.1, Nat.lt_of_lt_of_le this.2 hg.size⟩
  · show (W1.setCell ⟨b.x, 1, none⟩ u).heap[b.x]? = _
    rw [heap_set1 hx1 1 u]; rfl
  · rw [List.length_append, List.flatMap_append]
    have h5 := own_same (w' := W1.setCell ⟨b.x, 1, none⟩ u) hu (fun g hg' => hg.block g (own_lt hu hg').2 (fun e => by
      obtain ⟨cur, hc⟩ := own_obj hu hg'
      have e : g = b.x := by injection e
      rw [e, hx1] at hc
      injection hc with hc
      injection hc with _ hc
      cases hc))
    simpa using h5
  · exact fun d => own_same (h.ow d) (fun g hg' => hs g (h.fw d g hg') (fun e => own_x h (h.ow d) (by decide) (by rw [hg', e])) (fun e => by
      have := own_ne h.f (h.ow d) (by decide)
      rcases this with k | k
      · rw [k] at hg'; cases hg'
      · exact k (by rw [hg', e])))
  · exact (KeptE.of_grown' hg1 h.ff).trans (KeptE.of_grown (F := F) hg h.fx) (fun j hj => .inl hj)
  · intro k hk
    rcases hub with q | ⟨g, q, q2⟩
    · exact .inl (h.ff k (by rw [← q]; exact hk))
    · rw [hk] at q; injection q with q; exact .inr (by omega)
end
end Go.Proofs.YthflmdgfenojcaaGreatDoor
namespace Go.Proofs.YthflmdgfenojcaaGreatDoor
set_option linter.unusedVariables false
open Go.RowKit Go.Sort Go.Maps
section
variable {w0 : World} {st : InS} {tg : List (ByteArray × Rec)} {N : Nat} {F : Nat → Prop} {b : InB} {W : World}
theorem InW.c0 (h : InW w0 st tg N F b W) : W.cell? ⟨b.x, 0, none⟩ = some (.map (some b.t)) := cell_c h.x 0
theorem InW.c1 (h : InW w0 st tg N F b W) : W.cell? ⟨b.x, 1, none⟩ = some b.fv := cell_c h.x 1
theorem InW.c2 (h : InW w0 st tg N F b W) : W.cell? ⟨b.x, 2, none⟩ = some (.map (some b.r)) := cell_c h.x 2
theorem InW.c3 (h : InW w0 st tg N F b W) : W.cell? ⟨b.x, 3, none⟩ = some (.map (some b.o)) := cell_c h.x 3
theorem InW.xlt (h : InW w0 st tg N F b W) : b.x < W.heap.size := (h.fp _ h.fx).2
def BoPost (v : Bool) (w : World) (e : Ending) (w' : World) : Prop := e = .returned (.bool v) ∧ Below w.heap.size w w'
set_option maxRecDepth 1000000 in
set_option maxHeartbeats 1600000 in
theorem knows_any (h : InW w0 st tg N F b W) (d : ByteArray) (hd : d.size ≤ maxLen) : Calls Tryz.prog 56 #[.pointer (some ⟨b.x, 0, none⟩), .string d] W (BoPost (decide (d ∈ st.sds)) W) := by
  obtain ⟨v, hl, n, x, y, z, rfl⟩ := h.knows d hd
  have c0 := h.c0
  have hx := h.xlt
  unfold totV at hl
  unfold BoPost
  generalize decide (d ∈ st.sds) = B at *
  have HB := Lib.hid (bx W (.cells #[.int .i64 n, .int .i64 x, .int .i64 y, .int .i64 z] 46))
  clear h
  go_enter Tryz.func56, Tryz.ntmps56
  go_wp2_with fail
  go_ret
  exact ⟨rfl, HB.out⟩
set_option maxRecDepth 1000000 in
set_option maxHeartbeats 1600000 in
theorem seen_any (h : InW w0 st tg N F b W) (sd id : ByteArray) (h1 : sd.size ≤ maxLen) (h2 : id.size ≤ maxLen) : Calls Tryz.prog 28 #[.pointer (some ⟨b.x, 0, none⟩), .string sd, .string id] W fun e w' => e = .returned (.bool (seenB st.good sd id)) ∧ W = w' := by
  have hl := h.seen sd id h1 h2
  have c2 := h.c2
  have hx := h.xlt
  generalize seenB st.good sd id = B at *
  clear h
  go_enter Tryz.func28, Tryz.ntmps28
  go_wp2_with fail
  go_ret
  exact ⟨rfl, rfl⟩
theorem tot_form (p : Prop) [Decidable p] (tg : List (ByteArray × Rec)) (d : ByteArray) : ∃ n x y z, (if p then totOf tg d else totV 0 0 0 0) = totV n x y z := by
  split
  · unfold totOf; exact ⟨_, _, _, _, rfl⟩
  · exact ⟨_, _, _, _, rfl⟩
set_option maxRecDepth 1000000 in
set_option maxHeartbeats 1600000 in
theorem tot_any (h : InW w0 st tg N F b W) (d : ByteArray) (h1 : d.size ≤ maxLen) : Calls Tryz.prog 26 #[.pointer (some ⟨b.x, 0, none⟩), .string d] W fun e w' => e = .returned (if d ∈ st.sds then totOf tg d else totV 0 0 0 0) ∧ Below W.heap.size W w' := by
  have c0 := h.c0
  have hx := h.xlt
  have hl := (h.below (bx W (.cells #[.int .i64 0, .int .i64 0, .int .i64 0, .int .i64 0] 46))).total d h1
  have HK := Lib.hid (heap_alloc_new W (.cells #[.int .i64 0, .int .i64 0, .int .i64 0, .int .i64 0] 46))
  obtain ⟨n, x, y, z, hv⟩ := tot_form (d ∈ st.sds) tg d
  rw [hv] at hl ⊢
  unfold totV at hl ⊢
  clear h hv
  go_enter Tryz.func26, Tryz.ntmps26
  go_wp2_with fail
  refine bodyPost_ret (results_cell_row (show Tryz.f26.results = #[.cell 4 46] by kernel_rfl) _ _ W.heap.size 46 #[.int .i64 n, .int .i64 x, .int .i64 y, .int .i64 z] (0, 0) _ rfl (heap_alloc_new W _) Tryz.underlying46 rfl (by kernel_rfl)) rfl ?_
  exact ⟨rfl, bx _ _⟩
end
def RowPost (T sz n : Nat) (xs : List Value) (w : World) (e : Ending) (w' : World) : Prop := ∃ v, e = .returned v ∧ w'.ownsRow w.heap.size T sz v n xs ∧ Below w.heap.size w w'
theorem rej_one (l : List Rej) : ∀ u ∈ l.flatMap rejF, u.oneCell' = true := by
  intro u hu
  obtain ⟨x, _, hx⟩ := List.mem_flatMap.1 hu
  unfold rejF at hx
  simp at hx
  rcases hx with rfl | rfl | rfl <;> simp [Value.oneCell']
set_option maxRecDepth 1000000 in
set_option maxHeartbeats 1600000 in
theorem clone_any {B : Nat} {v : Value} {l : List Rej} {w : World} (hv : w.ownsRow B 65 3 v l.length (l.flatMap rejF)) (hn : l.length ≤ 1000000) : Calls Tryz.prog 64 #[v] w (RowPost 65 3 l.length (l.flatMap rejF) w) := by
  have h1 := Lib.hid (rej_one l)
  obtain ⟨i65, HJ⟩ := info_parts mk65
  have HJ := Lib.hid HJ
  have q := fun (w : World) (a : Option Addr) (n c : Nat) => Lib.run_eql_slice_nil (P := Tryz.prog) w 35 65 a n c 0 0 Tryz.underlying35
  rcases hv.2 with ⟨rfl, h0⟩ | ⟨g, cap, cur, rfl, q2, q3, q4⟩
  · obtain rfl := List.eq_nil_of_length_eq_zero h0
    go_enter Tryz.func64, Tryz.ntmps64
    go_wp2_with fail
    go_ret
    exact ⟨_, rfl, World.ownsRow_nil _ _ _ _, Below.refl _ _⟩
  · have HR := Lib.hid ((Reads.of_own hv).alloc (Nat.le_refl _) (.cells #[] 65))
    have HM := Lib.hid (World.ownsRow_made (base := w.heap.size) (e := 65) (size := 3) w #[] 0 (by omega) (by decide) rfl)
    have HB := Lib.hid (bx w (.cells #[] 65))
    generalize hn' : l.length = n at *
    generalize l.flatMap rejF = xs at *
    clear hv q2 q3 q4
    go_enter Tryz.func64, Tryz.ntmps64
    go_wp2_with (at_builtin; refine wpList_append_any _ rfl (.tmp 5) (.tmp 6) _ rfl w.heap.size 65 i65 _ 3 32 Tryz.underlying35 HJ.out.1 HJ.out.2.1 HJ.out.2.2.1 HJ.out.2.2.2 rfl (by omega) (.slice (some ⟨w.heap.size, 0, none⟩) 0 0) 0 [] rfl HM.out _ _ n _ xs rfl HR.out h1.out (by unfold maxLen; omega) (by omega) (by simp) ?_; intro v5 w5 hown hgrow hwh; have HO5 : Hid (w5.ownsRow w.heap.size 65 3 v5 n xs) := Lib.hid (by simpa using hown); have HB6 := Lib.hid (HB.out.grown hgrow HB.out.size (fun j hj => by simp [Value.ownBlock] at hj; omega)); clear hown hgrow hwh)
    go_ret
    exact ⟨_, rfl, HO5.out, HB6.out⟩
/-- Rows of elements of s cells. -/
theorem flat_cells {α : Type} (f : α → List Value) (s : Nat) (hf : ∀ x, (f x).length = s) : ∀ (l : List α) (k : Nat) (h : k < l.length) (j : Nat), j < s → (l.flatMap f)[k * s + j]? = (f l[k])[j]?
  | x :: l, 0, _, j, hj => by
    rw [List.flatMap_cons, List.getElem?_append_left (by rw [hf]; omega)]
    simp
  | x :: l, k + 1, h, j, hj => by
    rw [List.flatMap_cons, List.getElem?_append_right (by rw [hf, Nat.succ_mul]; omega)]
    have e : (k + 1) * s + j - (f x).length = k * s + j := by rw [hf, Nat.succ_mul]; omega
    rw [e, flat_cells f s hf l k (by simpa using h) j hj]
    simp
theorem flat_len {α : Type} (f : α → List Value) (s : Nat) (hf : ∀ x, (f x).length = s) : ∀ l : List α, (l.flatMap f).length = l.length * s
  | [] => by simp
  | x :: l => by rw [List.flatMap_cons, List.length_append, hf, flat_len f s hf l, List.length_cons, Nat.succ_mul]; omega
theorem row_flat {α : Type} (f : α → List Value) (s : Nat) (hs : 0 < s) (hf : ∀ x, (f x).length = s) {w : World} {A : Option Addr} {l : List α} (hr : IsRow w A (l.flatMap f)) (j : Nat) (h : j < l.length) :
    ∃ b off, A = some ⟨b, off, none⟩ ∧ ∀ k (hk : k < l.length) i v, (f l[k])[i]? = some v → w.cell? ⟨b, off + k * s + i, none⟩ = some v := by
  rcases hr with hr | ⟨b, off, rfl, hr⟩
  · rw [flat_len f s hf] at hr
    have : 0 < l.length * s := Nat.mul_pos (by omega) hs
    omega
  · refine ⟨b, off, rfl, fun k hk i v hv => ?_⟩
    have hi : i < s := by have := (List.getElem?_eq_some_iff.1 hv).1; rwa [hf] at this
    rw [Nat.add_assoc]
    exact hr _ _ (by rw [flat_cells f s hf l k hk i hi]; exact hv)
def fAt (l : List (ByteArray × ByteArray)) (k : Nat) : ByteArray × ByteArray := l.getD k (noS, noS)
theorem fAt_get (l : List (ByteArray × ByteArray)) (k : Nat) (h : k < l.length) : fAt l k = l[k] := by unfold fAt; simp [h]
theorem row_file {w : World} {A : Option Addr} {l : List (ByteArray × ByteArray)} (hr : IsRow w A (l.flatMap fileF)) (j : Nat) (h : j < l.length) :
    ∃ b off, A = some ⟨b, off, none⟩ ∧ ∀ k, k < l.length → w.cell? ⟨b, off + k * 2, none⟩ = some (.string (fAt l k).1) ∧ w.cell? ⟨b, off + k * 2 + 1, none⟩ = some (.string (fAt l k).2) := by
  obtain ⟨b, off, rfl, hc⟩ := row_flat fileF 2 (by decide) (fun _ => rfl) hr j h
  refine ⟨b, off, rfl, fun k hk => ?_⟩
  rw [fAt_get l k hk]
  exact ⟨hc k hk 0 _ rfl, hc k hk 1 _ rfl⟩
theorem row_rej {w : World} {A : Option Addr} {l : List Rej} (hr : IsRow w A (l.flatMap rejF)) (j : Nat) (h : j < l.length) :
    ∃ b off, A = some ⟨b, off, none⟩ ∧ ∀ k, k < l.length → w.cell? ⟨b, off + k * 3, none⟩ = some (.int .i64 (rejAt l k).1) ∧ w.cell? ⟨b, off + k * 3 + 1, none⟩ = some (.string (rejAt l k).2.1) ∧ w.cell? ⟨b, off + k * 3 + 2, none⟩ = some (.int .i64 (rejAt l k).2.2) := by
  obtain ⟨b, off, rfl, hc⟩ := row_flat rejF 3 (by decide) (fun _ => rfl) hr j h
  refine ⟨b, off, rfl, fun k hk => ?_⟩
  rw [rejAt_get l k hk]
  exact ⟨hc k hk 0 _ rfl, hc k hk 1 _ rfl, hc k hk 2 _ rfl⟩
theorem rejAt_mem {l : List Rej} {k : Nat} (h : k < l.length) : rejAt l k ∈ l := by rw [rejAt_get l k h]; exact List.getElem_mem h
theorem rows_len3 (l : List Rej) : (l.flatMap rejF).length = l.length * 3 := flat_len rejF 3 (fun _ => rfl) l
section
variable {w0 : World} {st : InS} {tg : List (ByteArray × Rec)} {N : Nat} {F : Nat → Prop} {b : InB} {W : World}
set_option maxRecDepth 1000000 in
set_option maxHeartbeats 1600000 in
theorem open_any (h : InW w0 st tg N F b W) (d : ByteArray) (h1 : d.size ≤ maxLen) (hn : (openOf st.bad d).length ≤ 1000000) : Calls Tryz.prog 24 #[.pointer (some ⟨b.x, 0, none⟩), .string d] W (RowPost 65 3 (openOf st.bad d).length ((openOf st.bad d).flatMap rejF) W) := by
  have c3 := h.c3
  have hx := h.xlt
  have hl := h.opened d h1
  have HC := Lib.hid (clone_any (h.ow d) hn)
  unfold RowPost at HC
  clear h
  go_enter Tryz.func24, Tryz.ntmps24
  go_wp2_with fail
  refine (HC.out).mono ?_
  rintro e w1 ⟨v, rfl, ho, hb⟩
  go_wp2_with fail
  go_ret
  exact ⟨_, rfl, ho, hb⟩
structure FilS (l : List (ByteArray × ByteArray)) (k : Nat) (w W : World) (v : Value) : Prop where
  o : W.ownsRow w.heap.size 9 1 v k ((l.take k).map fun x => Value.string x.2)
  b : Below w.heap.size w W
set_option maxRecDepth 1000000 in
set_option maxHeartbeats 3200000 in
theorem files_any (h : InW w0 st tg N F b W) (hn : st.fs.length ≤ 1000000) : Calls Tryz.prog 22 #[.pointer (some ⟨b.x, 0, none⟩)] W (RowPost 9 1 st.fs.length (st.fs.map fun x => .string x.2) W) := by
  have c1 := h.c1
  have hx := h.xlt
  obtain ⟨A, c, hfv, hr, hc⟩ := own_form h.f
  rw [hfv] at c1
  have HR := Lib.hid hr
  obtain ⟨i9, HI⟩ := info_parts info9
  have HI := Lib.hid HI
  have HS0 : Hid (FilS st.fs 0 W W (.slice none 0 0)) := Lib.hid ⟨World.ownsRow_nil _ _ _ _, Below.refl _ _⟩
  clear h hr hfv
  generalize st.fs = l at *
  go_enter Tryz.func22, Tryz.ntmps22
  go_wp2_with fail
  go_loopw [3, 13] (fun v i wr => ∃ k : Nat, k ≤ l.length ∧ i = .int .i64 k ∧ Hid (FilS l k W wr v)) (fun _ i _ => l.length - (intOf i).toNat)
  case atStart => exact ⟨0, Nat.zero_le _, rfl, HS0⟩
  case round =>
    clear HS0
    obtain ⟨k, hk, rfl, HW⟩ := hrel
    by_cases hlt : k < l.length
    · have kI : (k : Int) < (l.length : Int) := by omega
      have k0 : (0 : Int) ≤ (k : Int) := by omega
      obtain ⟨bb, off, rfl, hcell⟩ := row_file HR.out k hlt
      obtain ⟨d0, d1⟩ := hcell k hlt
      have d0 := cell_later HW.out.b d0
      have d1 := cell_later HW.out.b d1
      have HT : Hid ((l.take (k + 1)).map (fun x => Value.string x.2) = (l.take k).map (fun x => Value.string x.2) ++ [.string (fAt l k).2]) := Lib.hid (by rw [List.take_succ_eq_append_getElem hlt, List.map_append, fAt_get l k hlt]; rfl)
      obtain ⟨⟨p, q⟩, hp⟩ : ∃ x, fAt l k = x := ⟨_, rfl⟩
      rw [hp] at d0 d1 HT
      clear hcell hp
      dsimp only at d0 d1 HT
      have HO := Lib.hid ((HW.out.o.alloc (.cells #[.string p, .string q] 103)).alloc (.cells #[.string q] 9))
      have HBw := Lib.hid (HW.out.b.trans (((bx wr (.cells #[.string p, .string q] 103)).trans ((bx _ (.cells #[.string q] 9)).mono (bx _ _).size)).mono HW.out.b.size))
      have hsz := HW.out.b.size
      go_wp2_with (at_builtin; refine wpList_append_own _ rfl (.tmp 17) (.tmp 20) _ rfl W.heap.size 9 i9 _ 1 16 Tryz.underlying22 HI.out.1 HI.out.2.1 HI.out.2.2.1 HI.out.2.2.2 rfl (by omega) _ _ _ rfl HO.out ⟨wr.heap.size + 1, 0, none⟩ 1 1 [.string q] rfl rfl (World.news_of_block (cs := #[.string q]) (t := 9) (fr := (0, 0)) (heap_alloc2_new wr _ _)) (by simp [Value.oneCell']) (by unfold maxLen; omega) (by omega) (by simp; omega) ?_; intro v2 w2 hown hgrow hnil; have HA := Lib.hid hown; have HG := Lib.hid hgrow; clear hown hgrow hnil)
      have HW2 : Hid (FilS l (k + 1) W w2 v2) := Lib.hid ⟨by rw [HT.out]; exact HA.out, HBw.out.grown HG.out HBw.out.size (fun j hj => (HO.out.lt j hj).1)⟩
      exact ⟨⟨k + 1, by omega, by go_num, HW2⟩, by simp [intOf]; omega⟩
    · obtain rfl : k = l.length := by omega
      have kI : ¬ (l.length : Int) < (l.length : Int) := by omega
      go_wp2_with fail
      go_ret
      exact ⟨_, rfl, by have := HW.out.o; rwa [List.take_length] at this, HW.out.b⟩
end
end Go.Proofs.YthflmdgfenojcaaGreatDoor
namespace Go.Proofs.YthflmdgfenojcaaGreatDoor
set_option linter.unusedVariables false
open Go.RowKit Go.Sort Go.Maps
set_option maxRecDepth 100000 in
theorem eq103 (a b c d : ByteArray) (w : World) : (binOp .eql 103 (.agg #[.string a, .string b]) (.agg #[.string c, .string d])).run Tryz.prog w = .ok (.bool (a.toList == c.toList && b.toList == d.toList)) w := by
  rw [run_eql_struct]
  rw [run_equalIn_struct _ _ _ _ _ Tryz.underlying103 Tryz.stoodInHeld103]
  go_simp
  by_cases h1 : a.toList = c.toList <;> by_cases h2 : b.toList = d.toList <;> simp [h1, h2]
theorem toL_iff (a b : ByteArray) : a.toList = b.toList ↔ a = b := by
  constructor
  · intro h
    by_cases q : a = b
    · exact q
    · obtain ⟨h1, _⟩ := str_ne q
      rw [h] at h1
      simp at h1
  · intro h; rw [h]
def eqF (x : ByteArray × ByteArray) (sd id : ByteArray) : Bool := decide (x.1 = sd) && decide (x.2 = id)
theorem inF_take (l : List (ByteArray × ByteArray)) (sd id : ByteArray) (k : Nat) (h : k < l.length) : inF (l.take (k + 1)) sd id = (inF (l.take k) sd id || eqF (fAt l k) sd id) := by
  unfold inF
  rw [List.take_succ_eq_append_getElem h, List.any_append, fAt_get l k h]
  simp [eqF]
theorem eqK (sd id p q : ByteArray) : (sd.toList == p.toList && id.toList == q.toList) = eqF (p, q) sd id := by
  unfold eqF
  dsimp only
  by_cases h1 : sd = p
  · by_cases h2 : id = q
    · subst h1; subst h2; simp
    · have : ¬ id.toList = q.toList := fun e => h2 ((toL_iff _ _).1 e)
      have h3 : ¬ q = id := fun e => h2 e.symm
      simp [this, h3]
  · have : ¬ sd.toList = p.toList := fun e => h1 ((toL_iff _ _).1 e)
    have h3 : ¬ p = sd := fun e => h1 e.symm
    simp [this, h3]
theorem inF_all {l : List (ByteArray × ByteArray)} {sd id : ByteArray} {k : Nat} (hk : k ≤ l.length) (h : inF (l.take k) sd id = true) : inF l sd id = true := by
  unfold inF at h ⊢
  obtain ⟨x, hx, h⟩ := List.any_eq_true.1 h
  exact List.any_eq_true.2 ⟨x, List.mem_of_mem_take hx, h⟩
def IdxPost (B : Bool) (w : World) (e : Ending) (w' : World) : Prop := ∃ i : Int, e = .returned (.int .i64 i) ∧ (0 ≤ i ↔ B = true) ∧ Below w.heap.size w w'
set_option maxRecDepth 1000000 in
set_option maxHeartbeats 3200000 in
theorem index_any {A : Option Addr} {c : Nat} {l : List (ByteArray × ByteArray)} {w : World} (hr : IsRow w A (l.flatMap fileF)) (sd id : ByteArray) (hn : l.length ≤ 1000000) : Calls Tryz.prog 111 #[.slice A l.length c, .agg #[.string sd, .string id]] w (IdxPost (inF l sd id) w) := by
  have HR := Lib.hid hr
  have HT := Lib.hid (fun k h => inF_take l sd id k h)
  have HN : Hid (inF (l.take l.length) sd id = inF l sd id) := Lib.hid (by rw [List.take_length])
  have HB := Lib.hid (bx w (.cells #[.string sd, .string id] 103))
  have HK := Lib.hid (heap_alloc_new w (.cells #[.string sd, .string id] 103))
  have HALL : Hid (∀ k, k ≤ l.length → inF (l.take k) sd id = true → inF l sd id = true) := Lib.hid (fun k h1 h2 => inF_all h1 h2)
  have H0 : Hid (inF (l.take 0) sd id = false) := Lib.hid rfl
  clear hr
  generalize inF l sd id = R at *
  go_enter Tryz.func111, Tryz.ntmps111
  go_wp2_with fail
  go_loopw [5, 8] (fun _ i wr => ∃ k : Nat, k ≤ l.length ∧ i = .int .i64 k ∧ Hid (Below w.heap.size w wr ∧ wr.heap[w.heap.size]? = some (.cells #[.string sd, .string id] 103)) ∧ Hid (inF (l.take k) sd id = false)) (fun _ i _ => l.length - (intOf i).toNat)
  case atStart => exact ⟨0, Nat.zero_le _, rfl, Lib.hid ⟨HB.out, HK.out⟩, H0⟩
  case round =>
    clear H0 HB HK
    obtain ⟨k, hk, rfl, HW, HF⟩ := hrel
    by_cases hlt : k < l.length
    · have kI : (k : Int) < (l.length : Int) := by omega
      have k0 : (0 : Int) ≤ (k : Int) := by omega
      obtain ⟨bb, off, rfl, hcell⟩ := row_file HR.out k hlt
      obtain ⟨d0, d1⟩ := hcell k hlt
      have d0 := cell_later HW.out.1 d0
      have d1 := cell_later HW.out.1 d1
      have e0 := cell_c HW.out.2 0
      have e1 := cell_c HW.out.2 1
      have HT1 := Lib.hid (HT.out k hlt)
      obtain ⟨⟨p, q⟩, hp⟩ : ∃ x, fAt l k = x := ⟨_, rfl⟩
      rw [hp] at d0 d1 HT1
      clear hcell hp
      simp at e0 e1
      dsimp only at d0 d1
      have heq := fun w => eq103 sd id p q w
      have HEQ : Hid ((sd.toList == p.toList && id.toList == q.toList) = eqF (p, q) sd id) := Lib.hid (eqK sd id p q)
      obtain ⟨D, hD⟩ : ∃ D, (sd.toList == p.toList && id.toList == q.toList) = D := ⟨_, rfl⟩
      rw [hD] at heq HEQ
      cases D with
      | true =>
        have HR1 := Lib.hid (HALL.out (k + 1) hlt (by rw [HT1.out, ← HEQ.out]; simp))
        go_wp2_with fail
        go_quiet (fail)
        rename Nat => nq
        go_wp2_with fail
        go_ret
        exact ⟨_, rfl, by rw [HR1.out]; simp, dNb HW.out.1 nq⟩
      | false =>
        have HF1 : Hid (inF (l.take (k + 1)) sd id = false) := Lib.hid (by rw [HT1.out, ← HEQ.out, HF.out]; rfl)
        go_wp2_with fail
        go_quiet (fail)
        rename Nat => nq
        have HX : Hid ((wr.drewN nq).heap[w.heap.size]? = some (.cells #[.string sd, .string id] 103)) := Lib.hid HW.out.2
        go_wp2_with fail
        go_roundw
        case rel => exact ⟨k + 1, by omega, by go_num, Lib.hid ⟨dNb HW.out.1 nq, HX.out⟩, HF1⟩
        case measure => simp [intOf]; omega
    · obtain rfl : k = l.length := by omega
      have kI : ¬ (l.length : Int) < (l.length : Int) := by omega
      go_wp2_with fail
      go_ret
      exact ⟨-1, rfl, by rw [← HN.out, HF.out]; simp, HW.out.1⟩
set_option maxRecDepth 1000000 in
set_option maxHeartbeats 3200000 in
theorem contains_any {A : Option Addr} {c : Nat} {l : List (ByteArray × ByteArray)} {w : World} (hr : IsRow w A (l.flatMap fileF)) (sd id : ByteArray) (hn : l.length ≤ 1000000) : Calls Tryz.prog 59 #[.slice A l.length c, .agg #[.string sd, .string id]] w (BoPost (inF l sd id) w) := by
  have HB := Lib.hid (bx w (.cells #[.string sd, .string id] 103))
  have HX := Lib.hid (index_any (c := c) (hr.below HB.out) sd id hn)
  unfold IdxPost at HX
  unfold BoPost
  clear hr
  generalize inF l sd id = R at *
  go_enter Tryz.func59, Tryz.ntmps59
  go_wp2_with fail
  refine (HX.out).mono ?_
  rintro e w1 ⟨i, rfl, hi, hb⟩
  have HB1 := Lib.hid (HB.out.trans (hb.mono HB.out.size))
  cases R with
  | true =>
    have h0 : (0 : Int) ≤ i := hi.2 rfl
    clear hi hb
    go_wp2_with fail
    go_ret
    exact ⟨rfl, HB1.out⟩
  | false =>
    have h0 : ¬ (0 : Int) ≤ i := fun h => by have := hi.1 h; cases this
    have HD := Lib.hid (decide_eq_false h0)
    clear hi hb
    go_wp2_with fail
    go_ret
    exact ⟨by show Ending.returned (.bool (decide ((0 : Int) ≤ i))) = _; rw [HD.out], HB1.out⟩
def isR (id : ByteArray) (x : Rej) : Bool := decide (x.2.1 = id)
set_option maxRecDepth 1000000 in
set_option maxHeartbeats 3200000 in
theorem keep1_any (g : Nat) (r x : Rej) (w : World) (h : w.heap[g]? = some (.cells #[.int .i64 r.1, .string r.2.1, .int .i64 r.2.2] 65)) : Calls Tryz.prog 154 #[.agg #[.int .i64 x.1, .string x.2.1, .int .i64 x.2.2], .pointer (some ⟨g, 0, none⟩)] w (BoPost (isR r.2.1 x) w) := by
  obtain ⟨a, p, e⟩ := r
  obtain ⟨b, q, f⟩ := x
  unfold BoPost isR
  dsimp only at h ⊢
  have hb := bx w (.cells #[.int .i64 b, .string q, .int .i64 f] 65)
  have c1 := cell_later hb (show w.cell? ⟨g, 1, none⟩ = some (.string p) from cell_c h 1)
  have hg : g < w.heap.size := (Array.getElem?_eq_some_iff.1 h).1
  have HB := Lib.hid hb
  clear h hb
  by_cases hq : q = p
  · have hd := decide_eq_true hq
    have q1 := (str_eq hq).1
    rw [hd]
    clear hq hd
    go_enter Tryz.func154, Tryz.ntmps154
    go_wp2_with fail
    go_ret
    exact ⟨rfl, HB.out⟩
  · have hd := decide_eq_false hq
    have q1 := (str_ne hq).1
    rw [hd]
    clear hq hd
    go_enter Tryz.func154, Tryz.ntmps154
    go_wp2_with fail
    go_ret
    exact ⟨rfl, HB.out⟩
set_option maxRecDepth 1000000 in
set_option maxHeartbeats 3200000 in
theorem settle1_any (g : Nat) (id : ByteArray) (x : Rej) (w : World) (h : w.heap[g]? = some (.cells #[.string id] 9)) : Calls Tryz.prog 156 #[.agg #[.int .i64 x.1, .string x.2.1, .int .i64 x.2.2], .pointer (some ⟨g, 0, none⟩)] w (BoPost (isR id x) w) := by
  obtain ⟨b, q, f⟩ := x
  unfold BoPost isR
  dsimp only at h ⊢
  have hb := bx w (.cells #[.int .i64 b, .string q, .int .i64 f] 65)
  have c1 := cell_later hb (show w.cell? ⟨g, 0, none⟩ = some (.string id) from cell_c h 0)
  have hg : g < w.heap.size := (Array.getElem?_eq_some_iff.1 h).1
  have HB := Lib.hid hb
  clear h hb
  by_cases hq : q = id
  · have hd := decide_eq_true hq
    have q1 := (str_eq hq).1
    rw [hd]
    clear hq hd
    go_enter Tryz.func156, Tryz.ntmps156
    go_wp2_with fail
    go_ret
    exact ⟨rfl, HB.out⟩
  · have hd := decide_eq_false hq
    have q1 := (str_ne hq).1
    rw [hd]
    clear hq hd
    go_enter Tryz.func156, Tryz.ntmps156
    go_wp2_with fail
    go_ret
    exact ⟨rfl, HB.out⟩
end Go.Proofs.YthflmdgfenojcaaGreatDoor
namespace Go.Proofs.YthflmdgfenojcaaGreatDoor
set_option linter.unusedVariables false
open Go.RowKit Go.Sort Go.Maps
def FndPost (id : ByteArray) (l : List Rej) (w : World) (e : Ending) (w' : World) : Prop :=
  ∃ i : Int, e = .returned (.int .i64 i) ∧ ((i = -1 ∧ ∀ j, j < l.length → isR id (rejAt l j) = false) ∨ ∃ k : Nat, k < l.length ∧ i = (k : Int) ∧ isR id (rejAt l k) = true ∧ ∀ j, j < k → isR id (rejAt l j) = false) ∧ Below w.heap.size w w'
set_option maxRecDepth 1000000 in
set_option maxHeartbeats 3200000 in
theorem idxf154_any (g : Nat) (O : Obj) (id : ByteArray) (HQ : ∀ W, W.heap[g]? = some O → ∀ x : Rej, Calls Tryz.prog 154 #[.agg #[.int .i64 x.1, .string x.2.1, .int .i64 x.2.2], .pointer (some ⟨g, 0, none⟩)] W (BoPost (isR id x) W))
    {A : Option Addr} {c : Nat} {l : List Rej} {w : World} (hr : IsRow w A (l.flatMap rejF)) (hO : w.heap[g]? = some O) (hn : l.length ≤ 1000000) : Calls Tryz.prog 153 #[.slice A l.length c, .func (.func 154) #[] #[.pointer (some ⟨g, 0, none⟩)]] w (FndPost id l w) := by
  have HR := Lib.hid hr
  have HK := Lib.hid hO
  have HQ := Lib.hid HQ
  unfold BoPost at HQ
  clear hr hO
  go_enter Tryz.func153, Tryz.ntmps153
  go_wp2_with fail
  go_loopw [5, 8] (fun _ i wr => ∃ k : Nat, k ≤ l.length ∧ i = .int .i64 k ∧ Hid (Below w.heap.size w wr) ∧ Hid (∀ j, j < k → isR id (rejAt l j) = false)) (fun _ i _ => l.length - (intOf i).toNat)
  case atStart => exact ⟨0, Nat.zero_le _, rfl, Lib.hid (Below.refl _ _), Lib.hid (fun j hj => absurd hj (Nat.not_lt_zero _))⟩
  case round =>
    obtain ⟨k, hk, rfl, HW, HF⟩ := hrel
    by_cases hlt : k < l.length
    · have kI : (k : Int) < (l.length : Int) := by omega
      have k0 : (0 : Int) ≤ (k : Int) := by omega
      obtain ⟨bb, off, rfl, hcell⟩ := row_rej HR.out k hlt
      obtain ⟨d0, d1, d2⟩ := hcell k hlt
      have d0 := cell_later HW.out d0
      have d1 := cell_later HW.out d1
      have d2 := cell_later HW.out d2
      have HC := Lib.hid (HQ.out wr (blk_later HK.out HW.out) (rejAt l k))
      obtain ⟨⟨x, y, z⟩, hp⟩ : ∃ x, rejAt l k = x := ⟨_, rfl⟩
      have HP := Lib.hid hp
      rw [hp] at d0 d1 d2 HC
      clear hcell hp
      dsimp only at d0 d1 d2 HC
      obtain ⟨D, hD⟩ : ∃ D, isR id (x, y, z) = D := ⟨_, rfl⟩
      rw [hD] at HC
      have HD := Lib.hid hD
      clear hD
      go_wp2_with fail
      first | refine (HC.out).mono ?_ | (go_at_call 154; refine (HC.out).mono ?_)
      rintro e w1 ⟨rfl, hb⟩
      have HW1 := Lib.hid (HW.out.trans (hb.mono HW.out.size))
      clear hb
      cases D with
      | true =>
        go_wp2_with fail
        go_ret
        exact ⟨_, rfl, .inr ⟨k, hlt, rfl, by rw [HP.out]; exact HD.out, HF.out⟩, HW1.out⟩
      | false =>
        have HF1 : Hid (∀ j, j < k + 1 → isR id (rejAt l j) = false) := Lib.hid (fun j hj => by
          rcases Nat.lt_or_ge j k with q | q
          · exact HF.out j q
          · obtain rfl : j = k := by omega
            rw [HP.out]; exact HD.out)
        go_wp2_with fail
        go_roundw
        case rel => exact ⟨k + 1, by omega, by go_num, HW1, HF1⟩
        case measure => simp [intOf]; omega
    · obtain rfl : k = l.length := by omega
      have kI : ¬ (l.length : Int) < (l.length : Int) := by omega
      go_wp2_with fail
      go_ret
      exact ⟨-1, rfl, .inl ⟨rfl, HF.out⟩, HW.out⟩
set_option maxRecDepth 1000000 in
set_option maxHeartbeats 3200000 in
theorem idxf156_any (g : Nat) (O : Obj) (id : ByteArray) (HQ : ∀ W, W.heap[g]? = some O → ∀ x : Rej, Calls Tryz.prog 156 #[.agg #[.int .i64 x.1, .string x.2.1, .int .i64 x.2.2], .pointer (some ⟨g, 0, none⟩)] W (BoPost (isR id x) W))
    {A : Option Addr} {c : Nat} {l : List Rej} {w : World} (hr : IsRow w A (l.flatMap rejF)) (hO : w.heap[g]? = some O) (hn : l.length ≤ 1000000) : Calls Tryz.prog 153 #[.slice A l.length c, .func (.func 156) #[] #[.pointer (some ⟨g, 0, none⟩)]] w (FndPost id l w) := by
  have HR := Lib.hid hr
  have HK := Lib.hid hO
  have HQ := Lib.hid HQ
  unfold BoPost at HQ
  clear hr hO
  go_enter Tryz.func153, Tryz.ntmps153
  go_wp2_with fail
  go_loopw [5, 8] (fun _ i wr => ∃ k : Nat, k ≤ l.length ∧ i = .int .i64 k ∧ Hid (Below w.heap.size w wr) ∧ Hid (∀ j, j < k → isR id (rejAt l j) = false)) (fun _ i _ => l.length - (intOf i).toNat)
  case atStart => exact ⟨0, Nat.zero_le _, rfl, Lib.hid (Below.refl _ _), Lib.hid (fun j hj => absurd hj (Nat.not_lt_zero _))⟩
  case round =>
    obtain ⟨k, hk, rfl, HW, HF⟩ := hrel
    by_cases hlt : k < l.length
    · have kI : (k : Int) < (l.length : Int) := by omega
      have k0 : (0 : Int) ≤ (k : Int) := by omega
      obtain ⟨bb, off, rfl, hcell⟩ := row_rej HR.out k hlt
      obtain ⟨d0, d1, d2⟩ := hcell k hlt
      have d0 := cell_later HW.out d0
      have d1 := cell_later HW.out d1
      have d2 := cell_later HW.out d2
      have HC := Lib.hid (HQ.out wr (blk_later HK.out HW.out) (rejAt l k))
      obtain ⟨⟨x, y, z⟩, hp⟩ : ∃ x, rejAt l k = x := ⟨_, rfl⟩
      have HP := Lib.hid hp
      rw [hp] at d0 d1 d2 HC
      clear hcell hp
      dsimp only at d0 d1 d2 HC
      obtain ⟨D, hD⟩ : ∃ D, isR id (x, y, z) = D := ⟨_, rfl⟩
      rw [hD] at HC
      have HD := Lib.hid hD
      clear hD
      go_wp2_with fail
      first | refine (HC.out).mono ?_ | (go_at_call 156; refine (HC.out).mono ?_)
      rintro e w1 ⟨rfl, hb⟩
      have HW1 := Lib.hid (HW.out.trans (hb.mono HW.out.size))
      clear hb
      cases D with
      | true =>
        go_wp2_with fail
        go_ret
        exact ⟨_, rfl, .inr ⟨k, hlt, rfl, by rw [HP.out]; exact HD.out, HF.out⟩, HW1.out⟩
      | false =>
        have HF1 : Hid (∀ j, j < k + 1 → isR id (rejAt l j) = false) := Lib.hid (fun j hj => by
          rcases Nat.lt_or_ge j k with q | q
          · exact HF.out j q
          · obtain rfl : j = k := by omega
            rw [HP.out]; exact HD.out)
        go_wp2_with fail
        go_roundw
        case rel => exact ⟨k + 1, by omega, by go_num, HW1, HF1⟩
        case measure => simp [intOf]; omega
    · obtain rfl : k = l.length := by omega
      have kI : ¬ (l.length : Int) < (l.length : Int) := by omega
      go_wp2_with fail
      go_ret
      exact ⟨-1, rfl, .inl ⟨rfl, HF.out⟩, HW.out⟩
end Go.Proofs.YthflmdgfenojcaaGreatDoor
namespace Go.Proofs.YthflmdgfenojcaaGreatDoor
set_option linter.unusedVariables false
open Go.RowKit Go.Sort Go.Maps
theorem heap_setCells {b : Nat} {T : TypeId} : ∀ (vs : List Value) (o : Nat) (w : World) (C : Array Value), w.heap[b]? = some (.cells C T) →
    ∃ C', (w.setCells b o vs).heap[b]? = some (.cells C' T) ∧ C'.size = C.size ∧ (∀ i, i < C.size → C'[i]? = if o ≤ i ∧ i < o + vs.length then vs[i - o]? else C[i]?)
  | [], o, w, C, h => ⟨C, h, rfl, fun i hi => by rw [if_neg (by simp)]⟩
  | v :: vs, o, w, C, h => by
    obtain ⟨C', h1, h2, h3⟩ := heap_setCells vs (o + 1) (w.setCell ⟨b, o, none⟩ v) (C.setIfInBounds o v) (heap_set1 h o v)
    refine ⟨C', h1, by rw [h2]; simp, fun i hi => ?_⟩
    rw [h3 i (by simpa using hi), List.length_cons]
    by_cases q : o + 1 ≤ i ∧ i < o + 1 + vs.length
    · rw [if_pos q, if_pos (by omega), show i - o = (i - (o + 1)) + 1 by omega, List.getElem?_cons_succ]
    · rw [if_neg q]
      by_cases q2 : i = o
      · subst q2
        rw [if_pos (by omega), Nat.sub_self, List.getElem?_cons_zero, Array.getElem?_setIfInBounds_self_of_lt hi]
      · rw [if_neg (by omega), Array.getElem?_setIfInBounds_ne (by omega)]
theorem KeptE.set1 {F : Nat → Prop} {w w' : World} (h : KeptE F w w') {p : Addr} (hp : F p.block) (v : Value) : KeptE F w (w'.setCell p v) :=
  ⟨h.os, h.tape, h.output, by have := h.size; simpa [World.setCell] using this, fun k hk hf => (Below.heap_setCell _ _ _ _ (fun e => hf (by rw [e]; exact hp))).trans (h.block k hk hf)⟩
theorem KeptE.sets {F : Nat → Prop} {w : World} (b : Nat) (hb : F b) : ∀ (vs : List Value) (o : Nat) {w' : World}, KeptE F w w' → KeptE F w (w'.setCells b o vs)
  | [], _, _, h => h
  | v :: vs, o, _, h => KeptE.sets b hb vs (o + 1) (h.set1 (p := ⟨b, o, none⟩) hb v)
theorem KeptE.grown {g : Nat} {w w' : World} (h : KeptE (fun k => k = g) w w') : w.grownBy w' (some g) :=
  ⟨h.os, h.tape, h.output, h.size, fun k hk hne => h.block k hk (fun e => hne (by rw [e]))⟩
def zc3 : Array Value := #[.int .i64 0, .string ⟨#[]⟩, .int .i64 0]
theorem zc3_at (i : Nat) : (zc3[i % 3]!).oneCell' = true := by
  have h : i % 3 = 0 ∨ i % 3 = 1 ∨ i % 3 = 2 := by omega
  rcases h with h | h | h <;> rw [h] <;> simp [zc3, Value.oneCell']
theorem clear3 (b o c d : Nat) (ty : TypeId) (w : World) (hd : d ≠ 0) (hc : ∀ j, j < d * 3 → (w.cell? ⟨b, o + j, none⟩).isSome = true) (hf : ∀ j, w.frozen? ⟨b, o + j, none⟩ = false) :
    ∃ vs : List Value, vs.length = d * 3 ∧ (Builtin.clear_ #[35] ty #[.slice (some ⟨b, o, none⟩) d c]).run Tryz.prog w = .ok (.tuple #[]) (w.setCells b o vs) := by
  obtain ⟨d, rfl⟩ : ∃ k, d = k + 1 := ⟨d - 1, by omega⟩
  have hl : (Builtin.zeroCells zc3 (d + 1)).toList.length = (d + 1) * 3 := by simp [Builtin.zeroCells, zc3]
  refine ⟨(Builtin.zeroCells zc3 (d + 1)).toList, hl, ?_⟩
  have hst := run_storeCells_cells (P := Tryz.prog) b o (Builtin.zeroCells zc3 (d + 1)).toList 0 w (by rw [hl]; simpa using hc) (fun j _ => by simp [hf j]) (by
    intro v hv
    simp only [Builtin.zeroCells, Array.toList_map, List.mem_map] at hv
    obtain ⟨i, _, rfl⟩ := hv
    exact zc3_at i)
  simp only [Nat.add_zero] at hst
  unfold zc3 at hst ⊢
  simp [Builtin.clear_, run_underlying Tryz.underlying35, Value.cells, hst]
def RjC (C : Array Value) (m : List Rej) : Prop := ∀ k, k < m.length → C[k * 3]? = some (.int .i64 (rejAt m k).1) ∧ C[k * 3 + 1]? = some (.string (rejAt m k).2.1) ∧ C[k * 3 + 2]? = some (.int .i64 (rejAt m k).2.2)
theorem rj_of_own {w : World} {B g n cap : Nat} {l : List Rej} (h : w.ownsRow B 65 3 (.slice (some ⟨g, 0, none⟩) n cap) l.length (l.flatMap rejF)) :
    n = l.length ∧ B ≤ g ∧ n ≤ cap ∧ cap ≤ maxLen ∧ ∃ C, w.heap[g]? = some (.cells C 65) ∧ C.size = cap * 3 ∧ RjC C l := by
  rcases h.2 with ⟨q, _⟩ | ⟨g', cap', cur, q1, q2, q3, q4, q5, q6, q7⟩
  · cases q
  · injection q1 with e1 e2 e3
    injection e1 with e1
    injection e1 with e1
    subst e1 e2 e3
    refine ⟨rfl, q2, q4, q5, cur, q3, q6, fun k hk => ?_⟩
    have hat : ∀ j, j < 3 → cur[k * 3 + j]? = (rejF (rejAt l k))[j]? := fun j hj => by
      have h1 := flat_cells rejF 3 (fun _ => rfl) l k hk j hj
      rw [rejAt_get l k hk, ← h1, ← q7, List.getElem?_take, if_pos (by omega)]
      simp
    exact ⟨hat 0 (by omega), hat 1 (by omega), hat 2 (by omega)⟩
theorem own_of_rj {w : World} {B g cap : Nat} {C : Array Value} {l : List Rej} (h : w.heap[g]? = some (.cells C 65)) (hz : C.size = cap * 3) (hl : l.length ≤ cap) (hm : cap ≤ maxLen) (hB : B ≤ g) (hc : RjC C l) :
    w.ownsRow B 65 3 (.slice (some ⟨g, 0, none⟩) l.length cap) l.length (l.flatMap rejF) := by
  refine ⟨rows_len3 l, .inr ⟨g, cap, C, rfl, hB, h, hl, hm, hz, ?_⟩⟩
  apply List.ext_getElem?
  intro i
  rcases Nat.lt_or_ge i (l.length * 3) with q | q
  · rw [List.getElem?_take, if_pos q]
    have hk : i / 3 < l.length := by omega
    have e : i = i / 3 * 3 + i % 3 := by omega
    obtain ⟨c0, c1, c2⟩ := hc (i / 3) hk
    have h1 := flat_cells rejF 3 (fun _ => rfl) l (i / 3) hk (i % 3) (by omega)
    rw [← e, ← rejAt_get l _ hk] at h1
    rw [h1]
    have hm : i % 3 = 0 ∨ i % 3 = 1 ∨ i % 3 = 2 := by omega
    have e2 : C.toList[i]? = C[i / 3 * 3 + i % 3]? := by rw [← e]; simp
    rw [e2]
    rcases hm with m | m | m <;> rw [m]
    · exact c0
    · exact c1
    · exact c2
  · rw [List.getElem?_eq_none (by rw [List.length_take]; omega), List.getElem?_eq_none (by rw [rows_len3]; omega)]
theorem RjC.mono {C C' : Array Value} {m : List Rej} {n : Nat} (h : RjC C m) (he : ∀ i, i < n * 3 → C'[i]? = C[i]?) (hn : m.length ≤ n) : RjC C' m := fun k hk => by
  obtain ⟨a, b, c⟩ := h k hk
  exact ⟨(he _ (by omega)).trans a, (he _ (by omega)).trans b, (he _ (by omega)).trans c⟩
theorem RjC.take {C : Array Value} {m : List Rej} (h : RjC C m) (n : Nat) : RjC C (m.take n) := fun k hk => by
  rw [List.length_take] at hk
  have e : rejAt (m.take n) k = rejAt m k := by rw [rejAt_get _ _ (by rw [List.length_take]; omega), rejAt_get _ _ (by omega), List.getElem_take]
  rw [e]; exact h k (by omega)
def put3 (C : Array Value) (k : Nat) (r : Rej) : Array Value := ((C.setIfInBounds (k * 3) (.int .i64 r.1)).setIfInBounds (k * 3 + 1) (.string r.2.1)).setIfInBounds (k * 3 + 2) (.int .i64 r.2.2)
theorem put3_size (C : Array Value) (k : Nat) (r : Rej) : (put3 C k r).size = C.size := by simp [put3]
theorem RjC.put {C : Array Value} {m : List Rej} (h : RjC C m) (k : Nat) (hk : k < m.length) (r : Rej) : RjC (put3 C k r) (m.set k r) := fun j hj => by
  rw [List.length_set] at hj
  obtain ⟨a, b, c⟩ := h j hj
  obtain ⟨a', b', c'⟩ := h k hk
  have s2 := (Array.getElem?_eq_some_iff.1 c').1
  unfold put3
  by_cases q : j = k
  · subst q
    have e : rejAt (m.set j r) j = r := by rw [rejAt_get _ _ (by simpa using hj)]; simp
    rw [e]
    refine ⟨?_, ?_, ?_⟩
    · rw [Array.getElem?_setIfInBounds_ne (by omega), Array.getElem?_setIfInBounds_ne (by omega), Array.getElem?_setIfInBounds_self_of_lt (by omega)]
    · rw [Array.getElem?_setIfInBounds_ne (by omega), Array.getElem?_setIfInBounds_self_of_lt (by simp; omega)]
    · rw [Array.getElem?_setIfInBounds_self_of_lt (by simp; omega)]
  · have e : rejAt (m.set k r) j = rejAt m j := by rw [rejAt_get _ _ (by simpa using hj), rejAt_get _ _ hj, List.getElem_set_ne (fun q' => q q'.symm)]
    rw [e]
    refine ⟨?_, ?_, ?_⟩
    · rw [Array.getElem?_setIfInBounds_ne (by omega), Array.getElem?_setIfInBounds_ne (by omega), Array.getElem?_setIfInBounds_ne (by omega)]; exact a
    · rw [Array.getElem?_setIfInBounds_ne (by omega), Array.getElem?_setIfInBounds_ne (by omega), Array.getElem?_setIfInBounds_ne (by omega)]; exact b
    · rw [Array.getElem?_setIfInBounds_ne (by omega), Array.getElem?_setIfInBounds_ne (by omega), Array.getElem?_setIfInBounds_ne (by omega)]; exact c
theorem heap_put3 {w : World} {b : Nat} {C : Array Value} {T : TypeId} (h : w.heap[b]? = some (.cells C T)) (k : Nat) (r : Rej) :
    (((w.setCell ⟨b, k * 3, none⟩ (.int .i64 r.1)).setCell ⟨b, k * 3 + 1, none⟩ (.string r.2.1)).setCell ⟨b, k * 3 + 2, none⟩ (.int .i64 r.2.2)).heap[b]? = some (.cells (put3 C k r) T) :=
  heap_set1 (heap_set1 (heap_set1 h _ _) _ _) _ _
theorem delR_none {id : ByteArray} {l : List Rej} (h : ∀ j, j < l.length → isR id (rejAt l j) = false) : delR id l = l := by
  unfold delR
  rw [List.filter_eq_self]
  intro x hx
  obtain ⟨j, hj, rfl⟩ := List.getElem_of_mem hx
  have := h j hj
  rw [rejAt_get l j hj] at this
  unfold isR at this
  simp at this
  simp [this]
theorem delR_succ (id : ByteArray) (l : List Rej) (j : Nat) (h : j < l.length) : delR id (l.take (j + 1)) = delR id (l.take j) ++ (if isR id (rejAt l j) = true then [] else [rejAt l j]) := by
  unfold delR
  rw [List.take_succ_eq_append_getElem h, List.filter_append, rejAt_get l j h]
  congr 1
  unfold isR
  by_cases q : (l[j]).2.1 = id <;> simp [q]
theorem delR_first {id : ByteArray} {l : List Rej} {k : Nat} (hk : k < l.length) (h0 : ∀ j, j < k → isR id (rejAt l j) = false) (h1 : isR id (rejAt l k) = true) : delR id (l.take (k + 1)) = l.take k := by
  rw [delR_succ id l k hk, if_pos h1, List.append_nil]
  refine delR_none (fun j hj => ?_)
  rw [List.length_take] at hj
  have e : rejAt (l.take k) j = rejAt l j := by rw [rejAt_get _ _ (by rw [List.length_take]; omega), rejAt_get _ _ (by omega), List.getElem_take]
  rw [e]; exact h0 j (by omega)
/-- The state of the loop: j elements looked at, n kept ahead, the row m. -/
structure DfS (id : ByteArray) (l : List Rej) (g cap : Nat) (gc : Nat) (O : Obj) (w : World) (n j : Nat) (m : List Rej) (W : World) : Prop where
  c : ∃ C, W.heap[g]? = some (.cells C 65) ∧ C.size = cap * 3 ∧ RjC C m
  ml : m.length = l.length
  nj : n < j
  tk : m.take n = delR id (l.take j)
  dr : m.drop j = l.drop j
  k : KeptE (fun k => k = g) w W
  o : W.heap[gc]? = some O
section
variable {id : ByteArray} {l m : List Rej} {g cap gc n j : Nat} {O : Obj} {w W W' : World}
theorem DfS.at_ (h : DfS id l g cap gc O w n j m W) (hj : j < l.length) : rejAt m j = rejAt l j := by
  rw [rejAt_get _ _ (by rw [h.ml]; exact hj), rejAt_get _ _ hj]
  have e := congrArg (fun x => x[0]?) h.dr
  simpa [List.getElem?_drop, List.getElem?_eq_getElem hj, List.getElem?_eq_getElem (show j < m.length by rw [h.ml]; exact hj)] using e
theorem DfS.below (h : DfS id l g cap gc O w n j m W) (hb : Below W.heap.size W W') : DfS id l g cap gc O w n j m W' := by
  obtain ⟨C, c1, c2, c3⟩ := h.c
  exact ⟨⟨C, blk_later c1 hb, c2, c3⟩, h.ml, h.nj, h.tk, h.dr, h.k.trans (KeptE.of_below (F := fun _ => False) hb) (fun _ q => q.elim), blk_later h.o hb⟩
theorem DfS.skip (h : DfS id l g cap gc O w n j m W) (hj : j < l.length) (hd : isR id (rejAt l j) = true) : DfS id l g cap gc O w n (j + 1) m W :=
  ⟨h.c, h.ml, by have := h.nj; omega, by rw [delR_succ id l j hj, if_pos hd, List.append_nil]; exact h.tk, by
    have e := congrArg (List.drop 1) h.dr
    simpa [List.drop_drop, Nat.add_comm] using e, h.k, h.o⟩
theorem DfS.cells (h : DfS id l g cap gc O w n j m W) (i : Nat) (hi : i < l.length) : W.cell? ⟨g, i * 3, none⟩ = some (.int .i64 (rejAt m i).1) ∧ W.cell? ⟨g, i * 3 + 1, none⟩ = some (.string (rejAt m i).2.1) ∧ W.cell? ⟨g, i * 3 + 2, none⟩ = some (.int .i64 (rejAt m i).2.2) ∧
    W.frozen? ⟨g, i * 3, none⟩ = false ∧ W.frozen? ⟨g, i * 3 + 1, none⟩ = false ∧ W.frozen? ⟨g, i * 3 + 2, none⟩ = false := by
  obtain ⟨C, c1, c2, c3⟩ := h.c
  obtain ⟨a, b, c⟩ := c3 i (by rw [h.ml]; exact hi)
  exact ⟨(cell_c c1 _).trans a, (cell_c c1 _).trans b, (cell_c c1 _).trans c, cell_f c1 _, cell_f c1 _, cell_f c1 _⟩
theorem DfS.keep (h : DfS id l g cap gc O w n j m W) (hj : j < l.length) (hd : isR id (rejAt l j) = false) (hne : gc ≠ g) (r : Rej) (hr : rejAt l j = r) :
    DfS id l g cap gc O w (n + 1) (j + 1) (m.set n r) (((W.setCell ⟨g, n * 3, none⟩ (.int .i64 r.1)).setCell ⟨g, n * 3 + 1, none⟩ (.string r.2.1)).setCell ⟨g, n * 3 + 2, none⟩ (.int .i64 r.2.2)) := by
  obtain ⟨C, c1, c2, c3⟩ := h.c
  have hnj := h.nj
  have hml := h.ml
  refine ⟨⟨_, heap_put3 c1 n r, by rw [put3_size]; exact c2, c3.put n (by omega) r⟩, by rw [List.length_set]; exact hml, by omega, ?_, ?_, ((h.k.set1 (p := ⟨g, n * 3, none⟩) rfl _).set1 (p := ⟨g, n * 3 + 1, none⟩) rfl _).set1 (p := ⟨g, n * 3 + 2, none⟩) rfl _, ?_⟩
  · rw [delR_succ id l j hj, if_neg (by rw [hd]; decide), hr, ← h.tk]
    rw [List.take_succ_eq_append_getElem (by rw [List.length_set]; omega)]
    congr 1
    · rw [List.take_set_of_le (Nat.le_refl _)]
    · simp
  · rw [List.drop_set_of_lt (by omega)]
    have e := congrArg (List.drop 1) h.dr
    simpa [List.drop_drop, Nat.add_comm] using e
  · have hx : ∀ (W : World) (p : Addr) (v : Value), p.block = g → W.heap[gc]? = some O → (W.setCell p v).heap[gc]? = some O := fun W p v hp ho => (Below.heap_setCell _ _ _ _ (by rw [hp]; exact hne)).trans ho
    exact hx _ _ _ rfl (hx _ _ _ rfl (hx _ _ _ rfl h.o))
theorem DfS.done {B : Nat} (h : DfS id l g cap gc O w n l.length m W) (hB : B ≤ g) (hc : l.length ≤ cap) (hm : cap ≤ maxLen) (vs : List Value) :
    (W.setCells g (n * 3) vs).ownsRow B 65 3 (.slice (some ⟨g, 0, none⟩) (delR id l).length cap) (delR id l).length ((delR id l).flatMap rejF) ∧ n = (delR id l).length ∧ w.grownBy (W.setCells g (n * 3) vs) (some g) := by
  obtain ⟨C, c1, c2, c3⟩ := h.c
  have e : m.take n = delR id l := by rw [h.tk, List.take_length]
  have hn : n = (delR id l).length := by rw [← e, List.length_take, h.ml]; have := h.nj; omega
  obtain ⟨C', d1, d2, d3⟩ := heap_setCells vs (n * 3) W C c1
  have hnj := h.nj
  refine ⟨?_, hn, (KeptE.sets (F := fun k => k = g) g rfl vs (n * 3) h.k).grown⟩
  rw [← e]
  refine own_of_rj d1 (by rw [d2]; exact c2) (by rw [List.length_take, h.ml]; omega) hm hB ((c3.take n).mono (n := n) (fun i hi => ?_) (by rw [List.length_take]; omega))
  rw [d3 i (by omega), if_neg (by omega)]
end
def DelPost (B : Nat) (v : Value) (id : ByteArray) (l : List Rej) (w : World) (e : Ending) (w' : World) : Prop :=
  ∃ u, e = .returned u ∧ w'.ownsRow B 65 3 u (delR id l).length ((delR id l).flatMap rejF) ∧ w.grownBy w' v.ownBlock ∧ u.ownBlock = v.ownBlock
theorem grown_of_below {w w' : World} (h : Below w.heap.size w w') (o : Option Nat) : w.grownBy w' o := ⟨h.os, h.tape, h.output, h.size, fun k hk _ => h.block k hk⟩
set_option maxRecDepth 1000000 in
set_option maxHeartbeats 6400000 in
theorem delf_any (gc B : Nat) (id : ByteArray) {v : Value} {l : List Rej} {w : World} (hv : w.ownsRow B 65 3 v l.length (l.flatMap rejF)) (hO : w.heap[gc]? = some (.cells #[.string id] 9)) (hn : l.length ≤ 1000000) :
    Calls Tryz.prog 155 #[v, .func (.func 156) #[] #[.pointer (some ⟨gc, 0, none⟩)]] w (DelPost B v id l w) := by
  have HQ := Lib.hid (fun W h x => settle1_any gc id x W h)
  unfold BoPost at HQ
  obtain ⟨A, c, rfl, hr, hc⟩ := own_form hv
  have HF := Lib.hid (idxf156_any gc (.cells #[.string id] 9) id (fun W h x => settle1_any gc id x W h) (c := c) hr hO hn)
  unfold FndPost at HF
  have HV := Lib.hid hv
  have HOO := Lib.hid hO
  clear hr hO
  go_enter Tryz.func155, Tryz.ntmps155
  go_wp2_with fail
  refine (HF.out).mono ?_
  rintro e w1 ⟨i, rfl, (⟨rfl, hno⟩ | ⟨k, hk, rfl, hk1, hk0⟩), hb⟩
  · have HB := Lib.hid hb
    have HD := Lib.hid (delR_none hno)
    clear hb hno hv
    go_wp2_with fail
    go_ret
    exact ⟨_, rfl, by rw [HD.out]; exact own_later HV.out HB.out, grown_of_below HB.out _, rfl⟩
  · have hki : ((k : Int) == -1) = false := by simp
    obtain ⟨g, cap, hg⟩ : ∃ g cap, Value.slice A l.length c = .slice (some ⟨g, 0, none⟩) l.length cap := by
      rcases hv.2 with ⟨q, h0⟩ | ⟨g, cap, cur, q, _⟩
      · omega
      · exact ⟨g, cap, q⟩
    injection hg with e1 _ e3
    subst e1 e3
    obtain ⟨_, r2, r3, r4, C, r5, r6, r7⟩ := rj_of_own hv
    have hgc : gc ≠ g := fun e => by
      have h9 := HOO.out
      rw [e, r5] at h9
      injection h9 with q
      injection q with _ q
      cases q
    have HS0 : Hid (DfS id l g c gc (.cells #[.string id] 9) w k (k + 1) l w1) := Lib.hid ⟨⟨C, blk_later r5 hb, r6, r7⟩, rfl, by omega, by rw [delR_first hk hk0 hk1], rfl, KeptE.of_below hb, blk_later HOO.out hb⟩
    have HR2 := Lib.hid r2
    have HR4 := Lib.hid r4
    clear hb r2 r4 r5 r6 r7 hk0 hk1 hv HF
    go_wp2_with fail
    go_loopw [5, 6] (fun i jv wr => ∃ (n j : Nat) (m : List Rej), j ≤ l.length ∧ i = .int .i64 n ∧ jv = .int .i64 j ∧ Hid (DfS id l g c gc (.cells #[.string id] 9) w n j m wr)) (fun _ jv _ => l.length - (intOf jv).toNat)
    case atStart => exact ⟨k, k + 1, l, by omega, rfl, by go_num, HS0⟩
    case round =>
      clear HS0
      obtain ⟨n, j, m, hj, rfl, rfl, HW⟩ := hrel
      have hnj := HW.out.nj
      by_cases hlt : j < l.length
      · have jI : (j : Int) < (l.length : Int) := by omega
        have j0 : (0 : Int) ≤ (j : Int) := by omega
        have n0 : (0 : Int) ≤ (n : Int) := by omega
        have nI : (n : Int) < (l.length : Int) := by omega
        obtain ⟨d0, d1, d2, -, -, -⟩ := HW.out.cells j hlt
        have hmj := HW.out.at_ hlt
        rw [hmj] at d0 d1 d2
        obtain ⟨⟨x, y, z⟩, hp⟩ : ∃ x, rejAt l j = x := ⟨_, rfl⟩
        have HP := Lib.hid hp
        rw [hp] at d0 d1 d2
        dsimp only at d0 d1 d2
        have HW1 := Lib.hid (HW.out.below (bx wr (.cells #[.int .i64 x, .string y, .int .i64 z] 65)))
        have HK1 := Lib.hid (heap_alloc_new wr (.cells #[.int .i64 x, .string y, .int .i64 z] 65))
        have HC := Lib.hid (HQ.out _ HW1.out.o (x, y, z))
        obtain ⟨D, hD⟩ : ∃ D, isR id (x, y, z) = D := ⟨_, rfl⟩
        rw [hD] at HC
        have HD : Hid (isR id (rejAt l j) = D) := Lib.hid (by rw [hp]; exact hD)
        clear hD hp hmj
        dsimp only at HC
        go_wp2_with fail
        refine (HC.out).mono ?_
        rintro e w2 ⟨rfl, hb⟩
        have HW2 := Lib.hid (HW1.out.below hb)
        have HK2 := Lib.hid (blk_later HK1.out hb)
        clear hb d0 d1 d2
        cases D with
        | true =>
          have HW3 := Lib.hid (HW2.out.skip hlt HD.out)
          go_wp2_with fail
          go_roundw
          case rel => exact ⟨n, j + 1, m, by omega, rfl, by go_num, HW3⟩
          case measure => simp [intOf]; omega
        | false =>
          obtain ⟨c0, c1, c2, f0, f1, f2⟩ := HW2.out.cells n (by omega)
          have x0 := cell_c HK2.out 0
          have x1 := cell_c HK2.out 1
          have x2 := cell_c HK2.out 2
          simp at x0 x1 x2
          have HW3 := Lib.hid (HW2.out.keep hlt HD.out hgc (x, y, z) HP.out)
          dsimp only at HW3
          go_wp2_with fail
          go_roundw
          case rel => exact ⟨n + 1, j + 1, _, by omega, by go_num, by go_num, HW3⟩
          case measure => simp [intOf]; omega
      · obtain rfl : j = l.length := by omega
        have jI : ¬ (l.length : Int) < (l.length : Int) := by omega
        have n0 : (0 : Int) ≤ (n : Int) := by omega
        have nI : (n : Int) ≤ (l.length : Int) := by omega
        have hx1 : ¬ c = n := by omega
        have hx2 : n ≤ c := by omega
        have hx3 : n ≤ l.length := by omega
        have lI : (l.length : Int) ≤ (c : Int) := by omega
        have nc : (n : Int) ≤ (c : Int) := by omega
        obtain ⟨C, c1, c2, c3⟩ := HW.out.c
        obtain ⟨vs, hvl, hcl⟩ := clear3 g (n * 3) (c - n) (l.length - n) 0 wr (by omega) (fun i hi => by rw [cell_c c1, Array.getElem?_eq_getElem (by omega)]; rfl) (fun i => cell_f c1 _)
        have HDN := Lib.hid (HW.out.done HR2.out r3 HR4.out vs)
        clear c1 c2 c3
        go_wp2_with fail
        go_ret
        exact ⟨.slice (some ⟨g, 0, none⟩) n c, rfl, by rw [show (Value.slice (some ⟨g, 0, none⟩) n c) = .slice (some ⟨g, 0, none⟩) (delR id l).length c from by rw [← HDN.out.2.1]]; exact HDN.out.1, HDN.out.2.2, rfl⟩
end Go.Proofs.YthflmdgfenojcaaGreatDoor
namespace Go.Proofs.YthflmdgfenojcaaGreatDoor
set_option linter.unusedVariables false
open Go.RowKit Go.Sort Go.Maps
theorem rejAt_cons (x : Rej) (l : List Rej) (j : Nat) : rejAt (x :: l) (j + 1) = rejAt l j := by unfold rejAt; simp
theorem putR_none (r : Rej) : ∀ l : List Rej, (∀ j, j < l.length → isR r.2.1 (rejAt l j) = false) → putR r l = l ++ [r]
  | [], _ => rfl
  | x :: l, h => by
    have h0 := h 0 (by simp)
    have h0 : decide (x.2.1 = r.2.1) = false := h0
    have ih := putR_none r l (fun j hj => by rw [← rejAt_cons x l j]; exact h (j + 1) (by simpa using hj))
    unfold putR
    rw [if_neg (by simpa using h0), ih]; rfl
theorem putR_at (r : Rej) : ∀ (l : List Rej) (k : Nat), k < l.length → (∀ j, j < k → isR r.2.1 (rejAt l j) = false) → isR r.2.1 (rejAt l k) = true → putR r l = l.set k r
  | x :: l, 0, _, _, h1 => by
    have h1 : decide (x.2.1 = r.2.1) = true := h1
    unfold putR
    rw [if_pos (by simpa using h1)]; rfl
  | x :: l, k + 1, hk, h0, h1 => by
    have h2 : decide (x.2.1 = r.2.1) = false := h0 0 (by omega)
    have ih := putR_at r l k (by simpa using hk) (fun j hj => by rw [← rejAt_cons x l j]; exact h0 (j + 1) (by omega)) (by rw [← rejAt_cons x l k]; exact h1)
    unfold putR
    rw [if_neg (by simpa using h2), ih]; rfl
theorem own_cap {B n : Nat} {v : Value} {xs : List Value} {w : World} (h : w.ownsRow B 65 3 v n xs) : ∃ A c, v = .slice A n c ∧ n ≤ c ∧ (0 < n → ∃ g, A = some ⟨g, 0, none⟩) := by
  rcases h.2 with ⟨rfl, rfl⟩ | ⟨g, c, cur, rfl, _, _, q, _⟩
  · exact ⟨none, 0, rfl, Nat.le_refl _, fun h => absurd h (Nat.lt_irrefl _)⟩
  · exact ⟨_, c, rfl, q, fun _ => ⟨g, rfl⟩⟩
/-- What keep and settle leave. -/
def MutPost (w0 : World) (st' : InS) (tg : List (ByteArray × Rec)) (N : Nat) (F : Nat → Prop) (b : InB) (W : World) (e : Ending) (W' : World) : Prop :=
  e = .returned (.tuple #[]) ∧ ∃ F' b', InW w0 st' tg N F' b' W' ∧ b'.x = b.x ∧ (∀ k, F' k → F k ∨ W.heap.size ≤ k) ∧ (∀ k, F k → F' k) ∧ KeptE F W W'
section
variable {w0 : World} {st : InS} {tg : List (ByteArray × Rec)} {N : Nat} {F : Nat → Prop} {b : InB} {W : World}
set_option maxRecDepth 1000000 in
set_option maxHeartbeats 6400000 in
theorem keep_skip (h : InW w0 st tg N F b W) (sd : ByteArray) (r : Rej) (h1 : sd.size ≤ maxLen) (h2 : r.2.1.size ≤ maxLen) (hs : r.2.1 = noS ∨ seenB st.good sd r.2.1 = true) :
    Calls Tryz.prog 113 #[.pointer (some ⟨b.x, 0, none⟩), .string sd, .agg #[.int .i64 r.1, .string r.2.1, .int .i64 r.2.2]] W fun e W' => e = .returned (.tuple #[]) ∧ Below W.heap.size W W' := by
  obtain ⟨i, id, er⟩ := r
  dsimp only at h2 hs ⊢
  have HW1 := Lib.hid (h.below (bx W (.cells #[.int .i64 i, .string id, .int .i64 er] 65)))
  have HB := Lib.hid (bx W (.cells #[.int .i64 i, .string id, .int .i64 er] 65))
  have HK := Lib.hid (heap_alloc_new W (.cells #[.int .i64 i, .string id, .int .i64 er] 65))
  have hl := fun n => (HW1.out.drewN n).seen sd id h1 h2
  have hl0 := HW1.out.seen sd id h1 h2
  have c2 := HW1.out.c2
  have k1 := cell_c HK.out 1
  have hx := h.xlt
  have he := empty_list id
  simp at k1
  by_cases q : id = noS
  · have q2 : emptyB id = true := by rw [q]; rfl
    rw [q2] at he
    clear hs h hl hl0 q q2
    go_enter Tryz.func113, Tryz.ntmps113
    go_wp2_with fail
    go_quiet (fail)
    rename Nat => nq
    go_wp2_with fail
    exact bodyPost_ret (results_none (by kernel_rfl) _ _ _) rfl ⟨rfl, dNb HB.out nq⟩
  · have q2 : emptyB id = false := by
      unfold emptyB
      refine decide_eq_false (fun e => q ?_)
      have : id.data.toList = [] := List.eq_nil_of_length_eq_zero e
      exact ByteArray.ext (Array.ext' (by rw [this]; rfl))
    rw [q2] at he
    have hs := hs.resolve_left q
    rw [hs] at hl hl0
    clear hs h q q2
    go_enter Tryz.func113, Tryz.ntmps113
    go_wp2_with fail
    go_quiet (fail)
    rename Nat => nq
    go_wp2_with fail
    exact bodyPost_ret (results_none (by kernel_rfl) _ _ _) rfl ⟨rfl, dNb HB.out nq⟩
theorem mut_fin {st' : InS} {tg' : List (ByteArray × Rec)} {N' : Nat} {F' : Nat → Prop} {b' : InB} {W1 W' : World} (h0 : Below W.heap.size W W1) (hi : InW w0 st' tg' N' F' b' W') (hx : b'.x = b.x) (hf : ∀ k, F' k → F k ∨ W1.heap.size ≤ k) (hm : ∀ k, F k → F' k) (hk : KeptE F W1 W') :
    MutPost w0 st' tg' N' F b W (.returned (.tuple #[])) W' :=
  ⟨rfl, F', b', hi, hx, fun k q => by rcases hf k q with q | q; exact .inl q; exact .inr (Nat.le_trans h0.size q), hm, (KeptE.of_below (F := F) h0).trans hk (fun _ q => .inl q)⟩
theorem swap_fin {W1 : World} (h0 : Below W.heap.size W W1) (h : InW w0 st tg N F b W1) (hFW : ∀ k, F k → k < W.heap.size) (sd : ByteArray) (r : Rej) {bad' : List (ByteArray × Rej)} {g cap k : Nat} {C : Array Value} (hov : b.ov sd = .slice (some ⟨g, 0, none⟩) (openOf st.bad sd).length cap)
    (r5 : W1.heap[g]? = some (.cells C 65)) (r6 : C.size = cap * 3) (r7 : RjC C (openOf st.bad sd)) (hk : k < (openOf st.bad sd).length) (hc : (openOf st.bad sd).length ≤ cap) (hm : cap ≤ maxLen) (hB : w0.heap.size ≤ g)
    (hop : openOf bad' sd = (openOf st.bad sd).set k r) (ho : ∀ d, d ≠ sd → openOf bad' d = openOf st.bad d) :
    MutPost w0 ⟨st.sds, st.fs, st.good, bad'⟩ tg (N + 1) F b W (.returned (.tuple #[])) ((((W1.setCell ⟨g, k * 3, none⟩ (.int .i64 r.1)).setCell ⟨g, k * 3 + 1, none⟩ (.string r.2.1)).setCell ⟨g, k * 3 + 2, none⟩ (.int .i64 r.2.2)).drew) := by
  have hfg : F g := h.fw sd g (by rw [hov]; rfl)
  have hk0 : KeptE (fun j => j = g) W1 (((W1.setCell ⟨g, k * 3, none⟩ (.int .i64 r.1)).setCell ⟨g, k * 3 + 1, none⟩ (.string r.2.1)).setCell ⟨g, k * 3 + 2, none⟩ (.int .i64 r.2.2)) :=
    KeptE.set1 (F := fun j => j = g) (KeptE.set1 (F := fun j => j = g) (KeptE.set1 (F := fun j => j = g) (KeptE.refl (fun j => j = g) W1) (p := ⟨g, k * 3, none⟩) rfl _) (p := ⟨g, k * 3 + 1, none⟩) rfl _) (p := ⟨g, k * 3 + 2, none⟩) rfl _
  have hl : (openOf bad' sd).length = (openOf st.bad sd).length := by rw [hop, List.length_set]
  have hu : (((W1.setCell ⟨g, k * 3, none⟩ (.int .i64 r.1)).setCell ⟨g, k * 3 + 1, none⟩ (.string r.2.1)).setCell ⟨g, k * 3 + 2, none⟩ (.int .i64 r.2.2)).ownsRow w0.heap.size 65 3 (b.ov sd) (openOf bad' sd).length ((openOf bad' sd).flatMap rejF) := by
    rw [hov, ← hl]
    exact own_of_rj (heap_put3 r5 k r) (by rw [put3_size]; exact r6) (by rw [hl]; exact hc) hm hB (by rw [hop]; exact r7.put k hk r)
  have hx := (h.replace sd bad' hl hu (by rw [hov]; exact hk0.grown) ho).below ((Below.refl _ _).drew)
  exact mut_fin h0 (hx.mono (Nat.le_succ _)) rfl (fun k q => .inl q) (fun k q => q) ((hk0.mono (fun j hj => by rw [hj]; exact hfg)).trans (KeptE.of_below (F := F) ((Below.refl _ _).drew)) (fun _ q => .inl q))
theorem cell3_x (h : InW w0 st tg N F b W) (X : Obj) : (W.alloc X).cell? ⟨b.x, 3, none⟩ = some (.map (some b.o)) := (World.cell?_alloc_lt W X ⟨b.x, 3, none⟩ h.xlt).trans h.c3
set_option maxRecDepth 1000000 in
set_option maxHeartbeats 12800000 in
theorem keep_lay (h : InW w0 st tg N F b W) (hN : N < 900000) (sd : ByteArray) (r : Rej) (h1 : sd.size ≤ maxLen) (h2 : r.2.1.size ≤ maxLen) (hs1 : r.2.1 ≠ noS) (hs2 : seenB st.good sd r.2.1 = false) (hn : (openOf st.bad sd).length ≤ 900000) :
    Calls Tryz.prog 113 #[.pointer (some ⟨b.x, 0, none⟩), .string sd, .agg #[.int .i64 r.1, .string r.2.1, .int .i64 r.2.2]] W (MutPost w0 ⟨st.sds, st.fs, st.good, putB sd r st.bad⟩ tg (N + 1) F b W) := by
  have HOP : Hid (openOf (putB sd r st.bad) sd = putR r (openOf st.bad sd)) := Lib.hid (openOf_put sd r st.bad)
  have HON : Hid (∀ d, d ≠ sd → openOf (putB sd r st.bad) d = openOf st.bad d) := Lib.hid (fun d hd => openOf_put_ne sd d r (fun e => hd e.symm) st.bad)
  have HP1 := Lib.hid (putR_none r (openOf st.bad sd))
  have HP2 := Lib.hid (putR_at r (openOf st.bad sd))
  have HRE := Lib.hid (rej_one [r])
  generalize putB sd r st.bad = bad' at *
  obtain ⟨i, id, er⟩ := r
  dsimp only at h2 hs1 hs2 HP1 HP2 ⊢
  have HW1 := Lib.hid (h.below (bx W (.cells #[.int .i64 i, .string id, .int .i64 er] 65)))
  have HB := Lib.hid (bx W (.cells #[.int .i64 i, .string id, .int .i64 er] 65))
  have HK := Lib.hid (heap_alloc_new W (.cells #[.int .i64 i, .string id, .int .i64 er] 65))
  have hl := fun n => (HW1.out.drewN n).seen sd id h1 h2
  have hl0 := HW1.out.seen sd id h1 h2
  have c2 := HW1.out.c2
  have k1 := cell_c HK.out 1
  have hx := h.xlt
  have he := empty_list id
  simp at k1
  have q2 : emptyB id = false := by
    unfold emptyB
    refine decide_eq_false (fun e => hs1 ?_)
    have : id.data.toList = [] := List.eq_nil_of_length_eq_zero e
    exact ByteArray.ext (Array.ext' (by rw [this]; rfl))
  rw [q2] at he
  rw [hs2] at hl hl0
  have HW := Lib.hid h
  clear h q2 hs1 hs2
  go_enter Tryz.func113, Tryz.ntmps113
  go_wp2_with fail
  go_quiet (fail)
  rename Nat => nq
  have HW2 := Lib.hid (HW1.out.drewN nq)
  have HB2 := Lib.hid (dNb HB.out nq)
  have HK2 : Hid (((W.alloc (.cells #[.int .i64 i, .string id, .int .i64 er] 65)).drewN nq).heap[W.heap.size]? = some (.cells #[.int .i64 i, .string id, .int .i64 er] 65)) := Lib.hid HK.out
  clear hl hl0 c2 k1
  generalize (W.alloc (.cells #[.int .i64 i, .string id, .int .i64 er] 65)).drewN nq = W2 at *
  have c3 := HW2.out.c3
  have hlo := HW2.out.opened sd h1
  obtain ⟨A, cp, hov, hcp, hA⟩ := own_cap (HW2.out.ow sd)
  have HF := Lib.hid (idxf154_any W.heap.size (.cells #[.int .i64 i, .string id, .int .i64 er] 65) id (fun V hV x => keep1_any W.heap.size (i, id, er) x V hV) (c := cp) (A := A) (l := openOf st.bad sd) (w := W2) (by
    obtain ⟨A', c', q, hr, _⟩ := own_form (HW2.out.ow sd)
    rw [hov] at q
    injection q with q
    rw [q]; exact hr) HK2.out (by omega))
  unfold FndPost at HF
  rw [hov] at hlo
  have HOV := Lib.hid hov
  clear hov
  go_wp2_with fail
  refine (HF.out).mono ?_
  rintro e w3 ⟨q, rfl, (⟨rfl, hno⟩ | ⟨k, hk, rfl, hk1, hk0⟩), hb⟩
  · have HW3 := Lib.hid (HW2.out.below hb)
    have HB3 := Lib.hid (HB2.out.trans (hb.mono HB2.out.size))
    have HK3 := Lib.hid (blk_later HK2.out hb)
    have HPR := Lib.hid (HP1.out hno)
    clear hb hno c3 hlo HF
    have c3 := HW3.out.c3
    have c3a := fun X => cell3_x HW3.out X
    have hlo := HW3.out.opened sd h1
    have hlod := (HW3.out.below ((Below.refl _ _).drew)).opened sd h1
    have hloa := fun X => (HW3.out.below (bx w3 X)).opened sd h1
    have hload := fun X => ((HW3.out.below (bx w3 X)).below ((Below.refl _ _).drew)).opened sd h1
    rw [HOV.out] at hlo hlod
    simp only [HOV.out] at hloa hload
    have k0 := cell_c HK3.out 0
    have k1 := cell_c HK3.out 1
    have k2 := cell_c HK3.out 2
    simp at k0 k1 k2
    have hwl : W.heap.size < w3.heap.size := (Array.getElem?_eq_some_iff.1 HK3.out).1
    have hbx := HW3.out.xlt
    obtain ⟨i65, HJ⟩ := info_parts mk65
    have HJ := Lib.hid HJ
    have HWA := Lib.hid ((HW3.out.below (bx w3 (.cells #[.int .i64 i, .string id, .int .i64 er] 65))).below ((Below.refl _ _).drew))
    have HOW := Lib.hid (HWA.out.ow sd)
    rw [HOV.out] at HOW
    have HRD : Hid (Reads ((w3.alloc (.cells #[.int .i64 i, .string id, .int .i64 er] 65)).drew) (w3.heap.size + 1) 3 (some ⟨w3.heap.size, 0, none⟩) 1 [.int .i64 i, .string id, .int .i64 er]) := Lib.hid
      ⟨rfl, fun _ => ⟨⟨w3.heap.size, 0, none⟩, rfl, Nat.lt_succ_self _, World.news_of_block (cs := #[.int .i64 i, .string id, .int .i64 er]) (t := 65) (fr := (0, 0)) (heap_alloc_new w3 _)⟩⟩
    have HPE : Hid (openOf bad' sd = openOf st.bad sd ++ [(i, id, er)]) := Lib.hid (HOP.out.trans HPR.out)
    have HB0 := Lib.hid (HWA.out.be.size)
    have HBA := Lib.hid ((HB3.out.trans ((bx w3 (.cells #[.int .i64 i, .string id, .int .i64 er] 65)).mono HB3.out.size)).drew)
    have HON2 : Hid ([Value.int .i64 i, .string id, .int .i64 er].all (·.oneCell') = true) := Lib.hid (by simp [Value.oneCell'])
    have HCX := Lib.hid (HWA.out.x)
    go_wp2_with fail
    go_region_law
      (refine step_append_any _ rfl (.tmp 50) (.tmp 52) 35 rfl w0.heap.size 65 i65 _ 3 32 Tryz.underlying35 HJ.out.1 HJ.out.2.1 HJ.out.2.2.1 HJ.out.2.2.2 rfl (by omega) (.slice A (openOf st.bad sd).length cp) (openOf st.bad sd).length _ rfl HOW.out _ (some ⟨w3.heap.size, 0, none⟩) 1 1 [.int .i64 i, .string id, .int .i64 er] rfl HRD.out (by intro u hu; have := List.all_eq_true.1 HON2.out u hu; simpa using this) (by unfold maxLen; omega) (by omega) HB0.out ?_
       intro u w8 hown hgrow hwh
       have HU : Hid (w8.ownsRow w0.heap.size 65 3 u (openOf bad' sd).length ((openOf bad' sd).flatMap rejF)) := Lib.hid (by rw [HPE.out, List.length_append, List.flatMap_append]; exact hown)
       have HG := Lib.hid hgrow
       have HWH := Lib.hid hwh
       obtain ⟨W', F', b', hrun, q1, q2, q3, q4, q5, q6⟩ := HWA.out.reopen (by omega) (W1 := w8) sd h1 bad' u HU.out (by rw [HOV.out]; exact HG.out) (by rw [HOV.out]; rcases HWH.out with q | q; exact .inr (.inl q); exact .inr (.inr ⟨_, q, Nat.le_refl _⟩)) HON.out
       have HFIN := Lib.hid (mut_fin HBA.out q1 q2 q3 q4 q5)
       have c38 : w8.cell? ⟨b.x, 3, none⟩ = some (.map (some b.o)) := cell_c (grown_lt (B := 0) hgrow HCX.out (fun e => own_x HWA.out HOW.out (by decide) e.symm)) 3
       clear hown hgrow hwh q1 q2 q3 q4 q5 q6)
    all_goals
      go_wp2_with fail
      exact bodyPost_ret (results_none (by kernel_rfl) _ _ _) rfl HFIN.out
  · have HW3 := Lib.hid (HW2.out.below hb)
    have HB3 := Lib.hid (HB2.out.trans (hb.mono HB2.out.size))
    have HK3 := Lib.hid (blk_later HK2.out hb)
    have HPR := Lib.hid (HP2.out k hk hk0 hk1)
    clear hb c3 hlo HF hk0 hk1
    obtain ⟨g, rfl⟩ := hA (by omega)
    have c3 := HW3.out.c3
    have hlo := HW3.out.opened sd h1
    have hlod := (HW3.out.below ((Below.refl _ _).drew)).opened sd h1
    rw [HOV.out] at hlo hlod
    have k0 := cell_c HK3.out 0
    have k1 := cell_c HK3.out 1
    have k2 := cell_c HK3.out 2
    simp at k0 k1 k2
    have hwl : W.heap.size < w3.heap.size := (Array.getElem?_eq_some_iff.1 HK3.out).1
    have kI : (k : Int) < ((openOf st.bad sd).length : Int) := by omega
    have kI0 : (0 : Int) ≤ (k : Int) := by omega
    have how := HW3.out.ow sd
    rw [HOV.out] at how
    obtain ⟨_, r2, r3, r4, C, r5, r6, r7⟩ := rj_of_own how
    obtain ⟨a0, a1, a2⟩ := r7 k hk
    have m0 := (cell_c r5 (k * 3)).trans a0
    have m1 := (cell_c r5 (k * 3 + 1)).trans a1
    have m2 := (cell_c r5 (k * 3 + 2)).trans a2
    have f0 := cell_f r5 (k * 3)
    have f1 := cell_f r5 (k * 3 + 1)
    have f2 := cell_f r5 (k * 3 + 2)
    have R5 := Lib.hid r5
    have R6 := Lib.hid r6
    have R7 := Lib.hid r7
    have R4 := Lib.hid r4
    have R2 := Lib.hid r2
    clear r2 r4 r5 r6 r7 a0 a1 a2 how
    go_wp2_with fail
    go_region
    all_goals
      go_wp2_with fail
      exact bodyPost_ret (results_none (by kernel_rfl) _ _ _) rfl (swap_fin HB3.out HW3.out (fun k q => (HW.out.fp k q).2) sd (i, id, er) HOV.out R5.out R6.out R7.out hk r3 R4.out R2.out (HOP.out.trans HPR.out) HON.out)
end
end Go.Proofs.YthflmdgfenojcaaGreatDoor
namespace Go.Proofs.YthflmdgfenojcaaGreatDoor
set_option linter.unusedVariables false
open Go.RowKit Go.Sort Go.Maps
section
variable {w0 : World} {st : InS} {tg : List (ByteArray × Rec)} {N : Nat} {F : Nat → Prop} {b : InB} {W : World}
set_option maxRecDepth 1000000 in
set_option maxHeartbeats 12800000 in
theorem settle_any (h : InW w0 st tg N F b W) (hN : N < 900000) (sd id : ByteArray) (h1 : sd.size ≤ maxLen) (hn : (openOf st.bad sd).length ≤ 900000) :
    Calls Tryz.prog 114 #[.pointer (some ⟨b.x, 0, none⟩), .string sd, .string id] W (MutPost w0 ⟨st.sds, st.fs, st.good, delB sd id st.bad⟩ tg (N + 1) F b W) := by
  have HOP : Hid (openOf (delB sd id st.bad) sd = delR id (openOf st.bad sd)) := Lib.hid (openOf_del sd id st.bad)
  have HON : Hid (∀ d, d ≠ sd → openOf (delB sd id st.bad) d = openOf st.bad d) := Lib.hid (fun d hd => openOf_del_ne sd d id (fun e => hd e.symm) st.bad)
  generalize delB sd id st.bad = bad' at *
  have HW1 := Lib.hid (h.below (bx W (.cells #[.string id] 9)))
  have HW2 := Lib.hid (HW1.out.below ((Below.refl _ _).drew))
  have HB := Lib.hid ((bx W (.cells #[.string id] 9)).drew)
  have HK := Lib.hid (heap_alloc_new W (.cells #[.string id] 9))
  have c3 := HW1.out.c3
  have hlo := HW1.out.opened sd h1
  have hlod := HW2.out.opened sd h1
  have hbx := h.xlt
  have HD := Lib.hid (delf_any W.heap.size w0.heap.size id (HW2.out.ow sd) (show ((W.alloc (.cells #[.string id] 9)).drew).heap[W.heap.size]? = _ from HK.out) (by omega))
  unfold DelPost at HD
  clear h
  go_enter Tryz.func114, Tryz.ntmps114
  go_wp2_with fail
  go_region_with (go_at_call 155; refine (HD.out).mono ?_; rintro e w3 ⟨u, rfl, hu, hg, hub⟩; obtain ⟨W', F', b', hrun, q1, q2, q3, q4, q5, q6⟩ := HW2.out.reopen (by omega) (W1 := w3) sd h1 bad' u (by rw [HOP.out]; exact hu) hg (.inr (.inl hub)) HON.out; have HFIN := Lib.hid (mut_fin HB.out q1 q2 q3 q4 q5); have c33 : w3.cell? ⟨b.x, 3, none⟩ = some (.map (some b.o)) := cell_c (grown_lt (B := 0) hg HW2.out.x (fun e => own_x HW2.out (HW2.out.ow sd) (by decide) e.symm)) 3; clear hu hg hub q1 q2 q3 q4 q5 q6)
  all_goals
    go_end0
    exact HFIN.out
theorem putB_len (sd : ByteArray) (r : Rej) : ∀ l, (putB sd r l).length ≤ l.length + 1
  | [] => by simp [putB]
  | x :: l => by
    have := putB_len sd r l
    unfold putB
    split <;> simp <;> omega
theorem keepB_len (good) (sd : ByteArray) (r : Rej) (l) : (keepB good sd r l).length ≤ l.length + 1 := by
  unfold keepB
  split
  · omega
  · exact putB_len sd r l
theorem openOf_len (l : List (ByteArray × Rej)) (d : ByteArray) : (openOf l d).length ≤ l.length := by
  unfold openOf
  rw [List.length_map]
  exact List.length_filter_le _ _
theorem keep_any (h : InW w0 st tg N F b W) (hN : N < 900000) (hb : st.bad.length ≤ N) (sd : ByteArray) (r : Rej) (h1 : sd.size ≤ maxLen) (h2 : r.2.1.size ≤ maxLen) :
    Calls Tryz.prog 113 #[.pointer (some ⟨b.x, 0, none⟩), .string sd, .agg #[.int .i64 r.1, .string r.2.1, .int .i64 r.2.2]] W (MutPost w0 ⟨st.sds, st.fs, st.good, keepB st.good sd r st.bad⟩ tg (N + 1) F b W) := by
  by_cases q : r.2.1 = noS ∨ seenB st.good sd r.2.1 = true
  · have e : keepB st.good sd r st.bad = st.bad := by unfold keepB; rw [if_pos q]
    rw [e]
    refine (keep_skip h sd r h1 h2 q).mono ?_
    rintro e W' ⟨rfl, hB⟩
    exact mut_fin hB ((h.below hB).mono (Nat.le_succ _)) rfl (fun k q => .inl q) (fun k q => q) (KeptE.refl _ _)
  · have e : keepB st.good sd r st.bad = putB sd r st.bad := by unfold keepB; rw [if_neg q]
    rw [e]
    exact keep_lay h hN sd r h1 h2 (fun e => q (.inl e)) (by cases hs : seenB st.good sd r.2.1; rfl; exact absurd (.inr hs) q) (by have := openOf_len st.bad sd; omega)
end
end Go.Proofs.YthflmdgfenojcaaGreatDoor
namespace Go.Proofs.YthflmdgfenojcaaGreatDoor
set_option linter.unusedVariables false
open Go.RowKit Go.Sort Go.Maps
theorem bxA (w : World) (X : Obj) : Below w.heap.size w (w.alloc X) := bx w X
/-- The state of treat: the intake, its arguments in their boxes, the lists that are handed back. -/
structure TrW (w0 : World) (sds : List ByteArray) (fs : List (ByteArray × ByteArray)) (tg : List (ByteArray × Rec)) (bx : Nat) (F0 : Nat → Prop) (X : World) (V : Bat) (A : Option Addr) (cp N : Nat) (t : TreS) (v8 v9 : Value) (F : Nat → Prop) (b : InB) (W : World) : Prop where
  i : InW w0 ⟨sds, fs, t.good, t.bad⟩ tg N F b W
  ob : t.bad.length ≤ N
  hx : b.x = bx
  wx : w0.heap.size ≤ X.heap.size
  fn : ∀ k, F k → F0 k ∨ X.heap.size ≤ k
  fm : ∀ k, F0 k → F k
  k : KeptE F0 X W
  c3 : W.heap[X.heap.size]? = some (.cells #[.pointer (some ⟨bx, 0, none⟩)] 27)
  c4 : W.heap[X.heap.size + 1]? = some (.cells #[.string V.id, .string V.sd, .int .i64 V.dt, .slice A V.rs.length cp] 61)
  c9 : W.heap[X.heap.size + 2]? = some (.cells #[v9] 35)
  p3 : ¬ F X.heap.size
  p4 : ¬ F (X.heap.size + 1)
  p9 : ¬ F (X.heap.size + 2)
  o8 : W.ownsRow (X.heap.size + 3) 57 12 v8 t.acc.length (t.acc.flatMap recF)
  o9 : W.ownsRow (X.heap.size + 3) 65 3 v9 t.out.length (t.out.flatMap rejF)
  n8 : ∀ g, v8.ownBlock = some g → ¬ F g
  n9 : ∀ g, v9.ownBlock = some g → ¬ F g
section
variable {w0 : World} {sds : List ByteArray} {fs : List (ByteArray × ByteArray)} {tg : List (ByteArray × Rec)} {bx : Nat} {F0 : Nat → Prop} {X : World} {V : Bat} {A : Option Addr} {cp N : Nat} {t : TreS} {v8 v9 : Value} {F : Nat → Prop} {b : InB} {W W' : World}
theorem TrW.lt (h : TrW w0 sds fs tg bx F0 X V A cp N t v8 v9 F b W) : X.heap.size + 2 < W.heap.size := (Array.getElem?_eq_some_iff.1 h.c9).1
theorem TrW.below (h : TrW w0 sds fs tg bx F0 X V A cp N t v8 v9 F b W) (hb : Below W.heap.size W W') : TrW w0 sds fs tg bx F0 X V A cp N t v8 v9 F b W' :=
  ⟨h.i.below hb, h.ob, h.hx, h.wx, h.fn, h.fm, h.k.trans (KeptE.of_below (F := F0) hb) (fun _ q => .inl q), blk_later h.c3 hb, blk_later h.c4 hb, blk_later h.c9 hb, h.p3, h.p4, h.p9, own_later h.o8 hb, own_later h.o9 hb, h.n8, h.n9⟩
/-- A callee that writes the intake alone. -/
theorem TrW.mut (h : TrW w0 sds fs tg bx F0 X V A cp N t v8 v9 F b W) {t' : TreS} {N' : Nat} {F' : Nat → Prop} {b' : InB} (hi : InW w0 ⟨sds, fs, t'.good, t'.bad⟩ tg N' F' b' W') (ha : t'.acc = t.acc) (ho : t'.out = t.out) (hob : t'.bad.length ≤ N') (hx : b'.x = b.x)
    (hf : ∀ k, F' k → F k ∨ W.heap.size ≤ k) (hm : ∀ k, F k → F' k) (hk : KeptE F W W') : TrW w0 sds fs tg bx F0 X V A cp N' t' v8 v9 F' b' W' := by
  have hlt := h.lt
  have hsz := h.k.size
  have hno : ∀ k, k < W.heap.size → ¬ F k → ¬ F' k := fun k h1 h2 h3 => by rcases hf k h3 with q | q; exact h2 q; omega
  refine ⟨hi, hob, hx.trans h.hx, h.wx, fun k q => ?_, fun k q => hm k (h.fm k q), h.k.trans hk h.fn, hk.heap h.c3 h.p3, hk.heap h.c4 h.p4, hk.heap h.c9 h.p9, hno _ (by omega) h.p3, hno _ (by omega) h.p4, hno _ (by omega) h.p9, ?_, ?_,
    fun g hg => hno g (own_lt h.o8 hg).2 (h.n8 g hg), fun g hg => hno g (own_lt h.o9 hg).2 (h.n9 g hg)⟩
  · rcases hf k q with q | q
    · exact h.fn k q
    · exact .inr (by omega)
  · rw [ha]; exact hk.own h.o8 h.n8
  · rw [ho]; exact hk.own h.o9 h.n9
/-- One more reject in the list: its row, then the cell. -/
theorem TrW.rej (h : TrW w0 sds fs tg bx F0 X V A cp N t v8 v9 F b W) (x : Rej) {u : Value} (h9 : W'.ownsRow (X.heap.size + 3) 65 3 u (t.out.length + 1) (t.out.flatMap rejF ++ rejF x)) (hg : W.grownBy W' v9.ownBlock) (hw : u.ownBlock = v9.ownBlock ∨ u.ownBlock = some W.heap.size) :
    TrW w0 sds fs tg bx F0 X V A cp N ⟨t.good, t.bad, t.acc, t.out ++ [x]⟩ v8 u F b (W'.setCell ⟨X.heap.size + 2, 0, none⟩ u) := by
  have hlt := h.lt
  have hsz := h.k.size
  have hc9 := grown_lt (B := 0) hg h.c9 (own_far h.o9 (by omega))
  have hset : W'.grownBy (W'.setCell ⟨X.heap.size + 2, 0, none⟩ u) (some (X.heap.size + 2)) := ⟨rfl, rfl, rfl, by simp [World.setCell], fun k _ hk => Below.heap_setCell _ _ _ _ (fun e => hk (by rw [e]))⟩
  have hk2 : KeptE (fun k => v9.ownBlock = some k ∨ k = X.heap.size + 2) W (W'.setCell ⟨X.heap.size + 2, 0, none⟩ u) :=
    (KeptE.of_grown' (F := fun k => v9.ownBlock = some k ∨ k = X.heap.size + 2) hg (fun g e => .inl e)).trans (KeptE.of_grown (F := fun k => v9.ownBlock = some k ∨ k = X.heap.size + 2) hset (.inr rfl)) (fun _ q => .inl q)
  have hd : ∀ k, F k → ¬ (v9.ownBlock = some k ∨ k = X.heap.size + 2) := fun k hk q => by
    rcases q with q | q
    · exact h.n9 k q hk
    · rw [q] at hk; exact h.p9 hk
  have hge : ∀ k, (v9.ownBlock = some k ∨ k = X.heap.size + 2) → X.heap.size + 2 ≤ k := fun k q => by
    rcases q with q | q
    · have := (own_lt h.o9 q).1; omega
    · omega
  have hx0 : w0.heap.size ≤ X.heap.size + 2 := by have := h.wx; omega
  have hgX : ∀ k, (v9.ownBlock = some k ∨ k = X.heap.size + 2) → F0 k ∨ X.heap.size ≤ k := fun k q => .inr (by have := hge k q; omega)
  have hn : ∀ k, k < X.heap.size + 2 → ¬ (v9.ownBlock = some k ∨ k = X.heap.size + 2) := fun k q r => by have := hge k r; omega
  have h8 : ∀ g, v8.ownBlock = some g → ¬ (v9.ownBlock = some g ∨ g = X.heap.size + 2) := fun g hg' q => by
    rcases q with q | q
    · rcases own_ne h.o9 h.o8 (by decide) with e | e
      · rw [e] at hg'; cases hg'
      · exact e (by rw [hg', q])
    · have := (own_lt h.o8 hg').1; omega
  refine ⟨h.i.keptE hk2 hd (fun k q => by have := hge k q; omega), h.ob, h.hx, h.wx, h.fn, h.fm, h.k.trans hk2 hgX, hk2.heap h.c3 (hn _ (by omega)), hk2.heap h.c4 (hn _ (by omega)), ?_, h.p3, h.p4, h.p9, hk2.own h.o8 h8, ?_, h.n8, ?_⟩
  · rw [heap_set1 hc9 0 u]; rfl
  · show World.ownsRow _ _ 65 3 u (t.out ++ [x]).length ((t.out ++ [x]).flatMap rejF)
    rw [List.length_append, List.flatMap_append]
    have := h9.kept hset (own_far' h9 (by omega))
    simpa using this
  · intro g hg'
    rcases hw with q | q
    · exact h.n9 g (by rw [← q]; exact hg')
    · rw [q] at hg'
      injection hg' with e
      intro hf
      have := (h.i.fp g hf).2
      omega
theorem TrW.acc (h : TrW w0 sds fs tg bx F0 X V A cp N t v8 v9 F b W) (r : Rec) {u : Value} (h8 : W'.ownsRow (X.heap.size + 3) 57 12 u (t.acc.length + 1) (t.acc.flatMap recF ++ recF r)) (hg : W.grownBy W' v8.ownBlock) (hw : u.ownBlock = v8.ownBlock ∨ u.ownBlock = some W.heap.size) :
    TrW w0 sds fs tg bx F0 X V A cp N ⟨t.good, t.bad, t.acc ++ [r], t.out⟩ u v9 F b W' := by
  have hlt := h.lt
  have hk2 : KeptE (fun k => v8.ownBlock = some k) W W' := KeptE.of_grown' hg (fun g e => e)
  have hge : ∀ k, v8.ownBlock = some k → X.heap.size + 3 ≤ k := fun k q => (own_lt h.o8 q).1
  have hn : ∀ k, k < X.heap.size + 3 → ¬ v8.ownBlock = some k := fun k q r => by have := hge k r; omega
  have hwx := h.wx
  refine ⟨h.i.keptE hk2 (fun k hk q => h.n8 k q hk) (fun k q => by have := hge k q; omega), h.ob, h.hx, h.wx, h.fn, h.fm, h.k.trans hk2 (fun k q => .inr (by have := hge k q; omega)), hk2.heap h.c3 (hn _ (by omega)), hk2.heap h.c4 (hn _ (by omega)), hk2.heap h.c9 (hn _ (by omega)), h.p3, h.p4, h.p9, ?_, hk2.own h.o9 ?_, ?_, h.n9⟩
  · show World.ownsRow _ _ 57 12 u (t.acc ++ [r]).length ((t.acc ++ [r]).flatMap recF)
    rw [List.length_append, List.flatMap_append]
    simpa using h8
  · intro g hg' q
    rcases own_ne h.o8 h.o9 (by decide) with e | e
    · rw [e] at hg'; cases hg'
    · exact e (by rw [hg', q])
  · intro g hg'
    rcases hw with q | q
    · exact h.n8 g (by rw [← q]; exact hg')
    · rw [q] at hg'
      injection hg' with e
      intro hf
      have := (h.i.fp g hf).2
      omega
def RejPost (w0 : World) (sds : List ByteArray) (fs : List (ByteArray × ByteArray)) (tg : List (ByteArray × Rec)) (bx : Nat) (F0 : Nat → Prop) (X : World) (V : Bat) (A : Option Addr) (cp N : Nat) (t : TreS) (v8 : Value) (e : Ending) (W' : World) : Prop :=
  e = .returned (.tuple #[]) ∧ ∃ v9 F b, TrW w0 sds fs tg bx F0 X V A cp N t v8 v9 F b W'
set_option maxRecDepth 1000000 in
set_option maxHeartbeats 6400000 in
theorem reject_any (h : TrW w0 sds fs tg bx F0 X V A cp N t v8 v9 F b W) (hN : N < 900000) (hout : t.out.length ≤ 900000) (x : Rej) (h1 : V.sd.size ≤ maxLen) (h2 : x.2.1.size ≤ maxLen) :
    Calls Tryz.prog 112 #[.agg #[.int .i64 x.1, .string x.2.1, .int .i64 x.2.2], .pointer (some ⟨X.heap.size + 2, 0, none⟩), .pointer (some ⟨X.heap.size, 0, none⟩), .pointer (some ⟨X.heap.size + 1, 0, none⟩)] W (RejPost w0 sds fs tg bx F0 X V A cp (N + 1) (trBad V.sd x t) v8) := by
  obtain ⟨i65, HJ⟩ := info_parts mk65
  have HJ := Lib.hid HJ
  obtain ⟨i, id, er⟩ := x
  dsimp only at h2 ⊢
  have HW1 := Lib.hid (h.below (bxA W (.cells #[.int .i64 i, .string id, .int .i64 er] 65)))
  have HW2 := Lib.hid (HW1.out.below (bxA _ (.cells #[.int .i64 i, .string id, .int .i64 er] 65)))
  have HK1 := Lib.hid (heap_alloc_new W (.cells #[.int .i64 i, .string id, .int .i64 er] 65))
  have HK2 := Lib.hid (blk_later HK1.out (bxA _ (.cells #[.int .i64 i, .string id, .int .i64 er] 65)))
  have HO9 := Lib.hid h.o9
  have HRD : Hid (Reads ((W.alloc (.cells #[.int .i64 i, .string id, .int .i64 er] 65)).alloc (.cells #[.int .i64 i, .string id, .int .i64 er] 65)) (W.heap.size + 2) 3 (some ⟨W.heap.size + 1, 0, none⟩) 1 [.int .i64 i, .string id, .int .i64 er]) := Lib.hid
    ⟨rfl, fun _ => ⟨⟨W.heap.size + 1, 0, none⟩, rfl, Nat.lt_succ_self _, World.news_of_block (cs := #[.int .i64 i, .string id, .int .i64 er]) (t := 65) (fr := (0, 0)) (heap_alloc2_new W _ _)⟩⟩
  have HON2 : Hid ([Value.int .i64 i, .string id, .int .i64 er].all (·.oneCell') = true) := Lib.hid (by simp [Value.oneCell'])
  have hlt := h.lt
  have c9 : W.cell? ⟨X.heap.size + 2, 0, none⟩ = some v9 := cell_c h.c9 0
  have k0 := cell_c HK1.out 0
  have k1 := cell_c HK1.out 1
  have k2 := cell_c HK1.out 2
  simp at k0 k1 k2
  have c9a := cell_later (bxA W (.cells #[.int .i64 i, .string id, .int .i64 er] 65)) c9
  have HBX := Lib.hid h.hx
  clear h
  go_enter Tryz.func112, Tryz.ntmps112
  go_wp2_with (at_builtin; refine wpList_append_any _ rfl (.tmp 5) (.tmp 7) _ rfl (X.heap.size + 3) 65 i65 _ 3 32 Tryz.underlying35 HJ.out.1 HJ.out.2.1 HJ.out.2.2.1 HJ.out.2.2.2 rfl (by omega) v9 t.out.length _ rfl HW2.out.o9 _ (some ⟨W.heap.size + 1, 0, none⟩) 1 1 [.int .i64 i, .string id, .int .i64 er] rfl HRD.out (by intro u hu; have := List.all_eq_true.1 HON2.out u hu; simpa using this) (by unfold maxLen; omega) (by omega) (by simp; omega) ?_; intro u w8 hown hgrow hwh; obtain ⟨A7, c7, rfl, hA7, hA8⟩ := own_form hown; clear hA7 hA8; have g1 := grown_lt (B := 0) hgrow HW2.out.c9 (own_far HW2.out.o9 (by omega)); have d9 := cell_c g1 0; have p9 := cell_f g1 0; have HA := Lib.hid (HW2.out.rej (i, id, er) hown hgrow hwh); have hb3 := grown_lt (B := 0) hgrow HK2.out (fun e => by have := (own_lt HO9.out e.symm).2; omega); have x0 := cell_c hb3 0; have x1 := cell_c hb3 1; have x2 := cell_c hb3 2; have y3 := cell_c (grown_lt (B := 0) hgrow HW2.out.c3 (own_far HW2.out.o9 (by omega))) 0; have y4 := cell_c (grown_lt (B := 0) hgrow HW2.out.c4 (own_far HW2.out.o9 (by omega))) 1; clear hown hgrow hwh g1 hb3; simp at x0 x1 x2 y3 y4 d9)
  have HKP := Lib.hid (keep_any HA.out.i hN HA.out.ob V.sd (i, id, er) h1 h2)
  rw [HA.out.hx] at HKP
  unfold MutPost at HKP
  dsimp only at HKP
  clear x0 x1 x2 y3 y4 d9 p9
  refine (HKP.out).mono ?_
  rintro e w9 ⟨rfl, F', b', q1, q2, q3, q4, q5⟩
  have HT := Lib.hid (HA.out.mut (t' := trBad V.sd (i, id, er) t) q1 rfl rfl (Nat.le_trans (keepB_len _ _ _ _) (Nat.succ_le_succ HA.out.ob)) q2 q3 q4 q5)
  clear q1 q2 q3 q4 q5
  go_wp2_with fail
  exact bodyPost_ret (results_none (by kernel_rfl) _ _ _) rfl ⟨rfl, _, _, _, HT.out⟩
end
end Go.Proofs.YthflmdgfenojcaaGreatDoor
namespace Go.Proofs.YthflmdgfenojcaaGreatDoor
set_option linter.unusedVariables false
open Go.RowKit Go.Sort Go.Maps
theorem isrow_kept {F : Nat → Prop} {X W : World} {A : Option Addr} {xs : List Value} (hk : KeptE F X W) (h : IsRow X A xs) (hn : ∀ ad : Addr, A = some ad → ¬ F ad.block) : IsRow W A xs := by
  rcases h with h | ⟨b, off, rfl, h⟩
  · exact .inl h
  · refine .inr ⟨b, off, rfl, fun j v hj => ?_⟩
    have hc := h j v hj
    have hb := hk.block b (World.block_lt_of_cell? X _ hc) (hn _ rfl)
    rw [← hc]
    simp only [World.cell?, hb]
theorem cut_row {α : Type} (f : α → List Value) (s : Nat) (hs : 0 < s) (hf : ∀ x, (f x).length = s) {W : World} {A : Option Addr} {x : α} {xs : List α} {c : Nat} (h : IsRow W A ((x :: xs).flatMap f)) (hc : xs.length + 1 ≤ c) :
    IsRow W (if c = 1 then A else A.map (·.add (1 * s))) (xs.flatMap f) ∧ xs.length ≤ c - 1 ∧ ∀ ad, (if c = 1 then A else A.map (·.add (1 * s))) = some ad → ∃ ad0 : Addr, A = some ad0 ∧ ad.block = ad0.block := by
  refine ⟨?_, by omega, fun ad e => ?_⟩
  · rcases h with h | ⟨b, off, rfl, h⟩
    · rw [flat_len f s hf, List.length_cons] at h
      have : 0 < (xs.length + 1) * s := Nat.mul_pos (by omega) hs
      omega
    · by_cases q : c = 1
      · have : xs = [] := List.eq_nil_of_length_eq_zero (by omega)
        rw [this]; exact .inl rfl
      · rw [if_neg q]
        have e : (⟨b, off, none⟩ : Addr).add (1 * s) = ⟨b, off + s, none⟩ := by unfold Addr.add; rw [Nat.one_mul]; split <;> simp_all
        refine .inr ⟨b, off + s, by simp only [Option.map_some, e], fun j v hj => ?_⟩
        rw [Nat.add_assoc]
        refine h (s + j) v ?_
        rw [List.flatMap_cons, List.getElem?_append_right (by rw [hf]; omega), hf, Nat.add_sub_cancel_left]
        exact hj
  · split at e
    · exact ⟨ad, e, rfl⟩
    · cases A with
      | none => cases e
      | some a => exact ⟨a, rfl, by injection e with e; rw [← e, block_of_add]⟩
set_option maxRecDepth 100000 in
theorem cut35 (A : Option Addr) (n c : Nat) (V : World) : (Instr.slice 35 (.slice A (n + 1) c) (some (.int .i64 1)) none none).run Tryz.prog V = .ok (.slice (if c = 1 then A else A.map (·.add (1 * 3))) n (c - 1)) V := by
  rw [run_slice_l V 35 _ (n + 1) c Tryz.underlying35 .i64 1 (by omega) (by omega)]
  have e2 : Program.elem Tryz.prog 35 = 65 := by kernel_rfl
  rw [e2, Tryz.sizeOf65]
  rfl
set_option maxRecDepth 100000 in
theorem cut34 (A : Option Addr) (n c : Nat) (V : World) : (Instr.slice 34 (.slice A (n + 1) c) (some (.int .i64 1)) none none).run Tryz.prog V = .ok (.slice (if c = 1 then A else A.map (·.add (1 * 12))) n (c - 1)) V := by
  rw [run_slice_l V 34 _ (n + 1) c Tryz.underlying34 .i64 1 (by omega) (by omega)]
  have e2 : Program.elem Tryz.prog 34 = 57 := by kernel_rfl
  rw [e2, Tryz.sizeOf57]
  rfl
theorem trS_len (sd) (rs : List Rec) (bad : List Rej) (t0 : TreS) : ∀ i, (trK sd rs bad t0 i).t.out.length ≤ t0.out.length + i ∧ (trK sd rs bad t0 i).t.acc.length ≤ t0.acc.length + i
  | 0 => ⟨Nat.le_refl _, Nat.le_refl _⟩
  | i + 1 => by
    obtain ⟨h1, h2⟩ := trS_len sd rs bad t0 i
    rw [trK_succ]
    generalize trK sd rs bad t0 i = s at *
    unfold trStep
    split
    · unfold trBad; simp; omega
    · unfold trGood; split <;> simp <;> omega
theorem step_bad {sd : ByteArray} {rs : List Rec} {bad : List Rej} {i : Nat} {s : TrK} {x : Rej} {bl : List Rej} (hb : bad.drop s.r = x :: bl) (hx : x.1 = i) : trStep sd rs bad i s = ⟨trBad sd x s.t, s.k, s.r + 1⟩ ∧ bad.drop (s.r + 1) = bl ∧ x ∈ bad := by
  have hl : s.r < bad.length := by
    rcases Nat.lt_or_ge s.r bad.length with q | q
    · exact q
    · rw [List.drop_eq_nil_of_le q] at hb; cases hb
  have e := List.drop_eq_getElem_cons hl
  rw [hb] at e
  injection e with e1 e2
  have e3 : rejAt bad s.r = x := by rw [rejAt_get _ _ hl, e1]
  refine ⟨?_, e2.symm, by rw [e1]; exact List.getElem_mem hl⟩
  unfold trStep
  rw [if_pos ⟨hl, by rw [e3]; exact hx⟩, e3]
theorem step_good {sd : ByteArray} {rs : List Rec} {bad : List Rej} {i : Nat} {s : TrK} (hno : ∀ x bl, bad.drop s.r = x :: bl → x.1 ≠ i) (hk : s.k < rs.length) :
    trStep sd rs bad i s = ⟨trGood sd i (rcAt rs s.k) s.t, s.k + 1, s.r⟩ ∧ rs.drop s.k = rcAt rs s.k :: rs.drop (s.k + 1) ∧ rcAt rs s.k ∈ rs := by
  refine ⟨?_, by rw [rcAt_get rs s.k hk]; exact List.drop_eq_getElem_cons hk, by rw [rcAt_get rs s.k hk]; exact List.getElem_mem hk⟩
  unfold trStep
  rw [if_neg]
  rintro ⟨hl, he⟩
  exact hno _ _ (List.drop_eq_getElem_cons hl) (by rw [← rejAt_get _ _ hl]; exact he)
theorem not_bad {rs : List Rec} {bad : List Rej} {i : Nat} {s : TrK} (hno : ∀ x bl, bad.drop s.r = x :: bl → x.1 ≠ i) : ¬ (s.r < bad.length ∧ (rejAt bad s.r).1 = i) := by
  rintro ⟨hl, he⟩
  exact hno _ _ (List.drop_eq_getElem_cons hl) (by rw [← rejAt_get _ _ hl]; exact he)
section
variable {w0 : World} {sds : List ByteArray} {fs : List (ByteArray × ByteArray)} {tg : List (ByteArray × Rec)} {bx : Nat} {F0 : Nat → Prop} {X : World} {V : Bat} {A : Option Addr} {cp N : Nat} {t : TreS} {v8 v9 : Value} {F : Nat → Prop} {b : InB} {W W' : World}
theorem TrW.mono {M : Nat} (h : TrW w0 sds fs tg bx F0 X V A cp N t v8 v9 F b W) (hM : N ≤ M) : TrW w0 sds fs tg bx F0 X V A cp M t v8 v9 F b W := { h with i := h.i.mono hM, ob := Nat.le_trans h.ob hM }
theorem TrW.cx (h : TrW w0 sds fs tg bx F0 X V A cp N t v8 v9 F b W) : W.cell? ⟨bx, 2, none⟩ = some (.map (some b.r)) := by rw [← h.hx]; exact h.i.c2
end
theorem trGood_dup {sd : ByteArray} {i : Nat} {r : Rec} {t : TreS} (h : seenB t.good sd r.id = true) : trBad sd (i, r.id, 15) t = trGood sd i r t := by
  unfold trBad trGood keepB
  rw [if_pos h, if_pos (.inr h)]
theorem trGood_new {sd : ByteArray} {i : Nat} {r : Rec} {t : TreS} (h : seenB t.good sd r.id = false) : trGood sd i r t = ⟨t.good ++ [(sd, r)], delB sd r.id t.bad, t.acc ++ [r], t.out⟩ := by
  unfold trGood
  rw [if_neg (by rw [h]; decide)]
end Go.Proofs.YthflmdgfenojcaaGreatDoor
namespace Go.Proofs.YthflmdgfenojcaaGreatDoor
set_option linter.unusedVariables false
open Go.RowKit Go.Sort Go.Maps
def TreatPost (w0 : World) (sds : List ByteArray) (fs : List (ByteArray × ByteArray)) (tg : List (ByteArray × Rec)) (bx : Nat) (F0 : Nat → Prop) (X : World) (N : Nat) (t : TreS) (e : Ending) (W : World) : Prop :=
  ∃ v8 v9 F b, e = .returned (.tuple #[v8, v9]) ∧ InW w0 ⟨sds, fs, t.good, t.bad⟩ tg N F b W ∧ t.bad.length ≤ N ∧ b.x = bx ∧ (∀ k, F k → F0 k ∨ X.heap.size ≤ k) ∧ (∀ k, F0 k → F k) ∧ KeptE F0 X W ∧
    W.ownsRow X.heap.size 57 12 v8 t.acc.length (t.acc.flatMap recF) ∧ W.ownsRow X.heap.size 65 3 v9 t.out.length (t.out.flatMap rejF) ∧ (∀ g, v8.ownBlock = some g → ¬ F g) ∧ (∀ g, v9.ownBlock = some g → ¬ F g)
/-- A list that is still to be treated. -/
structure RestW {α : Type} (f : α → List Value) (F0 : Nat → Prop) (X : World) (A : Option Addr) (c : Nat) (l : List α) : Prop where
  r : IsRow X A (l.flatMap f)
  c : l.length ≤ c
  n : ∀ ad : Addr, A = some ad → ¬ F0 ad.block
theorem RestW.cut {α : Type} {f : α → List Value} {s : Nat} (hs : 0 < s) (hf : ∀ x, (f x).length = s) {F0 : Nat → Prop} {X : World} {A : Option Addr} {c : Nat} {x : α} {l : List α} (h : RestW f F0 X A c (x :: l)) :
    RestW f F0 X (if c = 1 then A else A.map (·.add (1 * s))) (c - 1) l := by
  obtain ⟨h1, h2, h3⟩ := cut_row f s hs hf h.r (by simpa using h.c)
  exact ⟨h1, h2, fun ad e => by obtain ⟨ad0, q1, q2⟩ := h3 ad e; rw [q2]; exact h.n ad0 q1⟩
theorem RestW.cut34 {F0 : Nat → Prop} {X : World} {A : Option Addr} {c : Nat} {x : Rec} {l : List Rec} (h : RestW recF F0 X A c (x :: l)) :
    ∃ A' c', (∀ V, (Instr.slice 34 (.slice A (l.length + 1) c) (some (.int .i64 1)) none none).run Tryz.prog V = .ok (.slice A' l.length c') V) ∧ RestW recF F0 X A' c' l :=
  ⟨_, _, fun V => Go.Proofs.YthflmdgfenojcaaGreatDoor.cut34 A l.length c V, h.cut (s := 12) (by decide) (fun _ => rfl)⟩
theorem RestW.cut35 {F0 : Nat → Prop} {X : World} {A : Option Addr} {c : Nat} {x : Rej} {l : List Rej} (h : RestW rejF F0 X A c (x :: l)) :
    ∃ A' c', (∀ V, (Instr.slice 35 (.slice A (l.length + 1) c) (some (.int .i64 1)) none none).run Tryz.prog V = .ok (.slice A' l.length c') V) ∧ RestW rejF F0 X A' c' l :=
  ⟨_, _, fun V => Go.Proofs.YthflmdgfenojcaaGreatDoor.cut35 A l.length c V, h.cut (s := 3) (by decide) (fun _ => rfl)⟩
theorem rest_rej {F0 : Nat → Prop} {X W : World} {A : Option Addr} {c : Nat} {x : Rej} {l : List Rej} (h : RestW rejF F0 X A c (x :: l)) (hk : KeptE F0 X W) :
    ∃ b off, A = some ⟨b, off, none⟩ ∧ W.cell? ⟨b, off, none⟩ = some (.int .i64 x.1) ∧ W.cell? ⟨b, off + 1, none⟩ = some (.string x.2.1) ∧ W.cell? ⟨b, off + 2, none⟩ = some (.int .i64 x.2.2) := by
  obtain ⟨b, off, rfl, hc⟩ := row_rej (isrow_kept hk h.r h.n) 0 (by simp)
  obtain ⟨d0, d1, d2⟩ := hc 0 (by simp)
  rw [Nat.zero_mul, Nat.add_zero] at d0 d1 d2
  exact ⟨b, off, rfl, d0, d1, d2⟩
theorem rest_rec {F0 : Nat → Prop} {X W : World} {A : Option Addr} {c : Nat} {x : Rec} {l : List Rec} (h : RestW recF F0 X A c (x :: l)) (hk : KeptE F0 X W) : ∃ b off, A = some ⟨b, off, none⟩ ∧ RcAt W b off x := by
  obtain ⟨b, off, rfl, hc⟩ := row_rc (isrow_kept hk h.r h.n) 0 (by simp)
  have := hc 0 (by simp)
  rw [Nat.zero_mul, Nat.add_zero] at this
  exact ⟨b, off, rfl, this⟩
theorem treat_end {w0 : World} {sds : List ByteArray} {fs : List (ByteArray × ByteArray)} {tg : List (ByteArray × Rec)} {bx : Nat} {F0 : Nat → Prop} {X : World} {V : Bat} {A : Option Addr} {cp N M : Nat} {t : TreS} {v8 v9 : Value} {F : Nat → Prop} {b : InB} {W : World}
    (h : TrW w0 sds fs tg bx F0 X V A cp N t v8 v9 F b W) (hM : N ≤ M) : TreatPost w0 sds fs tg bx F0 X M t (.returned (.tuple #[v8, v9])) W :=
  ⟨v8, v9, F, b, rfl, h.i.mono hM, Nat.le_trans h.ob hM, h.hx, h.fn, h.fm, h.k, own_base h.o8 (by omega), own_base h.o9 (by omega), h.n8, h.n9⟩
set_option maxRecDepth 1000000 in
set_option maxHeartbeats 25600000 in
theorem treat_any {w0 : World} {st : InS} {tg : List (ByteArray × Rec)} {N : Nat} {F : Nat → Prop} {b : InB} {X : World} (h : InW w0 st tg N F b X) (hob : st.bad.length ≤ N) (V : Bat) (A : Option Addr) (cp : Nat) (bad : List Rej) (Ab : Option Addr) (cb : Nat)
    (hr : RestW recF F X A cp V.rs) (hb : RestW rejF F X Ab cb bad) (hL : Laced bad (V.rs.length + bad.length)) (hsd : V.sd.size ≤ maxLen) (hfr : ∀ x ∈ V.rs, x.Fit) (hfb : ∀ x ∈ bad, x.2.1.size ≤ maxLen) (hn : V.rs.length + bad.length ≤ 10000) (hN : N < 800000) :
    Calls Tryz.prog 60 #[.pointer (some ⟨b.x, 0, none⟩), batV V A cp, .slice Ab bad.length cb] X (TreatPost w0 st.sds st.fs tg b.x F X (N + 2 * (V.rs.length + bad.length)) (trAll V.sd V.rs bad ⟨st.good, st.bad, [], []⟩)) := by
  obtain ⟨i57, hi57, hz0, hz1, hz2⟩ := info_parts mkrec
  have HI := Lib.hid (And.intro hi57 (And.intro hz0 (And.intro hz1 hz2)))
  have HB1 := Lib.hid (bxA X (.cells #[.pointer (some ⟨b.x, 0, none⟩)] 27))
  have HB2 := Lib.hid (bxA (X.alloc (.cells #[.pointer (some ⟨b.x, 0, none⟩)] 27)) (.cells #[.string V.id, .string V.sd, .int .i64 V.dt, .slice A V.rs.length cp] 61))
  have HB3 := Lib.hid (bxA ((X.alloc (.cells #[.pointer (some ⟨b.x, 0, none⟩)] 27)).alloc (.cells #[.string V.id, .string V.sd, .int .i64 V.dt, .slice A V.rs.length cp] 61)) (.cells #[.slice none 0 0] 35))
  have HBB := Lib.hid ((HB1.out.trans (HB2.out.mono HB1.out.size)).trans (HB3.out.mono (HB1.out.trans (HB2.out.mono HB1.out.size)).size))
  have hs1 : (X.alloc (.cells #[.pointer (some ⟨b.x, 0, none⟩)] 27)).heap.size = X.heap.size + 1 := Array.size_push _
  have hs2 : ((X.alloc (.cells #[.pointer (some ⟨b.x, 0, none⟩)] 27)).alloc (.cells #[.string V.id, .string V.sd, .int .i64 V.dt, .slice A V.rs.length cp] 61)).heap.size = X.heap.size + 2 := by rw [World.size_alloc, hs1]
  have HT0 : Hid (TrW w0 st.sds st.fs tg b.x F X V A cp N ⟨st.good, st.bad, [], []⟩ (.slice none 0 0) (.slice none 0 0) F b (((X.alloc (.cells #[.pointer (some ⟨b.x, 0, none⟩)] 27)).alloc (.cells #[.string V.id, .string V.sd, .int .i64 V.dt, .slice A V.rs.length cp] 61)).alloc (.cells #[.slice none 0 0] 35))) := Lib.hid
    ⟨h.below HBB.out, hob, rfl, h.be.size, fun k q => .inl q, fun k q => q, KeptE.of_below HBB.out, blk_later (blk_later (heap_alloc_new X _) HB2.out) HB3.out, blk_later (by rw [← hs1]; exact heap_alloc_new _ _) HB3.out, by rw [← hs2]; exact heap_alloc_new _ _,
      fun q => by have := (h.fp _ q).2; omega, fun q => by have := (h.fp _ q).2; omega, fun q => by have := (h.fp _ q).2; omega, World.ownsRow_nil _ _ _ _, World.ownsRow_nil _ _ _ _, (fun g q => by cases q), (fun g q => by cases q)⟩
  have HR := Lib.hid hr
  have HBD := Lib.hid hb
  have HLC := Lib.hid (fun i hi q => trK_good V.sd V.rs bad ⟨st.good, st.bad, [], []⟩ hL i hi q)
  have HSL := Lib.hid (trS_len V.sd V.rs bad ⟨st.good, st.bad, [], []⟩)
  have HKS := Lib.hid (trK_succ V.sd V.rs bad ⟨st.good, st.bad, [], []⟩)
  have HALL : Hid (trAll V.sd V.rs bad ⟨st.good, st.bad, [], []⟩ = (trK V.sd V.rs bad ⟨st.good, st.bad, [], []⟩ (V.rs.length + bad.length)).t) := Lib.hid rfl
  have HK0 : Hid (trK V.sd V.rs bad ⟨st.good, st.bad, [], []⟩ 0 = ⟨⟨st.good, st.bad, [], []⟩, 0, 0⟩) := Lib.hid rfl
  have HSD := Lib.hid hsd
  have HFR := Lib.hid hfr
  have HFB := Lib.hid hfb
  generalize trAll V.sd V.rs bad ⟨st.good, st.bad, [], []⟩ = TA at *
  generalize trK V.sd V.rs bad ⟨st.good, st.bad, [], []⟩ = TK at *
  obtain ⟨vi, vs, vd, rs⟩ := V
  unfold batV
  dsimp only at *
  have t43 := cell_c HT0.out.c4 3
  simp at t43
  clear h hr hb hL hsd hfr hfb hi57 hz0 hz1 hz2 hs1 hs2
  go_enter Tryz.func60, Tryz.ntmps60
  go_wp2_with fail
  clear t43
  go_loopw [2, 8, 11, 23] (fun sb s8 sr iv wr => ∃ (i : Nat) (bl : List Rej) (rl : List Rec) (A1 : Option Addr) (c1 : Nat) (A2 : Option Addr) (c2 : Nat) (v9 : Value) (F' : Nat → Prop) (b' : InB), i ≤ rs.length + bad.length ∧ iv = .int .i64 i ∧ sb = .slice A2 bl.length c2 ∧ sr = .slice A1 rl.length c1 ∧
    Hid (TrW w0 st.sds st.fs tg b.x F X ⟨vi, vs, vd, rs⟩ A cp (N + 2 * i) (TK i).t s8 v9 F' b' wr) ∧ Hid (bl = bad.drop (TK i).r ∧ rl = rs.drop (TK i).k) ∧ Hid (RestW recF F X A1 c1 rl ∧ RestW rejF F X A2 c2 bl)) (fun _ _ _ iv _ => rs.length + bad.length - (intOf iv).toNat)
  case atStart => exact ⟨0, bad, rs, A, cp, Ab, cb, .slice none 0 0, F, b, Nat.zero_le _, rfl, rfl, rfl, by rw [HK0.out]; exact HT0, Lib.hid ⟨by rw [HK0.out]; rfl, by rw [HK0.out]; rfl⟩, Lib.hid ⟨HR.out, HBD.out⟩⟩
  case round =>
    clear HT0 HR HBD HB1 HB2 HB3 HBB
    obtain ⟨i, bl, rl, A1, c1, A2, c2, v9, F', b', hi, rfl, rfl, rfl, HW, HLS, HRS⟩ := hrel
    by_cases hlt : i < rs.length + bad.length
    · have iI : (i : Int) < (rs.length : Int) + (bad.length : Int) := by omega
      have HNB : Hid ((∀ x bl', bl = x :: bl' → x.1 ≠ i) → ¬ ((TK i).r < bad.length ∧ (rejAt bad (TK i).r).1 = i)) := Lib.hid (fun q => not_bad (rs := rs) (s := TK i) (i := i) (fun x bl' e => q x bl' (by rw [HLS.out.1]; exact e)))
      have HGD := Lib.hid (HLC.out i hlt)
      have HST := Lib.hid (HKS.out i)
      have HSZ := Lib.hid (HSL.out i)
      obtain ⟨s, hs⟩ : ∃ s, TK i = s := ⟨_, rfl⟩
      rw [hs] at HW HLS HNB HGD HST HSZ
      obtain ⟨s', hs'⟩ : ∃ s', TK (i + 1) = s' := ⟨_, rfl⟩
      have HS' := Lib.hid hs'
      rw [hs'] at HST
      clear hs hs'
      have hNi : N + 2 * i < 900000 := by omega
      have hout : s.t.out.length ≤ 900000 := by have := HSZ.out.1; simp at this; omega
      have hacc : s.t.acc.length ≤ 900000 := by have := HSZ.out.2; simp at this; omega
      have hlw := HW.out.lt
      match bl with
      | x :: bl' =>
        by_cases hx : x.1 = i
        · obtain ⟨bb, off, rfl, d0, d1, d2⟩ := rest_rej HRS.out.2 HW.out.k
          obtain ⟨A2', c2', hcut, hrest⟩ := HRS.out.2.cut35
          have HRS2 := Lib.hid hrest
          clear hrest
          have hq := step_bad (sd := vs) (rs := rs) HLS.out.1.symm hx
          rw [← HST.out] at hq
          have HQ := Lib.hid hq
          have HRJ := Lib.hid (reject_any HW.out hNi hout x HSD.out (HFB.out x hq.2.2))
          unfold RejPost at HRJ
          obtain ⟨x1, x2, x3⟩ := x
          dsimp only at hx d0 d1 d2 HRJ
          subst hx
          clear hq
          go_wp2_with fail
          first | refine (HRJ.out).mono ?_ | (go_at_call 112; refine (HRJ.out).mono ?_)
          rintro e w2 ⟨rfl, v9', F2, b2, hT⟩
          have HT2 := Lib.hid (hT.mono (M := N + 2 * (x1 + 1)) (by omega))
          clear hT d0 d1 d2
          have HT3 : Hid (TrW w0 st.sds st.fs tg b.x F X ⟨vi, vs, vd, rs⟩ A cp (N + 2 * (x1 + 1)) (TK (x1 + 1)).t u8 v9' F2 b2 w2) := Lib.hid (by rw [HS'.out, HQ.out.1]; exact HT2.out)
          have HLS2 : Hid (bl' = bad.drop (TK (x1 + 1)).r ∧ rl = rs.drop (TK (x1 + 1)).k) := Lib.hid (by rw [HS'.out, HQ.out.1]; exact ⟨HQ.out.2.1.symm, HLS.out.2⟩)
          go_wp2_with fail
          go_roundw
          case rel => exact ⟨x1 + 1, bl', rl, A1, c1, _, _, v9', F2, b2, by omega, by go_num, rfl, rfl, HT3, HLS2, Lib.hid ⟨HRS.out.1, HRS2.out⟩⟩
          case measure => simp [intOf]; omega
        · obtain ⟨bb, off, rfl, d0, -, -⟩ := rest_rej HRS.out.2 HW.out.k
          have hno : ∀ (y : Rej) (bl'' : List Rej), x :: bl' = y :: bl'' → y.1 ≠ i := fun y bl'' e => by injection e with e; rw [← e]; exact hx
          have hxI : ((x.1 : Int) == (i : Int)) = false := by simp; omega
          obtain ⟨x1, x2, x3'⟩ := x
          dsimp only at d0 hxI
          clear hx
          have hk := HGD.out (HNB.out hno)
          have hq := step_good (sd := vs) (rs := rs) (bad := bad) (i := i) (s := s) (fun y bl'' e => hno y bl'' (by rw [HLS.out.1]; exact e)) hk
          rw [← HST.out] at hq
          have HQ1 := Lib.hid hq.1
          have HMR := Lib.hid (HFR.out _ hq.2.2)
          have hrl := HLS.out.2.trans hq.2.1
          generalize rcAt rs s.k = r at *
          have HDR : Hid (rs.drop (s.k + 1) = rs.drop (s.k + 1)) := Lib.hid rfl
          obtain ⟨rl', hrl'⟩ : ∃ rl', rs.drop (s.k + 1) = rl' := ⟨_, rfl⟩
          rw [hrl'] at hrl
          have HRL := Lib.hid hrl'
          clear hrl' hq hk
          subst hrl
          obtain ⟨bq, oq, rfl, hrc⟩ := rest_rec HRS.out.1 HW.out.k
          have HC := Lib.hid hrc
          obtain ⟨A1', c1', hcut, hrest⟩ := HRS.out.1.cut34
          have HRS2 := Lib.hid hrest
          clear hrest
          obtain ⟨K, rid, au, aq, is, me, ca, a, cu, d, cg, f⟩ := r
          have hid : rid.size ≤ maxLen := HMR.out.1
          have e0 := HC.out.c0
          have e1 := HC.out.c1
          have e2 := HC.out.c2
          have e3 := HC.out.c3
          have e4 := HC.out.c4
          have e5 := HC.out.c5
          have e6 := HC.out.c6
          have e7 := HC.out.c7
          have e8 := HC.out.c8
          have e9 := HC.out.c9
          have e10 := HC.out.c10
          have e11 := HC.out.c11
          dsimp only at e0 e1 e2 e3 e4 e5 e6 e7 e8 e9 e10 e11
          have HW1 := Lib.hid (HW.out.below (bxA wr (.cells #[.int .i64 K, .string rid, .string au, .string aq, .string is, .string me, .string ca, .int .i64 a, .string cu, .int .i64 d, .int .i64 cg, .bool f] 57)))
          have HK1 := Lib.hid (heap_alloc_new wr (.cells #[.int .i64 K, .string rid, .string au, .string aq, .string is, .string me, .string ca, .int .i64 a, .string cu, .int .i64 d, .int .i64 cg, .bool f] 57))
          have x3 := cell_c HW1.out.c3 0
          have x4 := cell_c HW1.out.c4 1
          have y1 := cell_c HK1.out 1
          have cx := HW1.out.cx
          have hl := fun n => (HW1.out.i.drewN n).seen vs rid HSD.out hid
          have hl0 := HW1.out.i.seen vs rid HSD.out hid
          have hbxl : b.x < wr.heap.size := by have := HW.out.i.xlt; rw [HW.out.hx] at this; exact this
          simp at x3 x4 y1
          dsimp only at hl hl0
          have HDUP := Lib.hid (trGood_dup (sd := vs) (i := i) (r := (⟨K, rid, au, aq, is, me, ca, a, cu, d, cg, f⟩ : Rec)) (t := s.t))
          have HNEW := Lib.hid (trGood_new (sd := vs) (i := i) (r := (⟨K, rid, au, aq, is, me, ca, a, cu, d, cg, f⟩ : Rec)) (t := s.t))
          obtain ⟨S, hS⟩ : ∃ S, seenB s.t.good vs rid = S := ⟨_, rfl⟩
          rw [hS] at hl hl0
          have HS := Lib.hid hS
          clear hS hrc
          cases S with
          | true =>
            have HTD := Lib.hid (HDUP.out HS.out)
            go_wp2_with fail
            go_quiet (fail)
            rename Nat => nq
            have HW2 := Lib.hid (HW1.out.below (below_drewN _ nq))
            have HK2 : Hid (((wr.alloc (.cells #[.int .i64 K, .string rid, .string au, .string aq, .string is, .string me, .string ca, .int .i64 a, .string cu, .int .i64 d, .int .i64 cg, .bool f] 57)).drewN nq).heap[wr.heap.size]? = some (.cells #[.int .i64 K, .string rid, .string au, .string aq, .string is, .string me, .string ca, .int .i64 a, .string cu, .int .i64 d, .int .i64 cg, .bool f] 57)) := Lib.hid HK1.out
            clear x3 x4 y1 cx hl hl0 e0 e1 e2 e3 e4 e5 e6 e7 e8 e9 e10 e11
            generalize (wr.alloc (.cells #[.int .i64 K, .string rid, .string au, .string aq, .string is, .string me, .string ca, .int .i64 a, .string cu, .int .i64 d, .int .i64 cg, .bool f] 57)).drewN nq = w2 at *
            have y1 := cell_c HK2.out 1
            simp at y1
            have HRJ := Lib.hid (reject_any HW2.out hNi hout (i, rid, 15) HSD.out hid)
            unfold RejPost at HRJ
            dsimp only at HRJ
            go_wp2_with fail
            refine (HRJ.out).mono ?_
            rintro e w3 ⟨rfl, v9', F2, b2, hT⟩
            rw [show trBad vs (i, rid, 15) s.t = _ from HTD.out] at hT
            have HT3 : Hid (TrW w0 st.sds st.fs tg b.x F X ⟨vi, vs, vd, rs⟩ A cp (N + 2 * (i + 1)) (TK (i + 1)).t u8 v9' F2 b2 w3) := Lib.hid (by rw [HS'.out, HQ1.out]; exact hT.mono (by omega))
            have HLS2 : Hid (((x1, x2, x3') :: bl') = bad.drop (TK (i + 1)).r ∧ rl' = rs.drop (TK (i + 1)).k) := Lib.hid (by rw [HS'.out, HQ1.out]; exact ⟨HLS.out.1, HRL.out.symm⟩)
            clear hT
            go_wp2_with fail
            go_roundw
            case rel => exact ⟨i + 1, ((x1, x2, x3') :: bl'), rl', _, _, _, c2, v9', F2, b2, by omega, by go_num, rfl, rfl, HT3, HLS2, Lib.hid ⟨HRS2.out, HRS.out.2⟩⟩
            case measure => simp [intOf]; omega
          | false =>
            have HTN := Lib.hid (HNEW.out HS.out)
            go_wp2_with fail
            go_quiet (fail)
            rename Nat => nq
            have HW2 := Lib.hid (HW1.out.below (below_drewN _ nq))
            have HK2 : Hid (((wr.alloc (.cells #[.int .i64 K, .string rid, .string au, .string aq, .string is, .string me, .string ca, .int .i64 a, .string cu, .int .i64 d, .int .i64 cg, .bool f] 57)).drewN nq).heap[wr.heap.size]? = some (.cells #[.int .i64 K, .string rid, .string au, .string aq, .string is, .string me, .string ca, .int .i64 a, .string cu, .int .i64 d, .int .i64 cg, .bool f] 57)) := Lib.hid HK1.out
            clear x3 x4 y1 cx hl hl0 e0 e1 e2 e3 e4 e5 e6 e7 e8 e9 e10 e11
            generalize (wr.alloc (.cells #[.int .i64 K, .string rid, .string au, .string aq, .string is, .string me, .string ca, .int .i64 a, .string cu, .int .i64 d, .int .i64 cg, .bool f] 57)).drewN nq = w2 at *
            have y1 := cell_c HK2.out 1
            have x3 := cell_c HW2.out.c3 0
            have x4 := cell_c HW2.out.c4 1
            have cx := HW2.out.cx
            simp at y1 x3 x4
            have HW3 := Lib.hid (HW2.out.below ((Below.refl _ _).drew))
            obtain ⟨w4, hrun, hi4, hg4⟩ := HW3.out.i.put (by omega) vs (⟨K, rid, au, aq, is, me, ca, a, cu, d, cg, f⟩ : Rec) HSD.out hid
            have HW4 := Lib.hid (HW3.out.mut (t' := ⟨s.t.good ++ [(vs, (⟨K, rid, au, aq, is, me, ca, a, cu, d, cg, f⟩ : Rec))], s.t.bad, s.t.acc, s.t.out⟩) hi4 rfl rfl (Nat.le_succ_of_le HW3.out.ob) rfl (fun k q => .inl q) (fun k q => q) (KeptE.of_grown hg4 HW3.out.i.fr))
            have HK4 := Lib.hid (grown_lt (B := 0) hg4 (show (w2.drew).heap[wr.heap.size]? = _ from HK2.out) (fun e => by injection e with e; have := (HW.out.i.fp _ HW.out.i.fr).2; omega))
            dsimp only at hrun
            clear hi4 hg4
            go_wp2_with fail
            go_region
            clear x3 x4 y1 cx hrun
            have y1 := cell_c HK4.out 1
            have x3 := cell_c HW4.out.c3 0
            have x4 := cell_c HW4.out.c4 1
            simp at y1 x3 x4
            have HSE := Lib.hid (settle_any HW4.out.i (by omega) vs rid HSD.out (by have := openOf_len s.t.bad vs; have := HW4.out.ob; dsimp only at this ⊢; omega))
            rw [HW4.out.hx] at HSE
            unfold MutPost at HSE
            dsimp only at HSE
            go_wp2_with fail
            refine (HSE.out).mono ?_
            rintro e w5 ⟨rfl, F2, b2, q1, q2, q3, q4, q5⟩
            have HW5 := Lib.hid (HW4.out.mut (t' := ⟨s.t.good ++ [(vs, (⟨K, rid, au, aq, is, me, ca, a, cu, d, cg, f⟩ : Rec))], delB vs rid s.t.bad, s.t.acc, s.t.out⟩) q1 rfl rfl (Nat.le_trans (List.length_filter_le _ _) (Nat.le_succ_of_le HW4.out.ob)) q2 q3 q4 q5)
            have HK5 := Lib.hid (q5.heap HK4.out (fun q => by have := (HW.out.i.fp _ q).2; omega))
            clear q1 q2 q3 q4 q5 x3 x4 y1
            have HW6 := Lib.hid (HW5.out.below (bxA w5 (.cells #[.int .i64 K, .string rid, .string au, .string aq, .string is, .string me, .string ca, .int .i64 a, .string cu, .int .i64 d, .int .i64 cg, .bool f] 57)))
            have HRD : Hid (Reads (w5.alloc (.cells #[.int .i64 K, .string rid, .string au, .string aq, .string is, .string me, .string ca, .int .i64 a, .string cu, .int .i64 d, .int .i64 cg, .bool f] 57)) (w5.heap.size + 1) 12 (some ⟨w5.heap.size, 0, none⟩) 1 [.int .i64 K, .string rid, .string au, .string aq, .string is, .string me, .string ca, .int .i64 a, .string cu, .int .i64 d, .int .i64 cg, .bool f]) := Lib.hid
              ⟨rfl, fun _ => ⟨⟨w5.heap.size, 0, none⟩, rfl, Nat.lt_succ_self _, World.news_of_block (cs := #[.int .i64 K, .string rid, .string au, .string aq, .string is, .string me, .string ca, .int .i64 a, .string cu, .int .i64 d, .int .i64 cg, .bool f]) (t := 57) (fr := (0, 0)) (heap_alloc_new w5 _)⟩⟩
            have HON2 : Hid (([.int .i64 K, .string rid, .string au, .string aq, .string is, .string me, .string ca, .int .i64 a, .string cu, .int .i64 d, .int .i64 cg, .bool f] : List Value).all (·.oneCell') = true) := Lib.hid (by simp [Value.oneCell'])
            have hl5 := HW5.out.lt
            go_wp2_with (first | (refine wpList_load_row rfl 57 _ rfl wr.heap.size rfl 57 _ _ _ HK5.out Tryz.underlying57 rfl (info25 (⟨K, rid, au, aq, is, me, ca, a, cu, d, cg, f⟩ : Rec)) ?_) | (at_builtin; refine wpList_append_any _ rfl (.tmp 83) (.tmp 85) _ rfl (X.heap.size + 3) 57 i57 _ 12 152 Tryz.underlying34 HI.out.1 HI.out.2.1 HI.out.2.2.1 HI.out.2.2.2 rfl (by omega) _ s.t.acc.length _ rfl HW6.out.o8 _ (some ⟨w5.heap.size, 0, none⟩) 1 1 [.int .i64 K, .string rid, .string au, .string aq, .string is, .string me, .string ca, .int .i64 a, .string cu, .int .i64 d, .int .i64 cg, .bool f] rfl HRD.out (by intro u hu; have := List.all_eq_true.1 HON2.out u hu; simpa using this) (by unfold maxLen; omega) (by omega) (by simp; omega) ?_; intro v8' w8 hown hgrow hwh; have HT6 := Lib.hid (HW6.out.acc (⟨K, rid, au, aq, is, me, ca, a, cu, d, cg, f⟩ : Rec) hown hgrow hwh); clear hown hgrow hwh))
            have HT3 : Hid (TrW w0 st.sds st.fs tg b.x F X ⟨vi, vs, vd, rs⟩ A cp (N + 2 * (i + 1)) (TK (i + 1)).t v8' v9 F2 b2 w8) := Lib.hid (by rw [HS'.out, HQ1.out]; show TrW _ _ _ _ _ _ _ _ _ _ _ (trGood _ _ _ _) _ _ _ _ _; rw [HTN.out]; exact HT6.out)
            have HLS2 : Hid (((x1, x2, x3') :: bl') = bad.drop (TK (i + 1)).r ∧ rl' = rs.drop (TK (i + 1)).k) := Lib.hid (by rw [HS'.out, HQ1.out]; exact ⟨HLS.out.1, HRL.out.symm⟩)
            go_roundw
            case rel => exact ⟨i + 1, ((x1, x2, x3') :: bl'), rl', _, _, _, c2, v9, F2, b2, by omega, by go_num, rfl, rfl, HT3, HLS2, Lib.hid ⟨HRS2.out, HRS.out.2⟩⟩
            case measure => simp [intOf]; omega
      | [] =>
        have hno : ∀ (y : Rej) (bl'' : List Rej), ([] : List Rej) = y :: bl'' → y.1 ≠ i := fun y bl'' e => by cases e
        have hk := HGD.out (HNB.out hno)
        have hq := step_good (sd := vs) (rs := rs) (bad := bad) (i := i) (s := s) (fun y bl'' e => hno y bl'' (by rw [HLS.out.1]; exact e)) hk
        rw [← HST.out] at hq
        have HQ1 := Lib.hid hq.1
        have HMR := Lib.hid (HFR.out _ hq.2.2)
        have hrl := HLS.out.2.trans hq.2.1
        generalize rcAt rs s.k = r at *
        have HDR : Hid (rs.drop (s.k + 1) = rs.drop (s.k + 1)) := Lib.hid rfl
        obtain ⟨rl', hrl'⟩ : ∃ rl', rs.drop (s.k + 1) = rl' := ⟨_, rfl⟩
        rw [hrl'] at hrl
        have HRL := Lib.hid hrl'
        clear hrl' hq hk
        subst hrl
        obtain ⟨bq, oq, rfl, hrc⟩ := rest_rec HRS.out.1 HW.out.k
        have HC := Lib.hid hrc
        obtain ⟨A1', c1', hcut, hrest⟩ := HRS.out.1.cut34
        have HRS2 := Lib.hid hrest
        clear hrest
        obtain ⟨K, rid, au, aq, is, me, ca, a, cu, d, cg, f⟩ := r
        have hid : rid.size ≤ maxLen := HMR.out.1
        have e0 := HC.out.c0
        have e1 := HC.out.c1
        have e2 := HC.out.c2
        have e3 := HC.out.c3
        have e4 := HC.out.c4
        have e5 := HC.out.c5
        have e6 := HC.out.c6
        have e7 := HC.out.c7
        have e8 := HC.out.c8
        have e9 := HC.out.c9
        have e10 := HC.out.c10
        have e11 := HC.out.c11
        dsimp only at e0 e1 e2 e3 e4 e5 e6 e7 e8 e9 e10 e11
        have HW1 := Lib.hid (HW.out.below (bxA wr (.cells #[.int .i64 K, .string rid, .string au, .string aq, .string is, .string me, .string ca, .int .i64 a, .string cu, .int .i64 d, .int .i64 cg, .bool f] 57)))
        have HK1 := Lib.hid (heap_alloc_new wr (.cells #[.int .i64 K, .string rid, .string au, .string aq, .string is, .string me, .string ca, .int .i64 a, .string cu, .int .i64 d, .int .i64 cg, .bool f] 57))
        have x3 := cell_c HW1.out.c3 0
        have x4 := cell_c HW1.out.c4 1
        have y1 := cell_c HK1.out 1
        have cx := HW1.out.cx
        have hl := fun n => (HW1.out.i.drewN n).seen vs rid HSD.out hid
        have hl0 := HW1.out.i.seen vs rid HSD.out hid
        have hbxl : b.x < wr.heap.size := by have := HW.out.i.xlt; rw [HW.out.hx] at this; exact this
        simp at x3 x4 y1
        dsimp only at hl hl0
        have HDUP := Lib.hid (trGood_dup (sd := vs) (i := i) (r := (⟨K, rid, au, aq, is, me, ca, a, cu, d, cg, f⟩ : Rec)) (t := s.t))
        have HNEW := Lib.hid (trGood_new (sd := vs) (i := i) (r := (⟨K, rid, au, aq, is, me, ca, a, cu, d, cg, f⟩ : Rec)) (t := s.t))
        obtain ⟨S, hS⟩ : ∃ S, seenB s.t.good vs rid = S := ⟨_, rfl⟩
        rw [hS] at hl hl0
        have HS := Lib.hid hS
        clear hS hrc
        cases S with
        | true =>
          have HTD := Lib.hid (HDUP.out HS.out)
          go_wp2_with fail
          go_quiet (fail)
          rename Nat => nq
          have HW2 := Lib.hid (HW1.out.below (below_drewN _ nq))
          have HK2 : Hid (((wr.alloc (.cells #[.int .i64 K, .string rid, .string au, .string aq, .string is, .string me, .string ca, .int .i64 a, .string cu, .int .i64 d, .int .i64 cg, .bool f] 57)).drewN nq).heap[wr.heap.size]? = some (.cells #[.int .i64 K, .string rid, .string au, .string aq, .string is, .string me, .string ca, .int .i64 a, .string cu, .int .i64 d, .int .i64 cg, .bool f] 57)) := Lib.hid HK1.out
          clear x3 x4 y1 cx hl hl0 e0 e1 e2 e3 e4 e5 e6 e7 e8 e9 e10 e11
          generalize (wr.alloc (.cells #[.int .i64 K, .string rid, .string au, .string aq, .string is, .string me, .string ca, .int .i64 a, .string cu, .int .i64 d, .int .i64 cg, .bool f] 57)).drewN nq = w2 at *
          have y1 := cell_c HK2.out 1
          simp at y1
          have HRJ := Lib.hid (reject_any HW2.out hNi hout (i, rid, 15) HSD.out hid)
          unfold RejPost at HRJ
          dsimp only at HRJ
          go_wp2_with fail
          refine (HRJ.out).mono ?_
          rintro e w3 ⟨rfl, v9', F2, b2, hT⟩
          rw [show trBad vs (i, rid, 15) s.t = _ from HTD.out] at hT
          have HT3 : Hid (TrW w0 st.sds st.fs tg b.x F X ⟨vi, vs, vd, rs⟩ A cp (N + 2 * (i + 1)) (TK (i + 1)).t u8 v9' F2 b2 w3) := Lib.hid (by rw [HS'.out, HQ1.out]; exact hT.mono (by omega))
          have HLS2 : Hid (([] : List Rej) = bad.drop (TK (i + 1)).r ∧ rl' = rs.drop (TK (i + 1)).k) := Lib.hid (by rw [HS'.out, HQ1.out]; exact ⟨HLS.out.1, HRL.out.symm⟩)
          clear hT
          go_wp2_with fail
          go_roundw
          case rel => exact ⟨i + 1, ([] : List Rej), rl', _, _, _, c2, v9', F2, b2, by omega, by go_num, rfl, rfl, HT3, HLS2, Lib.hid ⟨HRS2.out, HRS.out.2⟩⟩
          case measure => simp [intOf]; omega
        | false =>
          have HTN := Lib.hid (HNEW.out HS.out)
          go_wp2_with fail
          go_quiet (fail)
          rename Nat => nq
          have HW2 := Lib.hid (HW1.out.below (below_drewN _ nq))
          have HK2 : Hid (((wr.alloc (.cells #[.int .i64 K, .string rid, .string au, .string aq, .string is, .string me, .string ca, .int .i64 a, .string cu, .int .i64 d, .int .i64 cg, .bool f] 57)).drewN nq).heap[wr.heap.size]? = some (.cells #[.int .i64 K, .string rid, .string au, .string aq, .string is, .string me, .string ca, .int .i64 a, .string cu, .int .i64 d, .int .i64 cg, .bool f] 57)) := Lib.hid HK1.out
          clear x3 x4 y1 cx hl hl0 e0 e1 e2 e3 e4 e5 e6 e7 e8 e9 e10 e11
          generalize (wr.alloc (.cells #[.int .i64 K, .string rid, .string au, .string aq, .string is, .string me, .string ca, .int .i64 a, .string cu, .int .i64 d, .int .i64 cg, .bool f] 57)).drewN nq = w2 at *
          have y1 := cell_c HK2.out 1
          have x3 := cell_c HW2.out.c3 0
          have x4 := cell_c HW2.out.c4 1
          have cx := HW2.out.cx
          simp at y1 x3 x4
          have HW3 := Lib.hid (HW2.out.below ((Below.refl _ _).drew))
          obtain ⟨w4, hrun, hi4, hg4⟩ := HW3.out.i.put (by omega) vs (⟨K, rid, au, aq, is, me, ca, a, cu, d, cg, f⟩ : Rec) HSD.out hid
          have HW4 := Lib.hid (HW3.out.mut (t' := ⟨s.t.good ++ [(vs, (⟨K, rid, au, aq, is, me, ca, a, cu, d, cg, f⟩ : Rec))], s.t.bad, s.t.acc, s.t.out⟩) hi4 rfl rfl (Nat.le_succ_of_le HW3.out.ob) rfl (fun k q => .inl q) (fun k q => q) (KeptE.of_grown hg4 HW3.out.i.fr))
          have HK4 := Lib.hid (grown_lt (B := 0) hg4 (show (w2.drew).heap[wr.heap.size]? = _ from HK2.out) (fun e => by injection e with e; have := (HW.out.i.fp _ HW.out.i.fr).2; omega))
          dsimp only at hrun
          clear hi4 hg4
          go_wp2_with fail
          go_region
          clear x3 x4 y1 cx hrun
          have y1 := cell_c HK4.out 1
          have x3 := cell_c HW4.out.c3 0
          have x4 := cell_c HW4.out.c4 1
          simp at y1 x3 x4
          have HSE := Lib.hid (settle_any HW4.out.i (by omega) vs rid HSD.out (by have := openOf_len s.t.bad vs; have := HW4.out.ob; dsimp only at this ⊢; omega))
          rw [HW4.out.hx] at HSE
          unfold MutPost at HSE
          dsimp only at HSE
          go_wp2_with fail
          refine (HSE.out).mono ?_
          rintro e w5 ⟨rfl, F2, b2, q1, q2, q3, q4, q5⟩
          have HW5 := Lib.hid (HW4.out.mut (t' := ⟨s.t.good ++ [(vs, (⟨K, rid, au, aq, is, me, ca, a, cu, d, cg, f⟩ : Rec))], delB vs rid s.t.bad, s.t.acc, s.t.out⟩) q1 rfl rfl (Nat.le_trans (List.length_filter_le _ _) (Nat.le_succ_of_le HW4.out.ob)) q2 q3 q4 q5)
          have HK5 := Lib.hid (q5.heap HK4.out (fun q => by have := (HW.out.i.fp _ q).2; omega))
          clear q1 q2 q3 q4 q5 x3 x4 y1
          have HW6 := Lib.hid (HW5.out.below (bxA w5 (.cells #[.int .i64 K, .string rid, .string au, .string aq, .string is, .string me, .string ca, .int .i64 a, .string cu, .int .i64 d, .int .i64 cg, .bool f] 57)))
          have HRD : Hid (Reads (w5.alloc (.cells #[.int .i64 K, .string rid, .string au, .string aq, .string is, .string me, .string ca, .int .i64 a, .string cu, .int .i64 d, .int .i64 cg, .bool f] 57)) (w5.heap.size + 1) 12 (some ⟨w5.heap.size, 0, none⟩) 1 [.int .i64 K, .string rid, .string au, .string aq, .string is, .string me, .string ca, .int .i64 a, .string cu, .int .i64 d, .int .i64 cg, .bool f]) := Lib.hid
            ⟨rfl, fun _ => ⟨⟨w5.heap.size, 0, none⟩, rfl, Nat.lt_succ_self _, World.news_of_block (cs := #[.int .i64 K, .string rid, .string au, .string aq, .string is, .string me, .string ca, .int .i64 a, .string cu, .int .i64 d, .int .i64 cg, .bool f]) (t := 57) (fr := (0, 0)) (heap_alloc_new w5 _)⟩⟩
          have HON2 : Hid (([.int .i64 K, .string rid, .string au, .string aq, .string is, .string me, .string ca, .int .i64 a, .string cu, .int .i64 d, .int .i64 cg, .bool f] : List Value).all (·.oneCell') = true) := Lib.hid (by simp [Value.oneCell'])
          have hl5 := HW5.out.lt
          go_wp2_with (first | (refine wpList_load_row rfl 57 _ rfl wr.heap.size rfl 57 _ _ _ HK5.out Tryz.underlying57 rfl (info25 (⟨K, rid, au, aq, is, me, ca, a, cu, d, cg, f⟩ : Rec)) ?_) | (at_builtin; refine wpList_append_any _ rfl (.tmp 83) (.tmp 85) _ rfl (X.heap.size + 3) 57 i57 _ 12 152 Tryz.underlying34 HI.out.1 HI.out.2.1 HI.out.2.2.1 HI.out.2.2.2 rfl (by omega) _ s.t.acc.length _ rfl HW6.out.o8 _ (some ⟨w5.heap.size, 0, none⟩) 1 1 [.int .i64 K, .string rid, .string au, .string aq, .string is, .string me, .string ca, .int .i64 a, .string cu, .int .i64 d, .int .i64 cg, .bool f] rfl HRD.out (by intro u hu; have := List.all_eq_true.1 HON2.out u hu; simpa using this) (by unfold maxLen; omega) (by omega) (by simp; omega) ?_; intro v8' w8 hown hgrow hwh; have HT6 := Lib.hid (HW6.out.acc (⟨K, rid, au, aq, is, me, ca, a, cu, d, cg, f⟩ : Rec) hown hgrow hwh); clear hown hgrow hwh))
          have HT3 : Hid (TrW w0 st.sds st.fs tg b.x F X ⟨vi, vs, vd, rs⟩ A cp (N + 2 * (i + 1)) (TK (i + 1)).t v8' v9 F2 b2 w8) := Lib.hid (by rw [HS'.out, HQ1.out]; show TrW _ _ _ _ _ _ _ _ _ _ _ (trGood _ _ _ _) _ _ _ _ _; rw [HTN.out]; exact HT6.out)
          have HLS2 : Hid (([] : List Rej) = bad.drop (TK (i + 1)).r ∧ rl' = rs.drop (TK (i + 1)).k) := Lib.hid (by rw [HS'.out, HQ1.out]; exact ⟨HLS.out.1, HRL.out.symm⟩)
          go_roundw
          case rel => exact ⟨i + 1, ([] : List Rej), rl', _, _, _, c2, v9, F2, b2, by omega, by go_num, rfl, rfl, HT3, HLS2, Lib.hid ⟨HRS2.out, HRS.out.2⟩⟩
          case measure => simp [intOf]; omega
    · obtain rfl : i = rs.length + bad.length := by omega
      have iI : ¬ ((rs.length + bad.length : Nat) : Int) < (rs.length : Int) + (bad.length : Int) := by omega
      rw [← HALL.out] at HW
      have c9 := cell_c HW.out.c9 0
      simp at c9
      go_wp2_with fail
      go_quiet (fail)
      rename Nat => nq
      have HE := Lib.hid (treat_end (HW.out.below (below_drewN wr nq)) (Nat.le_refl _))
      go_wp2_with fail
      go_ret2
      trace_state
      exact HE.out
end Go.Proofs.YthflmdgfenojcaaGreatDoor
namespace Go.Proofs.YthflmdgfenojcaaGreatDoor
set_option linter.unusedVariables false
open Go.RowKit Go.Sort Go.Maps
set_option maxRecDepth 1000000 in
set_option maxHeartbeats 6400000 in
theorem count_any {w0 : World} {st : InS} {tg : List (ByteArray × Rec)} {N : Nat} {F : Nat → Prop} {b : InB} {W : World} (h : InW w0 st tg N F b W) (tg' : List (ByteArray × Rec)) (sd : ByteArray) (hs : sd.size ≤ maxLen) (hin : sd ∈ st.sds) (n x y z n' x' y' z' : Int)
    (h1 : totOf tg sd = totV n x y z) (h2 : totOf tg' sd = totV (n + n') (x + x') (y + y') ((z + z') % 100000000)) (ho : ∀ d, d ≠ sd → totOf tg' d = totOf tg d)
    (b1 : 0 ≤ n ∧ 0 ≤ x ∧ 0 ≤ y ∧ 0 ≤ z) (b2 : 0 ≤ n' ∧ 0 ≤ x' ∧ 0 ≤ y' ∧ 0 ≤ z') (b3 : n ≤ 1000000000000000000 ∧ x ≤ 1000000000000000000 ∧ y ≤ 1000000000000000000 ∧ z ≤ 1000000000000000000) (b4 : n' ≤ 1000000000000000000 ∧ x' ≤ 1000000000000000000 ∧ y' ≤ 1000000000000000000 ∧ z' ≤ 1000000000000000000) :
    Calls Tryz.prog 61 #[.pointer (some ⟨b.x, 0, none⟩), .string sd, totV n' x' y' z'] W (MutPost w0 st tg' N F b W) := by
  have HB1 := Lib.hid (bxA W (.cells #[.int .i64 n', .int .i64 x', .int .i64 y', .int .i64 z'] 46))
  have HW1 := Lib.hid (h.below HB1.out)
  have HB2 := Lib.hid (bxA (W.alloc (.cells #[.int .i64 n', .int .i64 x', .int .i64 y', .int .i64 z'] 46)) (.cells #[.int .i64 (n + n'), .int .i64 (x + x'), .int .i64 (y + y'), .int .i64 ((z + z') % 100000000)] 46))
  have HBB := Lib.hid ((HB1.out.trans (HB2.out.mono HB1.out.size)).drew)
  have HW2 := Lib.hid ((HW1.out.below HB2.out).below ((Below.refl _ _).drew))
  have hl := HW1.out.total sd hs
  rw [if_pos hin, h1] at hl
  obtain ⟨w4, hrun, hi4, hg4⟩ := HW2.out.tally tg' sd hs hin ho
  rw [h2] at hrun
  have HFIN := Lib.hid (mut_fin HBB.out hi4 rfl (fun k q => .inl q) (fun k q => q) (KeptE.of_grown hg4 HW2.out.ft))
  have c0 := h.c0
  have c01 := HW1.out.c0
  have hx := h.xlt
  have e1 : wrap64 (n + n') = n + n' := wrap_fit (by omega) (by omega)
  have e2 : wrap64 (x + x') = x + x' := wrap_fit (by omega) (by omega)
  have e3 : wrap64 (y + y') = y + y' := wrap_fit (by omega) (by omega)
  have e4 : wrap64 (z + z') = z + z' := wrap_fit (by omega) (by omega)
  have c02 : ((W.alloc (.cells #[.int .i64 n', .int .i64 x', .int .i64 y', .int .i64 z'] 46)).alloc (.cells #[.int .i64 (n + n'), .int .i64 (x + x'), .int .i64 (y + y'), .int .i64 ((z + z') % 100000000)] 46)).cell? ⟨b.x, 0, none⟩ = some (.map (some b.t)) := HW2.out.c0
  have e5 : (z + z').tmod 100000000 = (z + z') % 100000000 := Int.tmod_eq_emod_of_nonneg (by omega)
  unfold totV at hl hrun ⊢
  clear h hi4 hg4 h1 h2 ho b1 b2 b3 b4
  go_enter Tryz.func61, Tryz.ntmps61
  go_wp2_with fail
  go_region
  all_goals
    go_end0
    exact HFIN.out
theorem trS_good (sd) (rs : List Rec) (bad : List Rej) (t0 : TreS) : ∀ i, ∃ l, (trK sd rs bad t0 i).t.acc = t0.acc ++ l ∧ (trK sd rs bad t0 i).t.good = t0.good ++ l.map (fun r => (sd, r)) ∧ ∀ r ∈ l, r = rcAt rs (rs.length) ∨ r ∈ rs
  | 0 => ⟨[], by simp [trK], by simp [trK], fun r h => by cases h⟩
  | i + 1 => by
    obtain ⟨l, h1, h2, h3⟩ := trS_good sd rs bad t0 i
    rw [trK_succ]
    generalize trK sd rs bad t0 i = s at *
    unfold trStep
    split
    · exact ⟨l, h1, h2, h3⟩
    · unfold trGood
      split
      · exact ⟨l, h1, h2, h3⟩
      · refine ⟨l ++ [rcAt rs s.k], by simp [h1], by simp [h2], fun r hr => ?_⟩
        rcases List.mem_append.1 hr with q | q
        · exact h3 r q
        · rw [List.mem_singleton.1 q]
          rcases Nat.lt_or_ge s.k rs.length with c | c
          · right; rw [rcAt_get rs s.k c]; exact List.getElem_mem c
          · left
            unfold rcAt
            rw [List.getD_eq_getElem?_getD, List.getD_eq_getElem?_getD, List.getElem?_eq_none c, List.getElem?_eq_none (Nat.le_refl _)]
theorem recsOf_app (g : List (ByteArray × Rec)) (sd d : ByteArray) (l : List Rec) : recsOf (g ++ l.map (fun r => (sd, r))) d = recsOf g d ++ (if d = sd then l else []) := by
  unfold recsOf
  rw [List.filter_append, List.map_append]
  congr 1
  by_cases h : d = sd
  · rw [if_pos h]
    have e : (l.map (fun r => (sd, r))).filter (fun x => decide (x.1 = d)) = l.map (fun r => (sd, r)) := by
      rw [List.filter_eq_self]
      intro x hx
      obtain ⟨r, _, rfl⟩ := List.mem_map.1 hx
      simp [h]
    rw [e, List.map_map]
    exact List.map_id _
  · rw [if_neg h]
    have e : (l.map (fun r => (sd, r))).filter (fun x => decide (x.1 = d)) = [] := by
      rw [List.filter_eq_nil_iff]
      intro x hx
      obtain ⟨r, _, rfl⟩ := List.mem_map.1 hx
      simp
      exact fun e => h e.symm
    rw [e]; rfl
end Go.Proofs.YthflmdgfenojcaaGreatDoor
namespace Go.Proofs.YthflmdgfenojcaaGreatDoor
set_option linter.unusedVariables false
open Go.RowKit Go.Sort Go.Maps
theorem acV_szR (x : ByteArray) : szR (decV x) ≤ 7 * x.size := by
  unfold decV
  split
  · have hp := fun j => prt_size x j
    have h1 := hp 1
    have h2 := hp 2
    have h3 := hp 3
    have h4 := hp 4
    have h5 := hp 5
    have h6 := hp 6
    have h8 := hp 8
    show (prt (cutS x) 1).size + (prt (cutS x) 2).size + (prt (cutS x) 3).size + (prt (cutS x) 4).size + (prt (cutS x) 5).size + (prt (cutS x) 6).size + (prt (cutS x) 8).size ≤ 7 * x.size
    omega
  · exact Nat.zero_le _
theorem lnId_size (x : ByteArray) : (lnId x).size ≤ x.size := by
  unfold lnId
  split
  · exact prt_size x 2
  · exact Nat.zero_le _
theorem step_sz {sd x : ByteArray} {st : RdS} {i M7 M : Nat} (h1 : ∀ r ∈ st.rs, szR r ≤ M7) (h2 : ∀ y ∈ st.bad, y.2.1.size ≤ M) (h3 : szR (decV (txtOf x)) ≤ M7) (h4 : (lnId x).size ≤ M) :
    (∀ r ∈ (rdStep sd st i x).rs, szR r ≤ M7) ∧ ∀ y ∈ (rdStep sd st i x).bad, y.2.1.size ≤ M := by
  by_cases q : ptD sd st.rs x = 0
  · rw [rdStep_ok q]
    generalize decV (txtOf x) = R at *
    refine ⟨fun r h => ?_, h2⟩
    rcases List.mem_append.1 h with h | h
    · exact h1 r h
    · rw [List.mem_singleton.1 h]; exact h3
  · rw [rdStep_no q]
    generalize ptD sd st.rs x = E at *
    generalize lnId x = L at *
    refine ⟨h1, fun y h => ?_⟩
    rcases List.mem_append.1 h with h | h
    · exact h2 y h
    · rw [List.mem_singleton.1 h]; exact h4
theorem ac_mem (s : ByteArray) : ∀ k, (∀ r ∈ (rdK s k).rs, szR r ≤ 7 * s.size) ∧ ∀ x ∈ (rdK s k).bad, x.2.1.size ≤ s.size
  | 0 => ⟨(fun r h => by cases h), (fun r h => by cases h)⟩
  | k + 1 => by
    obtain ⟨i1, i2⟩ := ac_mem s k
    have h3 : (rcL s k).size ≤ s.size := lnAt_size s (1 + k)
    have h2 : (txtOf (rcL s k)).size ≤ (rcL s k).size := by unfold txtOf; rw [ByteArray.size_extract]; omega
    have h1 := acV_szR (txtOf (rcL s k))
    have h4 := lnId_size (rcL s k)
    rw [rdK_succ]
    exact step_sz i1 i2 (by omega) (by omega)
theorem ac_hdP (s : ByteArray) (j : Nat) : (hdP s j).size ≤ s.size := by
  unfold hdP
  exact Nat.le_trans (prt_size (lnAt s 0) j) (lnAt_size s 0)
structure FileOk (s : ByteArray) : Prop where
  i : (fileV s).id.size ≤ s.size
  sz : (fileV s).sd.size ≤ s.size
  r : ∀ r ∈ (fileV s).rs, szR r ≤ 7 * s.size
  b : ∀ x ∈ fileB s, x.2.1.size ≤ s.size
  n : (fileV s).rs.length + (fileB s).length ≤ 200
theorem file_ok {s : ByteArray} (h : fileE s = 0) : FileOk s := by
  have e := fileV_ok h
  have e1 : (fileV s).id = hdP s 1 := by rw [e]
  have e2 : (fileV s).sd = hdP s 2 := by rw [e]
  have e3 := fileV_rs h
  have e4 := fileB_of h
  obtain ⟨_, _, _, _, h5, _⟩ := file_zero h
  have h6 := rd_sum s (nRc s)
  refine ⟨by rw [e1]; exact ac_hdP s 1, by rw [e2]; exact ac_hdP s 2, by rw [e3]; exact (ac_mem s _).1, by rw [e4]; exact (ac_mem s _).2, by rw [e3, e4]; omega⟩
theorem szR_fit' {r : Rec} (h : szR r ≤ 100000000) : r.Fit := by
  obtain ⟨K, id, au, aq, iss, me, ca, a, cu, d, c, f⟩ := r
  unfold szR at h
  unfold Rec.Fit
  dsimp only at h ⊢
  have hm : 100000000 ≤ maxLen := by decide
  generalize maxLen = M at *
  generalize id.size = n1 at *
  generalize au.size = n2 at *
  generalize aq.size = n3 at *
  generalize iss.size = n4 at *
  generalize me.size = n5 at *
  generalize ca.size = n6 at *
  generalize cu.size = n7 at *
  exact ⟨by omega, by omega, by omega, by omega, by omega, by omega, by omega⟩
theorem accE_1 {st : InS} {date : Int} {s : ByteArray} (h : date < 0 ∨ 99999 < date) : accE st date s = 14 := by unfold accE; rw [if_pos h]
theorem accE_2 {st : InS} {date : Int} {s : ByteArray} (h : ¬ (date < 0 ∨ 99999 < date)) (h2 : fileE s ≠ 0) : accE st date s = fileE s := by unfold accE; rw [if_neg h, if_pos h2]
theorem accE_3 {st : InS} {date : Int} {s : ByteArray} (h : ¬ (date < 0 ∨ 99999 < date)) (h2 : fileE s = 0) (h3 : ¬ (fileV s).sd ∈ st.sds) : accE st date s = 6 := by unfold accE; rw [if_neg h, if_neg (by simp [h2]), if_pos h3]
theorem accE_4 {st : InS} {date : Int} {s : ByteArray} (h : ¬ (date < 0 ∨ 99999 < date)) (h2 : fileE s = 0) (h3 : (fileV s).sd ∈ st.sds) (h4 : date < (fileV s).dt) : accE st date s = 14 := by unfold accE; rw [if_neg h, if_neg (by simp [h2]), if_neg (by simp [h3]), if_pos h4]
theorem accE_5 {st : InS} {date : Int} {s : ByteArray} (h : ¬ (date < 0 ∨ 99999 < date)) (h2 : fileE s = 0) (h3 : (fileV s).sd ∈ st.sds) (h4 : ¬ date < (fileV s).dt) (h5 : inF st.fs (fileV s).sd (fileV s).id = true) : accE st date s = 15 := by
  unfold accE; rw [if_neg h, if_neg (by simp [h2]), if_neg (by simp [h3]), if_neg h4, if_pos h5]
theorem accE_6 {st : InS} {date : Int} {s : ByteArray} (h : ¬ (date < 0 ∨ 99999 < date)) (h2 : fileE s = 0) (h3 : (fileV s).sd ∈ st.sds) (h4 : ¬ date < (fileV s).dt) (h5 : inF st.fs (fileV s).sd (fileV s).id = false) (h6 : 64 ≤ st.fs.length) : accE st date s = 12 := by
  unfold accE; rw [if_neg h, if_neg (by simp [h2]), if_neg (by simp [h3]), if_neg h4, if_neg (by rw [h5]; decide), if_pos h6]
theorem accE_0 {st : InS} {date : Int} {s : ByteArray} (h : ¬ (date < 0 ∨ 99999 < date)) (h2 : fileE s = 0) (h3 : (fileV s).sd ∈ st.sds) (h4 : ¬ date < (fileV s).dt) (h5 : inF st.fs (fileV s).sd (fileV s).id = false) (h6 : ¬ 64 ≤ st.fs.length) : accE st date s = 0 := by
  unfold accE; rw [if_neg h, if_neg (by simp [h2]), if_neg (by simp [h3]), if_neg h4, if_neg (by rw [h5]; decide), if_neg h6]
/-- What Accept leaves. -/
def AccPost (w0 : World) (st : InS) (date : Int) (s : ByteArray) (N : Nat) (F : Nat → Prop) (b : InB) (W : World) (e : Ending) (W' : World) : Prop :=
  ∃ v8 v9 F' b', e = .returned (.tuple #[v8, v9, .int .i64 (accE st date s)]) ∧ InW w0 (accS st date s) (accS st date s).good (N + 400) F' b' W' ∧ (accS st date s).bad.length ≤ N + 400 ∧ b'.x = b.x ∧ (∀ k, F' k → F k ∨ W.heap.size ≤ k) ∧ (∀ k, F k → F' k) ∧ KeptE F W W' ∧
    W'.ownsRow W.heap.size 57 12 v8 (accG st date s).length ((accG st date s).flatMap recF) ∧ W'.ownsRow W.heap.size 65 3 v9 (accB st date s).length ((accB st date s).flatMap rejF) ∧ (∀ g, v8.ownBlock = some g → ¬ F' g) ∧ (∀ g, v9.ownBlock = some g → ¬ F' g)
section
variable {w0 : World} {st : InS} {N : Nat} {F : Nat → Prop} {b : InB} {W W' : World}
/-- The state of Accept ahead of its first write. -/
structure AcS (w0 : World) (st : InS) (N : Nat) (F : Nat → Prop) (b : InB) (W : World) (BK : Nat) (vi vs : ByteArray) (vd : Int) (A8 : Option Addr) (c8 : Nat) (vr : List Rec) (A9 : Option Addr) (c9 : Nat) (Bd : List Rej) (X : World) : Prop where
  i : InW w0 st st.good N F b X
  k : X.heap[BK]? = some (.cells #[.string vi, .string vs, .int .i64 vd, .slice A8 vr.length c8] 61)
  o8 : X.ownsRow W.heap.size 57 12 (.slice A8 vr.length c8) vr.length (vr.flatMap recF)
  o9 : X.ownsRow W.heap.size 65 3 (.slice A9 Bd.length c9) Bd.length (Bd.flatMap rejF)
  be : Below W.heap.size W X
theorem AcS.below {BK : Nat} {vi vs : ByteArray} {vd : Int} {A8 A9 : Option Addr} {c8 c9 : Nat} {vr : List Rec} {Bd : List Rej} {X X' : World} (h : AcS w0 st N F b W BK vi vs vd A8 c8 vr A9 c9 Bd X) (hb : Below X.heap.size X X') : AcS w0 st N F b W BK vi vs vd A8 c8 vr A9 c9 Bd X' :=
  ⟨h.i.below hb, blk_later h.k hb, own_later h.o8 hb, own_later h.o9 hb, h.be.trans (hb.mono h.be.size)⟩
theorem AcS.row4 {BK : Nat} {vi vs : ByteArray} {vd : Int} {A8 A9 : Option Addr} {c8 c9 : Nat} {vr : List Rec} {Bd : List Rej} {X : World} (h : AcS w0 st N F b W BK vi vs vd A8 c8 vr A9 c9 Bd X) : X.cell? ⟨b.x, 1, none⟩ = some b.fv ∧ X.cell? ⟨BK, 0, none⟩ = some (.string vi) ∧ X.cell? ⟨BK, 1, none⟩ = some (.string vs) ∧ X.cell? ⟨BK, 2, none⟩ = some (.int .i64 vd) :=
  ⟨h.i.c1, cell_c h.k 0, cell_c h.k 1, cell_c h.k 2⟩
theorem acc_bad (h : InW w0 st st.good N F b W) (hob : st.bad.length ≤ N) {date : Int} {s : ByteArray} {E : Int} (he : accE st date s = E) (h0 : E ≠ 0) (hb : Below W.heap.size W W') :
    AccPost w0 st date s N F b W (.returned (.tuple #[.slice none 0 0, .slice none 0 0, .int .i64 E])) W' := by
  have e1 : accS st date s = st := by unfold accS; rw [if_neg (by rw [he]; exact h0)]
  have e2 : accG st date s = [] := by unfold accG; rw [if_neg (by rw [he]; exact h0)]
  have e3 : accB st date s = [] := by unfold accB; rw [if_neg (by rw [he]; exact h0)]
  exact ⟨_, _, F, b, by rw [he], by rw [e1]; exact (h.below hb).mono (by omega), by rw [e1]; omega, rfl, fun k q => .inl q, fun k q => q, KeptE.of_below hb, by rw [e2]; exact World.ownsRow_nil _ _ _ _, by rw [e3]; exact World.ownsRow_nil _ _ _ _, (fun g q => by cases q), (fun g q => by cases q)⟩
/-- The state of Accept behind treat. -/
structure AfS (w0 : World) (st1 : InS) (tg : List (ByteArray × Rec)) (N bx : Nat) (F : Nat → Prop) (W : World) (BK : Nat) (C : Array Value) (acc : List Rec) (out : List Rej) (v8 v9 : Value) (F2 : Nat → Prop) (b2 : InB) (Y : World) : Prop where
  i : InW w0 st1 tg N F2 b2 Y
  hx : b2.x = bx
  fn : ∀ k, F2 k → F k ∨ W.heap.size ≤ k
  fm : ∀ k, F k → F2 k
  k : KeptE F W Y
  o8 : Y.ownsRow W.heap.size 57 12 v8 acc.length (acc.flatMap recF)
  o9 : Y.ownsRow W.heap.size 65 3 v9 out.length (out.flatMap rejF)
  n8 : ∀ g, v8.ownBlock = some g → ¬ F2 g
  n9 : ∀ g, v9.ownBlock = some g → ¬ F2 g
  bk : Y.heap[BK]? = some (.cells C 61)
  pb : ¬ F2 BK
theorem AfS.below {st1 : InS} {tg : List (ByteArray × Rec)} {bx BK : Nat} {C : Array Value} {acc : List Rec} {out : List Rej} {v8 v9 : Value} {F2 : Nat → Prop} {b2 : InB} {Y Y' : World} (h : AfS w0 st1 tg N bx F W BK C acc out v8 v9 F2 b2 Y) (hb : Below Y.heap.size Y Y') : AfS w0 st1 tg N bx F W BK C acc out v8 v9 F2 b2 Y' :=
  ⟨h.i.below hb, h.hx, h.fn, h.fm, h.k.trans (KeptE.of_below (F := F) hb) (fun _ q => .inl q), own_later h.o8 hb, own_later h.o9 hb, h.n8, h.n9, blk_later h.bk hb, h.pb⟩
theorem AfS.mut {st1 : InS} {tg tg' : List (ByteArray × Rec)} {bx BK : Nat} {C : Array Value} {acc : List Rec} {out : List Rej} {v8 v9 : Value} {F2 F3 : Nat → Prop} {b2 b3 : InB} {Y Y' : World} (h : AfS w0 st1 tg N bx F W BK C acc out v8 v9 F2 b2 Y)
    (hi : InW w0 st1 tg' N F3 b3 Y') (hx : b3.x = b2.x) (hf : ∀ k, F3 k → F2 k ∨ Y.heap.size ≤ k) (hm : ∀ k, F2 k → F3 k) (hk : KeptE F2 Y Y') : AfS w0 st1 tg' N bx F W BK C acc out v8 v9 F3 b3 Y' := by
  have hsz := h.k.size
  have hno : ∀ k, k < Y.heap.size → ¬ F2 k → ¬ F3 k := fun k h1 h2 h3 => by rcases hf k h3 with q | q; exact h2 q; omega
  refine ⟨hi, hx.trans h.hx, fun k q => ?_, fun k q => hm k (h.fm k q), h.k.trans hk h.fn, hk.own h.o8 h.n8, hk.own h.o9 h.n9, fun g hg => hno g (own_lt h.o8 hg).2 (h.n8 g hg), fun g hg => hno g (own_lt h.o9 hg).2 (h.n9 g hg), hk.heap h.bk h.pb, hno _ (Array.getElem?_eq_some_iff.1 h.bk).1 h.pb⟩
  rcases hf k q with q | q
  · exact h.fn k q
  · exact .inr (by omega)
/-- What treat is handed. -/
theorem pre_treat {BK : Nat} {vi vs : ByteArray} {vd : Int} {A8 A9 : Option Addr} {c8 c9 : Nat} {vr : List Rec} {Bd : List Rej} {WA WB : World} {F1 : Nat → Prop} (h : AcS w0 st N F b W BK vi vs vd A8 c8 vr A9 c9 Bd WA) (hF : ∀ k, F k → k < W.heap.size) (hBK : W.heap.size ≤ BK)
    (l8 : vr.length ≤ c8) (l9 : Bd.length ≤ c9) (hk : KeptE F WA WB) (hf : ∀ k, F1 k → F k ∨ WA.heap.size ≤ k) :
    RestW recF F1 WB A8 c8 vr ∧ RestW rejF F1 WB A9 c9 Bd ∧ WB.heap[BK]? = some (.cells #[.string vi, .string vs, .int .i64 vd, .slice A8 vr.length c8] 61) ∧ ¬ F1 BK ∧ KeptE F W WB ∧ ∀ k, F1 k → F k ∨ W.heap.size ≤ k := by
  have hsz := h.be.size
  have hno : ∀ k, W.heap.size ≤ k → k < WA.heap.size → ¬ F1 k := fun k h1 h2 q => by
    rcases hf k q with r | r
    · have := hF k r; omega
    · omega
  have hno0 : ∀ k, W.heap.size ≤ k → ¬ F k := fun k h1 q => by have := hF k q; omega
  have hbl := (Array.getElem?_eq_some_iff.1 h.k).1
  refine ⟨⟨?_, l8, fun ad e => ?_⟩, ⟨?_, l9, fun ad e => ?_⟩, hk.heap h.k (hno0 _ hBK), hno _ hBK hbl, (KeptE.of_below (F := F) h.be).trans hk (fun _ q => .inl q), fun k q => ?_⟩
  · exact IsRow.of_own (c := c8) (hk.own h.o8 (fun g hg => hno0 g (own_lt h.o8 hg).1))
  · have := own_lt h.o8 (show (Value.slice A8 vr.length c8).ownBlock = some ad.block by rw [e]; rfl)
    exact hno _ this.1 this.2
  · exact IsRow.of_own (c := c9) (hk.own h.o9 (fun g hg => hno0 g (own_lt h.o9 hg).1))
  · have := own_lt h.o9 (show (Value.slice A9 Bd.length c9).ownBlock = some ad.block by rw [e]; rfl)
    exact hno _ this.1 this.2
  · rcases hf k q with r | r
    · exact .inl r
    · exact .inr (by omega)
theorem post_treat {sds : List ByteArray} {fs' : List (ByteArray × ByteArray)} {tg : List (ByteArray × Rec)} {bx BK M M' : Nat} {C : Array Value} {T : TreS} {F1 F2 : Nat → Prop} {b2 : InB} {WB Y : World} {v8 v9 : Value} (hbk : WB.heap[BK]? = some (.cells C 61)) (hpb : ¬ F1 BK) (hk : KeptE F W WB) (hf : ∀ k, F1 k → F k ∨ W.heap.size ≤ k) (hm : ∀ k, F k → F1 k) (hM : M ≤ M')
    (q1 : InW w0 ⟨sds, fs', T.good, T.bad⟩ tg M F2 b2 Y) (q3 : b2.x = bx) (q4 : ∀ k, F2 k → F1 k ∨ WB.heap.size ≤ k) (q5 : ∀ k, F1 k → F2 k) (q6 : KeptE F1 WB Y)
    (q7 : Y.ownsRow WB.heap.size 57 12 v8 T.acc.length (T.acc.flatMap recF)) (q8 : Y.ownsRow WB.heap.size 65 3 v9 T.out.length (T.out.flatMap rejF)) (q9 : ∀ g, v8.ownBlock = some g → ¬ F2 g) (q10 : ∀ g, v9.ownBlock = some g → ¬ F2 g) :
    AfS w0 ⟨sds, fs', T.good, T.bad⟩ tg M' bx F W BK C T.acc T.out v8 v9 F2 b2 Y := by
  have hsz := hk.size
  refine ⟨q1.mono hM, q3, fun k q => ?_, fun k q => q5 k (hm k q), hk.trans q6 hf, own_base q7 hsz, own_base q8 hsz, q9, q10, q6.heap hbk hpb, fun q => ?_⟩
  · rcases q4 k q with r | r
    · exact hf k r
    · exact .inr (by omega)
  · rcases q4 _ q with r | r
    · exact hpb r
    · have := (Array.getElem?_eq_some_iff.1 hbk).1; omega
theorem acc_end {date : Int} {s : ByteArray} {fs' : List (ByteArray × ByteArray)} {BK M : Nat} {C : Array Value} {T : TreS} {v8' v9' : Value} {F3 : Nat → Prop} {b3 : InB} {Y : World} {AE : Int} {S' : InS} {G' : List Rec} {B' : List Rej} (h : AfS w0 ⟨st.sds, fs', T.good, T.bad⟩ T.good M b.x F W BK C T.acc T.out v8' v9' F3 b3 Y)
    (hE : AE = 0) (hS : S' = ⟨st.sds, fs', T.good, T.bad⟩) (hG : G' = T.acc) (hB : B' = T.out) (hob : T.bad.length ≤ M) :
    ∃ v8 v9 F' b', (Ending.returned (.tuple #[v8', v9', .int .i64 0]) = .returned (.tuple #[v8, v9, .int .i64 AE])) ∧ InW w0 S' S'.good M F' b' Y ∧ S'.bad.length ≤ M ∧ b'.x = b.x ∧ (∀ k, F' k → F k ∨ W.heap.size ≤ k) ∧ (∀ k, F k → F' k) ∧ KeptE F W Y ∧
      Y.ownsRow W.heap.size 57 12 v8 G'.length (G'.flatMap recF) ∧ Y.ownsRow W.heap.size 65 3 v9 B'.length (B'.flatMap rejF) ∧ (∀ g, v8.ownBlock = some g → ¬ F' g) ∧ (∀ g, v9.ownBlock = some g → ¬ F' g) := by
  rw [hE, hS, hG, hB]
  exact ⟨_, _, F3, b3, rfl, h.i, hob, h.hx, h.fn, h.fm, h.k, h.o8, h.o9, h.n8, h.n9⟩
theorem totB_lt (l : List ByteArray) : (C7.totB l : Int) < 100000000 := by
  rw [C7.totB_sum]; omega
theorem cardsOf_app (a b : List Rec) : cardsOf (a ++ b) = cardsOf a ++ cardsOf b := by unfold cardsOf; rw [List.map_append]
theorem recsOf_len (g : List (ByteArray × Rec)) (d : ByteArray) : (recsOf g d).length ≤ g.length := by
  unfold recsOf; rw [List.length_map]; exact List.length_filter_le _ _
/-- The totals of the sender behind a file, and of the others. -/
theorem tot_more (g : List (ByteArray × Rec)) (sd : ByteArray) (l : List Rec) :
    totOf (g ++ l.map (fun r => (sd, r))) sd = totV (((recsOf g sd).length : Int) + (l.length : Int)) (debS (recsOf g sd) (recsOf g sd).length + debS l l.length) (creS (recsOf g sd) (recsOf g sd).length + creS l l.length) (((C7.totB (cardsOf (recsOf g sd)) : Int) + (C7.totB (cardsOf l) : Int)) % 100000000) := by
  unfold totOf
  rw [recsOf_app, if_pos rfl, debS_app, creS_app, cardsOf_app, totB_app]
  simp
theorem tot_same (g : List (ByteArray × Rec)) (sd d : ByteArray) (l : List Rec) (h : d ≠ sd) : totOf (g ++ l.map (fun r => (sd, r))) d = totOf g d := by
  unfold totOf
  rw [recsOf_app, if_neg h, List.append_nil]
theorem mk103 : (Tryz.prog.info? 103).map (fun i => (i.zero, i.size, i.bytes)) = some (some (.agg #[.string ⟨#[]⟩, .string ⟨#[]⟩]), 2, 32) := by kernel_rfl
set_option maxRecDepth 1000000 in
set_option maxHeartbeats 25600000 in
theorem accept_any (h : InW w0 st st.good N F b W) (hw : BW W) (hob : st.bad.length ≤ N) (date : Int) (s : ByteArray) (hs : s.size ≤ 1000000) (hN : N < 700000) (hfl : st.fs.length ≤ 64) (hgl : st.good.length ≤ 100000) :
    Calls Tryz.prog 17 #[.pointer (some ⟨b.x, 0, none⟩), .int .i64 date, .string s] W (AccPost w0 st date s N F b W) := by
  have HI := Lib.hid h
  have HXL := h.xlt
  have HBAD := Lib.hid (fun E W' h1 h2 h3 => acc_bad h hob (date := date) (s := s) (E := E) (W' := W') h1 h2 h3)
  by_cases hd : date < 0 ∨ 99999 < date
  · have HE := Lib.hid (accE_1 (st := st) (s := s) hd)
    rcases hd with hd | hd
    · clear h
      go_enter Tryz.func17, Tryz.ntmps17
      go_wp2_with fail
      go_ret3
      exact HBAD.out 14 _ HE.out (by decide) (Below.refl _ _)
    · have hd0 : ¬ date < 0 := by omega
      clear h
      go_enter Tryz.func17, Tryz.ntmps17
      go_wp2_with fail
      go_ret3
      exact HBAD.out 14 _ HE.out (by decide) (Below.refl _ _)
  have hd0 : ¬ date < 0 := fun q => hd (.inl q)
  have hd1 : ¬ 99999 < date := fun q => hd (.inr q)
  have HDC := Lib.hid (bdc_any s W hw hs)
  unfold BdcPost at HDC
  have HE2 := Lib.hid (fun h2 => accE_2 (st := st) (s := s) hd h2)
  have HE3 := Lib.hid (fun h2 h3 => accE_3 (st := st) (s := s) hd h2 h3)
  have HE4 := Lib.hid (fun h2 h3 h4 => accE_4 (st := st) (s := s) hd h2 h3 h4)
  have HE5 := Lib.hid (fun h2 h3 h4 h5 => accE_5 (st := st) (s := s) hd h2 h3 h4 h5)
  have HE6 := Lib.hid (fun h2 h3 h4 h5 h6 => accE_6 (st := st) (s := s) hd h2 h3 h4 h5 h6)
  have HE0 := Lib.hid (fun h2 h3 h4 h5 h6 => accE_0 (st := st) (s := s) hd h2 h3 h4 h5 h6)
  have HFO := Lib.hid (fun h => file_ok (s := s) h)
  have HLA := Lib.hid (file_laced s)
  have HT : Hid (accT st s = trAll (fileV s).sd (fileV s).rs (fileB s) ⟨st.good, st.bad, [], []⟩) := Lib.hid rfl
  have HGO := Lib.hid (trS_good (fileV s).sd (fileV s).rs (fileB s) ⟨st.good, st.bad, [], []⟩ ((fileV s).rs.length + (fileB s).length))
  have HS0 : Hid (accE st date s = 0 → accS st date s = ⟨st.sds, st.fs ++ [((fileV s).sd, (fileV s).id)], (accT st s).good, (accT st s).bad⟩ ∧ accG st date s = (accT st s).acc ∧ accB st date s = (accT st s).out) := Lib.hid (fun q => by
    unfold accS accG accB; rw [if_pos q, if_pos q, if_pos q]; exact ⟨rfl, rfl, rfl⟩)
  unfold AccPost at HBAD ⊢
  have HGP : Hid ((∃ l : List Rec, (accT st s).acc = l ∧ (accT st s).good = st.good ++ l.map (fun r => ((fileV s).sd, r)) ∧ ∀ r ∈ l, r = rcAt (fileV s).rs (fileV s).rs.length ∨ r ∈ (fileV s).rs) ∧ (accT st s).acc.length ≤ (fileV s).rs.length + (fileB s).length) := Lib.hid (by
    obtain ⟨l, a1, a2, a3⟩ := HGO.out
    have a4 := (trS_len (fileV s).sd (fileV s).rs (fileB s) ⟨st.good, st.bad, [], []⟩ ((fileV s).rs.length + (fileB s).length)).2
    exact ⟨⟨l, by rw [HT.out]; exact a1, by rw [HT.out]; exact a2, a3⟩, by rw [HT.out]; unfold trAll; simpa using a4⟩)
  generalize accT st s = T at *
  generalize accS st date s = S' at *
  generalize accG st date s = G' at *
  generalize accB st date s = B' at *
  generalize accE st date s = AE at *
  obtain ⟨E, hE⟩ : ∃ E, fileE s = E := ⟨_, rfl⟩
  obtain ⟨V, hV⟩ : ∃ V, fileV s = V := ⟨_, rfl⟩
  obtain ⟨Bd, hBd⟩ : ∃ Bd, fileB s = Bd := ⟨_, rfl⟩
  have HFO2 : Hid (E = 0 → V.id.size ≤ s.size ∧ V.sd.size ≤ s.size ∧ (∀ r ∈ V.rs, szR r ≤ 7 * s.size) ∧ (∀ x ∈ Bd, x.2.1.size ≤ s.size) ∧ V.rs.length + Bd.length ≤ 200) := Lib.hid (fun q => by
    have := HFO.out (by rw [hE]; exact q)
    obtain ⟨a1, a2, a3, a4, a5⟩ := this
    rw [hV] at a1 a2 a3 a5
    rw [hBd] at a4 a5
    exact ⟨a1, a2, a3, a4, a5⟩)
  rw [hE, hV, hBd] at HDC
  rw [hE] at HE2 HE3 HE4 HE5 HE6 HE0
  rw [hV] at HE3 HE4 HE5 HE6 HE0 HLA HT HGP HS0
  rw [hBd] at HLA HT HGP
  clear HFO HGO hE hV hBd
  obtain ⟨vi, vs, vd, vr⟩ := V
  dsimp only at HDC HE3 HE4 HE5 HE6 HE0 HFO2 HLA HT HGP HS0
  unfold btC at HDC
  clear h
  go_enter Tryz.func17, Tryz.ntmps17
  go_wp2_with fail
  refine (HDC.out).mono ?_
  rintro e w1 ⟨v8, v9, rfl, o8, o9, hb⟩
  obtain ⟨A8, c8, rfl, -, l8⟩ := own_form o8
  obtain ⟨A9, c9, rfl, -, l9⟩ := own_form o9
  have HBX := Lib.hid (bxA w1 (.cells #[.string vi, .string vs, .int .i64 vd, .slice A8 vr.length c8] 61))
  have HS : Hid (AcS w0 st N F b W w1.heap.size vi vs vd A8 c8 vr A9 c9 Bd (w1.alloc (.cells #[.string vi, .string vs, .int .i64 vd, .slice A8 vr.length c8] 61))) := Lib.hid
    ⟨HI.out.below (hb.trans (HBX.out.mono hb.size)), heap_alloc_new _ _, own_later o8 HBX.out, own_later o9 HBX.out, hb.trans (HBX.out.mono hb.size)⟩
  have HWL := Lib.hid hb.size
  have HL8 := Lib.hid l8
  have HL9 := Lib.hid l9
  clear hb o8 o9 HDC l8 l9
  by_cases hE : E = 0
  case neg =>
    have heb : (E != 0) = true := by simpa using hE
    have HEE := Lib.hid (HE2.out hE)
    have HEN := Lib.hid hE
    clear hE
    go_wp2_with fail
    go_ret3
    exact HBAD.out E _ HEE.out HEN.out HS.out.be
  case pos =>
  subst hE
  obtain ⟨z1, z2, z3, z4, z5⟩ := HFO2.out rfl
  have hm : 100000000 ≤ maxLen := by decide
  have HSI : Hid (vi.size ≤ maxLen) := Lib.hid (by omega)
  have HSD : Hid (vs.size ≤ maxLen) := Lib.hid (by omega)
  have HFR : Hid (∀ x ∈ vr, x.Fit) := Lib.hid (fun x hx => szR_fit' (by have := z3 x hx; omega))
  have HFB : Hid (∀ x ∈ Bd, x.2.1.size ≤ maxLen) := Lib.hid (fun x hx => by have := z4 x hx; omega)
  have HX3 := Lib.hid (fun h3 => HE3.out rfl h3)
  have HX4 := Lib.hid (fun h3 h4 => HE4.out rfl h3 h4)
  have HX5 := Lib.hid (fun h3 h4 h5 => HE5.out rfl h3 h4 h5)
  have HX6 := Lib.hid (fun h3 h4 h5 h6 => HE6.out rfl h3 h4 h5 h6)
  have HX0 := Lib.hid (fun h3 h4 h5 h6 => HE0.out rfl h3 h4 h5 h6)
  have HKN := Lib.hid (knows_any HS.out.i vs HSD.out)
  unfold BoPost at HKN
  have k1 := HS.out.row4.2.2.1
  have HZN := Lib.hid z5
  clear z1 z2 z3 z4 z5 hm HE2 HE3 HE4 HE5 HE6 HE0 HFO2
  by_cases hin : vs ∈ st.sds
  case neg =>
    rw [decide_eq_false hin] at HKN
    have HEE := Lib.hid (HX3.out hin)
    clear hin
    go_wp2_with fail
    refine (HKN.out).mono ?_
    rintro e w3 ⟨rfl, hb⟩
    have HS := Lib.hid (HS.out.below hb)
    clear hb
    go_wp2_with fail
    go_ret3
    exact HBAD.out 6 _ HEE.out (by decide) HS.out.be
  case pos =>
  rw [decide_eq_true hin] at HKN
  have HIN := Lib.hid hin
  have HY4 := Lib.hid (HX4.out hin)
  have HY5 := Lib.hid (HX5.out hin)
  have HY6 := Lib.hid (HX6.out hin)
  have HY0 := Lib.hid (HX0.out hin)
  clear hin HX3 HX4 HX5 HX6 HX0
  go_wp2_with fail
  refine (HKN.out).mono ?_
  rintro e w3 ⟨rfl, hb⟩
  have HS := Lib.hid (HS.out.below hb)
  clear hb k1
  have k2 := HS.out.row4.2.2.2
  by_cases hdt : date < vd
  · have HEE := Lib.hid (HY4.out hdt)
    go_wp2_with fail
    go_ret3
    exact HBAD.out 14 _ HEE.out (by decide) HS.out.be
  have HZ5 := Lib.hid (HY5.out (by omega))
  have HZ6 := Lib.hid (HY6.out (by omega))
  have HZ0 := Lib.hid (HY0.out (by omega))
  have hdd := decide_eq_false hdt
  clear HY4 HY5 HY6 HY0
  have HS := Lib.hid (HS.out.below ((Below.refl w3.heap.size w3).drew))
  obtain ⟨FA, fc, hfv, hfr, hfc⟩ := own_form HS.out.i.f
  have HCN := Lib.hid (contains_any (c := fc) hfr vs vi (by omega))
  unfold BoPost at HCN
  have HFV := Lib.hid hfv
  have HR3 : Hid ((w3.drew).cell? ⟨b.x, 1, none⟩ = some (.slice FA st.fs.length fc) ∧ (w3.drew).cell? ⟨w1.heap.size, 0, none⟩ = some (.string vi) ∧ (w3.drew).cell? ⟨w1.heap.size, 1, none⟩ = some (.string vs)) := Lib.hid (by
    have := HS.out.row4
    rw [hfv] at this
    exact ⟨this.1, this.2.1, this.2.2.1⟩)
  have HR4 : Hid (∀ X, AcS w0 st N F b W w1.heap.size vi vs vd A8 c8 vr A9 c9 Bd X → X.cell? ⟨b.x, 1, none⟩ = some (.slice FA st.fs.length fc) ∧ X.cell? ⟨w1.heap.size, 0, none⟩ = some (.string vi) ∧ X.cell? ⟨w1.heap.size, 1, none⟩ = some (.string vs)) := Lib.hid (fun X hX => by
    have := hX.row4
    rw [hfv] at this
    exact ⟨this.1, this.2.1, this.2.2.1⟩)
  clear hfv hfr
  obtain ⟨IN, hIN⟩ : ∃ IN, inF st.fs vs vi = IN := ⟨_, rfl⟩
  rw [hIN] at HCN
  have HIF := Lib.hid hIN
  clear hIN
  go_wp2_with fail
  clear k2
  go_region_held3 (fun X => X.cell? ⟨b.x, 1, none⟩ = some (.slice FA st.fs.length fc) ∧ X.cell? ⟨w1.heap.size, 0, none⟩ = some (.string vi) ∧ X.cell? ⟨w1.heap.size, 1, none⟩ = some (.string vs))
    (exact HR4.out _ HS.out)
    (first
      | (go_at_call 59; refine (HCN.out).mono ?_; rintro e w' ⟨rfl, hb⟩; have HS := Lib.hid (HS.out.below hb); clear hb))
  cases IN with
  | true =>
    have HEE := Lib.hid (HZ5.out HIF.out)
    go_wp2_with fail
    go_ret3
    exact HBAD.out 15 _ HEE.out (by decide) HS.out.be
  | false =>
  have c1 := (HR4.out _ HS.out).1
  by_cases hfull : 64 ≤ st.fs.length
  · have hI : (64 : Int) ≤ (st.fs.length : Int) := by omega
    have HEE := Lib.hid (HZ6.out HIF.out hfull)
    go_wp2_with fail
    go_ret3
    exact HBAD.out 12 _ HEE.out (by decide) HS.out.be
  have hI : ¬ (64 : Int) ≤ (st.fs.length : Int) := by omega
  have HEE := Lib.hid (HZ0.out HIF.out hfull)
  obtain ⟨-, k0, k1⟩ := HR4.out _ HS.out
  have c1a := fun X => (World.cell?_alloc_lt w' X ⟨b.x, 1, none⟩ HS.out.i.xlt).trans c1
  have hbk : w1.heap.size < w'.heap.size := (Array.getElem?_eq_some_iff.1 HS.out.k).1
  have k0a := fun X => (World.cell?_alloc_lt w' X ⟨w1.heap.size, 0, none⟩ hbk).trans k0
  have k1a := fun X => (World.cell?_alloc_lt w' X ⟨w1.heap.size, 1, none⟩ hbk).trans k1
  obtain ⟨i103, HJ⟩ := info_parts mk103
  have HJ := Lib.hid HJ
  have HGO2 : Hid (True ∧ (∀ x ∈ T.acc, x.Fit) ∧ T.acc.length ≤ 1000000 ∧ totOf T.good vs = totV (((recsOf st.good vs).length : Int) + (T.acc.length : Int)) (debS (recsOf st.good vs) (recsOf st.good vs).length + debS T.acc T.acc.length) (creS (recsOf st.good vs) (recsOf st.good vs).length + creS T.acc T.acc.length) (((C7.totB (cardsOf (recsOf st.good vs)) : Int) + (C7.totB (cardsOf T.acc) : Int)) % 100000000) ∧
      (∀ d, d ≠ vs → totOf T.good d = totOf st.good d) ∧ (0 ≤ ((recsOf st.good vs).length : Int) ∧ 0 ≤ debS (recsOf st.good vs) (recsOf st.good vs).length ∧ 0 ≤ creS (recsOf st.good vs) (recsOf st.good vs).length ∧ 0 ≤ (C7.totB (cardsOf (recsOf st.good vs)) : Int)) ∧ (0 ≤ (T.acc.length : Int) ∧ 0 ≤ debS T.acc T.acc.length ∧ 0 ≤ creS T.acc T.acc.length ∧ 0 ≤ (C7.totB (cardsOf T.acc) : Int)) ∧
      (((recsOf st.good vs).length : Int) ≤ 1000000000000000000 ∧ debS (recsOf st.good vs) (recsOf st.good vs).length ≤ 1000000000000000000 ∧ creS (recsOf st.good vs) (recsOf st.good vs).length ≤ 1000000000000000000 ∧ (C7.totB (cardsOf (recsOf st.good vs)) : Int) ≤ 1000000000000000000) ∧ ((T.acc.length : Int) ≤ 1000000000000000000 ∧ debS T.acc T.acc.length ≤ 1000000000000000000 ∧ creS T.acc T.acc.length ≤ 1000000000000000000 ∧ (C7.totB (cardsOf T.acc) : Int) ≤ 1000000000000000000)) := Lib.hid (by
    obtain ⟨⟨l, a1, a2, a3⟩, a4⟩ := HGP.out
    have hz := HZN.out
    rw [a1] at a4
    rw [a1, a2]
    have hrl := recsOf_len st.good vs
    have d1 := debS_bd (recsOf st.good vs) (recsOf st.good vs).length (Nat.le_refl _)
    have d2 := creS_bd (recsOf st.good vs) (recsOf st.good vs).length (Nat.le_refl _)
    have d3 := debS_bd l l.length (Nat.le_refl _)
    have d4 := creS_bd l l.length (Nat.le_refl _)
    have t1 := totB_lt (cardsOf (recsOf st.good vs))
    have t2 := totB_lt (cardsOf l)
    refine ⟨trivial, fun x hx => ?_, by omega, tot_more st.good vs l, fun d hd => tot_same st.good vs d l hd, ⟨by omega, d1.1, d2.1, by omega⟩, ⟨by omega, d3.1, d4.1, by omega⟩, ⟨by omega, by omega, by omega, by omega⟩, ⟨by omega, by omega, by omega, by omega⟩⟩
    rcases a3 x hx with q | q
    · rw [q]
      have e : rcAt vr vr.length = default := by unfold rcAt; rw [List.getD_eq_getElem?_getD, List.getElem?_eq_none (Nat.le_refl _)]; rfl
      rw [e]
      exact szR_fit' (by decide)
    · exact HFR.out x q)
  have HSA := Lib.hid ((HS.out.below (bxA w' (.cells #[.string vs, .string vi] 103))).below ((Below.refl _ _).drew))
  have HOF := Lib.hid HSA.out.i.f
  rw [HFV.out] at HOF
  have HRD : Hid (Reads ((w'.alloc (.cells #[.string vs, .string vi] 103)).drew) (w'.heap.size + 1) 2 (some ⟨w'.heap.size, 0, none⟩) 1 [.string vs, .string vi]) := Lib.hid
    ⟨rfl, fun _ => ⟨⟨w'.heap.size, 0, none⟩, rfl, Nat.lt_succ_self _, World.news_of_block (cs := #[.string vs, .string vi]) (t := 103) (fr := (0, 0)) (heap_alloc_new w' _)⟩⟩
  have HON2 : Hid ([Value.string vs, .string vi].all (·.oneCell') = true) := Lib.hid (by simp [Value.oneCell'])
  have HB0 := Lib.hid HSA.out.i.be.size
  have HFIL := Lib.hid (fun (W1 : World) (u : Value) (hown : W1.ownsRow w0.heap.size 103 2 u (st.fs.length + 1) (st.fs.flatMap fileF ++ [.string vs, .string vi])) (hgrow : ((w'.alloc (.cells #[.string vs, .string vi] 103)).drew).grownBy W1 (Value.slice FA st.fs.length fc).ownBlock) (hwh : u.ownBlock = (Value.slice FA st.fs.length fc).ownBlock ∨ u.ownBlock = some ((w'.alloc (.cells #[.string vs, .string vi] 103)).drew).heap.size) =>
    HSA.out.i.filed (vs, vi) u hown (by rw [HFV.out]; exact hgrow) (by rw [HFV.out]; rcases hwh with q | q; exact .inl q; exact .inr ⟨_, q, Nat.le_refl _⟩))
  have HXB : Hid ((w'.alloc (.cells #[.string vs, .string vi] 103)).drew.heap[b.x]? = some (.cells b.cells 94)) := Lib.hid HSA.out.i.x
  have HXN : Hid (some b.x ≠ (Value.slice FA st.fs.length fc).ownBlock) := Lib.hid (fun e => own_x HSA.out.i HOF.out (by decide) e.symm)
  have hbx1 : b.x < w1.heap.size := by have := HWL.out; omega
  have hbxw : b.x < w'.heap.size := HS.out.i.xlt
  clear HZ5 HZ6 HZ0
  go_wp2_with fail
  go_region_law
    (refine step_append_any _ rfl (.tmp 60) (.tmp 66) 92 rfl w0.heap.size 103 i103 _ 2 32 Tryz.underlying92 HJ.out.1 HJ.out.2.1 HJ.out.2.2.1 HJ.out.2.2.2 rfl (by omega) (.slice FA st.fs.length fc) st.fs.length _ rfl HOF.out _ (some ⟨w'.heap.size, 0, none⟩) 1 1 [.string vs, .string vi] rfl HRD.out (by intro u hu; have := List.all_eq_true.1 HON2.out u hu; simpa using this) (by unfold maxLen; omega) (by omega) HB0.out ?_
     intro u w8 hown hgrow hwh
     obtain ⟨A7, c7, rfl, hA7, hA8⟩ := own_form hown
     clear hA7 hA8
     have g1 := grown_lt (B := 0) hgrow HXB.out HXN.out
     have d1 := cell_c g1 1
     have p1 := cell_f g1 1
     have HFD := Lib.hid (HFIL.out _ _ hown hgrow hwh)
     clear hown hgrow hwh g1
     simp [InB.cells] at d1)
  all_goals
    have HPT := Lib.hid (pre_treat (F1 := fun k => F k ∨ (Value.slice A7 (st.fs.length + 1) c7).ownBlock = some k) HSA.out (fun k q => (HI.out.fp k q).2) HWL.out HL8.out HL9.out HFD.out.2.1 (fun k q => by rcases q with q | q; exact .inl q; exact HFD.out.2.2 k q))
    have HTR := Lib.hid (treat_any HFD.out.1 hob ⟨vi, vs, vd, vr⟩ A8 c8 Bd A9 c9 HPT.out.1 HPT.out.2.1 HLA.out HSD.out HFR.out HFB.out (by have := HZN.out; dsimp only; omega) (by omega))
    unfold TreatPost batV at HTR
    rw [← HT.out] at HTR
    dsimp only at HTR
    have e0 := cell_c HPT.out.2.2.1 0
    have e1 := cell_c HPT.out.2.2.1 1
    have e2 := cell_c HPT.out.2.2.1 2
    have e3 := cell_c HPT.out.2.2.1 3
    simp at e0 e1 e2 e3
    clear c1 k0 k1 c1a k0a k1a d1 p1
    go_wp2_with fail
    refine (HTR.out).mono ?_
    rintro e w9 ⟨v8', v9', F2, b2, rfl, q1, q2, q3, q4, q5, q6, q7, q8, q9, q10⟩
    have HAF := Lib.hid (post_treat (M' := N + 400) HPT.out.2.2.1 HPT.out.2.2.2.1 HPT.out.2.2.2.2.1 HPT.out.2.2.2.2.2 (fun k q => .inl q) (by have := HZN.out; omega) q1 q3 q4 q5 q6 q7 q8 q9 q10)
    have HOB := Lib.hid q2
    clear q1 q2 q3 q4 q5 q6 q7 q8 q9 q10 e0 e1 e2 e3
    obtain ⟨A8', c8', rfl, -, l8'⟩ := own_form HAF.out.o8
    have HSU := Lib.hid (fun (Y : World) (hr : IsRow Y A8' (T.acc.flatMap recF)) => bsum_any A8' c8' T.acc Y hr HGO2.out.2.1 l8' HGO2.out.2.2.1)
    have HCU : Hid (∀ (Y : World) (F3 : Nat → Prop) (b3 : InB), AfS w0 ⟨st.sds, st.fs ++ [(vs, vi)], T.good, T.bad⟩ st.good (N + 400) b.x F W w1.heap.size #[.string vi, .string vs, .int .i64 vd, .slice A8 vr.length c8] T.acc T.out (.slice A8' T.acc.length c8') v9' F3 b3 Y →
        Calls Tryz.prog 61 #[.pointer (some ⟨b.x, 0, none⟩), .string vs, totV T.acc.length (debS T.acc T.acc.length) (creS T.acc T.acc.length) (C7.totB (cardsOf T.acc))] Y (MutPost w0 ⟨st.sds, st.fs ++ [(vs, vi)], T.good, T.bad⟩ T.good (N + 400) F3 b3 Y)) := Lib.hid (fun Y F3 b3 hA => by
      have hc := count_any hA.i T.good vs HSD.out HIN.out _ _ _ _ _ _ _ _ rfl HGO2.out.2.2.2.1 HGO2.out.2.2.2.2.1 HGO2.out.2.2.2.2.2.1 HGO2.out.2.2.2.2.2.2.1 HGO2.out.2.2.2.2.2.2.2.1 HGO2.out.2.2.2.2.2.2.2.2
      rw [hA.hx] at hc
      exact hc)
    unfold SumPost at HSU
    unfold MutPost at HCU
    have HAF := Lib.hid (HAF.out.below ((Below.refl _ _).drew))
    unfold totV at HSU HCU
    have HRET : Hid (∀ (Y : World) (F3 : Nat → Prop) (b3 : InB), AfS w0 ⟨st.sds, st.fs ++ [(vs, vi)], T.good, T.bad⟩ T.good (N + 400) b.x F W w1.heap.size #[.string vi, .string vs, .int .i64 vd, .slice A8 vr.length c8] T.acc T.out (.slice A8' T.acc.length c8') v9' F3 b3 Y → _) := Lib.hid (fun Y F3 b3 hA => acc_end (date := date) (s := s) hA HEE.out (HS0.out HEE.out).1 (HS0.out HEE.out).2.1 (HS0.out HEE.out).2.2 (Nat.le_trans HOB.out (by have := HZN.out; omega)))
    clear HBAD HS0 HT HGP HGO2 HPT HTR
    go_wp2_with fail
    go_region_held3 (fun X => X.cell? ⟨w1.heap.size, 1, none⟩ = some (.string vs))
      (exact cell_c HAF.out.bk 1)
      (first
        | (go_at_call 45; refine (HSU.out _ (IsRow.of_own (c := c8') HAF.out.o8)).mono ?_; rintro e w' ⟨rfl, hb⟩; have HAF := Lib.hid (HAF.out.below hb); clear hb)
        | (go_at_call 61; refine (HCU.out _ _ _ HAF.out).mono ?_; rintro e w' ⟨rfl, F4, b4, q1, q2, q3, q4, q5⟩; have HAF := Lib.hid (HAF.out.mut q1 q2 q3 q4 q5); clear q1 q2 q3 q4 q5))
    go_wp2_with fail
    go_ret3
    exact HRET.out _ _ _ HAF.out
end
end Go.Proofs.YthflmdgfenojcaaGreatDoor
namespace Go.Proofs.YthflmdgfenojcaaGreatDoor
set_option linter.unusedVariables false
open Go.RowKit Go.Sort Go.Maps
/-- The senders are laid anew: the totals' map has been written. -/
theorem InW.senders {w0 : World} {st : InS} {tg : List (ByteArray × Rec)} {N : Nat} {F : Nat → Prop} {b : InB} {W W' : World} (h : InW w0 st tg N F b W) {m' : Lit → Option Value} {n' : Nat} (sds' : List ByteArray) (hv' : VMap W' 9 b.t m' n') (hn : n' ≤ 1000)
    (hm : ∀ d : ByteArray, m' (skey d) = if d ∈ sds' then some (totOf tg d) else none) (hg : W.grownBy W' (some b.t)) : InW w0 ⟨sds', st.fs, st.good, st.bad⟩ tg N F b W' := by
  obtain ⟨m, n, v, s, q⟩ := h.t
  have hs : ∀ k, F k → k ≠ b.t → W'.heap[k]? = W.heap[k]? := fun k hk hne => hg.block k (h.fp k hk).2 (fun e => hne (by injection e))
  obtain ⟨m2, n2, v2, s2, q2⟩ := h.r
  obtain ⟨m3, n3, v3, s3, q3⟩ := h.o
  refine ⟨h.grow hg (fun g e => by injection e with e; rw [← e]; exact (h.fp _ h.ft).1), fun k hk => ⟨(h.fp k hk).1, Nat.lt_of_lt_of_le (h.fp k hk).2 hg.size⟩, h.fx, h.ft, h.fr, h.fo, h.ff, h.fw, ?_, ⟨m', n', hv', hn, hm⟩, ?_, ⟨m2, n2, v2.same (hs _ h.fr (fun e => h.ntr e.symm)), s2, q2⟩,
    ⟨m3, n3, v3.same (hs _ h.fo (fun e => h.nto e.symm)), s3, q3⟩, ?_, h.od, h.ntr, h.nto, h.nro⟩
  · rw [hs _ h.fx (fun e => by have h4 := h.x; rw [e] at h4; obtain ⟨D, ⟨es, cl, hb, _⟩, _⟩ := v; rw [hb] at h4; cases h4)]; exact h.x
  · exact own_same h.f (fun g hg' => hs g (h.ff g hg') (fun e => own_map h.f (by rw [hg', e]) v))
  · exact fun d => own_same (h.ow d) (fun g hg' => hs g (h.fw d g hg') (fun e => own_map (h.ow d) (by rw [hg', e]) v))
def stA (l : List ByteArray) (k : Nat) : ByteArray := l.getD k noS
theorem stA_get (l : List ByteArray) (k : Nat) (h : k < l.length) : stA l k = l[k] := by unfold stA; simp [h]
/-- What is wrong with the sender k of a list. -/
def ptN (l : List ByteArray) (k : Nat) : Int := if nameB (stA l k).data.toList = true then (if stA l k ∈ l.take k then 7 else 0) else 5
def newE (l : List ByteArray) : Int := if 16 < l.length then 3 else firstE (ptN l) l.length
theorem row_st {w : World} {A : Option Addr} {l : List ByteArray} (hr : IsRow w A (l.map Value.string)) (j : Nat) (h : j < l.length) :
    ∃ b off, A = some ⟨b, off, none⟩ ∧ ∀ k, k < l.length → w.cell? ⟨b, off + k, none⟩ = some (.string (stA l k)) := by
  rcases hr with hr | ⟨b, off, rfl, hr⟩
  · simp at hr; rw [hr] at h; exact absurd h (Nat.not_lt_zero _)
  · exact ⟨b, off, rfl, fun k hk => hr k _ (by rw [List.getElem?_map, List.getElem?_eq_getElem hk, stA_get l k hk]; rfl)⟩
def F4 (B : Nat) (j : Nat) : Prop := j = B ∨ j = B + 1 ∨ j = B + 2 ∨ j = B + 3
def b4 (B : Nat) : InB := ⟨B + 3, B, B + 1, B + 2, noSl, fun _ => noSl⟩
structure NwS (w0 w : World) (l : List ByteArray) (k : Nat) (W : World) : Prop where
  i : InW w0 ⟨l.take k, [], [], []⟩ [] 0 (F4 w.heap.size) (b4 w.heap.size) W
  n : ∃ m n, VMap W 9 w.heap.size m n ∧ n ≤ k ∧ ∀ d : ByteArray, m (skey d) = if d ∈ l.take k then some (totOf [] d) else none
  be : Below w.heap.size w W
  z : ∀ j, j < k → ptN l j = 0
theorem NwS.below {w0 w W W' : World} {l : List ByteArray} {k : Nat} (h : NwS w0 w l k W) (hb : Below W.heap.size W W') : NwS w0 w l k W' := by
  obtain ⟨m, n, v, s, q⟩ := h.n
  exact ⟨h.i.below hb, ⟨m, n, v.same (hb.block _ v.lt), s, q⟩, h.be.trans (hb.mono h.be.size), h.z⟩
theorem NwS.start {w0 w : World} (l : List ByteArray) (hw : Below w0.heap.size w0 w) :
    NwS w0 w l 0 ((((w.alloc (.map #[] 0)).alloc (.map #[] 0)).alloc (.map #[] 0)).alloc (.cells #[.map (some w.heap.size), .slice none 0 0, .map (some (w.heap.size + 1)), .map (some (w.heap.size + 2))] 94)) := by
  have s1 : (w.alloc (.map #[] 0)).heap.size = w.heap.size + 1 := Array.size_push _
  have s2 : ((w.alloc (.map #[] 0)).alloc (.map #[] 0)).heap.size = w.heap.size + 2 := by rw [World.size_alloc, s1]
  have s3 : (((w.alloc (.map #[] 0)).alloc (.map #[] 0)).alloc (.map #[] 0)).heap.size = w.heap.size + 3 := by rw [World.size_alloc, s2]
  have b1 := bx w (.map #[] 0)
  have b2 := bx (w.alloc (.map #[] 0)) (.map #[] 0)
  have b3 := bx ((w.alloc (.map #[] 0)).alloc (.map #[] 0)) (.map #[] 0)
  have b4' := bx (((w.alloc (.map #[] 0)).alloc (.map #[] 0)).alloc (.map #[] 0)) (.cells #[.map (some w.heap.size), .slice none 0 0, .map (some (w.heap.size + 1)), .map (some (w.heap.size + 2))] 94)
  have b23 := b2.trans (b3.mono b2.size)
  have b34 := b3.trans (b4'.mono b3.size)
  have b24 := b2.trans (b34.mono b2.size)
  have b14 := b1.trans (b24.mono b1.size)
  have v1 : VMap ((((w.alloc (.map #[] 0)).alloc (.map #[] 0)).alloc (.map #[] 0)).alloc (.cells #[.map (some w.heap.size), .slice none 0 0, .map (some (w.heap.size + 1)), .map (some (w.heap.size + 2))] 94)) 9 w.heap.size (fun _ => none) 0 := (VMap.made w 9).same (b24.block _ (by rw [s1]; omega))
  have v2 := (VMap.made (w.alloc (.map #[] 0)) 103).same (b34.block _ (by rw [s2, s1]; omega))
  have v3 := (VMap.made ((w.alloc (.map #[] 0)).alloc (.map #[] 0)) 9).same (b4'.block _ (by rw [s3, s2]; omega))
  rw [s1] at v2
  rw [s2] at v3
  refine ⟨⟨hw.trans (b14.mono hw.size), fun j hj => ?_, .inr (.inr (.inr rfl)), .inl rfl, .inr (.inl rfl), .inr (.inr (.inl rfl)), (fun g e => by cases e), (fun d g e => by cases e), ?_, ⟨_, 0, v1, by omega, fun d => rfl⟩, World.ownsRow_nil _ _ _ _, ⟨_, 0, v2, Nat.le_refl _, fun sd id _ _ => rfl⟩, ⟨_, 0, v3, Nat.le_refl _, fun d => rfl⟩, fun d => World.ownsRow_nil _ _ _ _, fun d d' _ => .inl rfl, ?_, ?_, ?_⟩, ⟨_, 0, v1, Nat.le_refl _, fun d => rfl⟩, b14, fun j hj => absurd hj (Nat.not_lt_zero _)⟩
  · have h1 := hw.size
    rw [World.size_alloc, s3]
    unfold F4 at hj
    omega
  · show _[w.heap.size + 3]? = _
    rw [← s3]; exact heap_alloc_new _ _
  · show w.heap.size ≠ w.heap.size + 1; omega
  · show w.heap.size ≠ w.heap.size + 2; omega
  · show w.heap.size + 1 ≠ w.heap.size + 2; omega
theorem NwS.next {w0 w W : World} {l : List ByteArray} {k : Nat} (h : NwS w0 w l k W) (hk : k < l.length) (hk16 : k < 100) (hs : (stA l k).size ≤ maxLen) (hz : ptN l k = 0) :
    ∃ W', (Instr.mapUpdate 89 (.map (some w.heap.size)) (.string (stA l k)) (totV 0 0 0 0)).run Tryz.prog W = .ok () W' ∧ NwS w0 w l (k + 1) W' := by
  obtain ⟨m, n, v, s, q⟩ := h.n
  obtain ⟨W', m', hrun, hv', hg, hm1, hm2⟩ := v.store law9 Tryz.underlying89 (by omega) (skey_of hs) (show WideAt.IsKeyLit (skey (stA l k)) from trivial) (totV 0 0 0 0)
  have hm : ∀ d : ByteArray, m' (skey d) = if d ∈ l.take (k + 1) then some (totOf [] d) else none := fun d => by
    have e : l.take (k + 1) = l.take k ++ [stA l k] := by rw [List.take_succ_eq_append_getElem hk, stA_get l k hk]
    by_cases hd : d = stA l k
    · rw [hd, hm1, if_pos (by rw [e]; simp)]; rfl
    · rw [hm2 _ (fun e => hd (skey_inj e)), q d, e]
      simp [hd]
  have hn : (if (m (skey (stA l k))).isSome then n else n + 1) ≤ k + 1 := by split <;> omega
  refine ⟨W', hrun, h.i.senders (l.take (k + 1)) hv' (by omega) hm hg, ⟨m', _, hv', hn, hm⟩, h.be.grown hg h.be.size (fun j hj => by injection hj with hj; omega), fun j hj => ?_⟩
  rcases Nat.lt_or_ge j k with c | c
  · exact h.z j c
  · obtain rfl : j = k := by omega
    exact hz
def NewPost (w0 w : World) (l : List ByteArray) (e : Ending) (w' : World) : Prop :=
  (newE l ≠ 0 ∧ e = .returned (.tuple #[.pointer none, .int .i64 (newE l)]) ∧ Below w.heap.size w w') ∨
  (newE l = 0 ∧ e = .returned (.tuple #[.pointer (some ⟨w.heap.size + 3, 0, none⟩), .int .i64 0]) ∧ InW w0 (inS0 l) [] 0 (F4 w.heap.size) (b4 w.heap.size) w' ∧ Below w.heap.size w w')
theorem newE_at {l : List ByteArray} (h : ¬ 16 < l.length) {k : Nat} (hk : k < l.length) (h0 : ∀ j, j < k → ptN l j = 0) (h1 : ptN l k ≠ 0) : newE l = ptN l k := by
  unfold newE; rw [if_neg h]; exact firstE_at _ k _ hk h0 h1
theorem newE_ok {l : List ByteArray} (h : ¬ 16 < l.length) (h0 : ∀ j, j < l.length → ptN l j = 0) : newE l = 0 := by unfold newE; rw [if_neg h]; exact firstE_zero _ _ h0
theorem ptN_5 {l : List ByteArray} {k : Nat} (h : nameB (stA l k).data.toList = false) : ptN l k = 5 := by unfold ptN; rw [if_neg (by rw [h]; decide)]
theorem ptN_7 {l : List ByteArray} {k : Nat} (h : nameB (stA l k).data.toList = true) (h2 : stA l k ∈ l.take k) : ptN l k = 7 := by unfold ptN; rw [if_pos h, if_pos h2]
theorem ptN_0 {l : List ByteArray} {k : Nat} (h : nameB (stA l k).data.toList = true) (h2 : ¬ stA l k ∈ l.take k) : ptN l k = 0 := by unfold ptN; rw [if_pos h, if_neg h2]
set_option maxRecDepth 1000000 in
set_option maxHeartbeats 6400000 in
theorem new_any {w0 : World} (w : World) (hw : Below w0.heap.size w0 w) (A : Option Addr) (cp : Nat) (l : List ByteArray) (hr : IsRow w A (l.map Value.string)) (hsz : ∀ x ∈ l, x.size ≤ maxLen) (hm : l.length ≤ maxLen) : Calls Tryz.prog 15 #[.slice A l.length cp] w (NewPost w0 w l) := by
  unfold maxLen at hm
  by_cases h16 : 16 < l.length
  · have hI : (16 : Int) < (l.length : Int) := by omega
    have HE : Hid (newE l = 3) := Lib.hid (by unfold newE; rw [if_pos h16])
    clear hr hsz
    go_enter Tryz.func15, Tryz.ntmps15
    go_wp2_with fail
    go_ret2
    exact .inl ⟨by rw [HE.out]; decide, by rw [HE.out]; rfl, Below.refl _ _⟩
  have hI : ¬ (16 : Int) < (l.length : Int) := by omega
  have HS0 := Lib.hid (NwS.start (w := w) l hw)
  have HR := Lib.hid hr
  have HSZ := Lib.hid hsz
  have HAT := Lib.hid (fun k hk h0 h1 => newE_at h16 (k := k) hk h0 h1)
  have HOK := Lib.hid (newE_ok h16)
  have hmm := @run_makeMap Tryz.prog
  clear hr hsz
  go_enter Tryz.func15, Tryz.ntmps15
  go_wp2_with fail
  clear hmm
  go_loopw [17] (fun i wr => ∃ k : Nat, k ≤ l.length ∧ i = .int .i64 k ∧ Hid (NwS w0 w l k wr)) (fun i _ => l.length - (intOf i).toNat)
  case atStart => exact ⟨0, Nat.zero_le _, rfl, HS0⟩
  case round =>
    clear HS0
    obtain ⟨k, hk, rfl, HW⟩ := hrel
    by_cases hlt : k < l.length
    · have kI : (k : Int) < (l.length : Int) := by omega
      have k0 : (0 : Int) ≤ (k : Int) := by omega
      obtain ⟨bb, off, rfl, hcell⟩ := row_st HR.out k hlt
      have d0 := cell_later HW.out.be (hcell k hlt)
      have HSK : Hid ((stA l k).size ≤ maxLen) := Lib.hid (by rw [stA_get l k hlt]; exact HSZ.out _ (List.getElem_mem hlt))
      have HN := Lib.hid (fun W => lname_any (stA l k) W HSK.out)
      have HKN := Lib.hid (knows_any HW.out.i (stA l k) HSK.out)
      unfold BoPost at HKN
      have HNX := Lib.hid (fun q => HW.out.next hlt (by omega) HSK.out q)
      have H5 := Lib.hid (ptN_5 (l := l) (k := k))
      have H7 := Lib.hid (ptN_7 (l := l) (k := k))
      have H0 := Lib.hid (ptN_0 (l := l) (k := k))
      have HA1 := Lib.hid (HAT.out k hlt HW.out.z)
      clear hcell
      cases hnm : nameB (stA l k).data.toList with
      | false =>
        have HE := Lib.hid (H5.out hnm)
        have HEE := Lib.hid ((HA1.out (by rw [HE.out]; decide)).trans HE.out)
        rw [hnm] at HN
        clear H5 H7 H0 hnm
        generalize stA l k = s at *
        go_wp2_with fail
        refine (HN.out _).mono ?_
        rintro e w1 ⟨rfl, rfl⟩
        go_wp2_with fail
        go_ret2
        exact .inl ⟨by rw [HEE.out]; decide, by rw [HEE.out]; rfl, HW.out.be⟩
      | true =>
        rw [hnm] at HN
        by_cases hin : stA l k ∈ l.take k
        · have HE := Lib.hid (H7.out hnm hin)
          have HEE := Lib.hid ((HA1.out (by rw [HE.out]; decide)).trans HE.out)
          have hd := decide_eq_true hin
          dsimp only at HKN
          rw [hd] at HKN
          clear H5 H7 H0 hnm hin hd
          generalize stA l k = s at *
          go_wp2_with fail
          refine (HN.out _).mono ?_
          rintro e w1 ⟨rfl, rfl⟩
          go_wp2_with fail
          refine (HKN.out).mono ?_
          rintro e w1 ⟨rfl, hb⟩
          have HB := Lib.hid (HW.out.be.trans (hb.mono HW.out.be.size))
          clear hb
          go_wp2_with fail
          go_ret2
          exact .inl ⟨by rw [HEE.out]; decide, by rw [HEE.out]; rfl, HB.out⟩
        · have HE := Lib.hid (H0.out hnm hin)
          have hd := decide_eq_false hin
          dsimp only at HKN
          rw [hd] at HKN
          clear H5 H7 H0 hnm hin hd
          go_wp2_with fail
          refine (HN.out _).mono ?_
          rintro e w1 ⟨rfl, rfl⟩
          go_wp2_with fail
          refine (HKN.out).mono ?_
          rintro e w2 ⟨rfl, hb⟩
          have HW2 := Lib.hid (HW.out.below hb)
          obtain ⟨W', hrun, hnx⟩ := HW2.out.next hlt (by omega) HSK.out HE.out
          have HNX2 := Lib.hid hnx
          have c0 : w2.cell? ⟨w.heap.size + 3, 0, none⟩ = some (.map (some w.heap.size)) := HW2.out.i.c0
          unfold totV at hrun
          clear hb hnx
          go_wp2_with fail
          go_roundw
          case rel => exact ⟨k + 1, by omega, by go_num, HNX2⟩
          case measure => simp [intOf]; omega
    · obtain rfl : k = l.length := by omega
      have kI : ¬ (l.length : Int) < (l.length : Int) := by omega
      have HE := Lib.hid (HOK.out HW.out.z)
      have HII := Lib.hid HW.out.i
      rw [List.take_length] at HII
      go_wp2_with fail
      go_ret2
      exact .inr ⟨HE.out, rfl, HII.out, HW.out.be⟩
end Go.Proofs.YthflmdgfenojcaaGreatDoor
namespace Go.Proofs.YthflmdgfenojcaaGreatDoor
set_option linter.unusedVariables false
open Go.RowKit Go.Sort Go.Maps
def shopS : ByteArray := ⟨#[115, 104, 111, 112]⟩
def txR (i : Nat) (s : ByteArray) : Rec := ⟨1, s, noS, shopS, ⟨#[98, 97, 110, 107]⟩, ⟨#[109, 45, 49]⟩, ⟨#[52, 48, 48, 48, 48, 48, 48, 48, 48, 48, 48, 48, 48, 48, 48, 50]⟩, (i : Int) + 1, ⟨#[69, 85, 82]⟩, 20, 0, false⟩
def txRs (ids : List ByteArray) (k : Nat) : List Rec := (List.range k).map fun i => txR i (stA ids i)
def txB (id : ByteArray) (date : Int) (ids : List ByteArray) : Bat := ⟨id, shopS, date, txRs ids ids.length⟩
theorem txRs_succ (ids : List ByteArray) (k : Nat) : txRs ids (k + 1) = txRs ids k ++ [txR k (stA ids k)] := by unfold txRs; rw [List.range_succ, List.map_append]; rfl
theorem txRs_len (ids : List ByteArray) (k : Nat) : (txRs ids k).length = k := by unfold txRs; simp
theorem stA_size {ids : List ByteArray} {M : Nat} (h : ∀ x ∈ ids, x.size ≤ M) (i : Nat) : (stA ids i).size ≤ M := by
  rcases Nat.lt_or_ge i ids.length with q | q
  · rw [stA_get ids i q]; exact h _ (List.getElem_mem q)
  · unfold stA
    rw [List.getD_eq_getElem?_getD, List.getElem?_eq_none q]; exact Nat.zero_le _
theorem txRs_mem {ids : List ByteArray} {k : Nat} {r : Rec} (h : r ∈ txRs ids k) : ∃ i, r = txR i (stA ids i) := by
  unfold txRs at h
  obtain ⟨i, _, rfl⟩ := List.mem_map.1 h
  exact ⟨i, rfl⟩
structure TxS (id : ByteArray) (date : Int) (ids : List ByteArray) (w : World) (k : Nat) (v : Value) (W : World) : Prop where
  t : W.heap[w.heap.size]? = some (.cells #[.string id, .string shopS, .int .i64 date, v] 61)
  o : W.ownsRow (w.heap.size + 1) 57 12 v k ((txRs ids k).flatMap recF)
  be : Below w.heap.size w W
section
variable {id : ByteArray} {date : Int} {ids : List ByteArray} {w : World} {k : Nat} {v u : Value} {W W' : World}
theorem TxS.below (h : TxS id date ids w k v W) (hb : Below W.heap.size W W') : TxS id date ids w k v W' := ⟨blk_later h.t hb, own_later h.o hb, h.be.trans (hb.mono h.be.size)⟩
theorem TxS.app (h : TxS id date ids w k v W) (h8 : W'.ownsRow (w.heap.size + 1) 57 12 u (k + 1) ((txRs ids k).flatMap recF ++ recF (txR k (stA ids k)))) (hg : W.grownBy W' v.ownBlock) : TxS id date ids w (k + 1) u (W'.setCell ⟨w.heap.size, 3, none⟩ u) := by
  have ht := grown_lt (B := 0) hg h.t (own_far h.o (by omega))
  have hset : W'.grownBy (W'.setCell ⟨w.heap.size, 3, none⟩ u) (some w.heap.size) := ⟨rfl, rfl, rfl, by simp [World.setCell], fun k _ hk => Below.heap_setCell _ _ _ _ (fun e => hk (by rw [e]))⟩
  refine ⟨by rw [heap_set1 ht 3 u]; rfl, ?_, (h.be.grown hg h.be.size (fun j hj => by have := (h.o.lt j hj).1; omega)).setCell (p := ⟨w.heap.size, 3, none⟩) (Nat.le_refl _) u⟩
  rw [txRs_succ, List.flatMap_append]
  have := h8.kept hset (own_far' h8 (by omega))
  simpa using this
end
set_option maxRecDepth 1000000 in
set_option maxHeartbeats 12800000 in
theorem text_any (id : ByteArray) (date : Int) (A : Option Addr) (cp : Nat) (ids : List ByteArray) (w : World) (hw : BW w) (hr : IsRow w A (ids.map Value.string)) (hid : id.size ≤ 1000) (hsz : ∀ x ∈ ids, x.size ≤ 1000) (hn : ids.length ≤ 100) :
    Calls Tryz.prog 54 #[.string id, .int .i64 date, .slice A ids.length cp] w fun e w' => e = .returned (.string (encB (txB id date ids))) ∧ Below w.heap.size w w' := by
  have HKW := Lib.hid hw
  have HR := Lib.hid hr
  have HS0 : Hid (TxS id date ids w 0 (.slice none 0 0) (w.alloc (.cells #[.string id, .string shopS, .int .i64 date, .slice none 0 0] 61))) := Lib.hid ⟨heap_alloc_new w _, World.ownsRow_nil _ _ _ _, bx w _⟩
  have HFT : Hid (∀ r ∈ txRs ids ids.length, szR r ≤ 1100) := Lib.hid (fun r hr => by
    obtain ⟨i, rfl⟩ := txRs_mem hr
    have := stA_size hsz i
    show (stA ids i).size + 0 + 4 + 4 + 3 + 16 + 3 ≤ 1100
    omega)
  have HEN := Lib.hid (fun A' c W hW h hc => rbenc_any A' c (txB id date ids) W hW h ⟨Nat.le_trans hid (by decide), by show (4 : Nat) ≤ maxLen; decide, fun x hx => szR_fit' (Nat.le_trans (HFT.out x hx) (by decide))⟩ (fun x hx => Nat.le_trans (HFT.out x hx) (by decide)) (Nat.le_trans hid (by decide)) (by show (4 : Nat) ≤ 1000000; decide) hc (by show (txRs ids ids.length).length ≤ 100000; rw [txRs_len]; omega))
  unfold BenPost batV at HEN
  have HTB : Hid (txB id date ids = ⟨id, shopS, date, txRs ids ids.length⟩) := Lib.hid rfl
  obtain ⟨i57, hi57, hz0, hz1, hz2⟩ := info_parts mkrec
  have HI := Lib.hid (And.intro hi57 (And.intro hz0 (And.intro hz1 hz2)))
  unfold shopS at HS0
  clear hw hr hi57 hz0 hz1 hz2 hsz
  go_enter Tryz.func54, Tryz.ntmps54
  go_wp2_with fail
  go_loopw [8] (fun i wr => ∃ (k : Nat) (v : Value), k ≤ ids.length ∧ i = .int .i64 k ∧ Hid (TxS id date ids w k v wr)) (fun i _ => ids.length - (intOf i).toNat)
  case atStart => exact ⟨0, _, Nat.zero_le _, rfl, HS0⟩
  case round =>
    clear HS0
    obtain ⟨k, v, hk, rfl, HW⟩ := hrel
    by_cases hlt : k < ids.length
    · have kI : (k : Int) < (ids.length : Int) := by omega
      have k0 : (0 : Int) ≤ (k : Int) := by omega
      obtain ⟨bb, off, rfl, hcell⟩ := row_st HR.out k hlt
      have d0 := cell_later HW.out.be (hcell k hlt)
      have t3 : wr.cell? ⟨w.heap.size, 3, none⟩ = some v := cell_c HW.out.t 3
      have hkw : wrap64 ((k : Int) + 1) = (k : Int) + 1 := by unfold wrap64; omega
      have hkx : IntKind.i64.wrap ((k : Int) + 1) = (k : Int) + 1 := by rw [IntKind.wrap_i64]; omega
      have HOA := Lib.hid (HW.out.below (bx wr (.cells (txR k (stA ids k)).cells 57)))
      have HA2 := Lib.hid (HOA.out.below ((Below.refl _ _).drew))
      have HRD : Hid (Reads ((wr.alloc (.cells (txR k (stA ids k)).cells 57)).drew) (wr.heap.size + 1) 12 (some ⟨wr.heap.size, 0, none⟩) 1 (recF (txR k (stA ids k)))) := Lib.hid
        ⟨rfl, fun _ => ⟨⟨wr.heap.size, 0, none⟩, rfl, Nat.lt_succ_self _, World.news_of_block (cs := (txR k (stA ids k)).cells) (t := 57) (fr := (0, 0)) (heap_alloc_new wr _)⟩⟩
      have HON := Lib.hid (rows_one [txR k (stA ids k)])
      have t3a := fun X => (World.cell?_alloc_lt wr X ⟨w.heap.size, 3, none⟩ (Array.getElem?_eq_some_iff.1 HW.out.t).1).trans t3
      have hbb : bb < wr.heap.size := World.block_lt_of_cell? wr _ d0
      have d0a := fun X => (World.cell?_alloc_lt wr X ⟨bb, off + k, none⟩ hbb).trans d0
      have HAPP := Lib.hid (fun (W' : World) (u : Value) h8 hg => HA2.out.app (W' := W') (u := u) h8 hg)
      have HT3 := Lib.hid HA2.out.t
      have HNE := Lib.hid (own_far HA2.out.o (k := w.heap.size) (by omega))
      have hw1 : w.heap.size + 1 ≤ wr.heap.size := (Array.getElem?_eq_some_iff.1 HW.out.t).1
      generalize stA ids k = sk at *
      unfold txR Rec.cells noS shopS at HRD HOA HA2 HAPP HT3
      unfold recF at HRD HAPP HON
      dsimp only at HRD HOA HA2 HAPP HT3 HON
      clear hcell
      go_wp2_with fail
      go_region_law
        (refine step_append_any _ rfl (.tmp 21) (.tmp 30) 34 rfl (w.heap.size + 1) 57 i57 _ 12 152 Tryz.underlying34 HI.out.1 HI.out.2.1 HI.out.2.2.1 HI.out.2.2.2 rfl (by omega) _ k _ rfl HA2.out.o _ (some ⟨wr.heap.size, 0, none⟩) 1 1 _ rfl HRD.out (by simp [Value.oneCell']) (by unfold maxLen; omega) (by omega) (by simp; omega) ?_
         intro u w8 hown hgrow hwh
         obtain ⟨A7, c7, rfl, hA7, hA8⟩ := own_form hown
         clear hA7 hA8
         have g1 := grown_lt (B := 0) hgrow HT3.out HNE.out
         have d3 := cell_c g1 3
         have p3 := cell_f g1 3
         have HFD := Lib.hid (HAPP.out _ _ hown hgrow)
         clear hown hgrow hwh g1
         simp at d3)
      all_goals
        go_wp2_with fail
        exact ⟨⟨k + 1, _, by omega, by go_num, HFD⟩, by simp [intOf]; omega⟩
    · obtain rfl : k = ids.length := by omega
      have kI : ¬ (ids.length : Int) < (ids.length : Int) := by omega
      obtain ⟨A', c, rfl, hA', hc'⟩ := own_form HW.out.o
      have HE := Lib.hid (HEN.out A' c wr (HKW.out.below HW.out.be) hA' (by show (txRs ids ids.length).length ≤ c; rw [txRs_len]; exact hc'))
      rw [show (txB id date ids).rs.length = ids.length from txRs_len ids ids.length] at HE
      dsimp only [txB] at HE
      have t0 := cell_c HW.out.t 0
      have t1 := cell_c HW.out.t 1
      have t2 := cell_c HW.out.t 2
      have t3 := cell_c HW.out.t 3
      simp at t0 t1 t2 t3
      go_wp2_with fail
      refine (HE.out).mono ?_
      rintro e w1 ⟨rfl, hb⟩
      have HB := Lib.hid (HW.out.be.trans (hb.mono HW.out.be.size))
      clear hb
      go_wp2_with fail
      go_ret
      exact ⟨rfl, HB.out⟩
end Go.Proofs.YthflmdgfenojcaaGreatDoor
namespace Go.Proofs.YthflmdgfenojcaaGreatDoor
set_option linter.unusedVariables false
open Go.RowKit Go.Sort Go.Maps
def r1S : ByteArray := ⟨#[114, 49]⟩
def r2S : ByteArray := ⟨#[114, 50]⟩
def r3S : ByteArray := ⟨#[114, 51]⟩
def f1S : ByteArray := ⟨#[70, 50, 48, 45, 49]⟩
def f3S : ByteArray := ⟨#[70, 50, 50, 45, 51]⟩
def f4S : ByteArray := ⟨#[70, 50, 50, 45, 52]⟩
/-- What Accept answers at the text of a file that is in order. -/
theorem accE_enc {st : InS} {date : Int} {V : Bat} (h : chkB V = 0) : accE st date (encB V) = if date < 0 ∨ 99999 < date then 14 else if ¬ V.sd ∈ st.sds then 6 else if date < V.dt then 14 else if inF st.fs V.sd V.id = true then 15 else if 64 ≤ st.fs.length then 12 else 0 := by
  obtain ⟨h1, h2, h3⟩ := dec_of_enc h
  unfold accE
  rw [h1, h2]
  simp
theorem accT_enc {st : InS} {V : Bat} (h : chkB V = 0) : accT st (encB V) = trAll V.sd V.rs [] ⟨st.good, st.bad, [], []⟩ := by
  obtain ⟨h1, h2, h3⟩ := dec_of_enc h
  unfold accT
  rw [h2, h3]
theorem accS_enc {st : InS} {date : Int} {V : Bat} (h : chkB V = 0) (h0 : accE st date (encB V) = 0) {T : TreS} (hT : trAll V.sd V.rs [] ⟨st.good, st.bad, [], []⟩ = T) :
    accS st date (encB V) = ⟨st.sds, st.fs ++ [(V.sd, V.id)], T.good, T.bad⟩ ∧ accG st date (encB V) = T.acc ∧ accB st date (encB V) = T.out := by
  obtain ⟨h1, h2, h3⟩ := dec_of_enc h
  unfold accS accG accB
  rw [if_pos h0, if_pos h0, if_pos h0, accT_enc h, hT, h2]
  exact ⟨rfl, rfl, rfl⟩
theorem accS_no {st : InS} {date : Int} {s : ByteArray} (h : accE st date s ≠ 0) : accS st date s = st ∧ accG st date s = [] ∧ accB st date s = [] := by
  unfold accS accG accB
  rw [if_neg h, if_neg h, if_neg h]
  exact ⟨rfl, rfl, rfl⟩
def V1 : Bat := txB f1S 20 [r1S, r2S]
def V2 : Bat := txB f1S 20 [r3S]
def V3 : Bat := txB f3S 22 [r3S, r1S]
def V4 : Bat := txB f4S 22 []
theorem chk_V1 : chkB V1 = 0 := by kernel_rfl
theorem chk_V2 : chkB V2 = 0 := by kernel_rfl
theorem chk_V3 : chkB V3 = 0 := by kernel_rfl
theorem chk_V4 : chkB V4 = 0 := by kernel_rfl
theorem bo_V1 : boB V1 = true := by kernel_rfl
theorem bo_V2 : boB V2 = true := by kernel_rfl
theorem bo_V3 : boB V3 = true := by kernel_rfl
theorem bo_V4 : boB V4 = true := by kernel_rfl
def s0A : InS := inS0 [shopS]
def s1A : InS := ⟨[shopS], [(shopS, f1S)], [(shopS, txR 0 r1S), (shopS, txR 1 r2S)], []⟩
def s3A : InS := ⟨[shopS], [(shopS, f1S), (shopS, f3S)], [(shopS, txR 0 r1S), (shopS, txR 1 r2S), (shopS, txR 0 r3S)], []⟩
theorem tr_V1 : trAll V1.sd V1.rs [] ⟨[], [], [], []⟩ = ⟨[(shopS, txR 0 r1S), (shopS, txR 1 r2S)], [], [txR 0 r1S, txR 1 r2S], []⟩ := by kernel_rfl
theorem tr_V3 : trAll V3.sd V3.rs [] ⟨s1A.good, [], [], []⟩ = ⟨s3A.good, [], [txR 0 r3S], [(1, r1S, 15)]⟩ := by kernel_rfl
theorem e_V1 : accE s0A 20 (encB V1) = 0 := by rw [accE_enc chk_V1]; kernel_rfl
theorem e_V2 : accE s1A 20 (encB V2) = 15 := by rw [accE_enc chk_V2]; kernel_rfl
theorem e_V3 : accE s1A 30 (encB V3) = 0 := by rw [accE_enc chk_V3]; kernel_rfl
theorem e_V4 : accE s3A 21 (encB V4) = 14 := by rw [accE_enc chk_V4]; kernel_rfl
theorem a_V1 : accS s0A 20 (encB V1) = s1A ∧ accG s0A 20 (encB V1) = [txR 0 r1S, txR 1 r2S] ∧ accB s0A 20 (encB V1) = [] := accS_enc chk_V1 e_V1 tr_V1
theorem a_V3 : accS s1A 30 (encB V3) = s3A ∧ accG s1A 30 (encB V3) = [txR 0 r3S] ∧ accB s1A 30 (encB V3) = [(1, r1S, 15)] := accS_enc chk_V3 e_V3 tr_V3
theorem new_1 : newE [shopS] = 0 := by kernel_rfl
theorem new_2 : newE [shopS, shopS] = 7 := by kernel_rfl
theorem seen_3 : seenB s3A.good shopS r3S = true := by kernel_rfl
theorem open_3 : openOf s3A.bad shopS = [] := by kernel_rfl
theorem recs_3 : (recsOf s3A.good shopS).length = 3 := by kernel_rfl
end Go.Proofs.YthflmdgfenojcaaGreatDoor
namespace Go.Proofs.YthflmdgfenojcaaGreatDoor
set_option linter.unusedVariables false
open Go.RowKit Go.Sort Go.Maps
/-- What Accept leaves, where it is known what it answers. -/
def AccAt (w0 : World) (st' : InS) (M bx : Nat) (F : Nat → Prop) (W : World) (G : List Rec) (B : List Rej) (E : Int) (e : Ending) (W' : World) : Prop :=
  ∃ A8 c8 A9 c9 F' b', e = .returned (.tuple #[.slice A8 G.length c8, .slice A9 B.length c9, .int .i64 E]) ∧ InW w0 st' st'.good M F' b' W' ∧ st'.bad.length ≤ M ∧ b'.x = bx ∧ (∀ k, F k → F' k) ∧ KeptE F W W' ∧ (∀ k, F' k → F k ∨ W.heap.size ≤ k) ∧
    IsRow W' A8 (G.flatMap recF) ∧ IsRow W' A9 (B.flatMap rejF) ∧ (∀ ad : Addr, A8 = some ad → ¬ F' ad.block) ∧ (∀ ad : Addr, A9 = some ad → ¬ F' ad.block)
theorem acc_at {w0 : World} {st : InS} {N bx : Nat} {F : Nat → Prop} {b : InB} {W : World} (h : InW w0 st st.good N F b W) (hx : b.x = bx) (hw0 : BW w0) (hob : st.bad.length ≤ N) (date : Int) (s : ByteArray) (hs : s.size ≤ 1000000) (hN : N < 700000) (hfl : st.fs.length ≤ 64) (hgl : st.good.length ≤ 100000)
    {st' : InS} {G : List Rec} {B : List Rej} {E : Int} (hE : accE st date s = E) (hS : accS st date s = st' ∧ accG st date s = G ∧ accB st date s = B) :
    Calls Tryz.prog 17 #[.pointer (some ⟨bx, 0, none⟩), .int .i64 date, .string s] W (AccAt w0 st' (N + 400) bx F W G B E) := by
  have hc := accept_any h (hw0.below h.be) hob date s hs hN hfl hgl
  rw [hx] at hc
  refine hc.mono ?_
  rintro e W' ⟨v8, v9, F', b', rfl, q1, q2, q3, q4, q5, q6, q7, q8, q9, q10⟩
  rw [hS.1] at q1 q2
  rw [hS.2.1] at q7
  rw [hS.2.2] at q8
  obtain ⟨A8, c8, rfl, r8, -⟩ := own_form q7
  obtain ⟨A9, c9, rfl, r9, -⟩ := own_form q8
  exact ⟨A8, c8, A9, c9, F', b', by rw [hE], q1, q2, q3.trans hx, q5, q6, q4, r8, r9, fun ad e => q9 _ (by rw [e]; rfl), fun ad e => q10 _ (by rw [e]; rfl)⟩
theorem row_new1 (w : World) (x : ByteArray) : IsRow (w.alloc (.cells #[.string x] 9)) (some ⟨w.heap.size, 0, none⟩) (([x] : List ByteArray).map Value.string) :=
  .inr ⟨w.heap.size, 0, rfl, fun j v hj => by
    rw [cell_c (heap_alloc_new w _)]
    rw [Nat.zero_add]
    simpa using hj⟩
theorem row_new2 (w : World) (x y : ByteArray) : IsRow (w.alloc (.cells #[.string x, .string y] 9)) (some ⟨w.heap.size, 0, none⟩) (([x, y] : List ByteArray).map Value.string) :=
  .inr ⟨w.heap.size, 0, rfl, fun j v hj => by
    rw [cell_c (heap_alloc_new w _)]
    rw [Nat.zero_add]
    simpa using hj⟩
set_option maxRecDepth 100000 in
theorem eq65 (a c : Int) (x : ByteArray) (w : World) : (binOp .eql 65 (.agg #[.int .i64 a, .string x, .int .i64 c]) (.agg #[.int .i64 a, .string x, .int .i64 c])).run Tryz.prog w = .ok (.bool true) w := by
  rw [run_eql_struct]
  rw [run_equalIn_struct _ _ _ _ _ Tryz.underlying65 Tryz.stoodInHeld65]
  go_simp
set_option maxRecDepth 100000 in
theorem field46 (n x y z : Int) (w : World) : (Instr.field 46 (.agg #[.int .i64 n, .int .i64 x, .int .i64 y, .int .i64 z]) 0).run Tryz.prog w = .ok (.int .i64 n) w := by kernel_rfl
/-- The intake in hand. -/
structure AwS (w : World) (st : InS) (N bx : Nat) (F : Nat → Prop) (b : InB) (W : World) : Prop where
  i : InW w st st.good N F b W
  hx : b.x = bx
theorem AwS.below {w : World} {st : InS} {N bx : Nat} {F : Nat → Prop} {b : InB} {W W' : World} (h : AwS w st N bx F b W) (hb : Below W.heap.size W W') : AwS w st N bx F b W' := ⟨h.i.below hb, h.hx⟩
theorem size_V1 : (encB V1).size ≤ 1000000 := text_le chk_V1 bo_V1
theorem size_V2 : (encB V2).size ≤ 1000000 := text_le chk_V2 bo_V2
theorem size_V3 : (encB V3).size ≤ 1000000 := text_le chk_V3 bo_V3
theorem size_V4 : (encB V4).size ≤ 1000000 := text_le chk_V4 bo_V4
set_option maxRecDepth 1000000 in
set_option maxHeartbeats 25600000 in
theorem awi_any (w : World) (hw : BW w) : Calls Tryz.prog 14 #[] w fun e w' => e = .returned (.bool true) ∧ Below w.heap.size w w' := by
  have HKW := Lib.hid hw
  have HB1 := Lib.hid (bxA w (.cells #[.string ⟨#[115, 104, 111, 112]⟩] 9))
  have HN1 := Lib.hid (new_any (w0 := w) _ HB1.out (some ⟨w.heap.size, 0, none⟩) 1 [shopS] (row_new1 w shopS) (fun x hx => by rw [List.mem_singleton.1 hx]; decide) (by decide))
  unfold NewPost at HN1
  rw [new_1] at HN1
  go_enter Tryz.func14, Tryz.ntmps14
  go_wp2_with fail
  refine (HN1.out).mono ?_
  rintro e w2 (⟨q, -, -⟩ | ⟨-, rfl, hi, hb⟩)
  · exact absurd rfl q
  have HA : Hid (AwS w s0A 0 ((w.alloc (.cells #[.string ⟨#[115, 104, 111, 112]⟩] 9)).heap.size + 3) (F4 (w.alloc (.cells #[.string ⟨#[115, 104, 111, 112]⟩] 9)).heap.size) (b4 (w.alloc (.cells #[.string ⟨#[115, 104, 111, 112]⟩] 9)).heap.size) w2) := Lib.hid ⟨hi, rfl⟩
  clear hi hb HN1
  generalize (w.alloc (.cells #[.string ⟨#[115, 104, 111, 112]⟩] 9)).heap.size + 3 = bx at *
  generalize F4 (w.alloc (.cells #[.string ⟨#[115, 104, 111, 112]⟩] 9)).heap.size = F at *
  generalize b4 (w.alloc (.cells #[.string ⟨#[115, 104, 111, 112]⟩] 9)).heap.size = b at *
  have HA2 := Lib.hid (HA.out.below (bxA w2 (.cells #[.string ⟨#[115, 104, 111, 112]⟩, .string ⟨#[115, 104, 111, 112]⟩] 9)))
  have HN2 := Lib.hid (new_any (w0 := w) _ HA2.out.i.be (some ⟨w2.heap.size, 0, none⟩) 2 [shopS, shopS] (row_new2 w2 shopS shopS) (fun x hx => by simp at hx; rw [hx]; decide) (by decide))
  unfold NewPost at HN2
  rw [new_2] at HN2
  go_wp2_with fail
  refine (HN2.out).mono ?_
  rintro e w3 (⟨-, rfl, hb⟩ | ⟨q, -, -, -⟩)
  case inr => exact absurd q (by decide)
  have HA3 := Lib.hid (HA2.out.below hb)
  clear hb HN2 HA HA2
  have HR4 := Lib.hid (row_new2 w3 r1S r2S)
  have HA4 := Lib.hid (HA3.out.below (bxA w3 (.cells #[.string ⟨#[114, 49]⟩, .string ⟨#[114, 50]⟩] 9)))
  have HT1 := Lib.hid (text_any f1S 20 (some ⟨w3.heap.size, 0, none⟩) 2 [r1S, r2S] _ (HKW.out.below HA4.out.i.be) HR4.out (by decide) (fun x hx => by simp at hx; rcases hx with rfl | rfl <;> decide) (by decide))
  have HV1 : Hid (txB f1S 20 [r1S, r2S] = V1) := Lib.hid rfl
  rw [HV1.out] at HT1
  go_wp2_with fail
  refine (HT1.out).mono ?_
  rintro e w5 ⟨rfl, hb⟩
  have HA5 := Lib.hid (HA4.out.below hb)
  clear hb HT1 HA3 HA4 HR4
  have HC1 := Lib.hid (acc_at HA5.out.i HA5.out.hx HKW.out (Nat.zero_le _) 20 (encB V1) size_V1 (by decide) (by decide) (by decide) e_V1 a_V1)
  unfold AccAt at HC1
  go_wp2_with fail
  refine (HC1.out).mono ?_
  rintro e w6 ⟨A8, c8, A9, c9, F1, b1, rfl, q1, q2, q3, -, -, -, -, -, -, -⟩
  have HA6 : Hid (AwS w s1A 400 bx F1 b1 w6) := Lib.hid ⟨q1, q3⟩
  have HQ6 := Lib.hid q2
  clear q1 q2 q3 HC1 HA5
  have HR7 := Lib.hid (row_new1 w6 r3S)
  have HA7 := Lib.hid (HA6.out.below (bxA w6 (.cells #[.string ⟨#[114, 51]⟩] 9)))
  have HT2 := Lib.hid (text_any f1S 20 (some ⟨w6.heap.size, 0, none⟩) 1 [r3S] _ (HKW.out.below HA7.out.i.be) HR7.out (by decide) (fun x hx => by simp at hx; rw [hx]; decide) (by decide))
  have HV2 : Hid (txB f1S 20 [r3S] = V2) := Lib.hid rfl
  rw [HV2.out] at HT2
  go_wp2_with fail
  refine (HT2.out).mono ?_
  rintro e w8 ⟨rfl, hb⟩
  have HA8 := Lib.hid (HA7.out.below hb)
  clear hb HT2 HR7 HA6 HA7
  have HC2 := Lib.hid (acc_at HA8.out.i HA8.out.hx HKW.out HQ6.out 20 (encB V2) size_V2 (by decide) (by decide) (by decide) e_V2 (accS_no (by rw [e_V2]; decide)))
  unfold AccAt at HC2
  go_wp2_with fail
  refine (HC2.out).mono ?_
  rintro e w9 ⟨A8', c8', A9', c9', F2, b2, rfl, q1, q2, q3, -, -, -, -, -, -, -⟩
  have HA9 : Hid (AwS w s1A (400 + 400) bx F2 b2 w9) := Lib.hid ⟨q1, q3⟩
  have HQ9 := Lib.hid q2
  clear q1 q2 q3 HC2 HA8
  have HR10 := Lib.hid (row_new2 w9 r3S r1S)
  have HA10 := Lib.hid (HA9.out.below (bxA w9 (.cells #[.string ⟨#[114, 51]⟩, .string ⟨#[114, 49]⟩] 9)))
  have HT3 := Lib.hid (text_any f3S 22 (some ⟨w9.heap.size, 0, none⟩) 2 [r3S, r1S] _ (HKW.out.below HA10.out.i.be) HR10.out (by decide) (fun x hx => by simp at hx; rcases hx with rfl | rfl <;> decide) (by decide))
  have HV3 : Hid (txB f3S 22 [r3S, r1S] = V3) := Lib.hid rfl
  rw [HV3.out] at HT3
  go_wp2_with fail
  refine (HT3.out).mono ?_
  rintro e w11 ⟨rfl, hb⟩
  have HA11 := Lib.hid (HA10.out.below hb)
  clear hb HT3 HR10 HA9 HA10
  have HC3 := Lib.hid (acc_at HA11.out.i HA11.out.hx HKW.out HQ9.out 30 (encB V3) size_V3 (by decide) (by decide) (by decide) e_V3 a_V3)
  unfold AccAt at HC3
  go_wp2_with fail
  refine (HC3.out).mono ?_
  rintro e w12 ⟨A8'', c8'', D9, d9, F3, b3, rfl, q1, q2, q3, -, -, -, -, q8, -, q10⟩
  have HA12 : Hid (AwS w s3A (400 + 400 + 400) bx F3 b3 w12) := Lib.hid ⟨q1, q3⟩
  have HQ12 := Lib.hid q2
  have HD := Lib.hid q8
  have HDN := Lib.hid q10
  clear q1 q2 q3 q8 q10 HC3 HA11
  have HT4 := Lib.hid (text_any f4S 22 none 0 [] w12 (HKW.out.below HA12.out.i.be) (.inl rfl) (by decide) (fun x hx => by cases hx) (by decide))
  have HV4 : Hid (txB f4S 22 [] = V4) := Lib.hid rfl
  rw [HV4.out] at HT4
  go_wp2_with fail
  refine (HT4.out).mono ?_
  rintro e w13 ⟨rfl, hb⟩
  have HA13 := Lib.hid (HA12.out.below hb)
  have HD13 := Lib.hid (HD.out.below hb)
  clear hb HT4 HA12
  have HC4 := Lib.hid (acc_at HA13.out.i HA13.out.hx HKW.out HQ12.out 21 (encB V4) size_V4 (by decide) (by decide) (by decide) e_V4 (accS_no (by rw [e_V4]; decide)))
  unfold AccAt at HC4
  go_wp2_with fail
  refine (HC4.out).mono ?_
  rintro e w14 ⟨X8, y8, X9, y9, F5, b5, rfl, q1, q2, q3, -, q5, -, -, -, -, -⟩
  have HA14 : Hid (AwS w s3A (400 + 400 + 400 + 400) bx F5 b5 w14) := Lib.hid ⟨q1, q3⟩
  have HD14 := Lib.hid (isrow_kept q5 HD13.out HDN.out)
  clear q1 q2 q3 q5 HC4 HA13 HD13 HD
  obtain ⟨bb, off, rfl, hcell⟩ := row_rej HD14.out 0 (by decide)
  obtain ⟨g0, g1, g2⟩ := hcell 0 (by decide)
  have d0 : w14.cell? ⟨bb, off, none⟩ = some (.int .i64 1) := g0
  have d1 : w14.cell? ⟨bb, off + 1, none⟩ = some (.string ⟨#[114, 49]⟩) := g1
  have d2 : w14.cell? ⟨bb, off + 2, none⟩ = some (.int .i64 15) := g2
  have heq := fun w => eq65 1 15 ⟨#[114, 49]⟩ w
  have HSN := Lib.hid (fun W F b (h : AwS w s3A (400 + 400 + 400 + 400) bx F b W) => seen_any h.i shopS r3S (by decide) (by decide))
  have HOP := Lib.hid (fun W F b (h : AwS w s3A (400 + 400 + 400 + 400) bx F b W) => open_any h.i shopS (by decide) (by rw [open_3]; decide))
  have HTO := Lib.hid (fun W F b (h : AwS w s3A (400 + 400 + 400 + 400) bx F b W) => tot_any h.i shopS (by decide))
  have HFI := Lib.hid (fun W F b (h : AwS w s3A (400 + 400 + 400 + 400) bx F b W) => files_any h.i (by decide))
  rw [seen_3] at HSN
  rw [open_3] at HOP
  unfold RowPost at HOP HFI
  have H1 := Lib.hid (HSN.out _ _ _ HA14.out)
  rw [HA14.out.hx] at H1
  clear hcell g0 g1 g2
  go_wp2_with fail
  refine (H1.out).mono ?_
  rintro e w15 ⟨rfl, rfl⟩
  have H2 := Lib.hid (HOP.out _ _ _ HA14.out)
  rw [HA14.out.hx] at H2
  clear d0 d1 d2 heq H1
  go_wp2_with fail
  refine (H2.out).mono ?_
  rintro e w16 ⟨v, rfl, ho, hb⟩
  obtain ⟨OA, oc, rfl, -, -⟩ := own_form ho
  have HA16 := Lib.hid (HA14.out.below hb)
  clear ho hb H2
  have H3 := Lib.hid (HTO.out _ _ _ HA16.out)
  rw [HA16.out.hx, if_pos (by show shopS ∈ [shopS]; simp)] at H3
  unfold totOf totV at H3
  rw [recs_3] at H3
  have hf := fun n x y z w => field46 n x y z w
  go_wp2_with fail
  refine (H3.out).mono ?_
  rintro e w17 ⟨rfl, hb⟩
  have HA17 := Lib.hid (HA16.out.below hb)
  clear hb H3
  have H4 := Lib.hid (HFI.out _ _ _ HA17.out)
  rw [HA17.out.hx] at H4
  go_wp2_with fail
  refine (H4.out).mono ?_
  rintro e w18 ⟨v, rfl, ho, hb⟩
  obtain ⟨PA, pc, rfl, -, -⟩ := own_form ho
  have HA18 := Lib.hid (HA17.out.below hb)
  clear ho hb H4
  go_wp2_with fail
  go_ret
  exact ⟨rfl, HA18.out.i.be⟩
end Go.Proofs.YthflmdgfenojcaaGreatDoor
namespace Go.Proofs.YthflmdgfenojcaaGreatDoor
set_option linter.unusedVariables false
open Go.RowKit Go.Sort Go.Maps
end Go.Proofs.YthflmdgfenojcaaGreatDoor
