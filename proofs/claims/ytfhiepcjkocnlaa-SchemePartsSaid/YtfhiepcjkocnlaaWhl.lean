/- Sets of texts; volumes, read as a list; the walk of whole. -/
import Derived.Test.YtfhiepcjkocnlaaWho
import Derived.Laws.OwnMore
import Derived.Deep.AppendLies
import Derived.Deep.Draws
import Derived.Maps.Own
import Derived.Maps.OwnSet
import Derived.Maps.Views
import Derived.Maps.AppendAt
import Derived.StringKeys
import Derived.OwnWalk
import Derived.OneCell
namespace Go.Proofs.Ytfhiepcjkocnlaa
set_option linter.unusedVariables false
open Go.RowKit Go.Maps

theorem hasB_append (l m : List ByteArray) (x : ByteArray) : hasB (l ++ m) x = (hasB l x || hasB m x) := by simp [hasB]
theorem hasB_one (y x : ByteArray) : hasB [y] x = beqB x y := by simp [hasB]
theorem own_below {w w' : World} {base B : Nat} {e : TypeId} {size n : Nat} {v : Value} {xs : List Value} (h : w.ownsRow base e size v n xs) (hb : Below w.heap.size w w') : w'.ownsRow base e size v n xs :=
  h.kept (row := none) ⟨hb.os, hb.tape, hb.output, hb.size, fun k hk _ => hb.block k hk⟩ (by cases hv : v.ownBlock <;> simp)
theorem grown_below {w w' : World} {row : Option Nat} {B : Nat} (hg : w.grownBy w' row) (hB : B ≤ w.heap.size) (hr : ∀ k, row = some k → B ≤ k) : Below B w w' :=
  (Below.refl B w).grown hg hB hr

theorem law9 : Keyed Try.prog 9 := string_keyed Try.underlying9
theorem zero4 (w : World) : (zeroValue 4).run Try.prog w = .ok (.bool false) w := by kernel_rfl
/-- Block b is a map that holds true at the texts of l, and at no other. -/
def SSet (w : World) (b : Nat) (l : List ByteArray) : Prop :=
  ∃ (n : Nat) (D : DataW Unit), w.ownsMap Try.prog 9 (plainElem Try.prog 4) b n D ∧ IsMap D ∧ n ≤ l.length ∧ ∀ s : ByteArray, D.atKey (.string s.data.toList) (.lit (.bool false)) = .lit (.bool (hasB l s))
theorem SSet.made (w : World) : SSet (w.alloc (.map #[] 0)) w.heap.size [] :=
  ⟨0, .map [], World.ownsMap_made _ _ _ _, isMap_empty, by simp, fun d => rfl⟩
theorem SSet.kept {w w' : World} {b : Nat} {l : List ByteArray} (h : SSet w b l) {row : Option Nat} (hg : w.grownBy w' row) (hne : some b ≠ row) : SSet w' b l := by
  obtain ⟨n, D, h1, h2, h3, h4⟩ := h
  exact ⟨n, D, h1.kept hg hne, h2, h3, h4⟩
theorem SSet.lt {w : World} {b : Nat} {l : List ByteArray} (h : SSet w b l) : b < w.heap.size := by
  obtain ⟨n, D, h1, h2, h3, h4⟩ := h
  exact h1.lt
theorem SSet.look {w : World} {b : Nat} {l : List ByteArray} (h : SSet w b l) (s : ByteArray) (hs : s.size ≤ maxLen) :
    (Instr.lookup 65 (.map (some b)) (.string s) false).run Try.prog w = .ok (.bool (hasB l s)) w := by
  obtain ⟨n, D, h1, h2, h3, h4⟩ := h
  obtain ⟨v, ps, hrun, hv⟩ := h1.lookup law9 Try.underlying65 (zero4 w) (plainElem_bool Try.underlying4 false) (Go.WideMaps.keyOf_string_mk Try.underlying9 hs)
  rw [h4 s] at hv
  rw [hrun]
  unfold plainElem at hv
  rw [Try.underlying4] at hv
  cases v <;> simp at hv
  rw [hv.1]
theorem SSet.put {w : World} {b : Nat} {l : List ByteArray} (h : SSet w b l) (hl : l.length < 1000000) (s : ByteArray) (hs : s.size ≤ maxLen) :
    ∃ w', (Instr.mapUpdate 65 (.map (some b)) (.string s) (.bool true)).run Try.prog w = .ok () w' ∧ SSet w' b (l ++ [s]) ∧ w.grownBy w' (some b) := by
  obtain ⟨n, D, h1, h2, h3, h4⟩ := h
  obtain ⟨w', hrun, hown, hg⟩ := h1.update law9 Try.underlying65 (by unfold maxLen; omega) (Go.WideMaps.keyOf_string_mk Try.underlying9 hs) (plainElem_bool Try.underlying4 true)
  refine ⟨w', hrun, ⟨n + 1, _, hown, h2.put _ _, by simp; omega, fun x => ?_⟩, hg⟩
  rw [hasB_append, hasB_one]
  by_cases hx : x = s
  · subst hx
    rw [atKey_put_same h2 (show WideAt.IsKeyLit (.string x.data.toList) from trivial), (beqB_iff x x).2 rfl]; simp
  · have hne : beqB x s = false := by
      cases hb : beqB x s
      · rfl
      · exact absurd ((beqB_iff _ _).1 hb) hx
    rw [atKey_put_other (by intro e; injection e with e; exact hx (ByteArray.ext (Array.toList_inj.1 e))), h4 x, hne]; simp

/-- A volume. -/
structure Vol where
  s : ByteArray
  c : Int
instance : Inhabited Vol := ⟨⟨⟨#[]⟩, 0⟩⟩
def volCells (x : Vol) : List Value := [.string x.s, .int .i64 x.c]
def cellsV (l : List Vol) : List Value := l.flatMap volCells
theorem cellsV_length (l : List Vol) : (cellsV l).length = l.length * 2 := by
  induction l with
  | nil => rfl
  | cons x l ih => rw [cellsV, List.flatMap_cons, List.length_append, List.length_cons]; rw [cellsV] at ih; rw [ih]; simp [volCells]; omega
theorem cellsV_at (l : List Vol) (k : Nat) (hk : k < l.length) : (cellsV l)[k * 2]? = some (.string l[k].s) ∧ (cellsV l)[k * 2 + 1]? = some (.int .i64 l[k].c) := by
  induction l generalizing k with
  | nil => simp at hk
  | cons x l ih =>
    cases k with
    | zero => exact ⟨rfl, rfl⟩
    | succ k =>
      have h := ih k (by simpa using hk)
      have e1 : (k + 1) * 2 = k * 2 + 2 := by omega
      rw [e1]
      exact h
theorem getV_at (l : List Vol) (k : Nat) (hk : k < l.length) : l.getD k default = l[k] := by
  rw [List.getD_eq_getElem?_getD, List.getElem?_eq_getElem hk]; rfl
theorem row_vol {w : World} {b off : Nat} {l : List Vol} (hc : ∀ j v, (cellsV l)[j]? = some v → w.cell? ⟨b, off + j, none⟩ = some v) (k : Nat) (hk : k < l.length) :
    w.cell? ⟨b, off + k * 2, none⟩ = some (.string (l.getD k default).s) ∧ w.cell? ⟨b, off + k * 2 + 1, none⟩ = some (.int .i64 (l.getD k default).c) := by
  rw [getV_at l k hk]
  exact ⟨hc _ _ (cellsV_at l k hk).1, by rw [Nat.add_assoc]; exact hc _ _ (cellsV_at l k hk).2⟩
def namesV (l : List Vol) (k : Nat) : List ByteArray := (l.take k).map Vol.s
/-- What is wrong with the i-th volume. -/
def badV (l : List Vol) (i : Nat) : Int :=
  if nameB (l.getD i default).s.data.toList = true then (if hasB (namesV l i) (l.getD i default).s = true then 7 else if (l.getD i default).c < 0 ∨ 1000000000 < (l.getD i default).c then 4 else 0) else 5
def volE (l : List Vol) : Int := match (List.range l.length).find? (fun i => badV l i != 0) with
  | some i => badV l i
  | none => 0
theorem volE_ok {l : List Vol} (h : ∀ j, j < l.length → badV l j = 0) : volE l = 0 := by
  have : (List.range l.length).find? (fun i => badV l i != 0) = none := by
    rw [List.find?_eq_none]
    intro x hx
    rw [h x (List.mem_range.1 hx)]; decide
  unfold volE; rw [this]
theorem volE_bad {l : List Vol} (i : Nat) (hi : i < l.length) (h : ∀ j, j < i → badV l j = 0) (hb : badV l i ≠ 0) : volE l = badV l i := by
  have : (List.range l.length).find? (fun i => badV l i != 0) = some i := by
    obtain ⟨m, hm⟩ : ∃ m, l.length = i + (m + 1) := ⟨l.length - i - 1, by omega⟩
    rw [hm, List.range_add, List.find?_append, List.find?_eq_none.2 (fun x hx => by rw [h x (List.mem_range.1 hx)]; decide)]
    rw [List.range_succ_eq_map]
    simp [hb]
  unfold volE; rw [this]
def sumC (l : List Vol) : Nat → Int
  | 0 => 0
  | k + 1 => sumC l k + (l.getD k default).c
theorem badV_ok {l : List Vol} {i : Nat} (h : badV l i = 0) : nameB (l.getD i default).s.data.toList = true ∧ hasB (namesV l i) (l.getD i default).s = false ∧ 0 ≤ (l.getD i default).c ∧ (l.getD i default).c ≤ 1000000000 := by
  unfold badV at h
  split at h
  · rename_i h1
    split at h
    · omega
    · rename_i h2
      split at h
      · omega
      · exact ⟨h1, by simpa using h2, by omega, by omega⟩
  · omega
theorem sumC_bd {l : List Vol} : ∀ k, (∀ j, j < k → badV l j = 0) → 0 ≤ sumC l k ∧ sumC l k ≤ 1000000000 * (k : Int)
  | 0, _ => by simp [sumC]
  | k + 1, h => by
    have ih := sumC_bd k (fun j hj => h j (by omega))
    have := badV_ok (h k (by omega))
    rw [sumC]; omega
theorem namesV_snoc (l : List Vol) (k : Nat) (hk : k < l.length) : namesV l (k + 1) = namesV l k ++ [(l.getD k default).s] := by
  unfold namesV
  rw [List.take_succ_eq_append_getElem hk, List.map_append, getV_at l k hk]; rfl
theorem namesV_length (l : List Vol) (k : Nat) (hk : k ≤ l.length) : (namesV l k).length = k := by
  unfold namesV; simp; omega
def wholeE (t : List Tr) (v : List Vol) : Int := if chkE t = 0 then (if 16 < v.length then 3 else if volE v = 0 then feeE t (sumC v v.length) else volE v) else chkE t
def wholeV (t : List Tr) (v : List Vol) : Int := if wholeE t v = 0 then feeV t (sumC v v.length) else 0
set_option maxRecDepth 100000 in
set_option maxHeartbeats 6400000 in
theorem whole_any (A : Option Addr) (c : Nat) (t : List Tr) (B : Option Addr) (d : Nat) (v : List Vol) (w : World) (hr : IsRow w A (cellsT t)) (hl : t.length ≤ 1000000) (hup : upT t) (hv : IsRow w B (cellsV v)) (hvl : v.length ≤ 1000000) (hns : ∀ x ∈ v, x.s.size ≤ maxLen) :
    Calls Try.prog 24 #[.slice A t.length c, .slice B v.length d] w fun e w' => e = .returned (.tuple #[.int .i64 (wholeV t v), .int .i64 (wholeE t v)]) ∧ Below w.heap.size w w' := by
  have hck := Lib.hid (check_any A c t w hr hl)
  have HR := Lib.hid hr
  have HV := Lib.hid hv
  have HNS := Lib.hid hns
  have HUP := Lib.hid hup
  obtain ⟨ce, hce⟩ : ∃ ce, chkE t = ce := ⟨_, rfl⟩
  rw [hce] at hck
  clear hr hv hns hup
  by_cases hz : ce = 0
  · have hzb : (ce != 0) = false := by simp only [bne_eq_false_iff_eq]; exact hz
    by_cases h16 : 16 < v.length
    · have hE := Lib.hid (show wholeE t v = 3 by unfold wholeE; rw [hce, if_pos hz, if_pos h16])
      have hV := Lib.hid (show wholeV t v = 0 by unfold wholeV; rw [hE.out, if_neg (by omega)])
      clear hce hz
      go_enter Try.func24, Try.ntmps24
      go_wp2_with fail
      refine hck.out.mono ?_
      rintro e w1 ⟨rfl, hb⟩
      have HB := Lib.hid hb
      clear hb
      go_wp2_with fail
      go_ret2
      exact ⟨by rw [hE.out, hV.out]; rfl, HB.out⟩
    · have hE := Lib.hid (fun (h : volE v ≠ 0) => show wholeE t v = volE v ∧ wholeV t v = 0 by
        have : wholeE t v = volE v := by unfold wholeE; rw [hce, if_pos hz, if_neg h16, if_neg h]
        exact ⟨this, by unfold wholeV; rw [this, if_neg h]⟩)
      have hO := Lib.hid (fun (h : volE v = 0) => show wholeE t v = feeE t (sumC v v.length) ∧ wholeV t v = feeV t (sumC v v.length) by
        have : wholeE t v = feeE t (sumC v v.length) := by unfold wholeE; rw [hce, if_pos hz, if_neg h16, if_pos h]
        refine ⟨this, ?_⟩
        unfold wholeV; rw [this]
        by_cases h0 : feeE t (sumC v v.length) = 0
        · rw [if_pos h0]
        · rw [if_neg h0]; unfold feeV; rw [if_neg h0])
      clear hce hz
      have hmm := @run_makeMap Try.prog
      go_enter Try.func24, Try.ntmps24
      go_wp2_with fail
      refine hck.out.mono ?_
      rintro e w1 ⟨rfl, hb⟩
      have HB := Lib.hid hb
      have hset := SSet.made w1
      have hmb : Below w.heap.size w (w1.alloc (.map #[] 0)) := hb.alloc hb.size _
      have HV1 := Lib.hid (HV.out.below hmb)
      have HR1 := Lib.hid (HR.out.below hmb)
      clear hb
      go_wp2_with fail
      clear hzb hmm
      have HSET := Lib.hid hset
      have HMB := Lib.hid hmb
      clear hset hmb
      have hwsz := HB.out.size
      obtain ⟨bm, hbm⟩ : ∃ bm, w1.heap.size = bm := ⟨_, rfl⟩
      rw [hbm] at HSET hwsz ⊢
      go_loopw [8, 22] (fun s i wr => ∃ k : Nat, k ≤ v.length ∧ i = .int .i64 k ∧ s = .int .i64 (sumC v k) ∧ Hid (∀ j, j < k → badV v j = 0) ∧ Hid (SSet wr bm (namesV v k)) ∧ Hid (Below w.heap.size w wr)) (fun _ i _ => v.length - (intOf i).toNat)
      case atStart => exact ⟨0, Nat.zero_le _, rfl, rfl, Lib.hid (fun j h => by omega), HSET, HMB⟩
      case round =>
        obtain ⟨k, hk, rfl, rfl, hall, hset, hbel⟩ := hrel
        by_cases hlt : k < v.length
        · rcases HV.out.below hbel.out with h0 | ⟨b, off, ha, hc⟩
          · rw [cellsV_length] at h0; omega
          obtain ⟨d0, d1⟩ := row_vol hc k hlt
          have hsz := Lib.hid (HNS.out (v.getD k default) (by rw [getV_at v k hlt]; exact List.getElem_mem hlt))
          have hst := Lib.hid (show ∀ (h : badV v k = 0) j, j < k + 1 → badV v j = 0 from fun h j hj => by
            rcases Nat.lt_or_ge j k with q | q
            · exact hall.out j q
            · obtain rfl : j = k := by omega
              exact h)
          have hbd := Lib.hid (volE_bad k hlt hall.out)
          have hsb := sumC_bd k hall.out
          have hdef := Lib.hid (show badV v k = if nameB (v.getD k default).s.data.toList = true then (if hasB (namesV v k) (v.getD k default).s = true then 7 else if (v.getD k default).c < 0 ∨ 1000000000 < (v.getD k default).c then 4 else 0) else 5 from rfl)
          have hnx := Lib.hid (namesV_snoc v k hlt)
          have hsm := Lib.hid (show sumC v (k + 1) = sumC v k + (v.getD k default).c from rfl)
          have hnl := namesV_length v k hk
          have hlb := World.block_lt_of_cell? wr _ d0
          subst ha
          clear hc
          obtain ⟨xs, hxs⟩ : ∃ xs, (v.getD k default).s = xs := ⟨_, rfl⟩
          obtain ⟨xc, hxc⟩ : ∃ xc, (v.getD k default).c = xc := ⟨_, rfl⟩
          rw [hxs] at d0 hsz hdef hnx
          rw [hxc] at d1 hsm hdef
          clear hxs hxc
          have hgr : wr.grownBy (wr.alloc (.cells #[.string xs, .int .i64 xc] 31)) none := ⟨rfl, rfl, rfl, by simp, fun i hi _ => Below.heap_alloc wr _ i hi⟩
          have hset2 := hset.out.kept hgr (by simp)
          have hlook := hset2.look xs hsz.out
          have hba := Lib.hid (hbel.out.alloc hbel.out.size (.cells #[.string xs, .int .i64 xc] 31))
          clear hgr
          cases hn : nameB xs.data.toList
          case false =>
            have hb5 : badV v k = 5 := by rw [hdef.out, hn]; rfl
            have he5 : volE v = 5 := by rw [hbd.out (by omega), hb5]
            have hE5 := hE.out (by omega)
            rw [he5] at hE5
            have HE5 := Lib.hid hE5
            have HN := Lib.hid hn
            clear hn hb5 he5 hE5 hlook hset2
            go_wp2_with fail
            refine (sname_any xs _ hsz.out).mono ?_
            rintro e w2 ⟨rfl, rfl⟩
            rw [HN.out]
            go_wp2_with fail
            go_ret2
            exact ⟨by rw [HE5.out.1, HE5.out.2]; rfl, hba.out⟩
          case true =>
            have HN := Lib.hid hn
            cases hh : hasB (namesV v k) xs
            case true =>
              have hb5 : badV v k = 7 := by rw [hdef.out, hn, hh]; rfl
              have he5 : volE v = 7 := by rw [hbd.out (by omega), hb5]
              have hE5 := hE.out (by omega)
              rw [he5] at hE5
              have HE5 := Lib.hid hE5
              rw [hh] at hlook
              clear hn hb5 he5 hE5 hset2 hh
              go_wp2_with fail
              refine (sname_any xs _ hsz.out).mono ?_
              rintro e w2 ⟨rfl, rfl⟩
              rw [HN.out]
              go_wp2_with fail
              go_ret2
              exact ⟨by rw [HE5.out.1, HE5.out.2]; rfl, hba.out⟩
            case false =>
              obtain ⟨w2, hrun, hs2, hg2⟩ := hset2.put (by omega) xs hsz.out
              rw [hh] at hlook
              have hsz2 := hg2.size
              have e0 : w2.cell? ⟨wr.heap.size, 0, none⟩ = some (.string xs) := by
                rw [hg2.cell_far _ (by simp) (by intro e; injection e with e; have := hset.out.lt; simp at e; omega)]; simp
              have e1 : w2.cell? ⟨wr.heap.size, 1, none⟩ = some (.int .i64 xc) := by
                rw [hg2.cell_far _ (by simp) (by intro e; injection e with e; have := hset.out.lt; simp at e; omega)]; simp
              have HS2 := Lib.hid hs2
              have HB2 := Lib.hid (hba.out.grown hg2 (by have := hbel.out.size; simp; omega) (fun j hj => by injection hj with hj; omega))
              have hdef0 : badV v k = if xc < 0 ∨ 1000000000 < xc then 4 else 0 := by rw [hdef.out, hn, hh]; rfl
              clear hn hh hset2 hs2 hg2 hdef
              by_cases hr : xc < 0 ∨ 1000000000 < xc
              · have hb5 : badV v k = 4 := by rw [hdef0, if_pos hr]
                have he5 : volE v = 4 := by rw [hbd.out (by omega), hb5]
                have hE5 := hE.out (by omega)
                rw [he5] at hE5
                have HE5 := Lib.hid hE5
                have hcs : xc < 0 ∨ (0 ≤ xc ∧ 1000000000 < xc) := by omega
                clear hb5 he5 hE5 hdef0 hr
                rcases hcs with q | ⟨q, q'⟩
                all_goals
                  go_wp2_with fail
                  refine (sname_any xs _ hsz.out).mono ?_
                  rintro e w3 ⟨rfl, rfl⟩
                  rw [HN.out]
                  go_wp2_with fail
                  go_ret2
                  exact ⟨by rw [HE5.out.1, HE5.out.2]; rfl, HB2.out⟩
              · have hb0 : badV v k = 0 := by rw [hdef0, if_neg hr]
                have HALL := Lib.hid (hst.out hb0)
                have q1 : 0 ≤ xc := by omega
                have q2 : xc ≤ 1000000000 := by omega
                have HS3 := Lib.hid (show SSet w2 bm (namesV v (k + 1)) by rw [hnx.out]; exact HS2.out)
                have HSM := hsm
                clear hb0 hdef0 hr
                obtain ⟨sk, hsk⟩ : ∃ sk, sumC v k = sk := ⟨_, rfl⟩
                rw [hsk] at hsb HSM ⊢
                clear hsk hsm
                go_wp2_with fail
                refine (sname_any xs _ hsz.out).mono ?_
                rintro e w3 ⟨rfl, rfl⟩
                rw [HN.out]
                go_wp2_with fail
                go_roundw
                case rel => exact ⟨k + 1, by omega, by go_num, by rw [HSM.out], HALL, HS3, HB2⟩
                case measure => simp [intOf]; omega
        · obtain rfl : k = v.length := by omega
          have hv0 := volE_ok hall.out
          have hOo := hO.out hv0
          have hsb := sumC_bd v.length hall.out
          have HO := Lib.hid hOo
          clear hv0 hOo
          have HF := Lib.hid (fun W h => fee_any A c t (sumC v v.length) W h hl HUP.out)
          generalize sumC v v.length = S at *
          go_wp2_with fail
          refine (HF.out _ (HR.out.below hbel.out)).mono ?_
          rintro e w2 ⟨rfl, hb⟩
          have HB2 := Lib.hid (hbel.out.trans (hb.mono hbel.out.size))
          clear hb
          go_wp2_with fail
          go_ret2
          exact ⟨by rw [HO.out.1, HO.out.2]; rfl, HB2.out⟩
  · have hE := Lib.hid (show wholeE t v = ce by unfold wholeE; rw [hce, if_neg hz])
    have hV := Lib.hid (show wholeV t v = 0 by unfold wholeV; rw [hE.out, if_neg hz])
    have hzb : (ce != 0) = true := bne_iff_ne.2 hz
    clear hce hz
    go_enter Try.func24, Try.ntmps24
    go_wp2_with fail
    refine hck.out.mono ?_
    rintro e w1 ⟨rfl, hb⟩
    have HB := Lib.hid hb
    clear hb
    go_wp2_with fail
    go_ret2
    exact ⟨by rw [hE.out, hV.out]; rfl, HB.out⟩
end Go.Proofs.Ytfhiepcjkocnlaa
