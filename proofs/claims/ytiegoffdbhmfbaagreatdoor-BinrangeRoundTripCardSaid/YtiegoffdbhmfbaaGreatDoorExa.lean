/- Ranges: examine and Check. -/
import Derived.Test.YtiegoffdbhmfbaaGreatDoorOvl
namespace Go.Proofs.YtiegoffdbhmfbaaGreatDoor
set_option linter.unusedVariables false
open Go.RowKit

instance : Inhabited Rg := ⟨⟨⟨#[]⟩, ⟨#[]⟩, ⟨#[]⟩, ⟨#[]⟩⟩⟩
def rgF (r : Rg) : List Value := [.string r.lo, .string r.hi, .string r.is, .string r.pr]
def RgOk (r : Rg) : Prop := r.lo.size ≤ maxLen ∧ r.hi.size ≤ maxLen ∧ r.is.size ≤ maxLen ∧ r.pr.size ≤ maxLen
def rgAt (l : List Rg) (i : Nat) : Rg := l.getD i default
theorem rgAt_get (l : List Rg) (i : Nat) (h : i < l.length) : rgAt l i = l[i] := by unfold rgAt; simp [h]
theorem rg_cells (l : List Rg) (k : Nat) (hk : k < l.length) (j : Nat) (hj : j < 4) : (l.flatMap rgF)[k * 4 + j]? = (rgF l[k])[j]? := by
  induction l generalizing k with
  | nil => simp at hk
  | cons x l ih =>
    have h4 : (rgF x).length = 4 := rfl
    rw [List.flatMap_cons]
    cases k with
    | zero => rw [List.getElem?_append_left (by omega)]; simp
    | succ k =>
      rw [List.getElem?_append_right (by omega), show (k + 1) * 4 + j - (rgF x).length = k * 4 + j by omega]
      simpa using ih k (by simpa using hk)
theorem row_rg {wr : World} {A : Option Addr} {l : List Rg} (hr : IsRow wr A (l.flatMap rgF)) (j : Nat) (h : j < l.length) :
    ∃ b off, A = some ⟨b, off, none⟩ ∧ ∀ k, k < l.length → wr.cell? ⟨b, off + k * 4, none⟩ = some (.string (rgAt l k).lo) ∧ wr.cell? ⟨b, off + k * 4 + 1, none⟩ = some (.string (rgAt l k).hi) ∧ wr.cell? ⟨b, off + k * 4 + 2, none⟩ = some (.string (rgAt l k).is) ∧ wr.cell? ⟨b, off + k * 4 + 3, none⟩ = some (.string (rgAt l k).pr) := by
  rcases hr with hr | ⟨b, off, rfl, hr⟩
  · have := (List.getElem?_eq_some_iff.1 (rg_cells l j h 0 (by omega))).1
    omega
  · refine ⟨b, off, rfl, fun k hk => ?_⟩
    rw [rgAt_get l k hk]
    have hc := fun j hj => rg_cells l k hk j hj
    refine ⟨hr _ _ (hc 0 (by omega)), ?_, ?_, ?_⟩ <;> rw [Nat.add_assoc]
    · exact hr _ _ (hc 1 (by omega))
    · exact hr _ _ (hc 2 (by omega))
    · exact hr _ _ (hc 3 (by omega))
theorem cell_later {w wX : World} {p : Addr} {v : Value} (hb : Below w.heap.size w wX) (h : w.cell? p = some v) : wX.cell? p = some v := (hb.cell (World.block_lt_of_cell? w _ h)).trans h
/-- The error of a range alone. -/
def badOne (r : Rg) : Int := if formB r.lo r.hi = false then 2 else if gtS r.lo r.hi = true then 4 else if (!nameB r.is.data.toList || !nameB r.pr.data.toList) = true then 5 else 0
def clash (a b : Rg) : Bool := decide (a.lo.size = b.lo.size) && ovB a b
def fstB (p : Nat → Bool) (n : Nat) : Option Nat := (List.range n).find? p
theorem fstB_none {p : Nat → Bool} {n : Nat} (h : ∀ j, j < n → p j = false) : fstB p n = none := by
  unfold fstB
  rw [List.find?_eq_none]
  intro x hx
  rw [h x (List.mem_range.1 hx)]; simp
theorem fstB_at {p : Nat → Bool} {n k : Nat} (hk : k < n) (hp : p k = true) (h : ∀ j, j < k → p j = false) : fstB p n = some k := by
  unfold fstB
  rw [List.find?_range_eq_some]
  exact ⟨hp, by simpa using hk, fun j hj => by rw [h j hj]; rfl⟩
theorem fstB_none_iff {p : Nat → Bool} {n : Nat} : fstB p n = none ↔ ∀ j, j < n → p j = false := by
  refine ⟨fun h j hj => ?_, fstB_none⟩
  unfold fstB at h
  rw [List.find?_eq_none] at h
  have := h j (List.mem_range.2 hj)
  cases hp : p j
  · rfl
  · exact absurd hp this
def badP (l : List Rg) (i : Nat) : Bool := decide (badOne (rgAt l i) ≠ 0)
def ovP (l : List Rg) (i : Nat) : Bool := (fstB (fun k => clash (rgAt l i) (rgAt l k)) i).isSome
/-- What examine answers. -/
def exR (l : List Rg) : Int × Nat :=
  if 64 < l.length then (3, 64) else match fstB (badP l) l.length with
    | some i => (badOne (rgAt l i), i)
    | none => match fstB (ovP l) l.length with
      | some i => (7, i)
      | none => (0, 0)
def ExPost (l : List Rg) (w : World) (e : Ending) (w' : World) : Prop := e = .returned (.tuple #[.int .i64 (exR l).1, .int .i64 (exR l).2]) ∧ Below w.heap.size w w'
theorem exR_long {l : List Rg} (h : 64 < l.length) : exR l = (3, 64) := by unfold exR; rw [if_pos h]
theorem exR_bad {l : List Rg} (h : ¬ 64 < l.length) (i : Nat) (hi : i < l.length) (hb : badOne (rgAt l i) ≠ 0) (hall : ∀ j, j < i → badOne (rgAt l j) = 0) : exR l = (badOne (rgAt l i), i) := by
  unfold exR
  rw [if_neg h, fstB_at hi (by unfold badP; simp [hb]) (fun j hj => by unfold badP; simp [hall j hj])]
theorem exR_ov {l : List Rg} (h : ¬ 64 < l.length) (hg : ∀ j, j < l.length → badOne (rgAt l j) = 0) (i : Nat) (hi : i < l.length) (k : Nat) (hk : k < i) (hc : clash (rgAt l i) (rgAt l k) = true) (hall : ∀ j, j < i → ovP l j = false) : exR l = (7, i) := by
  unfold exR
  rw [if_neg h, fstB_none (fun j hj => by unfold badP; simp [hg j hj])]
  have : ovP l i = true := by
    unfold ovP
    cases hq : fstB (fun k => clash (rgAt l i) (rgAt l k)) i with
    | some _ => rfl
    | none => have := fstB_none_iff.1 hq k hk; rw [hc] at this; cases this
  simp only [fstB_at hi this hall]
theorem exR_ok {l : List Rg} (h : ¬ 64 < l.length) (hg : ∀ j, j < l.length → badOne (rgAt l j) = 0) (hall : ∀ j, j < l.length → ovP l j = false) : exR l = (0, 0) := by
  unfold exR
  rw [if_neg h, fstB_none (fun j hj => by unfold badP; simp [hg j hj])]
  simp only [fstB_none hall]
set_option maxRecDepth 100000 in
set_option maxHeartbeats 12800000 in
theorem exa_any (A : Option Addr) (cp : Nat) (l : List Rg) (w : World) (hr : IsRow w A (l.flatMap rgF)) (hok : ∀ x ∈ l, RgOk x) (hc : l.length ≤ cp) (hm : cp ≤ maxLen) :
    Calls Tryz.prog 23 #[.slice A l.length cp] w (ExPost l w) := by
  have HR := Lib.hid hr
  have HOK := Lib.hid (fun k (h : k < l.length) => show RgOk (rgAt l k) from by rw [rgAt_get l k h]; exact hok _ (List.getElem_mem h))
  have HC := Lib.hid hc
  unfold maxLen at hm
  clear hr hok
  by_cases hlong : 64 < l.length
  · have HX := Lib.hid (exR_long hlong)
    have q64 : (64 : Int) < (l.length : Int) := by omega
    go_enter Tryz.func23, Tryz.ntmps23
    go_wp2_with fail
    go_ret2
    exact ⟨by rw [HX.out]; rfl, Below.refl _ _⟩
  · have HLO := Lib.hid hlong
    have q64 : ¬ (64 : Int) < (l.length : Int) := by omega
    have hlen : l.length ≤ 64 := by omega
    clear hlong
    go_enter Tryz.func23, Tryz.ntmps23
    go_wp2_with fail
    clear q64
    go_loopw [15] (fun i wr => ∃ k : Nat, k ≤ l.length ∧ i = .int .i64 k ∧ Hid (∀ j, j < k → badOne (rgAt l j) = 0) ∧ Hid (Below w.heap.size w wr)) (fun i _ => l.length - (intOf i).toNat)
    case atStart => exact ⟨0, Nat.zero_le _, rfl, Lib.hid (fun j h => by omega), Lib.hid (Below.refl _ _)⟩
    case round =>
      obtain ⟨k, hk, rfl, HG, HB⟩ := hrel
      by_cases hlt : k < l.length
      · rcases row_rg HR.out k hlt with ⟨b, off, rfl, hcell⟩
        obtain ⟨d0, d1, d2, d3⟩ := hcell k hlt
        have c0 := cell_later HB.out d0
        have c1 := cell_later HB.out d1
        have c2 := cell_later HB.out d2
        have c3 := cell_later HB.out d3
        have hrk := HOK.out k hlt
        have HBAD := Lib.hid (fun hb => exR_bad HLO.out k hlt hb HG.out)
        have HNX := Lib.hid (fun (hb : badOne (rgAt l k) = 0) j (hj : j < k + 1) => show badOne (rgAt l j) = 0 from by
          rcases Nat.lt_or_ge j k with q | q
          · exact HG.out j q
          · obtain rfl : j = k := by omega
            exact hb)
        have kI : (k : Int) < (l.length : Int) := by omega
        have k0 : (0 : Int) ≤ (k : Int) := by omega
        have hbl : b < wr.heap.size := World.block_lt_of_cell? wr _ c0
        clear d0 d1 d2 d3 hcell
        obtain ⟨BO, hBO⟩ : ∃ BO, badOne (rgAt l k) = BO := ⟨_, rfl⟩
        rw [hBO] at HBAD HNX
        generalize rgAt l k = r at c0 c1 c2 c3 hrk hBO
        obtain ⟨lo, hi, is, pr⟩ := r
        obtain ⟨s1, s2, s3, s4⟩ := hrk
        simp only at c0 c1 c2 c3 s1 s2 s3 s4
        have HFM := Lib.hid (fun W => form_any ⟨lo, hi, is, pr⟩ W s1 s2)
        have HN1 := Lib.hid (fun W => lname_any is W s3)
        have HN2 := Lib.hid (fun W => lname_any pr W s4)
        unfold badOne at hBO
        unfold rgC at HFM
        simp only at hBO HFM
        clear s1 s2 s3 s4
        cases hf : formB lo hi
        · rw [hf] at HFM hBO
          obtain rfl : 2 = BO := by rw [← hBO]; rfl
          have HX := Lib.hid (HBAD.out (by decide))
          clear hf hBO HNX HBAD
          go_wp2_with fail
          refine (HFM.out _).mono ?_
          rintro e w2 ⟨rfl, hb⟩
          have HB9 := Lib.hid (HB.out.trans ((box1 hb).2.2.mono HB.out.size))
          clear hb
          go_wp2_with fail
          go_ret2
          exact ⟨by rw [HX.out]; rfl, HB9.out⟩
        · rw [hf] at HFM hBO
          cases hg : gtS lo hi
          · rw [hg] at hBO
            have hg' : (!Op.bytesLess lo.toList hi.toList && !(lo.toList == hi.toList)) = false := hg
            cases h1 : nameB is.data.toList
            · rw [h1] at HN1 hBO
              obtain rfl : 5 = BO := by rw [← hBO]; rfl
              have HX := Lib.hid (HBAD.out (by decide))
              clear hf hBO HNX HBAD hg h1
              go_wp2_with fail
              refine (HFM.out _).mono ?_
              rintro e w2 ⟨rfl, hb⟩
              have HB2 := Lib.hid (HB.out.trans ((box1 hb).2.2.mono HB.out.size))
              have HK2 := Lib.hid (box1 hb).1
              have z0 := cell_c HK2.out 0
              have z1 := cell_c HK2.out 1
              have z2 := cell_c HK2.out 2
              have z3 := cell_c HK2.out 3
              clear hb c0 c1 c2 c3
              go_wp2_with fail
              refine (HN1.out _).mono ?_
              rintro e w3 ⟨rfl, rfl⟩
              go_wp2_with fail
              go_ret2
              exact ⟨by rw [HX.out]; rfl, HB2.out⟩
            · rw [h1] at HN1 hBO
              cases h2 : nameB pr.data.toList
              · rw [h2] at HN2 hBO
                obtain rfl : 5 = BO := by rw [← hBO]; rfl
                have HX := Lib.hid (HBAD.out (by decide))
                clear hf hBO HNX HBAD hg h1 h2
                go_wp2_with fail
                refine (HFM.out _).mono ?_
                rintro e w2 ⟨rfl, hb⟩
                have HB2 := Lib.hid (HB.out.trans ((box1 hb).2.2.mono HB.out.size))
                have HK2 := Lib.hid (box1 hb).1
                have z0 := cell_c HK2.out 0
                have z1 := cell_c HK2.out 1
                have z2 := cell_c HK2.out 2
                have z3 := cell_c HK2.out 3
                clear hb c0 c1 c2 c3
                go_wp2_with fail
                refine (HN1.out _).mono ?_
                rintro e w3 ⟨rfl, rfl⟩
                go_wp2_with fail
                refine (HN2.out _).mono ?_
                rintro e w3 ⟨rfl, rfl⟩
                go_wp2_with fail
                go_ret2
                exact ⟨by rw [HX.out]; rfl, HB2.out⟩
              · rw [h2] at HN2 hBO
                obtain rfl : 0 = BO := by rw [← hBO]; rfl
                have HG2 := Lib.hid (HNX.out rfl)
                clear hf hBO HNX HBAD hg h1 h2
                go_wp2_with fail
                refine (HFM.out _).mono ?_
                rintro e w2 ⟨rfl, hb⟩
                have HB2 := Lib.hid (HB.out.trans ((box1 hb).2.2.mono HB.out.size))
                have HK2 := Lib.hid (box1 hb).1
                have z0 := cell_c HK2.out 0
                have z1 := cell_c HK2.out 1
                have z2 := cell_c HK2.out 2
                have z3 := cell_c HK2.out 3
                clear hb c0 c1 c2 c3
                go_wp2_with fail
                refine (HN1.out _).mono ?_
                rintro e w3 ⟨rfl, rfl⟩
                go_wp2_with fail
                refine (HN2.out _).mono ?_
                rintro e w3 ⟨rfl, rfl⟩
                go_wp2_with fail
                go_roundw
                case rel => exact ⟨k + 1, by omega, by go_num, HG2, HB2⟩
                case measure => simp [intOf]; omega
          · rw [hg] at hBO
            have hg' : (!Op.bytesLess lo.toList hi.toList && !(lo.toList == hi.toList)) = true := hg
            obtain rfl : 4 = BO := by rw [← hBO]; rfl
            have HX := Lib.hid (HBAD.out (by decide))
            clear hf hBO HNX HBAD hg
            go_wp2_with fail
            refine (HFM.out _).mono ?_
            rintro e w2 ⟨rfl, hb⟩
            have HB2 := Lib.hid (HB.out.trans ((box1 hb).2.2.mono HB.out.size))
            have HK2 := Lib.hid (box1 hb).1
            have z0 := cell_c HK2.out 0
            have z1 := cell_c HK2.out 1
            have z2 := cell_c HK2.out 2
            have z3 := cell_c HK2.out 3
            clear hb c0 c1 c2 c3
            go_wp2_with fail
            go_ret2
            exact ⟨by rw [HX.out]; rfl, HB2.out⟩
      · obtain rfl : k = l.length := by omega
        have HGOOD := Lib.hid HG.out
        clear HG hk
        go_wp2_with fail
        go_loopw [44] (fun i wr2 => ∃ k2 : Nat, k2 ≤ l.length ∧ i = .int .i64 k2 ∧ Hid (∀ j, j < k2 → ovP l j = false) ∧ Hid (Below w.heap.size w wr2)) (fun i _ => l.length - (intOf i).toNat)
        case atStart => exact ⟨0, Nat.zero_le _, rfl, Lib.hid (fun j h => by omega), HB⟩
        case round =>
          clear HB
          obtain ⟨i, hi, rfl, HO, HB⟩ := hrel
          obtain ⟨wr2, hw2⟩ : ∃ wr2, wr2 = wr := ⟨_, rfl⟩
          subst hw2
          by_cases hilt : i < l.length
          · rcases row_rg HR.out i hilt with ⟨b, off, rfl, hcell⟩
            have HCELL := Lib.hid hcell
            obtain ⟨d0, d1, d2, d3⟩ := hcell i hilt
            have c0 := cell_later HB.out d0
            have c1 := cell_later HB.out d1
            have c2 := cell_later HB.out d2
            have c3 := cell_later HB.out d3
            have hri := HOK.out i hilt
            have HEX := Lib.hid (fun k hk hcl => exR_ov HLO.out HGOOD.out i hilt k hk hcl HO.out)
            have HNX := Lib.hid (fun (hcl : ∀ k, k < i → clash (rgAt l i) (rgAt l k) = false) j (hj : j < i + 1) => show ovP l j = false from by
              rcases Nat.lt_or_ge j i with q | q
              · exact HO.out j q
              · obtain rfl : j = i := by omega
                unfold ovP
                rw [fstB_none hcl]; rfl)
            have iI : (i : Int) < (l.length : Int) := by omega
            have i0 : (0 : Int) ≤ (i : Int) := by omega
            have iC : (i : Int) ≤ (cp : Int) := by have := HC.out; omega
            have iC' : i ≤ cp := by have := HC.out; omega
            have hbl : b < wr2.heap.size := World.block_lt_of_cell? wr2 _ c0
            clear d0 d1 d2 d3 hcell
            generalize rgAt l i = ra at c0 c1 c2 c3 hri HEX HNX
            obtain ⟨alo, ahi, ais, apr⟩ := ra
            obtain ⟨s1, s2, s3, s4⟩ := hri
            simp only at c0 c1 c2 c3 s1 s2
            have HSA := Lib.hid (And.intro s1 s2)
            clear s1 s2 s3 s4
            have HST : Hid ((wr2.alloc (.cells #[.string alo, .string ahi, .string ais, .string apr] 26)).heap[wr2.heap.size]? = some (.cells #[.string alo, .string ahi, .string ais, .string apr] 26) ∧ Below w.heap.size w (wr2.alloc (.cells #[.string alo, .string ahi, .string ais, .string apr] 26))) := Lib.hid ⟨heap_alloc_new _ _, HB.out.trans ((alloc_lt _ _).mono HB.out.size)⟩
            go_wp2_with fail
            clear c0 c1 c2 c3 hbl
            go_loopw [53] (fun j wr3 => ∃ k3 : Nat, k3 ≤ i ∧ j = .int .i64 k3 ∧ Hid (∀ q, q < k3 → clash ⟨alo, ahi, ais, apr⟩ (rgAt l q) = false) ∧ Hid (wr3.heap[wr2.heap.size]? = some (.cells #[.string alo, .string ahi, .string ais, .string apr] 26) ∧ Below w.heap.size w wr3)) (fun j _ => i - (intOf j).toNat)
            case atStart => exact ⟨0, Nat.zero_le _, rfl, Lib.hid (fun j h => by omega), HST⟩
            case round =>
              clear HST
              obtain ⟨k, hk, rfl, HCL, HS⟩ := hrel
              obtain ⟨wr3, hw3⟩ : ∃ wr3, wr3 = wr := ⟨_, rfl⟩
              subst hw3
              generalize wr2.heap.size = bp at *
              by_cases hki : k < i
              · obtain ⟨d0, d1, d2, d3⟩ := HCELL.out k (by omega)
                have c0 := cell_later HS.out.2 d0
                have c1 := cell_later HS.out.2 d1
                have c2 := cell_later HS.out.2 d2
                have c3 := cell_later HS.out.2 d3
                have hrk := HOK.out k (by omega)
                have z0 := cell_c HS.out.1 0
                have z1 := cell_c HS.out.1 1
                have z2 := cell_c HS.out.1 2
                have z3 := cell_c HS.out.1 3
                have hbl : b < wr3.heap.size := World.block_lt_of_cell? wr3 _ c0
                have hbp : bp < wr3.heap.size := (Array.getElem?_eq_some_iff.1 HS.out.1).1
                have kI : (k : Int) < (i : Int) := by omega
                have k0 : (0 : Int) ≤ (k : Int) := by omega
                have HE := Lib.hid (fun hcl => HEX.out k hki hcl)
                have HN := Lib.hid (fun (hcl : clash ⟨alo, ahi, ais, apr⟩ (rgAt l k) = false) q (hq : q < k + 1) => show clash ⟨alo, ahi, ais, apr⟩ (rgAt l q) = false from by
                  rcases Nat.lt_or_ge q k with z | z
                  · exact HCL.out q z
                  · obtain rfl : q = k := by omega
                    exact hcl)
                clear d0 d1 d2 d3
                obtain ⟨CL, hCL⟩ : ∃ CL, clash ⟨alo, ahi, ais, apr⟩ (rgAt l k) = CL := ⟨_, rfl⟩
                rw [hCL] at HE HN
                generalize rgAt l k = rb at c0 c1 c2 c3 hrk hCL
                obtain ⟨blo, bhi, bis, bpr⟩ := rb
                obtain ⟨t1, t2, t3, t4⟩ := hrk
                simp only at c0 c1 c2 c3 t1 t2
                have HOV := Lib.hid (fun W => ovl_any ⟨alo, ahi, ais, apr⟩ ⟨blo, bhi, bis, bpr⟩ W HSA.out.1 HSA.out.2 t1 t2)
                unfold rgC at HOV
                unfold clash at hCL
                simp only at HOV hCL
                clear t1 t2 t3 t4
                have HST3 : Hid ((wr3.alloc (.cells #[.string blo, .string bhi, .string bis, .string bpr] 26)).heap[bp]? = some (.cells #[.string alo, .string ahi, .string ais, .string apr] 26) ∧ Below w.heap.size w (wr3.alloc (.cells #[.string blo, .string bhi, .string bis, .string bpr] 26))) := Lib.hid ⟨blk_later HS.out.1 (alloc_lt _ _), HS.out.2.trans ((alloc_lt _ _).mono HS.out.2.size)⟩
                by_cases hsz : alo.size = blo.size
                · have hszI : (alo.size : Int) = (blo.size : Int) := by omega
                  rw [decide_eq_true hsz, Bool.true_and] at hCL
                  rw [hCL] at HOV
                  cases CL
                  · have HN2 := Lib.hid (HN.out rfl)
                    clear hCL hsz HN HE
                    go_wp2_with fail
                    refine (HOV.out _).mono ?_
                    rintro e w5 ⟨rfl, hb⟩
                    have HS5 := Lib.hid (And.intro (blk_later HST3.out.1 hb) (HST3.out.2.trans (hb.mono HST3.out.2.size)))
                    clear hb
                    go_wp2_with fail
                    go_roundw
                    case rel => exact ⟨k + 1, by omega, by go_num, HN2, HS5⟩
                    case measure => simp [intOf]; omega
                  · have HX := Lib.hid (HE.out rfl)
                    clear hCL hsz HN HE
                    go_wp2_with fail
                    refine (HOV.out _).mono ?_
                    rintro e w5 ⟨rfl, hb⟩
                    have HS5 := Lib.hid (HST3.out.2.trans (hb.mono HST3.out.2.size))
                    clear hb
                    go_wp2_with fail
                    go_ret2
                    exact ⟨by rw [HX.out]; rfl, HS5.out⟩
                · have hszI : ¬ (alo.size : Int) = (blo.size : Int) := by omega
                  rw [decide_eq_false hsz, Bool.false_and] at hCL
                  have HN2 := Lib.hid (HN.out hCL.symm)
                  clear hCL hsz HN HE
                  go_wp2_with fail
                  go_roundw
                  case rel => exact ⟨k + 1, by omega, by go_num, HN2, HST3⟩
                  case measure => simp [intOf]; omega
              · obtain rfl : k = i := by omega
                have HO2 := Lib.hid (HNX.out HCL.out)
                clear hki
                go_wp2_with fail
                go_roundw
                case rel => exact ⟨k + 1, by omega, by go_num, HO2, Lib.hid HS.out.2⟩
                case measure => simp [intOf]; omega
          · obtain rfl : i = l.length := by omega
            have HX := Lib.hid (exR_ok HLO.out HGOOD.out HO.out)
            clear hilt hi
            go_wp2_with fail
            go_ret2
            exact ⟨by rw [HX.out]; rfl, HB.out⟩
end Go.Proofs.YtiegoffdbhmfbaaGreatDoor
