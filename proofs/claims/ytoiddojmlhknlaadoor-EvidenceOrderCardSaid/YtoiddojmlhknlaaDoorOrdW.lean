/- The walk of EvidenceOrder. -/
import Derived.Test.YtoiddojmlhknlaaDoorOrd
namespace Go.Proofs.YtoiddojmlhknlaaDoor
set_option linter.unusedVariables false
open Go.RowKit Go.Maps

theorem FolderW.mono {w : World} {B B' bf : Nat} {ob : Option Nat} {l : List Itm} (h : FolderW w B bf ob l) (hB : B' ≤ B) : FolderW w B' bf ob l := by
  obtain ⟨v, h0, hv, h1, h2, h3⟩ := h
  refine ⟨v, by omega, hv, h1, h2, ?_⟩
  rcases h3 with h3 | ⟨g, cap, cur, a, b, r⟩
  · exact .inl h3
  · exact .inr ⟨g, cap, cur, a, by omega, r⟩
/-- Two folders, in memory of their own. -/
def S2 (w : World) (B ba bb : Nat) (oa ob : Option Nat) (la lb : List Itm) : Prop := FolderW w B ba oa la ∧ FolderW w B bb ob lb ∧ ba ≠ bb ∧ ∀ g, oa = some g → ob ≠ some g
theorem S2.below {w w' : World} {B ba bb : Nat} {oa ob : Option Nat} {la lb : List Itm} (h : S2 w B ba bb oa ob la lb) (hb : Below w.heap.size w w') : S2 w' B ba bb oa ob la lb :=
  ⟨h.1.below hb, h.2.1.below hb, h.2.2⟩
theorem S2.le {w : World} {B ba bb : Nat} {oa ob : Option Nat} {la lb : List Itm} (h : S2 w B ba bb oa ob la lb) : B ≤ w.heap.size := Nat.le_trans h.1.ge.1 (Nat.le_of_lt h.1.lt)
theorem S2.apart {w : World} {B ba bb : Nat} {oa ob : Option Nat} {la lb : List Itm} (h : S2 w B ba bb oa ob la lb) : oa ≠ some bb ∧ ob ≠ some ba := by
  obtain ⟨⟨v, _, rfl, h1, h2⟩, ⟨v', _, rfl, h1', h2'⟩, _⟩ := h
  exact ⟨own_blk_ne h2 h1' (by decide), own_blk_ne h2' h1 (by decide)⟩
theorem S2.swap {w : World} {B ba bb : Nat} {oa ob : Option Nat} {la lb : List Itm} (h : S2 w B ba bb oa ob la lb) : S2 w B bb ba ob oa lb la :=
  ⟨h.2.1, h.1, fun e => h.2.2.1 e.symm, fun g h1 h2 => h.2.2.2 g h2 h1⟩
theorem S2.add1 {w w' : World} {B ba bb : Nat} {oa ob : Option Nat} {la lb : List Itm} {x : Itm} {e : Ending} (h : S2 w B ba bb oa ob la lb) (hp : AddPost B ba oa la x w e w') :
    ∃ oa', S2 w' B ba bb oa' ob (addL la x) lb ∧ Below B w w' := by
  obtain ⟨n2, n3⟩ := h.apart
  have hle := h.le
  obtain ⟨hf, hg, n1, hd⟩ := h
  obtain ⟨_, hO, oa', hf', hor⟩ := hp
  refine ⟨oa', ⟨hf', hg.only hO ?_ ?_, n1, ?_⟩, hO.below B hle ?_⟩
  · rintro (c | c)
    · exact n1 c.symm
    · exact n2 c
  · rintro g hgo (c | c)
    · exact n3 (by rw [hgo, c])
    · exact hd g c hgo
  · intro g hg1 hg2
    rcases hor with c | ⟨g', c, hle'⟩
    · exact hd g (by rw [← c]; exact hg1) hg2
    · rw [c] at hg1; injection hg1 with hg1
      have := (hg.ge.2 g hg2).2.1
      omega
  · rintro k hk (c | c)
    · have := hf.ge.1; omega
    · have := (hf.ge.2 k c).1; omega
theorem S2.add2 {w w' : World} {B ba bb : Nat} {oa ob : Option Nat} {la lb : List Itm} {x : Itm} {e : Ending} (h : S2 w B ba bb oa ob la lb) (hp : AddPost B bb ob lb x w e w') :
    ∃ ob', S2 w' B ba bb oa ob' la (addL lb x) ∧ Below B w w' := by
  obtain ⟨o, h1, h2⟩ := h.swap.add1 hp
  exact ⟨o, h1.swap, h2⟩
def ORel (w wr : World) (ba bb : Nat) (l : List Itm) (k : Nat) : Prop := (∃ oa ob, S2 wr w.heap.size ba bb oa ob (addAll (l.take k)) (addAll (l.reverse.take k))) ∧ Below w.heap.size w wr
set_option maxRecDepth 100000 in
set_option maxHeartbeats 6400000 in
theorem order_go (w : World) (ht : TabW w) (A : Option Addr) (c : Nat) (l : List Itm) (hr : IsRow w A (cellsOf l)) (hs : ∀ x ∈ l, okI x) (hl : l.length ≤ 16)
    (A2 : Option Addr) (c2 : Nat) (needs : List ByteArray) (hr2 : IsRow w A2 (strsOf needs)) (hs2 : ∀ x ∈ needs, x.size ≤ maxLen) (hn : needs.length ≤ maxLen) (h1 : fewB l = true) (h2 : shortB needs = true) :
    Calls Tryd.prog 4 #[.slice A l.length c, .slice A2 needs.length c2] w fun e w' => e = .returned (.bool true) ∧ Below w.heap.size w w' := by
  have hfew := Lib.hid (few_any A c l w hr (by unfold maxLen; omega) (fun x hx => by have := (hs x hx).1; unfold maxLen; omega))
  have hsh := Lib.hid (shorts_any A2 c2 needs w hr2 hn hs2)
  have HR := Lib.hid hr
  have HR2 := Lib.hid hr2
  have HS := Lib.hid hs
  have HS2 := Lib.hid hs2
  have HT := Lib.hid ht
  have hn40 := (of_decide_eq_true h2).1
  have H1 := Lib.hid h1
  have H2 := Lib.hid h2
  clear hr hr2 hs hs2 h1 h2 ht
  unfold maxLen at hn
  go_enter Tryd.func4, Tryd.ntmps4
  go_wp2_with fail
  refine hfew.out.mono ?_
  rintro e w' ⟨rfl, rfl⟩
  rw [H1.out]
  go_wp2_with fail
  refine hsh.out.mono ?_
  rintro e w' ⟨rfl, rfl⟩
  rw [H2.out]
  go_wp2_with fail
  refine (new_any _).mono ?_
  rintro e w1 ⟨rfl, hf1, hb1⟩
  have HF1 := Lib.hid hf1
  have HB1 := Lib.hid hb1
  clear hf1 hb1
  go_wp2_with fail
  refine (new_any _).mono ?_
  rintro e w2 ⟨rfl, hf2, hb2⟩
  have HC0 : Hid (ORel w w2 w.heap.size w1.heap.size l 0) := Lib.hid ⟨⟨none, none, by
    refine ⟨?_, ?_, ?_, fun g hg => by cases hg⟩
    · simpa [addAll] using HF1.out.below hb2
    · simpa [addAll] using hf2.mono HB1.out.size
    · have := HF1.out.lt; omega⟩, HB1.out.trans (hb2.mono HB1.out.size)⟩
  have HFA := Lib.hid (HF1.out.below hb2)
  have HB2 := Lib.hid HC0.out.2
  clear hf2 hb2
  generalize w1.heap.size = bb at *
  go_wp2_with fail
  refine (missing_any w.heap.size w.heap.size none [] needs A2 c2 w2 HFA.out (by simp) (by simp) (HR2.out.below HB2.out) (by omega) HS2.out).mono ?_
  rintro e w3 ⟨A3, c3, rfl, hr3, hc3, hb3⟩
  have HC1 : Hid (ORel w w3 w.heap.size bb l 0) := Lib.hid (by
    obtain ⟨⟨oa, ob, hst⟩, hb⟩ := HC0.out
    exact ⟨⟨oa, ob, hst.below hb3⟩, hb.trans (hb3.mono hb.size)⟩)
  have HM0 : Hid (missL (ksOf []) needs = missL (ksOf (addAll (l.take 0))) needs) := Lib.hid (by simp [addAll])
  rw [HM0.out]
  clear hr3 hb3 HFA HC0
  go_wp2_with fail
  go_loopw [7, 8] (fun t i wr => ∃ k : Nat, k ≤ l.length ∧ i = .int .i64 k ∧ t = .int .i64 ((missL (ksOf (addAll (l.take k))) needs).length : Nat) ∧ ORel w wr w.heap.size bb l k) (fun _ i _ => l.length - (intOf i).toNat)
  case atStart => exact ⟨0, Nat.zero_le _, rfl, rfl, HC1.out⟩
  case round =>
    obtain ⟨k, hk, rfl, rfl, ⟨oa, ob, hst⟩, hb⟩ := hrel
    by_cases hlt : k < l.length
    · rcases HR.out with h0 | ⟨b, off, ha, hc⟩
      · rw [cellsOf_length] at h0; omega
      subst ha
      have hlt2 : l.length - 1 - k < l.length := by omega
      obtain ⟨d0, d1, d2⟩ := row_item hc k hlt
      obtain ⟨f0, f1, f2⟩ := row_item hc (l.length - 1 - k) hlt2
      have hbl : b < w.heap.size := World.block_lt_of_cell? w ⟨b, off + k * 3, none⟩ d0
      have HBk := Lib.hid hb
      have HST := Lib.hid hst
      have e0 : wr.cell? ⟨b, off + k * 3, none⟩ = some (.string l[k].k) := (hb.cell (p := ⟨b, off + k * 3, none⟩) hbl).trans d0
      have e1 : wr.cell? ⟨b, off + k * 3 + 1, none⟩ = some (.int .i64 l[k].n) := (hb.cell (p := ⟨b, off + k * 3 + 1, none⟩) hbl).trans d1
      have e2 : wr.cell? ⟨b, off + k * 3 + 2, none⟩ = some (.int .u64 l[k].h) := (hb.cell (p := ⟨b, off + k * 3 + 2, none⟩) hbl).trans d2
      have HF0 := Lib.hid f0
      have HF1' := Lib.hid f1
      have HF2' := Lib.hid f2
      have hxo := Lib.hid (HS.out l[k] (List.getElem_mem hlt))
      have hyo := Lib.hid (HS.out l[l.length - 1 - k] (List.getElem_mem hlt2))
      have hinv := (addAll_inv (l.take k)).1
      have hinv2 := (addAll_inv (l.reverse.take k)).1
      have htk := Lib.hid (show addAll (l.take (k + 1)) = addL (addAll (l.take k)) l[k] by rw [items_take l k hlt, addAll_snoc])
      have hrv := Lib.hid (rev_take l k hlt)
      have hmono := miss_addL (addAll (l.take k)) l[k] needs
      have hml := missL_len (ksOf (addAll (l.take k))) needs
      have hml2 := missL_len (ksOf (addL (addAll (l.take k)) l[k])) needs
      have hlen2 : (addL (addAll (l.take k)) l[k]).length ≤ 16 := addL_len _ _ hinv
      have HKS2 : Hid (∀ y ∈ addL (addAll (l.take k)) l[k], y.k.size ≤ maxLen) := Lib.hid (fun y hy => by
        rw [← htk.out] at hy
        have := (HS.out y (List.mem_of_mem_take ((addAll_inv (l.take (k + 1))).2 y hy))).1
        unfold maxLen; omega)
      have hidx : (l.length : Int) - 1 - (k : Int) = ((l.length - 1 - k : Nat) : Int) := by omega
      clear hc hst hb HC1 d0 d1 d2 f0 f1 f2
      generalize l[l.length - 1 - k] = y at *
      generalize l[k] = x at *
      generalize addAll (l.reverse.take k) = LB at *
      generalize addAll (l.take k) = L at *
      have HXK := Lib.hid (show x.k.size ≤ maxLen by have := hxo.out.1; unfold maxLen; omega)
      have HYK := Lib.hid (show y.k.size ≤ maxLen by have := hyo.out.1; unfold maxLen; omega)
      have hadd := Lib.hid (add_any w.heap.size w.heap.size oa L x wr HST.out.1 HST.out.le HXK.out hinv)
      have hadd2 := Lib.hid (fun W oa' (h : S2 W w.heap.size w.heap.size bb oa' ob (addL L x) LB) => add_any w.heap.size bb ob LB y W h.2.1 h.le HYK.out hinv2)
      unfold Itm.val at hadd hadd2
      go_wp2_with fail
      refine hadd.out.mono ?_
      rintro e w4 hp
      obtain ⟨oa', hstA, hbb⟩ := HST.out.add1 hp
      have HSTA := Lib.hid hstA
      have HB4 := Lib.hid (HBk.out.trans hbb)
      obtain ⟨rfl, _⟩ := hp
      have i0 : w4.cell? ⟨b, off + (l.length - 1 - k) * 3, none⟩ = some (.string y.k) := (HB4.out.cell (p := ⟨b, off + (l.length - 1 - k) * 3, none⟩) hbl).trans HF0.out
      have i1 : w4.cell? ⟨b, off + (l.length - 1 - k) * 3 + 1, none⟩ = some (.int .i64 y.n) := (HB4.out.cell (p := ⟨b, off + (l.length - 1 - k) * 3 + 1, none⟩) hbl).trans HF1'.out
      have i2 : w4.cell? ⟨b, off + (l.length - 1 - k) * 3 + 2, none⟩ = some (.int .u64 y.h) := (HB4.out.cell (p := ⟨b, off + (l.length - 1 - k) * 3 + 2, none⟩) hbl).trans HF2'.out
      clear hstA hbb e0 e1 e2
      go_wp2_with fail
      refine (hadd2.out _ oa' HSTA.out).mono ?_
      rintro e w5 hp
      obtain ⟨ob', hstB, hbb⟩ := HSTA.out.add2 hp
      have HSTB := Lib.hid hstB
      have HB5 := Lib.hid (HB4.out.trans hbb)
      obtain ⟨rfl, _⟩ := hp
      clear hstB hbb i0 i1 i2
      go_wp2_with fail
      refine (missing_any w.heap.size w.heap.size oa' (addL L x) needs A2 c2 w5 HSTB.out.1 (by omega) HKS2.out (HR2.out.below HB5.out) (by omega) HS2.out).mono ?_
      rintro e w6 ⟨A6, c6, rfl, hr6, hc6, hb6⟩
      have HFIN : Hid (ORel w w6 w.heap.size bb l (k + 1)) := Lib.hid ⟨⟨oa', ob', by rw [htk.out, hrv.out]; exact HSTB.out.below hb6⟩, HB5.out.trans (hb6.mono HB5.out.size)⟩
      clear hr6 hb6
      generalize hn2 : (missL (ksOf (addL L x)) needs).length = n2 at *
      have HN2 := Lib.hid hn2
      clear hn2
      generalize (missL (ksOf L) needs).length = n1 at *
      go_wp2_with fail
      go_roundw
      case rel => exact ⟨k + 1, by omega, by go_num, by rw [htk.out, HN2.out], HFIN.out⟩
      case measure => simp [intOf]; omega
    · obtain rfl : k = l.length := by omega
      have hrl : l.reverse.take l.length = l.reverse := List.take_of_length_le (by simp)
      rw [List.take_length, hrl] at hst
      rw [List.take_length]
      have HB := Lib.hid hb
      have HST := Lib.hid hst
      have hperm := addAll_rev l hl
      have HD := Lib.hid (dig_perm _ _ hperm)
      have HLN := Lib.hid hperm.length_eq
      have hla := (addAll_inv l).1
      have hlb := (addAll_inv l.reverse).1
      have HOKA : Hid (∀ x ∈ addAll l, okI x) := Lib.hid (fun x hx => HS.out x ((addAll_inv l).2 x hx))
      have HOKB : Hid (∀ x ∈ addAll l.reverse, okI x) := Lib.hid (fun x hx => HS.out x (by have := (addAll_inv l.reverse).2 x hx; simpa using this))
      clear hst hb HC1 hrl hperm
      generalize (missL (ksOf (addAll l)) needs).length = n1 at *
      generalize addAll l.reverse = LB at *
      generalize addAll l = LA at *
      go_wp2_with fail
      refine (digest_any w.heap.size w.heap.size oa LA _ HST.out.1 (by omega) HOKA.out (HT.out.below HB.out)).mono ?_
      rintro e w4 ⟨rfl, hb4⟩
      have HS4 := Lib.hid (HST.out.below hb4)
      have HB4 := Lib.hid (HB.out.trans (hb4.mono HB.out.size))
      clear hb4
      go_wp2_with fail
      refine (digest_any w.heap.size bb ob LB _ HS4.out.2.1 (by omega) HOKB.out (HT.out.below HB4.out)).mono ?_
      rintro e w5 ⟨rfl, hb5⟩
      have HS5 := Lib.hid (HS4.out.below hb5)
      have HB5 := Lib.hid (HB4.out.trans (hb5.mono HB4.out.size))
      clear hb5
      rw [HD.out]
      generalize digOf LB = dg at *
      go_wp2_with fail
      refine (items_any w.heap.size w.heap.size oa LA _ HS5.out.1 (by omega)).mono ?_
      rintro e w6 ⟨A6, c6, rfl, hr6, hc6, hb6⟩
      have HS6 := Lib.hid (HS5.out.below hb6)
      have HB6 := Lib.hid (HB5.out.trans (hb6.mono HB5.out.size))
      clear hr6 hb6
      rw [HLN.out]
      go_wp2_with fail
      refine (items_any w.heap.size bb ob LB _ HS6.out.2.1 (by omega)).mono ?_
      rintro e w7 ⟨A7, c7, rfl, hr7, hc7, hb7⟩
      have HB7 := Lib.hid (HB6.out.trans (hb7.mono HB6.out.size))
      clear hr7 hb7
      go_wp2_with fail
      refine (new_any _).mono ?_
      rintro e w8 ⟨rfl, hf8, hb8⟩
      have HF8 := Lib.hid hf8
      have HB8 := Lib.hid (HB7.out.trans (hb8.mono HB7.out.size))
      clear hf8 hb8
      go_wp2_with fail
      refine (digest_any _ _ none [] _ HF8.out (by simp) (by simp) (HT.out.below HB8.out)).mono ?_
      rintro e w9 ⟨rfl, hb9⟩
      have HB9 := Lib.hid (HB8.out.trans (hb9.mono HB8.out.size))
      have HZ : Hid (digOf [] = 0) := Lib.hid rfl
      rw [HZ.out]
      clear hb9
      go_wp2_with fail
      refine (awake_any _).mono ?_
      rintro e w10 ⟨rfl, hb10⟩
      have HB10 := Lib.hid (HB9.out.trans (hb10.mono HB9.out.size))
      clear hb10
      go_wp2_with fail
      go_ret
      exact ⟨rfl, HB10.out⟩
set_option maxHeartbeats 1600000 in
theorem evidenceOrder_walk (w : World) (ht : TabW w) (_h : True) (A : Option Addr) (c : Nat) (l : List Itm)
    (h : IsRow w A (cellsOf l) ∧ (∀ x ∈ l, x.k.size ≤ maxLen ∧ (Lit.int .i64 x.n).wf = true ∧ (Lit.int .u64 x.h).wf = true) ∧ l.length ≤ c ∧ (A = none → c = 0) ∧ c ≤ maxLen)
    (A2 : Option Addr) (c2 : Nat) (needs : List ByteArray) (h' : IsRow w A2 (strsOf needs) ∧ (∀ s ∈ needs, s.size ≤ maxLen) ∧ needs.length ≤ c2 ∧ (A2 = none → c2 = 0) ∧ c2 ≤ maxLen) :
    Calls Tryd.prog 4 #[.slice A l.length c, .slice A2 needs.length c2] w fun e w' => e = .returned (.bool true) ∧ Below w.heap.size w w' := by
  obtain ⟨hr, hs0, hlc, _, hcm⟩ := h
  obtain ⟨hr2, hs2, hlc2, _, hcm2⟩ := h'
  have hs : ∀ x ∈ l, x.k.size ≤ maxLen := fun x hx => (hs0 x hx).1
  have hl : l.length ≤ maxLen := Nat.le_trans hlc hcm
  have hn : needs.length ≤ maxLen := Nat.le_trans hlc2 hcm2
  by_cases h16 : l.length ≤ 16
  case neg =>
    clear hr hr2 hs0 hs hs2 ht
    unfold maxLen at *
    go_enter Tryd.func4, Tryd.ntmps4
    go_wp2_with fail
    refine (awake_any _).mono ?_
    rintro e w1 ⟨rfl, hb⟩
    go_wp2_with fail
    go_ret
    exact ⟨rfl, hb⟩
  cases h1 : fewB l
  · have hfew := Lib.hid (few_any A c l w hr hl hs)
    have H1 := Lib.hid h1
    clear h1 hr hr2 hs0 hs hs2 ht
    unfold maxLen at *
    go_enter Tryd.func4, Tryd.ntmps4
    go_wp2_with fail
    refine hfew.out.mono ?_
    rintro e w' ⟨rfl, rfl⟩
    rw [H1.out]
    go_wp2_with fail
    refine (awake_any _).mono ?_
    rintro e w1 ⟨rfl, hb⟩
    go_wp2_with fail
    go_ret
    exact ⟨rfl, hb⟩
  · cases h2 : shortB needs
    · have hfew := Lib.hid (few_any A c l w hr hl hs)
      have hsh := Lib.hid (shorts_any A2 c2 needs w hr2 hn hs2)
      have H1 := Lib.hid h1
      have H2 := Lib.hid h2
      clear h1 h2 hr hr2 hs0 hs hs2 ht
      unfold maxLen at *
      go_enter Tryd.func4, Tryd.ntmps4
      go_wp2_with fail
      refine hfew.out.mono ?_
      rintro e w' ⟨rfl, rfl⟩
      rw [H1.out]
      go_wp2_with fail
      refine hsh.out.mono ?_
      rintro e w' ⟨rfl, rfl⟩
      rw [H2.out]
      go_wp2_with fail
      refine (awake_any _).mono ?_
      rintro e w1 ⟨rfl, hb⟩
      go_wp2_with fail
      go_ret
      exact ⟨rfl, hb⟩
    · have hok : ∀ x ∈ l, okI x := fun x hx => by
        have h100 := (of_decide_eq_true h1).2 x hx
        have hw1 := (hs0 x hx).2.1
        have hw2 := (hs0 x hx).2.2
        simp [Lit.wf] at hw1 hw2
        exact ⟨h100, hw1.1, hw1.2, hw2.1, by have h9 := hw2.2; have e9 : IntKind.u64.max = 18446744073709551615 := rfl; omega⟩
      exact order_go w ht A c l hr hok h16 A2 c2 needs hr2 hs2 hn h1 h2
end Go.Proofs.YtoiddojmlhknlaaDoor
