/- The walk of the reference's Split. -/
import Derived.Test.YtadehobimlpmcaaDoorSpt
import Derived.Test.YtadehobimlpmcaaDoorRmon
import Derived.Test.YtadehobimlpmcaaDoorRdiv
import Derived.Test.YtadehobimlpmcaaDoorBase
import Derived.Test.YtadehobimlpmcaaDoorApt
namespace Go.Proofs.YtadehobimlpmcaaDoor
set_option linter.unusedVariables false
open Go.RowKit

def cellsN (f : Nat → Nat) (k : Nat) : List Value := (List.range k).map fun i => .int .i64 (f i)
theorem cellsN_succ (f : Nat → Nat) (k : Nat) : cellsN f (k + 1) = cellsN f k ++ [.int .i64 (f k)] := by
  unfold cellsN; rw [List.range_succ, List.map_append]; rfl
theorem own_row {w : World} {base n : Nat} {v : Value} {f : Nat → Nat} (h : w.ownsRow base 2 1 v n (cellsN f n)) (hn : 0 < n) :
    ∃ g cap, v = .slice (some ⟨g, 0, none⟩) n cap ∧ base ≤ g ∧ n ≤ cap ∧ ∃ F, w.rowIs g 2 cap F ∧ ∀ i, i < n → F i = .int .i64 (f i : Int) := by
  rcases h.2 with ⟨_, h0⟩ | ⟨g, cap, cur, rfl, hb, hg, hnc, hcm, hcs, htake⟩
  · omega
  · refine ⟨g, cap, rfl, hb, hnc, fun i => (cur[i]?).getD (.int .i64 0), ⟨cur, hg, by omega, fun i hi => ?_⟩, fun i hi => ?_⟩
    · show cur[i]? = some ((cur[i]?).getD (.int .i64 0))
      rw [Array.getElem?_eq_getElem (by omega)]; rfl
    · have h1 : (cellsN f n)[i]? = some (.int .i64 (f i : Int)) := by
        unfold cellsN
        rw [List.getElem?_map, List.getElem?_range hi]; rfl
      rw [← htake, List.getElem?_take, if_pos (by omega), Array.getElem?_toList] at h1
      show (cur[i]?).getD (.int .i64 0) = _
      rw [h1]; rfl
def qB (q r : Nat → Nat) (n t i : Nat) : Int := (q i : Int) + (if rk n r i < t then 1 else 0)
def rB (r : Nat → Nat) (n t i : Nat) : Int := if rk n r i < t then -1 else (r i : Int)
structure RB (w : World) (gp gr cp cr n t : Nat) (q r : Nat → Nat) : Prop where
  p : ∃ F, w.rowIs gp 2 cp F ∧ ∀ i, i < n → F i = .int .i64 (qB q r n t i)
  r : ∃ F, w.rowIs gr 2 cr F ∧ ∀ i, i < n → F i = .int .i64 (rB r n t i)
theorem RB.cellp {w : World} {gp gr cp cr n t : Nat} {q r : Nat → Nat} (h : RB w gp gr cp cr n t q r) (hc : n ≤ cp) {i : Nat} (hi : i < n) : w.cell? ⟨gp, i, none⟩ = some (.int .i64 (qB q r n t i)) := by
  obtain ⟨F, h1, h2⟩ := h.p
  rw [h1.cell (by omega), h2 i hi]
theorem RB.cellr {w : World} {gp gr cp cr n t : Nat} {q r : Nat → Nat} (h : RB w gp gr cp cr n t q r) (hc : n ≤ cr) {i : Nat} (hi : i < n) : w.cell? ⟨gr, i, none⟩ = some (.int .i64 (rB r n t i)) := by
  obtain ⟨F, h1, h2⟩ := h.r
  rw [h1.cell (by omega), h2 i hi]
theorem RB.frozp {w : World} {gp gr cp cr n t : Nat} {q r : Nat → Nat} (h : RB w gp gr cp cr n t q r) (i : Nat) : w.frozen? ⟨gp, i, none⟩ = false := by
  obtain ⟨F, h1, h2⟩ := h.p
  exact h1.frozen i
theorem RB.frozr {w : World} {gp gr cp cr n t : Nat} {q r : Nat → Nat} (h : RB w gp gr cp cr n t q r) (i : Nat) : w.frozen? ⟨gr, i, none⟩ = false := by
  obtain ⟨F, h1, h2⟩ := h.r
  exact h1.frozen i
theorem RB.next {w : World} {gp gr cp cr n t b : Nat} {q r : Nat → Nat} (h : RB w gp gr cp cr n t q r) (hne : gp ≠ gr) (hb : b < n) (hrk : rk n r b = t) :
    RB ((w.setCell ⟨gp, b, none⟩ (.int .i64 (qB q r n t b + 1))).setCell ⟨gr, b, none⟩ (.int .i64 (-1))) gp gr cp cr n (t + 1) q r := by
  have hoth : ∀ i, i < n → i ≠ b → (rk n r i < t + 1 ↔ rk n r i < t) := fun i hi hib => by
    have : rk n r i ≠ t := fun e => hib (rk_inj r hi hb (e.trans hrk.symm))
    omega
  constructor
  · obtain ⟨F, h1, h2⟩ := h.p
    refine ⟨_, (h1.set b _).setOther hne _, fun i hi => ?_⟩
    by_cases e : i = b
    · subst e
      show (if i = i then _ else _) = _
      rw [if_pos rfl]
      unfold qB
      rw [if_neg (by omega), if_pos (by omega)]; rfl
    · show (if i = b then _ else F i) = _
      rw [if_neg e, h2 i hi]
      unfold qB
      simp only [hoth i hi e]
  · obtain ⟨F, h1, h2⟩ := h.r
    refine ⟨_, (h1.setOther hne.symm _).set b _, fun i hi => ?_⟩
    by_cases e : i = b
    · subst e
      show (if i = i then _ else _) = _
      rw [if_pos rfl]
      unfold rB
      rw [if_pos (by omega)]
    · show (if i = b then _ else F i) = _
      rw [if_neg e, h2 i hi]
      unfold rB
      simp only [hoth i hi e]
def cellsM (f : Nat → Int) (cur : ByteArray) : Nat → List Value
  | 0 => []
  | k + 1 => cellsM f cur k ++ [.int .i64 (f k), .string cur]
theorem cellsM_len (f : Nat → Int) (cur : ByteArray) : ∀ n, (cellsM f cur n).length = n * 2
  | 0 => rfl
  | n + 1 => by rw [cellsM, List.length_append, cellsM_len f cur n]; simp only [List.length_cons, List.length_nil]; omega
theorem cellsM_at (f : Nat → Int) (cur : ByteArray) : ∀ n k, k < n → (cellsM f cur n)[k * 2]? = some (.int .i64 (f k)) ∧ (cellsM f cur n)[k * 2 + 1]? = some (.string cur)
  | 0, k, h => by omega
  | n + 1, k, h => by
    have hl := cellsM_len f cur n
    rw [cellsM]
    rcases Nat.lt_or_ge k n with q | q
    · rw [List.getElem?_append_left (by omega), List.getElem?_append_left (by omega)]
      exact cellsM_at f cur n k q
    · obtain rfl : k = n := by omega
      rw [List.getElem?_append_right (by omega), List.getElem?_append_right (by omega), hl, Nat.sub_self, Nat.add_sub_cancel_left]
      exact ⟨rfl, rfl⟩
theorem own_out {w : World} {base n : Nat} {v : Value} {f : Nat → Int} {cur : ByteArray} (h : w.ownsRow base 23 2 v n (cellsM f cur n)) (hn : 0 < n) :
    ∃ g cap, v = .slice (some ⟨g, 0, none⟩) n cap ∧ base ≤ g ∧ ∀ k, k < n → w.cell? ⟨g, k * 2, none⟩ = some (.int .i64 (f k)) ∧ w.cell? ⟨g, k * 2 + 1, none⟩ = some (.string cur) := by
  rcases h.2 with ⟨_, h0⟩ | ⟨g, cap, cur', rfl, hb, hg, hnc, hcm, hcs, htake⟩
  · omega
  · refine ⟨g, cap, rfl, hb, fun k hk => ?_⟩
    rw [h.cellAt (k * 2) (by omega), h.cellAt (k * 2 + 1) (by omega)]
    exact cellsM_at f cur n k hk
theorem RB.below {w w' : World} {gp gr cp cr n t : Nat} {q r : Nat → Nat} (h : RB w gp gr cp cr n t q r) (hb : Below w.heap.size w w') : RB w' gp gr cp cr n t q r := by
  obtain ⟨F, h1, h2⟩ := h.p
  obtain ⟨G, g1, g2⟩ := h.r
  exact ⟨⟨F, h1.of_block (hb.block _ h1.lt), h2⟩, ⟨G, g1.of_block (hb.block _ g1.lt), g2⟩⟩
def RspPost (n : Nat) (cur : ByteArray) (f : Nat → Int) (w : World) (e : Ending) (w' : World) : Prop :=
  ∃ L cp, e = .returned (.tuple #[.slice (some ⟨L, 0, none⟩) n cp, .int .i64 0]) ∧ (∀ k, k < n → w'.cell? ⟨L, k * 2, none⟩ = some (.int .i64 (f k)) ∧ w'.cell? ⟨L, k * 2 + 1, none⟩ = some (.string cur)) ∧ w.heap.size ≤ L ∧ Below w.heap.size w w'
set_option maxRecDepth 100000 in
set_option maxHeartbeats 12800000 in
theorem rsplit_ok (a : Int) (cur : ByteArray) (A : Option Addr) (c : Nat) (ws : List Int) (w : World) (hr : IsRow w A (cellsI ws)) (hs : cur.size ≤ maxLen) (hm : monE a cur = 0) (hok : allW ws = true) (hpos : 0 < totW ws ws.length) :
    Calls Tryd.prog 14 #[.agg #[.int .i64 a, .string cur], .slice A ws.length c] w (RspPost ws.length cur (amtF a a.natAbs (totW ws ws.length) (natsOf ws)) w) := by
  have h64 : ws.length ≤ 64 := by unfold allW at hok; simp at hok; exact hok.1
  have hall : ∀ k, k < ws.length → okW (ws.getD k 0) = true := fun k hk => by
    cases h : okW (ws.getD k 0)
    · rw [allW_no k hk h] at hok; cases hok
    · rfl
  have hS1 : sumV1 ws = totW ws ws.length := by unfold sumV1; rw [if_pos hok]
  have ha : -4503599627370496 ≤ a ∧ a ≤ 4503599627370496 := by
    unfold monE inT at hm
    split at hm
    · split at hm
      · rename_i h; simp at h; exact h
      · omega
    · omega
  have hSb := totW_bd ws.length hall
  have hn0 : 0 < ws.length := by
    rcases Nat.eq_zero_or_pos ws.length with h | h
    · rw [h] at hpos; exact absurd hpos (by show ¬ 0 < 0; omega)
    · exact h
  have HM := Lib.hid (fun W => rmon_any a cur W hs)
  have HSW := Lib.hid (fun W h => rwgt_any A c ws W h (by omega))
  have HR := Lib.hid hr
  obtain ⟨S, hS⟩ : ∃ S, totW ws ws.length = S := ⟨_, rfl⟩
  obtain ⟨W, hW⟩ : ∃ W, a.natAbs = W := ⟨_, rfl⟩
  have hW52 : W ≤ 4503599627370496 := by omega
  have hmax : max a (-a) = (W : Int) := by omega
  rw [hm] at HM
  rw [hS1, hS] at HSW
  rw [hS, hW]
  rw [hS] at hSb hpos
  have hS0 := hpos
  have hnn : (natsOf ws).length = ws.length := by simp [natsOf]
  have hSn : S = sumTo (fun i => (natsOf ws).getD i 0) (natsOf ws).length := by rw [hnn]; exact hS.symm
  have hwk : ∀ k, k < ws.length → ((ws.getD k 0).toNat : Int) = ws.getD k 0 ∧ (ws.getD k 0).toNat ≤ S ∧ (ws.getD k 0).toNat ≤ 1099511627776 ∧ (natsOf ws).getD k 0 = (ws.getD k 0).toNat := fun k hk => by
    have h1 := (okW_iff _).1 (hall k hk)
    have h2 : (natsOf ws).getD k 0 ≤ S := by rw [hSn, hnn]; exact sumTo_le_at (f := fun i => (natsOf ws).getD i 0) hk
    rw [natsOf_at] at h2
    exact ⟨by omega, h2, by omega, natsOf_at ws k⟩
  have HWK := Lib.hid hwk
  have HRS := Lib.hid (rest_sum W S (natsOf ws) hSn hS0)
  have HLN := Lib.hid (left_le_n W S (natsOf ws) hSn hS0)
  obtain ⟨N, hN⟩ : ∃ N, natsOf ws = N := ⟨_, rfl⟩
  rw [hN] at HWK HRS HLN hnn ⊢
  have HNN := Lib.hid hnn
  obtain ⟨n, hn⟩ : ∃ n, ws.length = n := ⟨_, rfl⟩
  rw [hn] at h64 hSb HSW HWK HNN hn0 ⊢
  have hS46 : S ≤ 70368744177664 := by omega
  have hsb : ((S : Int) == 0) = false := by simp only [beq_eq_false_iff_ne]; omega
  have HLN' := Lib.hid hn
  have HA := Lib.hid ha
  obtain ⟨i0, hi, hz0, hz1, hz2⟩ := info_parts mk2
  obtain ⟨i1', ji, jz0, jz1, jz2⟩ := info_parts mk58
  clear hr hm hok hall hS1 ha hS hSn hwk hN hn hnn hs hSb
  go_enter Tryd.func14, Tryd.ntmps14
  go_wp2_with fail
  refine (HM.out _).mono ?_
  rintro e w1 ⟨rfl, hb⟩
  obtain ⟨bm, hbm⟩ : ∃ bm, w.heap.size = bm := ⟨_, rfl⟩
  have hmon0 : w1.rowIs bm 23 2 (fun i => if i = 0 then .int .i64 a else .string cur) := by
    have h0 := World.rowIs_alloc w #[.int .i64 a, .string cur] 23 (fun i => if i = 0 then .int .i64 a else .string cur) (fun i hi => by
      match i, hi with
      | 0, _ => rfl
      | 1, _ => rfl)
    rw [hbm] at h0
    exact h0.of_block (hb.block _ h0.lt)
  have hb1 := ((Below.refl w.heap.size w).alloc (Nat.le_refl _) (.cells #[.int .i64 a, .string cur] 23)).trans (hb.mono (by simp))
  have HB := Lib.hid hb1
  have hsz1 : bm < w1.heap.size := hmon0.lt
  have HMON := Lib.hid hmon0
  have hm0 := hmon0.cell (i := 0) (by omega)
  have hm1 := hmon0.cell (i := 1) (by omega)
  simp only [if_true] at hm0
  rw [if_neg (by omega)] at hm1
  rw [hbm]
  clear hb hb1 hmon0
  go_wp2_with fail
  refine (HSW.out _ (HR.out.below HB.out)).mono ?_
  rintro e w2 ⟨rfl, rfl⟩
  go_wp2_with fail
  have HW1 := Lib.hid (Below.refl w1.heap.size w1)
  clear hm0 hm1
  go_loopw [8, 9, 10, 11] (fun lv pv rv i wr => ∃ k : Nat, k ≤ n ∧ i = .int .i64 k ∧ lv = .int .i64 ((W - sumTo (qOf W S N) k : Nat) : Int) ∧ wr.ownsRow w1.heap.size 2 1 pv k (cellsN (qOf W S N) k) ∧ wr.ownsRow w1.heap.size 2 1 rv k (cellsN (rOf W S N) k) ∧ Apart pv rv ∧ Hid (Below w1.heap.size w1 wr)) (fun _ _ _ i _ => n - (intOf i).toNat)
  case atStart => exact ⟨0, Nat.zero_le _, rfl, rfl, World.ownsRow_nil _ _ _ _, World.ownsRow_nil _ _ _ _, (fun g h => by cases h), HW1⟩
  case round =>
    obtain ⟨k, hk, rfl, rfl, hop, hor, hap, hbl⟩ := hrel
    by_cases hlt : k < n
    · rcases HR.out.below (HB.out.trans (hbl.out.mono HB.out.size)) with h0 | ⟨b, off, rfl, hc⟩
      · rw [show (cellsI ws).length = ws.length by simp [cellsI], HLN'.out] at h0; omega
      have c0 := row_int hc k (by rw [HLN'.out]; exact hlt)
      obtain ⟨hx1, hx2, hx3, hx4⟩ := HWK.out k hlt
      obtain ⟨x, hx⟩ : ∃ x, (ws.getD k 0).toNat = x := ⟨_, rfl⟩
      rw [hx] at hx1 hx2 hx3 hx4
      rw [← hx1] at c0
      have hq : qOf W S N k = W * x / S := by unfold qOf; rw [hx4]
      have hr : rOf W S N k = W * x % S := by unfold rOf; rw [hx4]
      have hqs : sumTo (qOf W S N) (k + 1) = sumTo (qOf W S N) k + qOf W S N k := rfl
      have hqle : sumTo (qOf W S N) (k + 1) ≤ W := Nat.le_trans (sumTo_mono (by rw [HNN.out]; omega)) HRS.out.1
      have hqW : W * x / S ≤ W := by rw [← hq]; omega
      have hrS : W * x % S < S := Nat.mod_lt _ hS0
      have hDV : ∀ Wd : World, Calls Tryd.prog 34 #[.int .i64 (W : Int), .int .i64 (x : Int), .int .i64 (S : Int), .int .i64 4503599627370496] Wd fun e w' => e = .returned (.tuple #[.int .i64 (qOf W S N k : Int), .int .i64 (rOf W S N k : Int)]) ∧ Wd = w' := fun Wd => by
        have h := rdiv_any W x S 4503599627370496 Wd hW52 (by omega) hS0 hS46 (by omega)
        rw [Nat.min_eq_left (by omega), ← hq, ← hr] at h
        exact h
      have hcq := cellsN_succ (qOf W S N) k
      have hcr := cellsN_succ (rOf W S N) k
      obtain ⟨q, hqe⟩ : ∃ q, qOf W S N k = q := ⟨_, rfl⟩
      obtain ⟨r, hre⟩ : ∃ r, rOf W S N k = r := ⟨_, rfl⟩
      obtain ⟨s0, hs0⟩ : ∃ s0, sumTo (qOf W S N) k = s0 := ⟨_, rfl⟩
      rw [hqe, hs0] at hqs
      rw [hqe, hre] at hDV
      rw [hqe] at hcq
      rw [hre] at hcr
      rw [hs0]
      have hqb : q ≤ W := by omega
      have hrb : r < S := by omega
      have HDV := Lib.hid (fun Wd => (hDV Wd).mono (fun _ _ h => And.intro h.1 h.2.symm))
      have HQS := Lib.hid hqs
      have HCQ := Lib.hid hcq
      have HCR := Lib.hid hcr
      rw [hqs] at hqle
      have hmr := HMON.out.of_block (hbl.out.block _ hsz1)
      have hm0 := hmr.cell (i := 0) (by omega)
      simp only [if_true] at hm0
      have i1 : (k : Int) < (n : Int) := by omega
      have HSZ := Lib.hid hbl.out.size
      have ha1 := HA.out
      clear hc hx1 hx2 hx3 hx4 hx hq hr hqs hDV hcq hcr hqe hre hs0 hmr
      go_wp2_with fail
      go_quiet ((go_at_call 34; exact Calls.quiet_of_same (HDV.out _)))
      have hop3 : (wr.drewN nq).ownsRow w1.heap.size 2 1 u9 k (cellsN (qOf W S N) k) := hop
      have hor3 : (wr.drewN nq).ownsRow w1.heap.size 2 1 u10 k (cellsN (rOf W S N) k) := hor
      have HB3 := Lib.hid (dNb hbl.out nq)
      clear hop hor hbl hm0 HDV c0
      generalize wr.drewN nq = w3 at hop3 hor3 HB3 ⊢
      have HZ3 := Lib.hid HB3.out.size
      go_wp2_with (first | (at_builtin; refine wpList_append_two _ rfl (.tmp 55) (.tmp 57) _ rfl w1.heap.size 2 i0 _ 1 8 Tryd.underlying29 hi hz0 hz1 hz2 rfl (by decide) _ _ _ rfl (hop3.alloc _) _ _ _ (hor3.alloc _) hap ⟨w3.heap.size, 0, none⟩ 1 1 [.int .i64 q] rfl rfl (World.news_of_block (cs := #[.int .i64 q]) (t := 2) (fr := (0, 0)) (heap_alloc_new w3 _)) (by simp [Value.oneCell']) (by unfold maxLen; omega) (by omega) (by have := HZ3.out; simp; omega) (by omega) ?_; intro pv' w4 hop4 hor4 hap4 hg4; have HB4 := Lib.hid ((HB3.out.alloc HZ3.out _).grown hg4 (by have := HZ3.out; simp; omega) (fun j hj => (hop3.lt j hj).1)); have HZ4 := Lib.hid HB4.out.size) | (at_builtin; refine wpList_append_two _ rfl (.tmp 59) (.tmp 61) _ rfl w1.heap.size 2 i0 _ 1 8 Tryd.underlying29 hi hz0 hz1 hz2 rfl (by decide) _ _ _ rfl (hor4.alloc _) _ _ _ (hop4.alloc _) hap4.symm ⟨w4.heap.size, 0, none⟩ 1 1 [.int .i64 r] rfl rfl (World.news_of_block (cs := #[.int .i64 r]) (t := 2) (fr := (0, 0)) (heap_alloc_new w4 _)) (by simp [Value.oneCell']) (by unfold maxLen; omega) (by omega) (by have := HZ4.out; simp; omega) (by omega) ?_; intro rv' w5 hor5 hop5 hap5 hg5))
      have HB5 := Lib.hid ((HB4.out.alloc HZ4.out _).grown hg5 (by have := HZ4.out; simp; omega) (fun j hj => (hor4.lt j hj).1))
      go_roundw
      case rel => exact ⟨k + 1, by omega, by go_num, i64_eq (by rw [HQS.out]; omega), by rw [HCQ.out]; exact hop5, by rw [HCR.out]; exact hor5, hap5.symm, HB5⟩
      case measure => simp [intOf]; omega
    · obtain rfl : k = n := by omega
      have hleft : W - sumTo (qOf W S N) k = leftOf W S N := by unfold leftOf; rw [HNN.out]
      have hLn := HLN.out
      rw [HNN.out] at hLn
      rw [hleft]
      obtain ⟨gp, cp, rfl, hgp, hcp, Fp, hF1, hF2⟩ := own_row hop hn0
      obtain ⟨gr, cr, rfl, hgr, hcr, Fr, hG1, hG2⟩ := own_row hor hn0
      have hne : gp ≠ gr := fun e => hap gp rfl (by rw [e]; rfl)
      have HRB := Lib.hid (show RB wr gp gr cp cr k 0 (qOf W S N) (rOf W S N) from ⟨⟨Fp, hF1, fun i hi => by rw [hF2 i hi]; unfold qB; rw [if_neg (by omega)]; simp⟩, ⟨Fr, hG1, fun i hi => by rw [hG2 i hi]; unfold rB; rw [if_neg (by omega)]⟩⟩)
      have HPB := Lib.hid (show ∀ i, i < k → qOf W S N i ≤ 4503599627370496 ∧ rOf W S N i < S from fun i hi => ⟨by
        have h1 : qOf W S N i ≤ sumTo (qOf W S N) N.length := sumTo_le_at (by rw [HNN.out]; exact hi)
        have h2 := HRS.out.1
        omega, Nat.mod_lt _ hS0⟩)
      obtain ⟨L, hL⟩ : ∃ L, leftOf W S N = L := ⟨_, rfl⟩
      rw [hL] at hLn ⊢
      have HL := Lib.hid hL
      have HNE := Lib.hid hne
      clear hop hor hap hF1 hF2 hG1 hG2 hL hleft hne Fp Fr
      go_wp2_with fail
      go_loopw [8] (fun lv wt => ∃ t : Nat, t ≤ L ∧ lv = .int .i64 ((L : Int) - (t : Int)) ∧ Hid (RB wt gp gr cp cr k t (qOf W S N) (rOf W S N)) ∧ Hid (Below w1.heap.size w1 wt)) (fun lv _ => (intOf lv).toNat)
      case atStart => exact ⟨0, Nat.zero_le _, by simp, HRB, hbl⟩
      case round =>
        obtain ⟨t, ht, rfl, hrb, hbt⟩ := hrel
        by_cases htl : t < L
        · go_wp2_with fail
          go_loopw [14, 15] (fun bv iv ws2 => ∃ b i m : Nat, bv = .int .i64 b ∧ iv = .int .i64 i ∧ i ≤ k ∧ b < k ∧ (b < i ∨ b = 0) ∧ Hid ((∀ j, j < i → rB (rOf W S N) k t j ≤ rB (rOf W S N) k t b) ∧ (∀ j, j < b → rB (rOf W S N) k t j < rB (rOf W S N) k t b)) ∧ ws2 = wr.drewN m) (fun _ iv _ => k - (intOf iv).toNat)
          case atStart => exact ⟨0, 0, 0, rfl, rfl, Nat.zero_le _, hn0, by omega, Lib.hid ⟨fun j h => by omega, fun j h => by omega⟩, rfl⟩
          case round =>
            obtain ⟨b, i, m, rfl, rfl, hik, hbk, hbi, hbest, rfl⟩ := hrel
            by_cases hlt2 : i < k
            · have c0 := hrb.out.cellr hcr hlt2
              have c1 := hrb.out.cellr hcr hbk
              have i1 : (i : Int) < (k : Int) := by omega
              have i2 : (b : Int) < (k : Int) := by omega
              by_cases hgt : rB (rOf W S N) k t b < rB (rOf W S N) k t i
              · have HNB := Lib.hid (show (∀ j, j < i + 1 → rB (rOf W S N) k t j ≤ rB (rOf W S N) k t i) ∧ (∀ j, j < i → rB (rOf W S N) k t j < rB (rOf W S N) k t i) from ⟨fun j hj => by
                  rcases Nat.lt_or_ge j i with p | p
                  · have := hbest.out.1 j p; omega
                  · obtain rfl : j = i := by omega
                    exact Int.le_refl _, fun j hj => by have := hbest.out.1 j hj; omega⟩)
                obtain ⟨x, hx⟩ : ∃ x, rB (rOf W S N) k t i = x := ⟨_, rfl⟩
                obtain ⟨y, hy⟩ : ∃ y, rB (rOf W S N) k t b = y := ⟨_, rfl⟩
                rw [hx] at c0 hgt
                rw [hy] at c1 hgt
                clear hx hy
                go_wp2_with fail
                go_quiet (fail)
                go_wp2_with fail
                go_roundw
                case rel => exact ⟨i, i + 1, _, rfl, by go_num, by omega, hlt2, by omega, HNB, rfl⟩
                case measure => simp [intOf]; omega
              · have HNB := Lib.hid (show (∀ j, j < i + 1 → rB (rOf W S N) k t j ≤ rB (rOf W S N) k t b) ∧ (∀ j, j < b → rB (rOf W S N) k t j < rB (rOf W S N) k t b) from ⟨fun j hj => by
                  rcases Nat.lt_or_ge j i with p | p
                  · exact hbest.out.1 j p
                  · obtain rfl : j = i := by omega
                    omega, hbest.out.2⟩)
                obtain ⟨x, hx⟩ : ∃ x, rB (rOf W S N) k t i = x := ⟨_, rfl⟩
                obtain ⟨y, hy⟩ : ∃ y, rB (rOf W S N) k t b = y := ⟨_, rfl⟩
                rw [hx] at c0 hgt
                rw [hy] at c1 hgt
                clear hx hy
                go_wp2_with fail
                go_quiet (fail)
                go_wp2_with fail
                go_roundw
                case rel => exact ⟨b, i + 1, _, rfl, by go_num, by omega, hbk, by omega, HNB, rfl⟩
                case measure => simp [intOf]; omega
            · obtain rfl : i = k := by omega
              have hrk := best_rank (rOf W S N) i t b (rB (rOf W S N) i t) (fun j _ => rfl) (by omega) hbk hbest.out.1 hbest.out.2
              have HNX := Lib.hid (RB.next (w := wr.drewN m) (gp := gp) (gr := gr) (cp := cp) (cr := cr) (q := qOf W S N) ⟨hrb.out.p, hrb.out.r⟩ HNE.out hbk hrk)
              have c0 := hrb.out.cellp hcp hbk
              have f0 := hrb.out.frozp b
              have f1 := hrb.out.frozr b
              have hqb : 0 ≤ qB (qOf W S N) (rOf W S N) i t b ∧ qB (qOf W S N) (rOf W S N) i t b ≤ 4503599627370497 := by
                have := (HPB.out b hbk).1
                unfold qB
                split <;> omega
              obtain ⟨x, hx⟩ : ∃ x, qB (qOf W S N) (rOf W S N) i t b = x := ⟨_, rfl⟩
              rw [hx] at c0 hqb HNX
              have i2 : (b : Int) < (i : Int) := by omega
              have c1 : (wr.drewN m).rowIs gr 2 cr _ := hrb.out.r.choose_spec.1
              have c2 := (c1.setOther (a := ⟨gp, b, none⟩) HNE.out.symm (.int .i64 (x + 1))).cell (i := b) (by omega)
              have c3 := (c1.setOther (a := ⟨gp, b, none⟩) HNE.out.symm (.int .i64 (x + 1))).frozen b
              have HBX := Lib.hid (((dNb hbt.out m).setCell (p := ⟨gp, b, none⟩) hgp (.int .i64 (x + 1))).setCell (p := ⟨gr, b, none⟩) hgr (.int .i64 (-1)))
              clear hx hrk c1
              go_wp2_with fail
              exact ⟨⟨t + 1, by omega, i64_eq (by omega), HNX, HBX⟩, by simp [intOf]; omega⟩
        · have HTL := Lib.hid (show t = L by omega)
          have hz : ¬ (0 : Int) < (L : Int) - (t : Int) := by omega
          have HRC := Lib.hid (show RB wr gp gr cp cr k L (qOf W S N) (rOf W S N) from HTL.out ▸ hrb.out)
          have HMC := Lib.hid (HMON.out.of_block (hbt.out.block _ hsz1))
          have HBC := Lib.hid (HB.out.trans (hbt.out.mono HB.out.size))
          have HPT := Lib.hid (show ∀ j, ((partOf W S N j : Nat) : Int) = qB (qOf W S N) (rOf W S N) k L j from fun j => by
            unfold partOf qB
            rw [HNN.out, HL.out]
            split <;> simp)
          have HREF := Lib.hid (Below.refl wr.heap.size wr)
          clear hrb
          generalize wr = wB at HRC HMC HBC HREF ⊢
          go_wp2_with fail
          go_loopw [16, 17] (fun ov iv ws3 => ∃ j : Nat, j ≤ k ∧ iv = .int .i64 j ∧ ws3.ownsRow wB.heap.size 23 2 ov j (cellsM (amtF a W S N) cur j) ∧ Hid (Below wB.heap.size wB ws3)) (fun _ iv _ => k - (intOf iv).toNat)
          case atStart => exact ⟨0, Nat.zero_le _, rfl, World.ownsRow_nil _ _ _ _, HREF⟩
          case round =>
            obtain ⟨j, hj, rfl, hown, hbc⟩ := hrel
            by_cases hlt3 : j < k
            · have c0 := (HRC.out.below hbc.out).cellp hcp hlt3
              have hmr := HMC.out.of_block (hbc.out.block _ HMC.out.lt)
              have m0 := hmr.cell (i := 0) (by omega)
              have m1 := hmr.cell (i := 1) (by omega)
              simp only [if_true] at m0
              rw [if_neg (by omega)] at m1
              have hpj := HPT.out j
              have hqb : 0 ≤ qB (qOf W S N) (rOf W S N) k L j ∧ qB (qOf W S N) (rOf W S N) k L j ≤ 4503599627370497 := by
                have := (HPB.out j hlt3).1
                unfold qB
                split <;> omega
              obtain ⟨x, hx⟩ : ∃ x, qB (qOf W S N) (rOf W S N) k L j = x := ⟨_, rfl⟩
              rw [hx] at c0 hpj hqb
              have HPJ := Lib.hid hpj
              have HZ := Lib.hid hbc.out.size
              have i1 : (j : Int) < (k : Int) := by omega
              clear hx hpj hmr
              by_cases hneg : a < 0
              · have HCM := Lib.hid (show cellsM (amtF a W S N) cur (j + 1) = cellsM (amtF a W S N) cur j ++ [.int .i64 (-x), .string cur] by rw [cellsM, amtF_neg hneg, HPJ.out])
                go_wp2_with (at_builtin; refine wpList_append_own _ rfl (.tmp 112) (.tmp 117) _ rfl wB.heap.size 23 i1' _ 2 24 Tryd.underlying30 ji jz0 jz1 jz2 rfl (by decide) _ _ _ rfl (hown.alloc _) ⟨wr.heap.size, 0, none⟩ 1 1 [.int .i64 (-x), .string cur] rfl rfl (World.news_of_block (cs := #[.int .i64 (-x), .string cur]) (t := 23) (fr := (0, 0)) (heap_alloc_new wr _)) (by simp [Value.oneCell']) (by unfold maxLen; omega) (by omega) (by have := HZ.out; simp; omega) ?_; intro v' w6 hown' hgrow _)
                exact ⟨⟨j + 1, by omega, by go_num, by rw [HCM.out]; exact hown', Lib.hid ((hbc.out.alloc HZ.out _).grown hgrow (by have := HZ.out; simp; omega) (fun q hq => (hown.lt q hq).1))⟩, by simp [intOf]; omega⟩
              · have HCM := Lib.hid (show cellsM (amtF a W S N) cur (j + 1) = cellsM (amtF a W S N) cur j ++ [.int .i64 x, .string cur] by rw [cellsM, amtF_pos (by omega), HPJ.out])
                go_wp2_with (at_builtin; refine wpList_append_own _ rfl (.tmp 112) (.tmp 117) _ rfl wB.heap.size 23 i1' _ 2 24 Tryd.underlying30 ji jz0 jz1 jz2 rfl (by decide) _ _ _ rfl (hown.alloc _) ⟨wr.heap.size, 0, none⟩ 1 1 [.int .i64 x, .string cur] rfl rfl (World.news_of_block (cs := #[.int .i64 x, .string cur]) (t := 23) (fr := (0, 0)) (heap_alloc_new wr _)) (by simp [Value.oneCell']) (by unfold maxLen; omega) (by omega) (by have := HZ.out; simp; omega) ?_; intro v' w6 hown' hgrow _)
                exact ⟨⟨j + 1, by omega, by go_num, by rw [HCM.out]; exact hown', Lib.hid ((hbc.out.alloc HZ.out _).grown hgrow (by have := HZ.out; simp; omega) (fun q hq => (hown.lt q hq).1))⟩, by simp [intOf]; omega⟩
            · obtain rfl : j = k := by omega
              obtain ⟨g, cap, rfl, hgl, hcells⟩ := own_out hown hn0
              have hgl2 := Nat.le_trans HBC.out.size hgl
              have HCE := Lib.hid hcells
              clear hown hcells
              go_wp2_with fail
              go_ret2
              exact ⟨g, cap, rfl, HCE.out, hgl2, HBC.out.trans (hbc.out.mono HBC.out.size)⟩
end Go.Proofs.YtadehobimlpmcaaDoor
