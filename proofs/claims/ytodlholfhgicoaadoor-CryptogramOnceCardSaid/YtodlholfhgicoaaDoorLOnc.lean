/- The law Once. -/
import Derived.Test.YtodlholfhgicoaaDoorOnc
import Derived.Test.YtodlholfhgicoaaDoorTryO
import Derived.IntWalk
import Derived.Deep.RegionHeld3
import Derived.Outline
namespace Go.Proofs.YtodlholfhgicoaaDoor
set_option linter.unusedVariables false
open Go.RowKit Go.Sort Go.Maps

/-- The state of the run. -/
structure OnW (w wr : World) (bc bl key : Nat) (win : Int) (m : ByteArray → Option Hst) (L : Nat → Int) : Prop where
  ck : CkW wr w.heap.size bc key win m (cntM m)
  lst : wr.heap[bl]? = some (.cells #[.int .i64 (L 0), .int .i64 (L 1), .int .i64 (L 2), .int .i64 (L 3)] 45)
  bel : Below w.heap.size w wr
  lo : w.heap.size ≤ bl
theorem OnW.below {w wr w' : World} {bc bl key : Nat} {win : Int} {m : ByteArray → Option Hst} {L : Nat → Int} (h : OnW w wr bc bl key win m L) (hb : Below wr.heap.size wr w') : OnW w w' bc bl key win m L :=
  ⟨h.ck.below hb, blk_later h.lst hb, h.bel.trans (hb.mono h.bel.size), h.lo⟩
theorem OnW.cell {w wr : World} {bc bl key : Nat} {win : Int} {m : ByteArray → Option Hst} {L : Nat → Int} (h : OnW w wr bc bl key win m L) (k : Nat) (hk : k < 4) : wr.cell? ⟨bl, k, none⟩ = some (.int .i64 (L k)) ∧ wr.frozen? ⟨bl, k, none⟩ = false := by
  refine ⟨?_, cell_f h.lst k⟩
  rw [cell_c h.lst]
  have hc : k = 0 ∨ k = 1 ∨ k = 2 ∨ k = 3 := by omega
  rcases hc with rfl | rfl | rfl | rfl <;> rfl
theorem grown_set (w : World) (b o : Nat) (v : Value) : w.grownBy (w.setCell ⟨b, o, none⟩ v) (some b) :=
  ⟨rfl, rfl, rfl, by simp [World.setCell], fun k hk hne => by rw [heap_setCell_other _ _ _ _ (fun e => hne (by rw [e]))]⟩
theorem OnW.put {w wr : World} {bc bl key : Nat} {win : Int} {m : ByteArray → Option Hst} {L : Nat → Int} (h : OnW w wr bc bl key win m L) (hne : bc ≠ bl) (k : Nat) (hk : k < 4) (n : Int) : OnW w (wr.setCell ⟨bl, k, none⟩ (.int .i64 (max (L k) n))) bc bl key win m (putL L k n) := by
  refine ⟨?_, ?_, h.bel.setCell (p := ⟨bl, k, none⟩) h.lo _, h.lo⟩
  · obtain ⟨bm, h1, h2, h3, h4⟩ := h.ck
    refine ⟨bm, h1, h2, grown_blk (grown_set _ _ _ _) h3 hne, h4.kept (grown_set _ _ _ _) (fun e => ?_)⟩
    obtain ⟨es, clk, hm⟩ := h4.isMap
    obtain rfl := Option.some.inj e
    rw [h.lst] at hm; cases hm
  · rw [heap_setCell_same _ _ _ _ _ _ h.lst]
    have hc : k = 0 ∨ k = 1 ∨ k = 2 ∨ k = 3 := by omega
    rcases hc with rfl | rfl | rfl | rfl <;> rfl
theorem OnW.check {w wr w' : World} {bc bl key : Nat} {win : Int} {m : ByteArray → Option Hst} {L : Nat → Int} {t : ByteArray} {c E : Int} {e : Ending} (h : OnW w wr bc bl key win m L) (hp : CkPost2 w.heap.size bc key win m (cntM m) t c E wr e w') (k : Nat) (hk : k < 4) (ht : t = cardS k) :
    OnW w w' bc bl key win (if E = 0 then updM m t (newH (histOf (m t)) c) else m) L := by
  obtain ⟨⟨-, hck, hb⟩, hkeep⟩ := hp
  refine ⟨?_, hkeep _ _ _ h.lst, h.bel.trans hb, h.lo⟩
  subst ht
  by_cases hE : E = 0
  · rw [if_pos hE] at hck ⊢
    rw [cntM_upd m k _ hk]
    cases hs : (m (cardS k)).isSome
    · rw [hs, if_pos ⟨hE, rfl⟩] at hck; rw [if_pos rfl]; exact hck
    · rw [hs, if_neg (fun q => by cases q.2)] at hck; rw [if_neg (by simp)]; exact hck
  · rw [if_neg hE, if_neg (fun q => hE q.1)] at hck
    rw [if_neg hE]; exact hck
theorem u8rem (t : Nat) : IntKind.u8.wrap ((t : Int).tmod 4) = ((t % 4 : Nat) : Int) := by
  have hm : (t : Int).tmod 4 = ((t % 4 : Nat) : Int) := by rw [Int.tmod_eq_emod_of_nonneg (by omega)]; omega
  rw [hm]
  have h4 : t % 4 < 4 := Nat.mod_lt _ (by decide)
  generalize t % 4 = q at *
  have hc : q = 0 ∨ q = 1 ∨ q = 2 ∨ q = 3 := by omega
  rcases hc with rfl | rfl | rfl | rfl <;> rfl
def trF (l : List (Nat × Nat)) (j : Nat) : Nat × Nat := l.getD j (0, 0)
theorem trF_at (l : List (Nat × Nat)) (j : Nat) (h : j < l.length) : trF l j = l[j] := by unfold trF; simp [h]
theorem row_try {wr : World} {A : Option Addr} {l : List (Nat × Nat)} (hr : IsRow wr A (l.flatMap tryC)) (j : Nat) (h : j < l.length) :
    ∃ b off, A = some ⟨b, off, none⟩ ∧ ∀ i, i < l.length → wr.cell? ⟨b, off + i * 2, none⟩ = some (.int .u8 (trF l i).1) ∧ wr.cell? ⟨b, off + i * 2 + 1, none⟩ = some (.int .u16 (trF l i).2) := by
  rcases hr with hr | ⟨b, off, rfl, hr⟩
  · have := (List.getElem?_eq_some_iff.1 (try_cells l j h).1).1
    omega
  · refine ⟨b, off, rfl, fun i hi => ?_⟩
    rw [trF_at l i hi]
    exact ⟨hr _ _ (try_cells l i hi).1, by rw [Nat.add_assoc]; exact hr _ _ (try_cells l i hi).2⟩
theorem mayB_succ (win : Int) (tr : Nat → Nat × Nat) (i : Nat) (L : Nat → Int) (j : Nat) : mayB win tr i L (j + 1) = (mayB win tr i L j && (decide ((tr j).1 % 4 ≠ (tr i).1 % 4) || decide ((tr j).2 ≠ (tr i).2))) := by
  unfold mayB
  rw [newB, Bool.and_assoc]
theorem mayB_zero (win : Int) (tr : Nat → Nat × Nat) (i : Nat) (L : Nat → Int) (b : Bool) (h : b = (decide (L ((tr i).1 % 4) = 0) || decide (L ((tr i).1 % 4) - win ≤ ((tr i).2 : Int) + 1))) : mayB win tr i L 0 = b := by
  unfold mayB
  rw [newB, Bool.and_true, h]
theorem cell_below {w wX : World} {p : Addr} {v : Value} (hb : Below w.heap.size w wX) (h : w.cell? p = some v) : wX.cell? p = some v := (hb.cell (World.block_lt_of_cell? w _ h)).trans h
theorem cardS_size (t : Nat) : (cardS t).size ≤ 100 := by
  have h : ∀ t, t < 4 → (cardS t).size ≤ 100 := by decide
  rw [← card_mod]; exact h _ (Nat.mod_lt _ (by decide))
theorem ml100 {n : Nat} (h : n ≤ 100) : n ≤ maxLen := by have : maxLen = 2 ^ 63 - 1 := rfl; omega
set_option maxRecDepth 100000 in
set_option maxHeartbeats 12800000 in
theorem once_any (k : Nat) (wn : Nat) (A : Option Addr) (cp : Nat) (l : List (Nat × Nat)) (w : World) (hw : KW w) (hk : k < M64) (hwn : wn < 256) (hr : IsRow w A (l.flatMap tryC)) (hok : ∀ x ∈ l, x.1 < 256 ∧ x.2 < 65536) (hl : l.length ≤ maxLen) :
    Calls Tryd.prog 5 #[.int .u64 k, .int .u8 wn, .slice A l.length cp] w fun e w' => e = .returned (.bool true) ∧ Below w.heap.size w w' := by
  have HKW := Lib.hid hw
  have HR := Lib.hid hr
  have HAW := Lib.hid (fun W h => awake_any W h)
  have HTR : Hid (∀ j, j < l.length → (trF l j).1 < 256 ∧ (trF l j).2 < 65536) := Lib.hid (fun j hj => by rw [trF_at l j hj]; exact hok _ (List.getElem_mem hj))
  obtain ⟨q, hq⟩ : ∃ q : Nat, wn % 64 = q := ⟨_, rfl⟩
  have hq63 : q ≤ 63 := by omega
  have HQ := Lib.hid (show (0 : Int) ≤ (q : Int) ∧ (q : Int) ≤ 63 by omega)
  have e1 : (wn : Int) % 64 = (q : Int) := by omega
  have e2 : (wn : Int).tmod 64 = (q : Int) := by rw [Int.tmod_eq_emod_of_nonneg (by omega)]; exact e1
  have HN := Lib.hid (fun W => new_ok k (q : Int) W (by omega) (by omega))
  clear hw hr hok hq
  unfold maxLen at hl
  by_cases hlen : 100 < l.length
  · go_enter Tryd.func5, Tryd.ntmps5
    go_wp2_with fail
    refine (HN.out _).mono ?_
    rintro e w1 ⟨bc, rfl, -, hb⟩
    have HB := Lib.hid hb
    clear hb
    go_wp2_with fail
    refine (HAW.out _ (HKW.out.below HB.out)).mono ?_
    rintro e w9 ⟨rfl, hb⟩
    have HB9 := Lib.hid (HB.out.trans (hb.mono HB.out.size))
    clear hb
    go_wp2_with fail
    go_ret
    exact ⟨rfl, HB9.out⟩
  · have hlen' : l.length ≤ 100 := by omega
    have hd100 : decide (100 < (l.length : Int)) = false := decide_eq_false (by omega)
    clear hlen
    go_enter Tryd.func5, Tryd.ntmps5
    go_wp2_with fail
    refine (HN.out _).mono ?_
    rintro e w1 ⟨bc, rfl, hck, hb⟩
    have HB := Lib.hid hb
    have HST : Hid (OnW w (w1.alloc (.cells #[.int .i64 0, .int .i64 0, .int .i64 0, .int .i64 0] 45)) bc w1.heap.size k (q : Int) m0 (fun _ => 0)) := Lib.hid ⟨hck.below (alloc_lt _ _), (MapKept.heap_alloc w1 _).1, hb.trans ((alloc_lt _ _).mono hb.size), hb.size⟩
    have HNE := Lib.hid (show bc ≠ w1.heap.size by obtain ⟨bm, -, -, q3, -⟩ := hck; have := (Array.getElem?_eq_some_iff.1 q3).1; omega)
    clear hb hck
    go_wp2_with fail
    go_loopw [11] (fun i wr => ∃ (n : Nat) (m : ByteArray → Option Hst) (L : Nat → Int), n ≤ l.length ∧ i = .int .i64 n ∧ Hid (OnceI (q : Int) (trF l) n m L) ∧ Hid (OnW w wr bc w1.heap.size k (q : Int) m L)) (fun i _ => l.length - (intOf i).toNat)
    case atStart => exact ⟨0, m0, fun _ => 0, Nat.zero_le _, rfl, Lib.hid (once_start _ _), HST⟩
    case round =>
      clear HST
      generalize w1.heap.size = bl at *
      obtain ⟨i, m, L, hi, rfl, HI, HS⟩ := hrel
      by_cases hlt : i < l.length
      · rcases row_try HR.out i hlt with ⟨b, off, rfl, hcell⟩
        have HCW := Lib.hid hcell
        have c0 := cell_below HS.out.bel (hcell i hlt).1
        have c1 := cell_below HS.out.bel (hcell i hlt).2
        have hbd := HTR.out i hlt
        have hkk4 : (trF l i).1 % 4 < 4 := Nat.mod_lt _ (by decide)
        have HMU := Lib.hid (may_used HI.out HQ.out.1)
        have HMZ := Lib.hid (mayB_zero (q : Int) (trF l) i L)
        have HPUT := Lib.hid (once_put HI.out HQ.out.1 hbd.2)
        have HSKIP := Lib.hid (once_skip HI.out HQ.out.1)
        have hk4 := hkk4
        have hLlo := HI.out.low _ hkk4
        have hLup := HI.out.upp _ hkk4
        have HLAST := Lib.hid (last_put HI.out _ hkk4)
        obtain ⟨t, ht⟩ : ∃ t, (trF l i).1 = t := ⟨_, rfl⟩
        obtain ⟨c, hc⟩ : ∃ c, (trF l i).2 = c := ⟨_, rfl⟩
        obtain ⟨kk, hkk⟩ : ∃ kk, t % 4 = kk := ⟨_, rfl⟩
        have HT := Lib.hid (And.intro ht (And.intro hc hkk))
        have hur := u8rem t
        rw [ht] at c0 hbd HMU HMZ HPUT HSKIP hk4 hLlo hLup HLAST
        rw [hc] at c1 hbd HMU HMZ HPUT HSKIP
        rw [hkk] at HMU HMZ HPUT HSKIP hk4 hLlo hLup HLAST hur
        obtain ⟨N, hN⟩ : ∃ N : Int, 1 + (c : Int) = N := ⟨_, rfl⟩
        have hN' : (c : Int) + 1 = N := by omega
        rw [hN'] at HMU HMZ HPUT HSKIP
        have hN1 : 1 ≤ N := by omega
        have hN2 : N ≤ 65536 := by omega
        have hwN : IntKind.i64.wrap (1 + (c : Int)) = N := by rw [hN, IntWalk.i64_in _ (by omega)]
        have HCARD : Hid (∀ W, Calls Tryd.prog 20 #[.int .u8 t] W fun e w' => e = .returned (.string (cardS kk)) ∧ W = w') := Lib.hid (fun W => by have := card_any t W hbd.1; rw [← card_mod, hkk] at this; exact this)
        have HSZ := Lib.hid (ml100 (cardS_size kk))
        have HMK : Hid (∀ W, KW W → Calls Tryd.prog 10 #[.int .u64 k, .string (cardS kk), .int .i64 N, .agg #[.int .i64 100, .string eurS], .string ⟨#[]⟩] W fun e w' => e = .returned (.tuple #[.string (mkV k (cardS kk) N 100 eurS ⟨#[]⟩), .int .i64 0]) ∧ Below W.heap.size W w') := Lib.hid (fun W hW => by
          have := make_any k (cardS kk) N 100 eurS ⟨#[]⟩ W hW hk HSZ.out (by decide) (by decide)
          unfold MkPost at this
          rw [mkE_card kk N hN1 (by omega)] at this
          exact this)
        have HEU := Lib.hid (fun W => eur_any 100 W)
        obtain ⟨E, hE⟩ : ∃ E : Int, (if usedM m (cardS kk) N (q : Int) = true then (15 : Int) else 0) = E := ⟨_, rfl⟩
        have HCK : Hid (∀ W, OnW w W bc bl k (q : Int) m L → Calls Tryd.prog 14 #[.pointer (some ⟨bc, 0, none⟩), .string (cardS kk), .int .i64 N, .agg #[.int .i64 100, .string eurS], .string ⟨#[]⟩, .string (mkV k (cardS kk) N 100 eurS ⟨#[]⟩)] W (CkPost2 w.heap.size bc k (q : Int) m (cntM m) (cardS kk) N E W)) := Lib.hid (fun W hW => by
          have := check_any2 w.heap.size bc k (q : Int) m (cntM m) (cardS kk) N 100 eurS ⟨#[]⟩ (mkV k (cardS kk) N 100 eurS ⟨#[]⟩) W hW.ck HI.out.good (HKW.out.below hW.bel) hk HQ.out.1 HQ.out.2 HSZ.out (by decide) (by decide) (mkV_size _ _ _ _ _ _) (by have := cntM_le m; omega)
          rw [ckE_once k (q : Int) m kk N hN1 (by omega), hE] at this
          exact this)
        have HE := Lib.hid hE.symm
        generalize mkV k (cardS kk) N 100 eurS ⟨#[]⟩ = V at *
        obtain ⟨Lk, hLk⟩ : ∃ Lk, L kk = Lk := ⟨_, rfl⟩
        have HLK := Lib.hid hLk
        rw [hLk] at hLlo hLup HLAST HMZ
        have hq0 : (0 : Int) ≤ (q : Int) := HQ.out.1
        have hq1 : (q : Int) ≤ 63 := HQ.out.2
        have hkI : (t : Int) % 4 = (kk : Int) := by omega
        have hk40 : (0 : Int) ≤ (kk : Int) := by omega
        have hk4I : (kk : Int) < 4 := by omega
        have HSUC := Lib.hid (fun j => mayB_succ (q : Int) (trF l) i L j)
        simp only [ht, hc, hkk] at HSUC
        clear hcell hkk4 ht hc hE hLk hN' hur
        have hways : ((Lk == 0) = true) ∨ ((Lk == 0) = false ∧ decide (Lk - (q : Int) ≤ N) = true) ∨ ((Lk == 0) = false ∧ decide (Lk - (q : Int) ≤ N) = false) := by
          cases (Lk == 0) <;> cases decide (Lk - (q : Int) ≤ N) <;> simp
        have hrow := HS.out.cell kk hk4
        rcases hways with hz | ⟨hz, hg⟩ | ⟨hz, hg⟩
        all_goals
          have HB0 : Hid (∃ B0 : Bool, mayB (q : Int) (trF l) i L 0 = B0 ∧ B0 = (decide (Lk = 0) || decide (Lk - (q : Int) ≤ N))) := Lib.hid ⟨_, HMZ.out _ rfl, rfl⟩
          go_wp2_with fail
          go_quiet ((go_at_call 20; with_reducible exact quiet_left (HCARD.out _)))
          go_wp2_with fail
          refine (HEU.out _).mono ?_
          rintro e w2 ⟨rfl, hb⟩
          have HS2 := Lib.hid (HS.out.below ((below_drewN wr _).trans (hb.mono (below_drewN wr _).size)))
          clear hb c0 c1 hrow
          go_wp2_with fail
          refine (HMK.out _ (HKW.out.below HS2.out.bel)).mono ?_
          rintro e w3 ⟨rfl, hb⟩
          have HS3 := Lib.hid (HS2.out.below hb)
          clear hb
          go_wp2_with fail
          refine (HEU.out _).mono ?_
          rintro e w4 ⟨rfl, hb⟩
          have HS4 := Lib.hid (HS3.out.below hb)
          clear hb
          go_wp2_with fail
          refine (HCK.out _ HS4.out).mono ?_
          rintro e w5 hp
          have HS5 := Lib.hid (HS4.out.check hp kk hk4 rfl)
          obtain rfl := hp.1.1
          clear hp
          have c0 := cell_below HS5.out.bel (HCW.out i hlt).1
          have c1 := cell_below HS5.out.bel (HCW.out i hlt).2
          have hrow := HS5.out.cell kk hk4
          rw [HLK.out] at hrow
          rw [HT.out.1] at c0
          rw [HT.out.2.1] at c1
          go_wp2_with fail
          obtain ⟨B0, hb1, hb2⟩ := HB0.out
          have HB : Hid (mayB (q : Int) (trF l) i L 0 = (decide (Lk = 0) || decide (Lk - (q : Int) ≤ N))) := Lib.hid (hb1.trans hb2)
          clear hb1 hb2 HB0
          have HZ := Lib.hid hz
          clear c0 c1 hrow
          go_loopw [18, 19] (fun mv jv w6 => ∃ j : Nat, j ≤ i ∧ jv = .int .i64 j ∧ mv = .bool (mayB (q : Int) (trF l) i L j) ∧ Hid (Below w5.heap.size w5 w6)) (fun _ jv _ => i - (intOf jv).toNat)
          case atStart => exact ⟨0, Nat.zero_le _, rfl, by rw [HB.out]; first | (rw [decide_eq_true (show Lk = 0 by simpa using HZ.out)]; rfl) | (rw [decide_eq_false (show ¬ Lk = 0 by simpa using HZ.out), hg]; rfl), Lib.hid (Below.refl _ _)⟩
          case round =>
            obtain ⟨j, hj, rfl, rfl, HB6⟩ := hrel
            by_cases hji : j < i
            · have hb6 := HS5.out.bel.trans (HB6.out.mono HS5.out.bel.size)
              have d0 := cell_below hb6 (HCW.out j (by omega)).1
              have d1 := cell_below hb6 (HCW.out j (by omega)).2
              have d2 := cell_below hb6 (HCW.out i hlt).2
              have hjb := HTR.out j (by omega)
              have hsu := HSUC.out j
              obtain ⟨tj, htj⟩ : ∃ tj, (trF l j).1 = tj := ⟨_, rfl⟩
              obtain ⟨cj, hcj⟩ : ∃ cj, (trF l j).2 = cj := ⟨_, rfl⟩
              obtain ⟨kj, hkj⟩ : ∃ kj, tj % 4 = kj := ⟨_, rfl⟩
              rw [htj] at d0 hjb hsu
              rw [hcj] at d1 hjb hsu
              rw [HT.out.2.1] at d2
              rw [hkj] at hsu
              obtain ⟨hjb1, hjb2⟩ := hjb
              have hkjI : (tj : Int) % 4 = (kj : Int) := by omega
              have hjI : (j : Int) < (i : Int) := by omega
              have hjl : (j : Int) < (l.length : Int) := by omega
              have hil : (i : Int) < (l.length : Int) := by omega
              obtain ⟨B1, hB1⟩ : ∃ B1, mayB (q : Int) (trF l) i L j = B1 := ⟨_, rfl⟩
              rw [hB1] at hsu ⊢
              have HSU := Lib.hid hsu
              clear hb6 hsu htj hcj hB1 hj
              cases B1
              · go_wp2_with fail
                go_quiet (fail)
                go_wp2_with fail
                go_roundw
                case rel => exact ⟨j + 1, by omega, by go_num, by rw [HSU.out]; rfl, Lib.hid (dNb HB6.out _)⟩
                case measure => simp [intOf]; omega
              · by_cases hk1 : kj = kk
                · have q1 : ((kj : Int) != (kk : Int)) = false := by simp [hk1]
                  by_cases hc1 : cj = c
                  · have q2 : ((cj : Int) != (c : Int)) = false := by simp [hc1]
                    have HF := Lib.hid (show mayB (q : Int) (trF l) i L (j + 1) = false by rw [HSU.out]; simp [hk1, hc1])
                    clear hk1 hc1
                    go_wp2_with fail
                    go_quiet (fail)
                    go_wp2_with fail
                    go_roundw
                    case rel => exact ⟨j + 1, by omega, by go_num, by rw [HF.out], Lib.hid (dNb HB6.out _)⟩
                    case measure => simp [intOf]; omega
                  · have q2 : ((cj : Int) != (c : Int)) = true := by simp; omega
                    have HF := Lib.hid (show mayB (q : Int) (trF l) i L (j + 1) = true by rw [HSU.out]; simp [hc1])
                    clear hk1 hc1
                    go_wp2_with fail
                    go_quiet (fail)
                    go_wp2_with fail
                    go_roundw
                    case rel => exact ⟨j + 1, by omega, by go_num, by rw [HF.out], Lib.hid (dNb HB6.out _)⟩
                    case measure => simp [intOf]; omega
                · have q1 : ((kj : Int) != (kk : Int)) = true := by simp; omega
                  have HF := Lib.hid (show mayB (q : Int) (trF l) i L (j + 1) = true by rw [HSU.out]; simp [hk1])
                  clear hk1
                  go_wp2_with fail
                  go_quiet (fail)
                  go_wp2_with fail
                  go_roundw
                  case rel => exact ⟨j + 1, by omega, by go_num, by rw [HF.out], Lib.hid (dNb HB6.out _)⟩
                  case measure => simp [intOf]; omega
            · obtain rfl : j = i := by omega
              clear hji hj
              have HS6 := Lib.hid (HS5.out.below HB6.out)
              have hrow := HS6.out.cell kk hk4
              obtain ⟨U, hU⟩ : ∃ U, usedM m (cardS kk) N (q : Int) = U := ⟨_, rfl⟩
              rw [hU] at HE HMU HSKIP
              cases U
              · have hm : mayB (q : Int) (trF l) j L j = true := HMU.out
                obtain rfl : E = 0 := by rw [HE.out, if_neg (by simp)]
                rw [if_pos rfl] at HS6
                rw [hm]
                rw [HLK.out] at hrow
                have hjl : (j : Int) < (l.length : Int) := by omega
                have HI2 := Lib.hid HPUT.out
                have hsp := HS6.out.put HNE.out kk hk4 N
                have hsr := hsp.cell kk hk4
                have hpl : putL L kk N kk = max Lk N := by unfold putL; rw [if_pos rfl, HLK.out]
                rw [hpl, HLK.out] at hsr
                rw [HLK.out] at hsp
                have HTOP : Hid (lastM (updM m (cardS kk) (newH (histOf (m (cardS kk))) N)) (cardS kk) = max Lk N) := Lib.hid ((last_put HI2.out kk hk4).trans hpl)
                have HU2 : Hid (usedM (updM m (cardS kk) (newH (histOf (m (cardS kk))) N)) (cardS kk) N (q : Int) = true) := Lib.hid (by have := used_put HI2.out HQ.out.1; rw [HT.out.1, HT.out.2.1, HT.out.2.2] at this; rw [← this]; congr 1; omega)
                have HSP := Lib.hid hsp
                have HSR := Lib.hid hsr
                clear hm hU HE HMU HSKIP HPUT hsp hsr hpl
                go_wp2_with fail
                clear hrow
                generalize wr.setCell ⟨bl, kk, none⟩ (.int .i64 (max Lk N)) = W3 at *
                have HS7 := HSP
                have HROW := Lib.hid HSR.out.1
                have hrow3 : W3.cell? ⟨bl, kk, none⟩ = some (.int .i64 (max Lk N)) := HROW.out
                have HLA : Hid (∀ W, OnW w W bc bl k (q : Int) (updM m (cardS kk) (newH (histOf (m (cardS kk))) N)) (putL L kk N) → Calls Tryd.prog 16 #[.pointer (some ⟨bc, 0, none⟩), .string (cardS kk)] W fun e w' => e = .returned (.int .i64 (max Lk N)) ∧ W = w') := Lib.hid (fun W hW => by
                  have := last_any w.heap.size bc k (q : Int) (updM m (cardS kk) (newH (histOf (m (cardS kk))) N)) (cntM (updM m (cardS kk) (newH (histOf (m (cardS kk))) N))) (cardS kk) W hW.ck HSZ.out
                  rw [HTOP.out] at this
                  exact this)
                have HUA : Hid (∀ W, OnW w W bc bl k (q : Int) (updM m (cardS kk) (newH (histOf (m (cardS kk))) N)) (putL L kk N) → Calls Tryd.prog 18 #[.pointer (some ⟨bc, 0, none⟩), .string (cardS kk), .int .i64 N] W fun e w' => e = .returned (.bool true) ∧ Below W.heap.size W w') := Lib.hid (fun W hW => by
                  have := usedM_any w.heap.size bc k (q : Int) (updM m (cardS kk) (newH (histOf (m (cardS kk))) N)) (cntM (updM m (cardS kk) (newH (histOf (m (cardS kk))) N))) (cardS kk) N W hW.ck HI2.out.good HSZ.out HQ.out.1 HQ.out.2 (by omega)
                  rw [HU2.out] at this
                  exact this)
                have HBW : Hid (Below W3.heap.size W3 W3.drew) := Lib.hid ((Below.refl _ _).drew)
                clear HROW HTOP
                generalize cardS kk = T at *
                go_region_held3 (fun w' => Below W3.heap.size W3 w' ∧ w'.cell? ⟨bl, kk, none⟩ = some (.int .i64 (max Lk N)))
                  (exact ⟨HBW.out, cell_below HBW.out hrow3⟩)
                  (first
                    | (go_at_call 16; refine (HLA.out _ (HS7.out.below HBW.out)).mono ?_; rintro e w' ⟨rfl, rfl⟩)
                    | (go_at_call 18; refine (HUA.out _ (HS7.out.below HBW.out)).mono ?_; rintro e w' ⟨rfl, hb⟩; have HBW := Lib.hid (HBW.out.trans (hb.mono HBW.out.size)); clear hb))
                go_wp2_with fail
                go_roundw
                case rel => exact ⟨j + 1, _, _, by omega, by go_num, HI2, Lib.hid (HS7.out.below HBW.out)⟩
                case measure => simp [intOf]; omega
              · have hm : mayB (q : Int) (trF l) j L j = false := HMU.out
                obtain rfl : E = 15 := by rw [HE.out, if_pos rfl]
                rw [if_neg (by decide)] at HS6
                rw [hm]
                rw [HLK.out] at hrow
                have hjl : (j : Int) < (l.length : Int) := by omega
                have HI2 := Lib.hid (HSKIP.out rfl)
                have HTOP : Hid (lastM m (cardS kk) = Lk) := HLAST
                have HU2 := Lib.hid hU
                have HROW := Lib.hid hrow.1
                have HS7 := HS6
                clear hm hU HE HMU HSKIP HPUT
                go_wp2_with fail
                clear hrow
                have hrow3 : wr.cell? ⟨bl, kk, none⟩ = some (.int .i64 Lk) := HROW.out
                have HLA : Hid (∀ W, OnW w W bc bl k (q : Int) (m) (L) → Calls Tryd.prog 16 #[.pointer (some ⟨bc, 0, none⟩), .string (cardS kk)] W fun e w' => e = .returned (.int .i64 Lk) ∧ W = w') := Lib.hid (fun W hW => by
                  have := last_any w.heap.size bc k (q : Int) (m) (cntM (m)) (cardS kk) W hW.ck HSZ.out
                  rw [HTOP.out] at this
                  exact this)
                have HUA : Hid (∀ W, OnW w W bc bl k (q : Int) (m) (L) → Calls Tryd.prog 18 #[.pointer (some ⟨bc, 0, none⟩), .string (cardS kk), .int .i64 N] W fun e w' => e = .returned (.bool true) ∧ Below W.heap.size W w') := Lib.hid (fun W hW => by
                  have := usedM_any w.heap.size bc k (q : Int) (m) (cntM (m)) (cardS kk) N W hW.ck HI2.out.good HSZ.out HQ.out.1 HQ.out.2 (by omega)
                  rw [HU2.out] at this
                  exact this)
                have HBW : Hid (Below wr.heap.size wr wr.drew) := Lib.hid ((Below.refl _ _).drew)
                clear HROW HTOP
                generalize cardS kk = T at *
                go_region_held3 (fun w' => Below wr.heap.size wr w' ∧ w'.cell? ⟨bl, kk, none⟩ = some (.int .i64 Lk))
                  (exact ⟨HBW.out, cell_below HBW.out hrow3⟩)
                  (first
                    | (go_at_call 16; refine (HLA.out _ (HS7.out.below HBW.out)).mono ?_; rintro e w' ⟨rfl, rfl⟩)
                    | (go_at_call 18; refine (HUA.out _ (HS7.out.below HBW.out)).mono ?_; rintro e w' ⟨rfl, hb⟩; have HBW := Lib.hid (HBW.out.trans (hb.mono HBW.out.size)); clear hb))
                go_wp2_with fail
                go_roundw
                case rel => exact ⟨j + 1, _, _, by omega, by go_num, HI2, Lib.hid (HS7.out.below HBW.out)⟩
                case measure => simp [intOf]; omega
      · have HD := Lib.hid (show i = l.length by omega)
        go_wp2_with fail
        refine (HAW.out _ (HKW.out.below HS.out.bel)).mono ?_
        rintro e w9 ⟨rfl, hb⟩
        have HB9 := Lib.hid (HS.out.bel.trans (hb.mono HS.out.bel.size))
        clear hb
        go_wp2_with fail
        go_ret
        exact ⟨rfl, HB9.out⟩
end Go.Proofs.YtodlholfhgicoaaDoor
