/- The walk of the stable sort at any length; slices.SortStableFunc. -/
import Derived.Test.YtadehobimlpmcaaDoorSrt6
import Derived.Test.YtadehobimlpmcaaDoorStb
import Derived.Test.YtadehobimlpmcaaDoorSpt
namespace Go.Proofs.YtadehobimlpmcaaDoor
set_option linter.unusedVariables false
open Go.RowKit Go.Sort

theorem cmp_mix {BR blk N S : Nat} {r : Nat → Nat} {w : World} (h : CmpAt w BR blk N r S) {d : Array Nat} (hd : d.size = S) (q : Nat) : CmpAt ((putRow encI w blk 0 d).drewN q) BR blk N r S := by
  intro m dk hk x y hx hy
  rw [put_mix w blk q m d dk (hk.trans hd.symm)]
  exact h (q + m) dk hk x y hx hy
theorem ltR_swo (r : Nat → Nat) : SWO (ltR r) :=
  ⟨fun x => by simp [ltR], fun x y z h1 h2 => by simp only [ltR, decide_eq_true_eq] at *; omega, fun x y z h1 h2 => by simp only [ltR, decide_eq_false_iff_not] at *; omega⟩
theorem ins_at (BR blk cap a b N S q : Nat) (r : Nat → Nat) (d d0 : Array Nat) (w : World) (hcmp : CmpAt w BR blk N r S) (hH : Holds encI w blk 0 d0) (h0 : d0.size = S) (hd : d.size = S) (hall : ∀ k, k < d.size → d[k]! < N) (hab : a ≤ b) (hb : b ≤ S) (hsz : S < 1000000) :
    Calls Tryd.prog 68 #[.slice (some ⟨blk, 0, none⟩) S cap, .int .i64 a, .int .i64 b, .func (.func 38) #[] #[.pointer (some ⟨BR, 0, none⟩)]] ((putRow encI w blk 0 d).drewN q) fun e w' =>
      e = .returned (.tuple #[]) ∧ ∃ n, w' = (putRow encI w blk 0 (insertionSort (ltR r) d a b)).drewN n := by
  subst hd
  have := ins_any BR blk cap a b N r d _ (cmp_mix hcmp rfl q) (holds_mix hH h0.symm) hall hab hb hsz
  refine this.mono ?_
  rintro e w' ⟨he, n, rfl⟩
  exact ⟨he, q + n, put_mix w blk q n d _ (insertionSort_holds (ltR_swo r) d a b hab hb).1.1⟩
def StbPost (w : World) (blk : Nat) (r : Nat → Nat) (n : Nat) (e : Ending) (w' : World) : Prop := e = .returned (.tuple #[]) ∧ ∃ m d, Ord r n d ∧ w' = (putRow encI w blk 0 d).drewN m
set_option maxHeartbeats 8000000 in
set_option maxRecDepth 1000000 in
theorem stable_any (BR blk cap n : Nat) (r : Nat → Nat) (w : World) (hcmp : CmpAt w BR blk n r n) (hH : Holds encI w blk 0 (Array.range n)) (hsz : n < 1000000) :
    Calls Tryd.prog 55 #[.slice (some ⟨blk, 0, none⟩) n cap, .int .i64 n, .func (.func 38) #[] #[.pointer (some ⟨BR, 0, none⟩)]] w (StbPost w blk r n) := by
  have HI := Lib.hid (fun (a b q : Nat) (d : Array Nat) (hd : d.size = n) (hN : ∀ k, k < d.size → d[k]! < n) (hab : a ≤ b) (hb : b ≤ n) => ins_at BR blk cap a b n n q r d (Array.range n) w hcmp hH (by simp) hd hN hab hb hsz)
  have HS := Lib.hid (sym_any BR blk cap n n r (Array.range n) w hcmp hH (by simp) hsz n)
  unfold SymIH at HS
  have HST := Lib.hid (putRow_self encI w blk 0 (Array.range n) hH).symm
  clear hcmp hH
  go_enter Tryd.func55, Tryd.ntmps55
  go_wp2_with fail
  go_loopg [7, 8] (n + 20) (fun g va vb wr => ∃ (a b q : Nat) (d : Array Nat), va = .int .i64 a ∧ vb = .int .i64 b ∧ b = a + 20 ∧ n + 20 - a ≤ g ∧ wr = (putRow encI w blk 0 d).drewN q ∧ Hid (First r 20 n a d))
  case atStart => exact ⟨0, 20, 0, Array.range n, by go_num, by go_num, by omega, by omega, HST.out, Lib.hid (First.start r 20 n)⟩
  case round =>
    obtain ⟨a, b, q, d, rfl, rfl, hb, hg, rfl, HF⟩ := hrel
    have haN := HF.out.an
    have HB := Lib.hid hb
    have wb : IntKind.i64.wrap ((b : Int) + 20) = (b : Int) + 20 := IntWalk.i64_in _ (by omega)
    by_cases hlt : b ≤ n
    · have hltz : (b : Int) ≤ (n : Int) := by omega
      have HW := Lib.hid ((HI.out a b q d HF.out.size HF.out.lt (by omega) hlt))
      have HLT := Lib.hid hlt
      have HG := Lib.hid hg
      clear hb hg hlt haN
      go_wp2_with fail
      refine HW.out.mono ?_
      rintro e w1 ⟨rfl, m, rfl⟩
      go_wp2_with fail
      go_roundg (n + 20 - b)
      case measure =>
        have := HB.out
        have := HG.out
        have := HLT.out
        omega
      case rel =>
        have hlt := HLT.out
        have hb := HB.out
        subst hb
        exact ⟨a + 20, a + 20 + 20, m, _, by go_num, by go_num, rfl, Nat.le_refl _, rfl, Lib.hid (HF.out.step hlt)⟩
    · have hltz : ¬ (b : Int) ≤ (n : Int) := by omega
      have HW := Lib.hid ((HI.out a n q d HF.out.size HF.out.lt haN (Nat.le_refl _)))
      have HP := Lib.hid (HF.out.tail (by omega))
      clear HF hb hg hlt haN HB wb
      obtain ⟨d1, hd1⟩ : ∃ d1, insertionSort (ltR r) d a n = d1 := ⟨_, rfl⟩
      rw [hd1] at HW HP
      clear hd1
      go_wp2_with fail
      refine HW.out.mono ?_
      rintro e w1 ⟨rfl, m, rfl⟩
      clear HW
      go_wp2_with fail
      go_loopg [6, 7, 8] n (fun g vB va vb wr => ∃ (B q : Nat) (d : Array Nat), vB = .int .i64 B ∧ 0 < B ∧ n - B ≤ g ∧ wr = (putRow encI w blk 0 d).drewN q ∧ Hid (Pass r B n 0 d))
      case atStart => exact ⟨20, m, d1, by go_num, by omega, by omega, rfl, HP⟩
      case round =>
        obtain ⟨B, q, d, rfl, hB0, hg, rfl, HF⟩ := hrel
        by_cases hBn : B < n
        · have hBz : (B : Int) < (n : Int) := by omega
          obtain ⟨B2, hB2⟩ : ∃ B2, B2 = 2 * B := ⟨_, rfl⟩
          have wB : IntKind.i64.wrap (2 * (B : Int)) = (B2 : Int) := by rw [IntWalk.i64_in _ (by omega)]; omega
          have wB' : IntKind.i64.wrap ((B : Int) * 2) = (B2 : Int) := by rw [IntWalk.i64_in _ (by omega)]; omega
          have HB2E := Lib.hid hB2
          have HBN := Lib.hid hBn
          have HG := Lib.hid hg
          have HB0 := Lib.hid hB0
          clear hB2 hBn hg hB0
          go_wp2_with fail
          go_loopg [7, 8] n (fun g va vb wr => ∃ (a b q : Nat) (d : Array Nat), va = .int .i64 a ∧ vb = .int .i64 b ∧ b = a + B2 ∧ n - a ≤ g ∧ wr = (putRow encI w blk 0 d).drewN q ∧ Hid (Pass r B n a d))
          case atStart => exact ⟨0, B2, q, d, by go_num, rfl, (Nat.zero_add _).symm, Nat.le_refl _, rfl, HF⟩
          case round =>
            obtain ⟨a, b, q, d, rfl, rfl, hb, hg2, rfl, HF⟩ := hrel
            have haN := HF.out.an
            have hB2 := HB2E.out
            have hBn := HBN.out
            have hB0 := HB0.out
            obtain ⟨m, hm⟩ : ∃ m, m = a + B := ⟨_, rfl⟩
            have wm : IntKind.i64.wrap ((a : Int) + (B : Int)) = (m : Int) := by rw [IntWalk.i64_in _ (by omega)]; omega
            have HM := Lib.hid hm
            have HE := Lib.hid (show b = a + 2 * B by omega)
            have HG2 := Lib.hid hg2
            by_cases hlt : b ≤ n
            · have hltz : (b : Int) ≤ (n : Int) := by omega
              obtain ⟨c, hc⟩ : ∃ c, c = b + B2 := ⟨_, rfl⟩
              have wc : IntKind.i64.wrap ((b : Int) + (B2 : Int)) = (c : Int) := by rw [IntWalk.i64_in _ (by omega)]; omega
              have HE2 := Lib.hid hc
              have HW := Lib.hid (HS.out a m b q d (by omega) HF.out.size HF.out.lt (by rw [HM.out, HE.out]; exact HF.out.step_two hB0 (by omega)))
              have HL := Lib.hid hlt
              clear hm hc hb hg2 hlt haN hB2 hBn hB0
              go_wp2_with fail
              refine HW.out.mono ?_
              rintro e w1 ⟨rfl, m1, d', hpd, rfl⟩
              have HP := Lib.hid hpd
              clear hpd
              go_wp2_with fail
              go_roundg (n - b)
              case measure =>
                have := HE.out
                have := HG2.out
                have := HL.out
                have := HB0.out
                omega
              case rel =>
                refine ⟨b, c, m1, d', rfl, rfl, HE2.out, Nat.le_refl _, rfl, ?_⟩
                have h1 := HP.out.1
                have h2 := HP.out.2
                have h3 := HE.out
                have h4 := HL.out
                rw [HE.out] at h1 h2 ⊢
                exact Lib.hid (HF.out.step HB0.out (by omega) h1 h2)
            · have hltz : ¬ (b : Int) ≤ (n : Int) := by omega
              have HL := Lib.hid hlt
              by_cases hmn : m < n
              · have hmz : (m : Int) < (n : Int) := by omega
                have HT := Lib.hid (HF.out.tail_two hB0 (by omega) (by omega))
                have HW := Lib.hid (HS.out a m n q d (by omega) HF.out.size HF.out.lt (by rw [HM.out]; exact HT.out.2.2))
                have HMN := Lib.hid hmn
                clear hm hb hg2 hlt haN hB2 hBn hB0 hmn
                go_wp2_with fail
                refine HW.out.mono ?_
                rintro e w1 ⟨rfl, m1, d', hpd, rfl⟩
                have HP := Lib.hid hpd
                clear hpd
                go_wp2_with fail
                go_roundg (n - B2)
                case measure =>
                  have := HB2E.out
                  have := HBN.out
                  have := HG.out
                  have := HB0.out
                  omega
                case rel =>
                  have := HM.out
                  have := HE.out
                  have := HL.out
                  have := HMN.out
                  have := HB0.out
                  have hB2 := HB2E.out
                  exact ⟨B2, m1, d', rfl, by omega, Nat.le_refl _, rfl, by rw [hB2]; exact Lib.hid (HF.out.tail HB0.out (by omega) (by omega) HP.out.1 HP.out.2)⟩
              · have hmz : ¬ (m : Int) < (n : Int) := by omega
                have HMN := Lib.hid hmn
                clear hm hb hg2 hlt haN hB2 hBn hB0 hmn
                go_wp2_with fail
                go_roundg (n - B2)
                case measure =>
                  have := HB2E.out
                  have := HBN.out
                  have := HG.out
                  have := HB0.out
                  omega
                case rel =>
                  have := HM.out
                  have := HE.out
                  have := HL.out
                  have := HMN.out
                  have := HB0.out
                  have hB2 := HB2E.out
                  exact ⟨B2, _, d, rfl, by omega, Nat.le_refl _, rfl, by rw [hB2]; exact Lib.hid (HF.out.idle HB0.out (by omega) (by omega))⟩
        · have hBz : ¬ (B : Int) < (n : Int) := by omega
          have HBN := Lib.hid hBn
          clear hBn hg hB0
          go_wp2_with fail
          go_end0
          exact ⟨rfl, q, d, HF.out.done (by have := HBN.out; omega), rfl⟩
set_option maxHeartbeats 400000 in
theorem sortOK_any {n : Nat} (hn : n < 1000000) : SortOK n := by
  intro BR blk cap r w hcmp hH
  have hc := Lib.hid (stable_any BR blk cap n r w hcmp hH hn)
  clear hcmp hH
  go_enter Tryd.func37, Tryd.ntmps37
  go_wp2_with fail
  refine hc.out.mono ?_
  rintro e w1 ⟨rfl, m, d, ho, rfl⟩
  go_wp2_with fail
  go_end0
  exact ⟨rfl, m, d, ho, rfl⟩
end Go.Proofs.YtadehobimlpmcaaDoor
