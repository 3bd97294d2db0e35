/- The walk of the stable sort at any length; slices.SortStableFunc. -/
import Derived.Test.YtiegoffdbhmfbaaGreatDoorSo6
import Derived.Test.YtiegoffdbhmfbaaGreatDoorStb
namespace Go.Proofs.YtiegoffdbhmfbaaGreatDoor
set_option linter.unusedVariables false
open Go.RowKit Go.Sort

theorem ltR_swo (r : Nat → Nat) : SWO (ltR r) :=
  ⟨fun x => by simp [ltR], fun x y z h1 h2 => by simp only [ltR, decide_eq_true_eq] at *; omega, fun x y z h1 h2 => by simp only [ltR, decide_eq_false_iff_not] at *; omega⟩
def StbPost (f : Nat → Rg) (blk : Nat) (w0 : World) (r : Nat → Nat) (n : Nat) (e : Ending) (w' : World) : Prop := e = .returned (.tuple #[]) ∧ ∃ d, Ord r n d ∧ RowS f blk w0 d w'
set_option maxHeartbeats 8000000 in
set_option maxRecDepth 1000000 in
theorem stable_any (f : Nat → Rg) (cm : Nat → Nat → Int) (blk cap n : Nat) (r : Nat → Nat) (w0 w : World) (hcmp : CmpR f cm n) (hcm : ∀ x y, x < n → y < n → ltR r x y = decide (cm x y < 0)) (hR : RowS f blk w0 (Array.range n) w) (hsz : n < 1000000) :
    Calls Tryz.prog 45 #[.slice (some ⟨blk, 0, none⟩) n cap, .int .i64 n, .func (.func 28) #[] #[]] w (StbPost f blk w0 r n) := by
  have HI := Lib.hid (fun (a b : Nat) (d : Array Nat) (W : World) (hd : d.size = n) (hN : ∀ k, k < d.size → d[k]! < n) (hab : a ≤ b) (hb : b ≤ n) (hW : RowS f blk w0 d W) => by
    have := ins_any f cm blk cap a b n r d w0 W hcmp hcm hW hN hab (by omega) (by omega)
    rw [hd] at this; exact this)
  have HS := Lib.hid (sym_any f cm blk cap n n r w0 hcmp hcm hsz n)
  unfold SymIH at HS
  have HST := Lib.hid hR
  unfold InsPost at HI
  clear hcmp hcm hR
  go_enter Tryz.func45, Tryz.ntmps45
  go_wp2_with fail
  go_loopg [7, 8] (n + 20) (fun g va vb wr => ∃ (a b : Nat) (d : Array Nat), va = .int .i64 a ∧ vb = .int .i64 b ∧ b = a + 20 ∧ n + 20 - a ≤ g ∧ Hid (RowS f blk w0 d wr) ∧ Hid (First r 20 n a d))
  case atStart => exact ⟨0, 20, Array.range n, by go_num, by go_num, by omega, by omega, HST, Lib.hid (First.start r 20 n)⟩
  case round =>
    clear HST
    obtain ⟨a, b, d, rfl, rfl, hb, hg, HR, HF⟩ := hrel
    have haN := HF.out.an
    have HB := Lib.hid hb
    have wb : IntKind.i64.wrap ((b : Int) + 20) = (b : Int) + 20 := IntWalk.i64_in _ (by omega)
    by_cases hlt : b ≤ n
    · have hltz : (b : Int) ≤ (n : Int) := by omega
      have HW := Lib.hid ((HI.out a b d _ HF.out.size HF.out.lt (by omega) hlt HR.out))
      have HLT := Lib.hid hlt
      have HG := Lib.hid hg
      clear hb hg hlt haN
      go_wp2_with fail
      refine HW.out.mono ?_
      rintro e w1 ⟨rfl, hs⟩
      have HS1 := Lib.hid hs
      clear hs
      go_wp2_with fail
      go_roundg (n + 20 - b)
      case measure =>
        have := HB.out
        have := HG.out
        have := HLT.out
        omega
      case rel =>
        have hlt := HLT.out
        have hb := HB.out
        subst hb
        exact ⟨a + 20, a + 20 + 20, _, by go_num, by go_num, rfl, Nat.le_refl _, HS1, Lib.hid (HF.out.step hlt)⟩
    · have hltz : ¬ (b : Int) ≤ (n : Int) := by omega
      have HW := Lib.hid ((HI.out a n d _ HF.out.size HF.out.lt haN (Nat.le_refl _) HR.out))
      have HP := Lib.hid (HF.out.tail (by omega))
      clear HF hb hg hlt haN HB wb
      obtain ⟨d1, hd1⟩ : ∃ d1, insertionSort (ltR r) d a n = d1 := ⟨_, rfl⟩
      rw [hd1] at HW HP
      clear hd1
      go_wp2_with fail
      refine HW.out.mono ?_
      rintro e w1 ⟨rfl, hs⟩
      have HS1 := Lib.hid hs
      clear HW hs
      go_wp2_with fail
      go_loopg [6, 7, 8] n (fun g vB va vb wr => ∃ (B : Nat) (d : Array Nat), vB = .int .i64 B ∧ 0 < B ∧ n - B ≤ g ∧ Hid (RowS f blk w0 d wr) ∧ Hid (Pass r B n 0 d))
      case atStart => exact ⟨20, d1, by go_num, by omega, by omega, HS1, HP⟩
      case round =>
        clear HS1 HR
        obtain ⟨B, d, rfl, hB0, hg, HR, HF⟩ := hrel
        by_cases hBn : B < n
        · have hBz : (B : Int) < (n : Int) := by omega
          obtain ⟨B2, hB2⟩ : ∃ B2, B2 = 2 * B := ⟨_, rfl⟩
          have wB : IntKind.i64.wrap (2 * (B : Int)) = (B2 : Int) := by rw [IntWalk.i64_in _ (by omega)]; omega
          have wB' : IntKind.i64.wrap ((B : Int) * 2) = (B2 : Int) := by rw [IntWalk.i64_in _ (by omega)]; omega
          have HB2E := Lib.hid hB2
          have HBN := Lib.hid hBn
          have HG := Lib.hid hg
          have HB0 := Lib.hid hB0
          clear hB2 hBn hg hB0
          go_wp2_with fail
          go_loopg [7, 8] n (fun g va vb wr => ∃ (a b : Nat) (d : Array Nat), va = .int .i64 a ∧ vb = .int .i64 b ∧ b = a + B2 ∧ n - a ≤ g ∧ Hid (RowS f blk w0 d wr) ∧ Hid (Pass r B n a d))
          case atStart => exact ⟨0, B2, d, by go_num, rfl, (Nat.zero_add _).symm, Nat.le_refl _, HR, HF⟩
          case round =>
            clear HR
            obtain ⟨a, b, d, rfl, rfl, hb, hg2, HR, HF⟩ := hrel
            have haN := HF.out.an
            have hB2 := HB2E.out
            have hBn := HBN.out
            have hB0 := HB0.out
            obtain ⟨m, hm⟩ : ∃ m, m = a + B := ⟨_, rfl⟩
            have wm : IntKind.i64.wrap ((a : Int) + (B : Int)) = (m : Int) := by rw [IntWalk.i64_in _ (by omega)]; omega
            have HM := Lib.hid hm
            have HE := Lib.hid (show b = a + 2 * B by omega)
            have HG2 := Lib.hid hg2
            by_cases hlt : b ≤ n
            · have hltz : (b : Int) ≤ (n : Int) := by omega
              obtain ⟨c, hc⟩ : ∃ c, c = b + B2 := ⟨_, rfl⟩
              have wc : IntKind.i64.wrap ((b : Int) + (B2 : Int)) = (c : Int) := by rw [IntWalk.i64_in _ (by omega)]; omega
              have HE2 := Lib.hid hc
              have HW := Lib.hid (HS.out a m b d _ (by omega) HF.out.size HF.out.lt (by rw [HM.out, HE.out]; exact HF.out.step_two hB0 (by omega)) HR.out)
              have HL := Lib.hid hlt
              clear hm hc hb hg2 hlt haN hB2 hBn hB0
              go_wp2_with fail
              refine HW.out.mono ?_
              rintro e w1 ⟨rfl, d', hpd, hs⟩
              have HP := Lib.hid hpd
              have HS1 := Lib.hid hs
              clear hpd hs
              go_wp2_with fail
              go_roundg (n - b)
              case measure =>
                have := HE.out
                have := HG2.out
                have := HL.out
                have := HB0.out
                omega
              case rel =>
                refine ⟨b, c, d', rfl, rfl, HE2.out, Nat.le_refl _, HS1, ?_⟩
                have h1 := HP.out.1
                have h2 := HP.out.2
                have h3 := HE.out
                have h4 := HL.out
                rw [HE.out] at h1 h2 ⊢
                exact Lib.hid (HF.out.step HB0.out (by omega) h1 h2)
            · have hltz : ¬ (b : Int) ≤ (n : Int) := by omega
              have HL := Lib.hid hlt
              by_cases hmn : m < n
              · have hmz : (m : Int) < (n : Int) := by omega
                have HT := Lib.hid (HF.out.tail_two hB0 (by omega) (by omega))
                have HW := Lib.hid (HS.out a m n d _ (by omega) HF.out.size HF.out.lt (by rw [HM.out]; exact HT.out.2.2) HR.out)
                have HMN := Lib.hid hmn
                clear hm hb hg2 hlt haN hB2 hBn hB0 hmn
                go_wp2_with fail
                refine HW.out.mono ?_
                rintro e w1 ⟨rfl, d', hpd, hs⟩
                have HP := Lib.hid hpd
                have HS1 := Lib.hid hs
                clear hpd hs
                go_wp2_with fail
                go_roundg (n - B2)
                case measure =>
                  have := HB2E.out
                  have := HBN.out
                  have := HG.out
                  have := HB0.out
                  omega
                case rel =>
                  have := HM.out
                  have := HE.out
                  have := HL.out
                  have := HMN.out
                  have := HB0.out
                  have hB2 := HB2E.out
                  exact ⟨B2, d', rfl, by omega, Nat.le_refl _, HS1, by rw [hB2]; exact Lib.hid (HF.out.tail HB0.out (by omega) (by omega) HP.out.1 HP.out.2)⟩
              · have hmz : ¬ (m : Int) < (n : Int) := by omega
                have HMN := Lib.hid hmn
                clear hm hb hg2 hlt haN hB2 hBn hB0 hmn
                go_wp2_with fail
                go_roundg (n - B2)
                case measure =>
                  have := HB2E.out
                  have := HBN.out
                  have := HG.out
                  have := HB0.out
                  omega
                case rel =>
                  have := HM.out
                  have := HE.out
                  have := HL.out
                  have := HMN.out
                  have := HB0.out
                  have hB2 := HB2E.out
                  exact ⟨B2, d, rfl, by omega, Nat.le_refl _, HR, by rw [hB2]; exact Lib.hid (HF.out.idle HB0.out (by omega) (by omega))⟩
        · have hBz : ¬ (B : Int) < (n : Int) := by omega
          have HBN := Lib.hid hBn
          clear hBn hg hB0
          go_wp2_with fail
          go_end0
          exact ⟨rfl, d, HF.out.done (by have := HBN.out; omega), HR.out⟩
set_option maxHeartbeats 400000 in
theorem sorts_any (f : Nat → Rg) (cm : Nat → Nat → Int) (blk cap n : Nat) (r : Nat → Nat) (w0 w : World) (hcmp : CmpR f cm n) (hcm : ∀ x y, x < n → y < n → ltR r x y = decide (cm x y < 0)) (hR : RowS f blk w0 (Array.range n) w) (hsz : n < 1000000) :
    Calls Tryz.prog 27 #[.slice (some ⟨blk, 0, none⟩) n cap, .func (.func 28) #[] #[]] w (StbPost f blk w0 r n) := by
  have hc := Lib.hid (stable_any f cm blk cap n r w0 w hcmp hcm hR hsz)
  clear hcmp hcm hR
  go_enter Tryz.func27, Tryz.ntmps27
  go_wp2_with fail
  refine hc.out.mono ?_
  rintro e w1 ⟨rfl, d, ho, hs⟩
  go_wp2_with fail
  go_end0
  exact ⟨rfl, d, ho, hs⟩
end Go.Proofs.YtiegoffdbhmfbaaGreatDoor
