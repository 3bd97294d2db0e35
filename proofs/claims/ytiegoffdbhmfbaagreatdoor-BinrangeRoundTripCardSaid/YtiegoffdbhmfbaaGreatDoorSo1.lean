/- The insertion sort over rows of ranges. -/
import Derived.Test.YtiegoffdbhmfbaaGreatDoorRor
import Derived.Sort.WalkA
import Derived.Sort.WalkC
import Derived.Deep.LoopGhost
import Derived.Deep.RegionHeld3
import Derived.BigRegion
namespace Go.Proofs.YtiegoffdbhmfbaaGreatDoor
set_option linter.unusedVariables false
open Go.RowKit Go.Sort

def InsPost (f : Nat → Rg) (blk : Nat) (w0 : World) (d' : Array Nat) (e : Ending) (w' : World) : Prop := e = .returned (.tuple #[]) ∧ RowS f blk w0 d' w'
set_option maxHeartbeats 4000000 in
set_option maxRecDepth 1000000 in
theorem ins_any (f : Nat → Rg) (cm : Nat → Nat → Int) (blk cap a b N : Nat) (r : Nat → Nat) (d : Array Nat) (w0 w : World) (hcmp : CmpR f cm N) (hcm : ∀ x y, x < N → y < N → ltR r x y = decide (cm x y < 0)) (hH : RowS f blk w0 d w) (hall : ∀ k, k < d.size → d[k]! < N) (hab : a ≤ b) (hb : b ≤ d.size) (hsz : d.size < 1000000) :
    Calls Tryz.prog 62 #[.slice (some ⟨blk, 0, none⟩) d.size cap, .int .i64 a, .int .i64 b, .func (.func 28) #[] #[]] w (InsPost f blk w0 (insertionSort (ltR r) d a b)) := by
  have HC := Lib.hid hcmp
  have HCM := Lib.hid hcm
  have HH := Lib.hid hH
  have HALL := Lib.hid hall
  unfold CmpR at HC
  unfold InsPost
  clear hcmp hcm hH hall
  go_enter Tryz.func62, Tryz.ntmps62
  go_wp2_with fail
  go_loopg [8] (b - a) (fun g1 vi wr => ∃ (i : Nat) (dk : Array Nat), vi = .int .i64 i ∧ a < i ∧ i ≤ b + 1 ∧ b + 1 - i ≤ g1 + 1 ∧ dk.size = d.size ∧ Hid (RowS f blk w0 dk wr) ∧ Hid (insOuter (ltR r) a b i dk = insOuter (ltR r) a b (a + 1) d) ∧ Hid (∀ k, k < dk.size → dk[k]! < N))
  case atStart => exact ⟨a + 1, d, by go_num, by omega, by omega, by omega, rfl, HH, rfl, HALL⟩
  case round =>
    obtain ⟨i, dk, rfl, hai, hib, hg1, hsk, HR, HO, HK⟩ := hrel
    by_cases hlt : i < b
    · have hltz : (i : Int) < (b : Int) := by omega
      go_wp2_with fail
      go_loopg [9] i (fun g2 vj wr2 => ∃ (j : Nat) (dj : Array Nat), vj = .int .i64 j ∧ a ≤ j ∧ j ≤ i ∧ j ≤ g2 ∧ dj.size = d.size ∧ Hid (RowS f blk w0 dj wr2) ∧ Hid (insInner (ltR r) a j dj = insInner (ltR r) a i dk) ∧ Hid (∀ k, k < dj.size → dj[k]! < N))
      case atStart => exact ⟨i, dk, rfl, by omega, Nat.le_refl _, Nat.le_refl _, hsk, HR, rfl, HK⟩
      case round =>
        clear HR
        obtain ⟨j, dj, rfl, haj, hji, hg2, hsj, HR, HI, HJ⟩ := hrel
        have out : (j ≤ a ∨ ltR r dj[j]! dj[j - 1]! = false) → Hid (insOuter (ltR r) a b (i + 1) dj = insOuter (ltR r) a b (a + 1) d) := fun hs => by
          show _ = _
          rw [← HO.out, insOuter_go _ _ _ _ _ hlt, ← HI.out, insInner_stop _ _ _ _ hs]
        have OUT := Lib.hid out
        clear out
        by_cases hja : a < j
        · have hjaz : (a : Int) < (j : Int) := by omega
          have hdec : decide ((j : Int) > (a : Int)) = true := decide_eq_true hjaz
          obtain ⟨p, hp⟩ : ∃ p, j = p + 1 := ⟨j - 1, by omega⟩
          have hpz : (j : Int) - 1 = (p : Int) := by omega
          have hpw : IntKind.i64.wrap (p : Int) = (p : Int) := IntWalk.i64_in _ (by omega)
          have hjS : j < d.size := by omega
          have hpS : p < d.size := by omega
          have hjp : j - 1 = p := by omega
          rw [hjp] at OUT
          have HGO := Lib.hid (fun (h : ltR r dj[j]! dj[p]! = true) => by
            have := insInner_go (ltR r) a j dj hja (by rw [hjp]; exact h)
            rw [hjp] at this; exact this)
          have HN := Lib.hid (show a ≤ p ∧ p ≤ i ∧ p < gk by omega)
          have hxjN : dj[j]! < N := HJ.out j (by omega)
          have hxpN : dj[p]! < N := HJ.out p (by omega)
          have HSW := Lib.hid (fun (W : World) (hW : RowS f blk w0 dj W) => hW.swap j p (by omega) (by omega) _ _ rfl rfl)
          have HJ2 := Lib.hid (swp_all HJ.out (i := j) (j := p) (by omega) (by omega))
          obtain ⟨c0, c1, c2, c3⟩ := HR.out.cells j (by omega)
          obtain ⟨e0, e1, e2, e3⟩ := HR.out.cells p (by omega)
          have HCEL := Lib.hid (fun (W : World) (hW : RowS f blk w0 dj W) => And.intro (hW.cells j (by omega)) (hW.cells p (by omega)))
          obtain ⟨x, hx⟩ : ∃ x, dj[j]! = x := ⟨_, rfl⟩
          obtain ⟨y, hy⟩ : ∃ y, dj[p]! = y := ⟨_, rfl⟩
          have HXY := Lib.hid (show f dj[j]! = f x ∧ f dj[p]! = f y from ⟨by rw [hx], by rw [hy]⟩)
          rw [hx] at c0 c1 c2 c3 hxjN HSW HCEL OUT HGO
          rw [hy] at e0 e1 e2 e3 hxpN HSW HCEL OUT HGO
          have hc := fun W => HC.out W x y hxjN hxpN
          have hLR := HCM.out x y hxjN hxpN
          clear hx hy
          generalize cm x y = cv at hc hLR
          generalize f x = fx at *
          generalize f y = fy at *
          obtain ⟨xl, xh, xi, xp⟩ := fx
          obtain ⟨yl, yh, yi, yp⟩ := fy
          unfold rgC at hc
          simp only at c0 c1 c2 c3 e0 e1 e2 e3 hc HSW HCEL
          have hc := Lib.hid hc
          have HLR := Lib.hid hLR
          have jz0 : (0 : Int) ≤ (j : Int) := by omega
          have pz0 : (0 : Int) ≤ (p : Int) := by omega
          have jz1 : (j : Int) < (d.size : Int) := by omega
          have pz1 : (p : Int) < (d.size : Int) := by omega
          have hb0 := HR.out.lt
          have HG := Lib.hid (And.intro hg1 (show a < i + 1 by omega))
          have HG2 := Lib.hid (And.intro hji (And.intro hlt hsj))
          clear hLR hp hjp hxjN hxpN hg1 hg2 hai hib hsk haj hji
          have HRD := Lib.hid HR.out.drew
          clear c0 c1 c2 c3 e0 e1 e2 e3
          by_cases hlv : cv < 0
          · have HLT := Lib.hid (show ltR r x y = true by rw [HLR.out]; exact decide_eq_true hlv)
            go_wp2_with fail
            have HRD := Lib.hid HR.out.drew
            go_region_held3 (fun w' => (w'.cell? ⟨blk, j * 4, none⟩ = some (.string xl) ∧ w'.cell? ⟨blk, j * 4 + 1, none⟩ = some (.string xh) ∧ w'.cell? ⟨blk, j * 4 + 2, none⟩ = some (.string xi) ∧ w'.cell? ⟨blk, j * 4 + 3, none⟩ = some (.string xp)) ∧ (w'.cell? ⟨blk, p * 4, none⟩ = some (.string yl) ∧ w'.cell? ⟨blk, p * 4 + 1, none⟩ = some (.string yh) ∧ w'.cell? ⟨blk, p * 4 + 2, none⟩ = some (.string yi) ∧ w'.cell? ⟨blk, p * 4 + 3, none⟩ = some (.string yp)))
              (exact HCEL.out _ HRD.out)
              (first
                | (go_at_call 28; refine (hc.out _).mono ?_; rintro e wq ⟨rfl, hb⟩; have HRD := Lib.hid (HRD.out.later hb); clear hb))
            go_wp2_with fail
            obtain ⟨⟨c0, c1, c2, c3⟩, e0, e1, e2, e3⟩ := HCEL.out _ HRD.out
            have f0 := HRD.out.free (j * 4)
            have f1 := HRD.out.free (j * 4 + 1)
            have f2 := HRD.out.free (j * 4 + 2)
            have f3 := HRD.out.free (j * 4 + 3)
            have g0 := HRD.out.free (p * 4)
            have g1 := HRD.out.free (p * 4 + 1)
            have g2 := HRD.out.free (p * 4 + 2)
            have g3 := HRD.out.free (p * 4 + 3)
            have hbq := HRD.out.lt
            have HFIN := Lib.hid (HSW.out _ HRD.out)
            clear HSW HCEL hc
            go_region
            all_goals go_wp2_with fail
            go_roundg p
            case measure => exact HN.out.2.2
            case rel => exact ⟨p, swp dj j p, by first | rfl | go_num, HN.out.1, HN.out.2.1, Nat.le_refl _, by rw [size_swp]; exact HG2.out.2.2, HFIN, Lib.hid (by rw [← HI.out, HGO.out HLT.out]), HJ2⟩
          · have HLF := Lib.hid (show ltR r x y = false by rw [HLR.out]; exact decide_eq_false hlv)
            go_wp2_with fail
            have HRD := Lib.hid HR.out.drew
            go_region_held3 (fun w' => (w'.cell? ⟨blk, j * 4, none⟩ = some (.string xl) ∧ w'.cell? ⟨blk, j * 4 + 1, none⟩ = some (.string xh) ∧ w'.cell? ⟨blk, j * 4 + 2, none⟩ = some (.string xi) ∧ w'.cell? ⟨blk, j * 4 + 3, none⟩ = some (.string xp)) ∧ (w'.cell? ⟨blk, p * 4, none⟩ = some (.string yl) ∧ w'.cell? ⟨blk, p * 4 + 1, none⟩ = some (.string yh) ∧ w'.cell? ⟨blk, p * 4 + 2, none⟩ = some (.string yi) ∧ w'.cell? ⟨blk, p * 4 + 3, none⟩ = some (.string yp)))
              (exact HCEL.out _ HRD.out)
              (first
                | (go_at_call 28; refine (hc.out _).mono ?_; rintro e wq ⟨rfl, hb⟩; have HRD := Lib.hid (HRD.out.later hb); clear hb))
            go_wp2_with fail
            go_roundg (b - (i + 1))
            case measure =>
              have := HG.out
              have := HG2.out
              omega
            case rel => exact ⟨i + 1, dj, by go_num, HG.out.2, by have := HG2.out; omega, by omega, hsj, HRD, OUT.out (.inr HLF.out), HJ⟩
        · have hjaz : decide ((j : Int) > (a : Int)) = false := decide_eq_false (by omega)
          have hjaz' : ¬ (a : Int) < (j : Int) := by omega
          have HRD := Lib.hid HR.out.drew
          go_wp2_with fail
          go_quiet (fail)
          go_wp2_with fail
          go_roundg (b - (i + 1))
          case measure => omega
          case rel => exact ⟨i + 1, dj, by go_num, by omega, by omega, by omega, hsj, Lib.hid (HR.out.later (below_drewN _ _)), OUT.out (.inl (by omega)), HJ⟩
    · have hltz : ¬ (i : Int) < (b : Int) := by omega
      go_wp2_with fail
      go_end0
      exact ⟨rfl, by unfold insertionSort; rw [← HO.out, insOuter_stop _ _ _ _ _ hlt]; exact HR.out⟩
end Go.Proofs.YtiegoffdbhmfbaaGreatDoor
