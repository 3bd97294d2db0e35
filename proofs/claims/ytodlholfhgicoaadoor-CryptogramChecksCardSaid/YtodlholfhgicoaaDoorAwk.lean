/- awake. -/
import Derived.Test.YtodlholfhgicoaaDoorSml
namespace Go.Proofs.YtodlholfhgicoaaDoor
set_option linter.unusedVariables false
open Go.RowKit Go.Sort Go.Maps

def mc (h : Hst) : ByteArray → Option Hst := updM (fun _ => none) card0 h
theorem mc_at (h : Hst) : mc h card0 = some h := by unfold mc updM; rw [if_pos rfl]
theorem mc_upd (h h' : Hst) : updM (mc h) card0 h' = mc h' := by
  funext x
  unfold mc updM
  split <;> rfl
theorem mc_good {h : Hst} (h1 : 1 ≤ h.1 ∧ h.1 ≤ 999999) : GoodM (mc h) := by
  intro t x hx
  unfold mc updM at hx
  split at hx
  · rw [← Option.some.inj hx]; exact h1
  · cases hx
theorem mc_hist (h : Hst) : histOf (mc h card0) = h := by rw [mc_at]; rfl
theorem mkE_card0 (c : Int) (c1 : 1 ≤ c) (c2 : c ≤ 999999) : mkE card0 c 100 eurS ⟨#[]⟩ = 0 := by
  unfold mkE
  rw [if_neg (by decide), if_neg (by omega), if_neg (by decide), if_neg (by decide)]
theorem accE_eq (win : Int) (m : ByteArray → Option Hst) (sz : Nat) (c : Int) (c1 : 1 ≤ c) (c2 : c ≤ 999999) (hs : sz < 64) : accE win m sz c = if usedM m card0 c win = true then 15 else 0 := by
  unfold accE ckE
  rw [mkE_card0 c c1 c2, if_neg (by simp), if_neg (by simp)]
  split
  · rfl
  · rw [if_neg (by omega)]
theorem first_any (B bc : Nat) (c : Int) (w : World) (hck : CkW w B bc 7 2 (fun _ => none) 0) (hw : KW w) (c1 : 1 ≤ c) (c2 : c ≤ 999999) :
    Calls Tryd.prog 22 #[.pointer (some ⟨bc, 0, none⟩), .int .i64 c] w fun e w' => e = .returned (.int .i64 0) ∧ CkW w' B bc 7 2 (mc (newH (0, fun _ => false) c)) 1 ∧ Below B w w' := by
  have hE : accE 2 (fun _ => none) 0 c = 0 := by rw [accE_eq 2 _ 0 c c1 c2 (by decide)]; rfl
  refine (accepts_any B bc 2 (fun _ => none) 0 c w hck (fun t h q => by cases q) hw (by decide) (by decide) (by decide)).mono ?_
  rintro e w' ⟨rfl, h2, hb⟩
  rw [hE] at *
  exact ⟨rfl, h2, hb⟩
theorem next_any (B bc : Nat) (h : Hst) (c : Int) (w : World) (hck : CkW w B bc 7 2 (mc h) 1) (hw : KW w) (c1 : 1 ≤ c) (c2 : c ≤ 999999) (hh : 1 ≤ h.1 ∧ h.1 ≤ 999999) (u : Bool) (hu : usedB h.1 h.2 c 2 = u) :
    Calls Tryd.prog 22 #[.pointer (some ⟨bc, 0, none⟩), .int .i64 c] w fun e w' => e = .returned (.int .i64 (if u then 15 else 0)) ∧ CkW w' B bc 7 2 (mc (if u then h else newH h c)) 1 ∧ Below B w w' := by
  have hus : usedM (mc h) card0 c 2 = u := by unfold usedM; rw [mc_hist, mc_at, ← hu]; rfl
  have hE : accE 2 (mc h) 1 c = if u then 15 else 0 := by rw [accE_eq 2 _ 1 c c1 c2 (by decide), hus]
  refine (accepts_any B bc 2 (mc h) 1 c w hck (mc_good hh) hw (by decide) (by decide) (by decide)).mono ?_
  rintro e w' ⟨rfl, h2, hb⟩
  rw [hE, mc_hist, mc_upd, mc_at] at *
  cases u
  · exact ⟨rfl, h2, hb⟩
  · exact ⟨rfl, h2, hb⟩
theorem mac_apart : mkV 7 card0 10 100 eurS ⟨#[]⟩ ≠ mkV 7 card0 11 100 eurS ⟨#[]⟩ := by
  decide +kernel
def card9 : ByteArray := ⟨#[52, 49, 49, 49, 49, 49, 49, 49, 49, 49, 49, 49, 49, 49, 49, 50]⟩
def z0 : Hst := (0, fun _ => false)
theorem h1g : 1 ≤ (newH z0 5).1 ∧ (newH z0 5).1 ≤ 999999 := by decide
theorem h2g : 1 ≤ (newH (newH z0 5) 3).1 ∧ (newH (newH z0 5) 3).1 ≤ 999999 := by decide
theorem h3g : 1 ≤ (newH (newH (newH z0 5) 3) 9).1 ∧ (newH (newH (newH z0 5) 3) 9).1 ≤ 999999 := by decide
theorem h4g : 1 ≤ (newH (newH (newH (newH z0 5) 3) 9) 7).1 ∧ (newH (newH (newH (newH z0 5) 3) 9) 7).1 ≤ 999999 := by decide
set_option maxRecDepth 100000 in
set_option maxHeartbeats 3200000 in
theorem awake_any (w : World) (hw : KW w) : Calls Tryd.prog 9 #[] w fun e w' => e = .returned (.bool true) ∧ Below w.heap.size w w' := by
  have HKW := Lib.hid hw
  have HNEW := Lib.hid (new_ok 7 2 w (by decide) (by decide))
  have HC : Hid (∀ W, Calls Tryd.prog 20 #[.int .u8 0] W fun e w' => e = .returned (.string card0) ∧ W = w') := Lib.hid (fun W => card_any 0 W (by decide))
  have HC1 : Hid (∀ W, Calls Tryd.prog 20 #[.int .u8 1] W fun e w' => e = .returned (.string card1) ∧ W = w') := Lib.hid (fun W => card_any 1 W (by decide))
  have HE := Lib.hid (fun W => eur_any 100 W)
  have HM := Lib.hid (fun W hW => make_any 7 card0 10 100 eurS ⟨#[]⟩ W hW (by decide) (by decide) (by decide) (by decide))
  have HM9 := Lib.hid (fun W hW => make_any 7 card9 10 100 eurS ⟨#[]⟩ W hW (by decide) (by decide) (by decide) (by decide))
  have hv16 : (mkV 7 card0 10 100 eurS ⟨#[]⟩).size = 16 := by
    unfold mkV
    rw [if_pos (mkE_card0 10 (by decide) (by decide))]
    exact textS_size _
  have hck19 : ∀ m sz, ckE 7 2 m sz card0 11 100 eurS ⟨#[]⟩ (mkV 7 card0 10 100 eurS ⟨#[]⟩) = 19 := fun m sz => by
    unfold ckE
    rw [mkE_card0 11 (by decide) (by decide), if_neg (by simp), if_pos mac_apart]
  have HK := Lib.hid (fun B bc m sz W h1 hg h2 h3 => check_any B bc 7 2 m sz card0 11 100 eurS ⟨#[]⟩ (mkV 7 card0 10 100 eurS ⟨#[]⟩) W h1 hg h2 (by decide) (by decide) (by decide) (by decide) (by decide) (by decide) (by rw [hv16]; decide) h3)
  simp only [hck19] at HK
  unfold MkPost at HM HM9
  rw [mkE_card0 10 (by decide) (by decide)] at HM
  rw [show mkE card9 10 100 eurS ⟨#[]⟩ = 17 by unfold mkE; rw [if_pos (by decide)]] at HM9
  clear hck19
  generalize mkV 7 card0 10 100 eurS ⟨#[]⟩ = V at *
  generalize mkV 7 card9 10 100 eurS ⟨#[]⟩ = V9 at *
  have hvI : ((V.size : Nat) : Int) = 16 := by omega
  clear hv16
  clear hw
  go_enter Tryd.func9, Tryd.ntmps9
  go_wp2_with fail
  refine HNEW.out.mono ?_
  rintro e w1 ⟨bc, rfl, hck, hb⟩
  have HB := Lib.hid hb
  have HCK := Lib.hid hck
  clear hck hb
  go_wp2_with fail
  refine (first_any _ bc 5 _ HCK.out (HKW.out.below HB.out) (by decide) (by decide)).mono ?_
  rintro e w2 ⟨rfl, hck, hb⟩
  have HB := Lib.hid (HB.out.trans hb)
  have HCK := Lib.hid hck
  clear hck hb
  go_wp2_with fail
  refine (HC.out _).mono ?_
  rintro e w3 ⟨rfl, rfl⟩
  go_wp2_with fail
  refine (last_any _ bc 7 2 (mc (newH z0 5)) 1 card0 _ HCK.out (by decide)).mono ?_
  rintro e w4 ⟨rfl, rfl⟩
  have hl : lastM (mc (newH z0 5)) card0 = 5 := by unfold lastM; rw [mc_hist]; rfl
  rw [hl]
  clear hl
  go_wp2_with fail
  refine (next_any _ bc (newH z0 5) 5 _ HCK.out (HKW.out.below HB.out) (by decide) (by decide) h1g true (by decide)).mono ?_
  rintro e w3 ⟨rfl, hck, hb⟩
  have HB := Lib.hid (HB.out.trans hb)
  have HCK : Hid (CkW w3 _ bc 7 2 (mc (newH z0 5)) 1) := Lib.hid hck
  clear hck hb
  go_wp2_with fail
  refine (next_any _ bc (newH z0 5) 3 _ HCK.out (HKW.out.below HB.out) (by decide) (by decide) h1g false (by decide)).mono ?_
  rintro e w3 ⟨rfl, hck, hb⟩
  have HB := Lib.hid (HB.out.trans hb)
  have HCK : Hid (CkW w3 _ bc 7 2 (mc (newH (newH z0 5) 3)) 1) := Lib.hid hck
  clear hck hb
  go_wp2_with fail
  refine (next_any _ bc (newH (newH z0 5) 3) 2 _ HCK.out (HKW.out.below HB.out) (by decide) (by decide) h2g true (by decide)).mono ?_
  rintro e w3 ⟨rfl, hck, hb⟩
  have HB := Lib.hid (HB.out.trans hb)
  have HCK : Hid (CkW w3 _ bc 7 2 (mc (newH (newH z0 5) 3)) 1) := Lib.hid hck
  clear hck hb
  go_wp2_with fail
  refine (next_any _ bc (newH (newH z0 5) 3) 9 _ HCK.out (HKW.out.below HB.out) (by decide) (by decide) h2g false (by decide)).mono ?_
  rintro e w3 ⟨rfl, hck, hb⟩
  have HB := Lib.hid (HB.out.trans hb)
  have HCK : Hid (CkW w3 _ bc 7 2 (mc (newH (newH (newH z0 5) 3) 9)) 1) := Lib.hid hck
  clear hck hb
  go_wp2_with fail
  refine (next_any _ bc (newH (newH (newH z0 5) 3) 9) 6 _ HCK.out (HKW.out.below HB.out) (by decide) (by decide) h3g true (by decide)).mono ?_
  rintro e w3 ⟨rfl, hck, hb⟩
  have HB := Lib.hid (HB.out.trans hb)
  have HCK : Hid (CkW w3 _ bc 7 2 (mc (newH (newH (newH z0 5) 3) 9)) 1) := Lib.hid hck
  clear hck hb
  go_wp2_with fail
  refine (next_any _ bc (newH (newH (newH z0 5) 3) 9) 7 _ HCK.out (HKW.out.below HB.out) (by decide) (by decide) h3g false (by decide)).mono ?_
  rintro e w3 ⟨rfl, hck, hb⟩
  have HB := Lib.hid (HB.out.trans hb)
  have HCK : Hid (CkW w3 _ bc 7 2 (mc (newH (newH (newH (newH z0 5) 3) 9) 7)) 1) := Lib.hid hck
  clear hck hb
  go_wp2_with fail
  refine (HC.out _).mono ?_
  rintro e w4 ⟨rfl, rfl⟩
  go_wp2_with fail
  refine (HE.out _).mono ?_
  rintro e w4 ⟨rfl, hb⟩
  have HCK := Lib.hid (HCK.out.below hb)
  have HB := Lib.hid (HB.out.trans (hb.mono HB.out.size))
  clear hb
  go_wp2_with fail
  refine (HM.out _ (HKW.out.below HB.out)).mono ?_
  rintro e w4 ⟨rfl, hb⟩
  have HCK := Lib.hid (HCK.out.below hb)
  have HB := Lib.hid (HB.out.trans (hb.mono HB.out.size))
  clear hb
  go_wp2_with fail
  refine (HE.out _).mono ?_
  rintro e w4 ⟨rfl, hb⟩
  have HCK := Lib.hid (HCK.out.below hb)
  have HB := Lib.hid (HB.out.trans (hb.mono HB.out.size))
  clear hb
  go_wp2_with fail
  refine (HM9.out _ (HKW.out.below HB.out)).mono ?_
  rintro e w4 ⟨rfl, hb⟩
  have HCK := Lib.hid (HCK.out.below hb)
  have HB := Lib.hid (HB.out.trans (hb.mono HB.out.size))
  clear hb
  go_wp2_with fail
  refine (HC.out _).mono ?_
  rintro e w4 ⟨rfl, rfl⟩
  go_wp2_with fail
  refine (HE.out _).mono ?_
  rintro e w4 ⟨rfl, hb⟩
  have HCK := Lib.hid (HCK.out.below hb)
  have HB := Lib.hid (HB.out.trans (hb.mono HB.out.size))
  clear hb
  go_wp2_with fail
  refine (HK.out _ bc _ 1 _ HCK.out (mc_good h4g) (HKW.out.below HB.out) (by decide)).mono ?_
  rintro e w4 ⟨rfl, hck, hb⟩
  have HB := Lib.hid (HB.out.trans hb)
  have HCK : Hid (CkW w4 _ bc 7 2 (mc (newH (newH (newH (newH z0 5) 3) 9) 7)) 1) := Lib.hid hck
  clear hck hb
  go_wp2_with fail
  refine (HC.out _).mono ?_
  rintro e w4 ⟨rfl, rfl⟩
  go_wp2_with fail
  refine (usedM_any _ bc 7 2 (mc (newH (newH (newH (newH z0 5) 3) 9) 7)) 1 card0 6 _ HCK.out (mc_good h4g) (by decide) (by decide) (by decide) (by decide)).mono ?_
  rintro e w4 ⟨rfl, hb⟩
  have HCK := Lib.hid (HCK.out.below hb)
  have HB := Lib.hid (HB.out.trans (hb.mono HB.out.size))
  clear hb
  rw [show usedM (mc (newH (newH (newH (newH z0 5) 3) 9) 7)) card0 6 2 = true by decide]
  go_wp2_with fail
  refine (HC.out _).mono ?_
  rintro e w4 ⟨rfl, rfl⟩
  go_wp2_with fail
  refine (usedM_any _ bc 7 2 (mc (newH (newH (newH (newH z0 5) 3) 9) 7)) 1 card0 8 _ HCK.out (mc_good h4g) (by decide) (by decide) (by decide) (by decide)).mono ?_
  rintro e w4 ⟨rfl, hb⟩
  have HCK := Lib.hid (HCK.out.below hb)
  have HB := Lib.hid (HB.out.trans (hb.mono HB.out.size))
  clear hb
  rw [show usedM (mc (newH (newH (newH (newH z0 5) 3) 9) 7)) card0 8 2 = false by decide]
  go_wp2_with fail
  refine (HC1.out _).mono ?_
  rintro e w4 ⟨rfl, rfl⟩
  go_wp2_with fail
  refine (usedM_any _ bc 7 2 (mc (newH (newH (newH (newH z0 5) 3) 9) 7)) 1 card1 1 _ HCK.out (mc_good h4g) (by decide) (by decide) (by decide) (by decide)).mono ?_
  rintro e w4 ⟨rfl, hb⟩
  have HCK := Lib.hid (HCK.out.below hb)
  have HB := Lib.hid (HB.out.trans (hb.mono HB.out.size))
  clear hb
  rw [show usedM (mc (newH (newH (newH (newH z0 5) 3) 9) 7)) card1 1 2 = false by decide]
  go_wp2_with fail
  go_ret
  exact ⟨rfl, HB.out⟩
end Go.Proofs.YtodlholfhgicoaaDoor
