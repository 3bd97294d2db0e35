/- Small functions: card, eur, the reference's New, accepts. -/
import Derived.Test.YtodlholfhgicoaaDoorChk2
namespace Go.Proofs.YtodlholfhgicoaaDoor
set_option linter.unusedVariables false
open Go.RowKit Go.Sort Go.Maps

def card0 : ByteArray := ⟨#[52, 49, 49, 49, 49, 49, 49, 49, 49, 49, 49, 49, 49, 49, 49, 49]⟩
def card1 : ByteArray := ⟨#[52, 48, 48, 48, 48, 48, 48, 48, 48, 48, 48, 48, 48, 48, 55, 55]⟩
def card2 : ByteArray := ⟨#[52, 48, 48, 48, 48, 48, 48, 48, 48, 48, 48, 48, 48, 48, 48, 50]⟩
def card3 : ByteArray := ⟨#[48, 48, 48, 48, 48, 48, 48, 48, 48, 48, 48, 48]⟩
def cardS (n : Nat) : ByteArray := if n % 4 = 1 then card1 else if n % 4 = 2 then card2 else if n % 4 = 3 then card3 else card0
def eurS : ByteArray := ⟨#[69, 85, 82]⟩
theorem card_any (n : Nat) (w : World) (hn : n < 256) : Calls Tryd.prog 20 #[.int .u8 n] w fun e w' => e = .returned (.string (cardS n)) ∧ w = w' := by
  have hm : (n : Int).tmod 4 = ((n % 4 : Nat) : Int) := by rw [Int.tmod_eq_emod_of_nonneg (by omega)]; omega
  have HS : Hid (cardS n = if n % 4 = 1 then card1 else if n % 4 = 2 then card2 else if n % 4 = 3 then card3 else card0) := Lib.hid rfl
  have h4 : n % 4 < 4 := Nat.mod_lt _ (by decide)
  generalize hk : n % 4 = k at *
  have hc : k = 0 ∨ k = 1 ∨ k = 2 ∨ k = 3 := by omega
  have hw : IntKind.u8.wrap ((n : Int).tmod 4) = (k : Int) := by rw [hm]; rcases hc with rfl | rfl | rfl | rfl <;> rfl
  clear h4
  rcases hc with rfl | rfl | rfl | rfl
  all_goals
    go_enter Tryd.func20, Tryd.ntmps20
    go_wp2_with fail
    go_ret
    exact ⟨by rw [HS.out]; rfl, rfl⟩
set_option maxRecDepth 100000 in
theorem eur_any (a : Int) (w : World) : Calls Tryd.prog 21 #[.int .i64 a] w fun e w' => e = .returned (.agg #[.int .i64 a, .string eurS]) ∧ Below w.heap.size w w' := by
  have HA := Lib.hid (alloc_lt w (.cells #[.int .i64 a, .string eurS] 24))
  go_enter Tryd.func21, Tryd.ntmps21
  go_wp2_with fail
  refine bodyPost_ret (v := .agg #[.int .i64 a, .string eurS]) ?_ rfl ⟨rfl, HA.out⟩
  exact results_cell_row (show Tryd.f21.results = #[.cell 2 24] by kernel_rfl) _ _ w.heap.size 24 #[.int .i64 a, .string eurS] (0, 0) _ rfl (heap_alloc_new _ _) Tryd.underlying24 rfl (by kernel_rfl)
def RNewPost (key : Nat) (win : Int) (w : World) (e : Ending) (w' : World) : Prop := e = .returned (.tuple #[.pointer (some ⟨w.heap.size, 0, none⟩), .int .i64 0]) ∧ w' = w.alloc (.cells #[.int .u64 key, .int .i64 win, .slice none 0 0, .slice none 0 0] 68)
set_option maxRecDepth 100000 in
theorem rnew_ok (key : Nat) (win : Int) (w : World) (h0 : 0 ≤ win) (h1 : win ≤ 63) : Calls Tryd.prog 13 #[.int .u64 key, .int .i64 win] w fun e w' => e = .returned (.tuple #[.pointer (some ⟨w.heap.size, 0, none⟩), .int .i64 0]) ∧ Below w.heap.size w w' := by
  have h0' : ¬ win < 0 := by omega
  have h1' : ¬ 63 < win := by omega
  go_enter Tryd.func13, Tryd.ntmps13
  go_wp2_with fail
  go_ret2
  exact ⟨rfl, alloc_lt _ _⟩
set_option maxRecDepth 100000 in
theorem rnew_bad (key : Nat) (win : Int) (w : World) (h0 : win < 0 ∨ 63 < win) : Calls Tryd.prog 13 #[.int .u64 key, .int .i64 win] w fun e w' => e = .returned (.tuple #[.pointer none, .int .i64 4]) ∧ w = w' := by
  have hc : win < 0 ∨ (¬ win < 0 ∧ 63 < win) := by omega
  clear h0
  rcases hc with h | ⟨h, h'⟩
  all_goals
    go_enter Tryd.func13, Tryd.ntmps13
    go_wp2_with fail
    go_ret2
    exact ⟨rfl, rfl⟩
theorem mkV_size (k : Nat) (token : ByteArray) (c a : Int) (cur nonce : ByteArray) : (mkV k token c a cur nonce).size ≤ maxLen := by
  unfold mkV
  split
  · unfold mkS; rw [textS_size]; decide
  · decide
/-- What accepts answers. -/
def accE (win : Int) (m : ByteArray → Option Hst) (sz : Nat) (c : Int) : Int := ckE 7 win m sz card0 c 100 eurS ⟨#[]⟩ (mkV 7 card0 c 100 eurS ⟨#[]⟩)
set_option maxRecDepth 100000 in
theorem accepts_any (B bc : Nat) (win : Int) (m : ByteArray → Option Hst) (sz : Nat) (c : Int) (w : World) (hck : CkW w B bc 7 win m sz) (hg : GoodM m) (hw : KW w) (w0 : 0 ≤ win) (w1 : win ≤ 63) (hsz : sz ≤ 64) :
    Calls Tryd.prog 22 #[.pointer (some ⟨bc, 0, none⟩), .int .i64 c] w (CkPost B bc 7 win m sz card0 c (accE win m sz c) w) := by
  have HBW : Hid (B ≤ w.heap.size) := Lib.hid (by obtain ⟨_, q1, _, q, _⟩ := hck; have := (Array.getElem?_eq_some_iff.1 q).1; omega)
  have HCK := Lib.hid hck
  have HKW := Lib.hid hw
  have HC : Hid (∀ W, Calls Tryd.prog 20 #[.int .u8 0] W fun e w' => e = .returned (.string card0) ∧ W = w') := Lib.hid (fun W => card_any 0 W (by decide))
  have HE := Lib.hid (fun W => eur_any 100 W)
  have HM := Lib.hid (fun W hW => make_any 7 card0 c 100 eurS ⟨#[]⟩ W hW (by decide) (by decide) (by decide) (by decide))
  have hvz : (mkV 7 card0 c 100 eurS ⟨#[]⟩).size ≤ maxLen := mkV_size ..
  have HK := Lib.hid (fun W h1 h2 => check_any B bc 7 win m sz card0 c 100 eurS ⟨#[]⟩ (mkV 7 card0 c 100 eurS ⟨#[]⟩) W h1 hg h2 (by decide) w0 w1 (by decide) (by decide) (by decide) hvz hsz)
  have HAE : Hid (ckE 7 win m sz card0 c 100 eurS ⟨#[]⟩ (mkV 7 card0 c 100 eurS ⟨#[]⟩) = accE win m sz c) := Lib.hid rfl
  unfold MkPost at HM
  rw [HAE.out] at HK
  generalize mkV 7 card0 c 100 eurS ⟨#[]⟩ = V at *
  clear HAE
  generalize mkE card0 c 100 eurS ⟨#[]⟩ = E at *
  generalize accE win m sz c = R at *
  clear hck hw hvz hg
  go_enter Tryd.func22, Tryd.ntmps22
  go_wp2_with fail
  refine (HC.out _).mono ?_
  rintro e w1 ⟨rfl, rfl⟩
  go_wp2_with fail
  refine (HE.out _).mono ?_
  rintro e w2 ⟨rfl, hb⟩
  have HB2 := Lib.hid hb
  clear hb
  go_wp2_with fail
  refine (HM.out _ (HKW.out.below HB2.out)).mono ?_
  rintro e w3 ⟨rfl, hb⟩
  have HB3 := Lib.hid (HB2.out.trans (hb.mono HB2.out.size))
  clear hb
  go_wp2_with fail
  refine (HC.out _).mono ?_
  rintro e w4 ⟨rfl, rfl⟩
  go_wp2_with fail
  refine (HE.out _).mono ?_
  rintro e w4 ⟨rfl, hb⟩
  have HB4 := Lib.hid (HB3.out.trans (hb.mono HB3.out.size))
  clear hb
  go_wp2_with fail
  refine (HK.out _ (HCK.out.below HB4.out) (HKW.out.below HB4.out)).mono ?_
  rintro e w5 ⟨rfl, h5, hb⟩
  go_wp2_with fail
  go_ret
  exact ⟨rfl, h5, (HB4.out.mono HBW.out).trans hb⟩
end Go.Proofs.YtodlholfhgicoaaDoor
