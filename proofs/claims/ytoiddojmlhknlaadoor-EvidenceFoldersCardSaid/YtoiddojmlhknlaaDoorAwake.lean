/- The examples of the chapter, walked; the walk of EvidenceItems. -/
import Derived.Test.YtoiddojmlhknlaaDoorVer
namespace Go.Proofs.YtoiddojmlhknlaaDoor
set_option linter.unusedVariables false
open Go.RowKit Go.Maps

theorem below2 {a b c : World} (h : Below a.heap.size a b) (k : Below b.heap.size b c) : Below a.heap.size a c := h.trans (k.mono h.size)
def sLetter : ByteArray := ⟨#[108, 101, 116, 116, 101, 114]⟩
def sAbc : ByteArray := ⟨#[97, 98, 99]⟩
def sAbd : ByteArray := ⟨#[97, 98, 100]⟩
def sPhoto : ByteArray := ⟨#[112, 104, 111, 116, 111]⟩
def hAbc : Int := 16654208175385433931
def IT : Itm := ⟨sLetter, 3, 16654208175385433931⟩
theorem ex_desc (w : World) : Calls Tryd.prog 22 #[.string ⟨#[108, 101, 116, 116, 101, 114]⟩, .string ⟨#[97, 98, 99]⟩] w fun e w' => e = .returned (.tuple #[.agg #[.string ⟨#[108, 101, 116, 116, 101, 114]⟩, .int .i64 3, .int .u64 16654208175385433931], .int .i64 0]) ∧ Below w.heap.size w w' :=
  (describe_any ⟨#[108, 101, 116, 116, 101, 114]⟩ ⟨#[97, 98, 99]⟩ w (by decide) (by decide)).mono fun e w' ⟨h1, h2⟩ => ⟨h1.trans (congrArg Ending.returned (by kernel_rfl)), h2⟩
theorem ex_add (bf : Nat) (w : World) (hf : FolderW w bf bf none []) : Calls Tryd.prog 10 #[.pointer (some ⟨bf, 0, none⟩), .agg #[.string ⟨#[108, 101, 116, 116, 101, 114]⟩, .int .i64 3, .int .u64 16654208175385433931]] w fun e w' =>
    e = .returned (.int .i64 0) ∧ Only (fun k => k = bf) w w' ∧ ∃ ob, FolderW w' bf bf ob [IT] := by
  have h := add_any bf bf none [] IT w hf (Nat.le_of_lt hf.lt) (by decide) (by decide)
  refine h.mono ?_
  rintro e w' ⟨rfl, hO, ob, hf', _⟩
  have e0 : addE [] IT = 0 := by decide +kernel
  refine ⟨by rw [e0]; rfl, hO.mono (fun k _ hk => by rcases hk with hk | hk; exact hk; cases hk), ob, ?_⟩
  have e1 : addL [] IT = [IT] := by unfold addL; rw [if_pos e0]; rfl
  rw [e1] at hf'
  exact hf'
theorem ex_ver1 (bf : Nat) (ob : Option Nat) (w : World) (hf : FolderW w bf bf ob [IT]) : Calls Tryd.prog 20 #[.pointer (some ⟨bf, 0, none⟩), .string ⟨#[108, 101, 116, 116, 101, 114]⟩, .string ⟨#[97, 98, 99]⟩] w fun e w' => e = .returned (.bool true) ∧ Below w.heap.size w w' :=
  (verify_any bf bf ob [IT] ⟨#[108, 101, 116, 116, 101, 114]⟩ ⟨#[97, 98, 99]⟩ w hf (by decide) (by decide) (by decide)).mono fun e w' ⟨h1, h2⟩ => ⟨h1.trans (by rw [show verB [IT] ⟨#[108, 101, 116, 116, 101, 114]⟩ ⟨#[97, 98, 99]⟩ = true by decide +kernel]), h2⟩
theorem ex_ver2 (bf : Nat) (ob : Option Nat) (w : World) (hf : FolderW w bf bf ob [IT]) : Calls Tryd.prog 20 #[.pointer (some ⟨bf, 0, none⟩), .string ⟨#[108, 101, 116, 116, 101, 114]⟩, .string ⟨#[97, 98, 100]⟩] w fun e w' => e = .returned (.bool false) ∧ Below w.heap.size w w' :=
  (verify_any bf bf ob [IT] ⟨#[108, 101, 116, 116, 101, 114]⟩ ⟨#[97, 98, 100]⟩ w hf (by decide) (by decide) (by decide)).mono fun e w' ⟨h1, h2⟩ => ⟨h1.trans (by rw [show verB [IT] ⟨#[108, 101, 116, 116, 101, 114]⟩ ⟨#[97, 98, 100]⟩ = false by decide +kernel]), h2⟩
def MissEx (w : World) (e : Ending) (w' : World) : Prop := ∃ b off c, e = .returned (.slice (some ⟨b, off, none⟩) 1 c) ∧ w'.cell? ⟨b, off, none⟩ = some (.string ⟨#[112, 104, 111, 116, 111]⟩) ∧ 1 ≤ c ∧ Below w.heap.size w w'
theorem ex_miss (bf b : Nat) (ob : Option Nat) (w : World) (hf : FolderW w bf bf ob [IT]) (h0 : w.cell? ⟨b, 0, none⟩ = some (.string ⟨#[108, 101, 116, 116, 101, 114]⟩)) (h1 : w.cell? ⟨b, 1, none⟩ = some (.string ⟨#[112, 104, 111, 116, 111]⟩)) (h2 : w.cell? ⟨b, 2, none⟩ = some (.string ⟨#[112, 104, 111, 116, 111]⟩)) :
    Calls Tryd.prog 18 #[.pointer (some ⟨bf, 0, none⟩), .slice (some ⟨b, 0, none⟩) 3 3] w (MissEx w) := by
  have h := missing_any bf bf ob [IT] [⟨#[108, 101, 116, 116, 101, 114]⟩, ⟨#[112, 104, 111, 116, 111]⟩, ⟨#[112, 104, 111, 116, 111]⟩] (some ⟨b, 0, none⟩) 3 w hf (by decide) (by decide)
    (.inr ⟨b, 0, rfl, fun j v hj => by
      match j with
      | 0 => simp [strsOf] at hj; subst hj; exact h0
      | 1 => simp [strsOf] at hj; subst hj; exact h1
      | 2 => simp [strsOf] at hj; subst hj; exact h2
      | j + 3 => simp [strsOf] at hj⟩) (by decide) (by decide)
  refine h.mono ?_
  rintro e w' ⟨A, c, he, hr, hc, hb⟩
  have em : missL (ksOf [IT]) [⟨#[108, 101, 116, 116, 101, 114]⟩, ⟨#[112, 104, 111, 116, 111]⟩, ⟨#[112, 104, 111, 116, 111]⟩] = [⟨#[112, 104, 111, 116, 111]⟩] := by rfl
  rw [em] at he hr hc
  rcases hr with hr | ⟨b', off, rfl, hr⟩
  · simp [strsOf] at hr
  · exact ⟨b', off, c, he, hr 0 _ rfl, hc, hb⟩
set_option maxHeartbeats 1600000 in
theorem awake_any (w : World) : Calls Tryd.prog 7 #[] w fun e w' => e = .returned (.bool true) ∧ Below w.heap.size w w' := by
  go_enter Tryd.func7, Tryd.ntmps7
  go_wp2_with fail
  refine (ex_desc _).mono ?_
  rintro e w1 ⟨rfl, hb1⟩
  have HB1 := Lib.hid hb1
  clear hb1
  go_wp2_with fail
  refine (new_any _).mono ?_
  rintro e w2 ⟨rfl, hf2, hb2⟩
  have hsz : (w1.alloc (.cells #[.string ⟨#[108, 101, 116, 116, 101, 114]⟩, .int .i64 3, .int .u64 16654208175385433931] 35)).heap.size = w1.heap.size + 1 := by simp
  rw [hsz] at hf2
  clear hsz
  have HF2 := Lib.hid hf2
  have HB2 := Lib.hid (((HB1.out.alloc HB1.out.size (.cells #[.string ⟨#[108, 101, 116, 116, 101, 114]⟩, .int .i64 3, .int .u64 16654208175385433931] 35))).trans (hb2.mono (by have := HB1.out.size; simp; omega)))
  have HW : Hid (w2.heap[w1.heap.size]? = some (.cells #[.string ⟨#[108, 101, 116, 116, 101, 114]⟩, .int .i64 3, .int .u64 16654208175385433931] 35)) := Lib.hid (by
    rw [hb2.block _ (by simp)]; exact heap_alloc_new w1 _)
  have x0 : w2.cell? ⟨w1.heap.size, 0, none⟩ = some (.string ⟨#[108, 101, 116, 116, 101, 114]⟩) := by simp [World.cell?, HW.out]
  have x1 : w2.cell? ⟨w1.heap.size, 1, none⟩ = some (.int .i64 3) := by simp [World.cell?, HW.out]
  have x2 : w2.cell? ⟨w1.heap.size, 2, none⟩ = some (.int .u64 16654208175385433931) := by simp [World.cell?, HW.out]
  clear hf2 hb2
  go_wp2_with fail
  refine (ex_add _ _ HF2.out).mono ?_
  rintro e w3 ⟨rfl, hO, ob, hf3⟩
  have HB3 : Hid (Below w.heap.size w w3) := Lib.hid (HB2.out.trans (hO.below _ HB2.out.size (fun k hk e => by have := HB1.out.size; omega)))
  have HF3 := Lib.hid hf3
  clear hO hf3 x0 x1 x2
  go_wp2_with fail
  refine (ex_miss _ _ ob _ (HF3.out.below ((Below.refl _ _).alloc (Nat.le_refl _) _)) (by rw [World.cell?_alloc_mark]; rfl) (by rw [World.cell?_alloc_mark]; rfl) (by rw [World.cell?_alloc_mark]; rfl)).mono ?_
  rintro e w4 ⟨b, off, c, rfl, hc4, hle, hb4⟩
  have HB34 := Lib.hid ((Joins.below_alloc1 w3 _).trans (hb4.mono (by simp)))
  have HB4 := Lib.hid (HB3.out.trans (HB34.out.mono HB3.out.size))
  have HF4 := Lib.hid (HF3.out.below HB34.out)
  clear hb4
  go_wp2_with fail
  refine (ex_ver1 _ ob _ HF4.out).mono ?_
  rintro e w5 ⟨rfl, hb5⟩
  have HB5 := Lib.hid (below2 HB4.out hb5)
  have HF5 := Lib.hid (HF4.out.below hb5)
  clear hb5
  go_wp2_with fail
  refine (ex_ver2 _ ob _ HF5.out).mono ?_
  rintro e w6 ⟨rfl, hb6⟩
  have HB6 := Lib.hid (below2 HB5.out hb6)
  have HF6 := Lib.hid (HF5.out.below hb6)
  clear hb6
  go_wp2_with fail
  refine (items_any _ _ ob [IT] _ HF6.out (by decide)).mono ?_
  rintro e w7 ⟨A, c7, rfl, _, _, hb7⟩
  have HB7 := Lib.hid (below2 HB6.out hb7)
  clear hb7
  go_wp2_with fail
  go_ret
  exact ⟨rfl, HB7.out⟩
end Go.Proofs.YtoiddojmlhknlaaDoor
