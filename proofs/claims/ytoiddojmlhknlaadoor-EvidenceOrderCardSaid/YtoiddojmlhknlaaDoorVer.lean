/- The walk of Verify. -/
import Derived.Test.YtoiddojmlhknlaaDoorMiss2
namespace Go.Proofs.YtoiddojmlhknlaaDoor
set_option linter.unusedVariables false
open Go.RowKit Go.Maps

def descI (k c : ByteArray) : Itm := if descE k c = 0 then ⟨k, c.size, fnv H0 c.data.toList⟩ else ⟨⟨#[]⟩, 0, 0⟩
theorem descV_val (k c : ByteArray) : descV k c = .agg #[.string (descI k c).k, .int .i64 (descI k c).n, .int .u64 (descI k c).h] := by
  unfold descV descI; split <;> rfl
def verB (l : List Itm) (k c : ByteArray) : Bool := decide (descE k c = 0) && hasI l (descI k c)
set_option maxHeartbeats 1600000 in
theorem verify_any (B bf : Nat) (ob : Option Nat) (l : List Itm) (k c : ByteArray) (w : World) (hf : FolderW w B bf ob l) (hl : l.length ≤ 1000) (hk : k.size ≤ maxLen) (hc : c.size ≤ maxLen) :
    Calls Tryd.prog 20 #[.pointer (some ⟨bf, 0, none⟩), .string k, .string c] w fun e w' => e = .returned (.bool (verB l k c)) ∧ Below w.heap.size w w' := by
  have hd := Lib.hid (describe_any k c w hk hc)
  have HF := Lib.hid hf
  clear hf
  go_enter Tryd.func20, Tryd.ntmps20
  go_wp2_with fail
  refine hd.out.mono ?_
  rintro e w1 ⟨rfl, hb⟩
  have HB := Lib.hid hb
  have hv := descV_val k c
  have hvb := Lib.hid (show verB l k c = (decide (descE k c = 0) && hasI l (descI k c)) from rfl)
  have HF1 := Lib.hid (HF.out.below HB.out)
  clear hb
  rw [hv]
  clear hv
  obtain ⟨A, cc, hblk, hob, hrow, hlc, hown⟩ := HF1.out.open_
  have hb1 : Hid (Below w.heap.size w (w1.alloc (.cells #[.string (descI k c).k, .int .i64 (descI k c).n, .int .u64 (descI k c).h] 35))) := Lib.hid (HB.out.alloc HB.out.size _)
  have hcon := Lib.hid (fun n => contains_any A cc l (descI k c) ((w1.alloc (.cells #[.string (descI k c).k, .int .i64 (descI k c).n, .int .u64 (descI k c).h] 35)).drewN n)
    ((hrow.below ((Below.refl _ _).alloc (Nat.le_refl _) _)).below (below_drewN (Below.refl _ _) n)) hl hlc)
  unfold Itm.val at hcon
  have hlt := HF1.out.lt
  have c0 : (w1.alloc (.cells #[.string (descI k c).k, .int .i64 (descI k c).n, .int .u64 (descI k c).h] 35)).cell? ⟨bf, 0, none⟩ = some (.slice A l.length cc) :=
    (World.cell?_alloc_lt w1 _ ⟨bf, 0, none⟩ hlt).trans (cell_blk hblk).1
  clear hblk hob hrow hown
  generalize descI k c = x at *
  cases hz : decide (descE k c = 0)
  · have hz2 : (((descE k c : Nat) : Int) == 0) = false := by
      have := of_decide_eq_false hz
      exact beq_eq_false_iff_ne.2 (by omega)
    have HZ := Lib.hid hz
    clear hz
    generalize descE k c = ec at *
    go_wp2_with fail
    go_quiet (fail)
    go_wp2_with fail
    go_ret
    exact ⟨by rw [hvb.out, HZ.out]; rfl, below_drewN hb1.out _⟩
  · have hz3 := of_decide_eq_true hz
    have HZ := Lib.hid hz
    clear hz
    rw [hz3]
    clear hz3
    have x0 : (w1.alloc (.cells #[.string x.k, .int .i64 x.n, .int .u64 x.h] 35)).cell? ⟨w1.heap.size, 0, none⟩ = some (.string x.k) := by simp
    have x1 : (w1.alloc (.cells #[.string x.k, .int .i64 x.n, .int .u64 x.h] 35)).cell? ⟨w1.heap.size, 1, none⟩ = some (.int .i64 x.n) := by simp
    have x2 : (w1.alloc (.cells #[.string x.k, .int .i64 x.n, .int .u64 x.h] 35)).cell? ⟨w1.heap.size, 2, none⟩ = some (.int .u64 x.h) := by simp
    go_wp2_with fail
    generalize (w1.alloc (.cells #[.string x.k, .int .i64 x.n, .int .u64 x.h] 35)) = w2 at *
    go_still_tail 8, (by kernel_rfl)
    change wpList _ _ _ _ _ (w2.drewN 1)
    go_wp2_with fail
    refine (hcon.out 1).mono ?_
    rintro e w3 ⟨rfl, hb3⟩
    have HB3 := Lib.hid (hb1.out.trans ((below_drewN (Below.refl _ _) 1).trans (hb3.mono hb1.out.size)))
    clear hb3
    go_wp2_with fail
    go_ret
    exact ⟨by rw [hvb.out, HZ.out]; rfl, HB3.out⟩
end Go.Proofs.YtoiddojmlhknlaaDoor
