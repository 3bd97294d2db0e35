/- The walk of MoneyAdds. -/
import Derived.Test.YtadehobimlpmcaaDoorAwk
import Derived.Test.YtadehobimlpmcaaDoorOpen
namespace Go.Proofs.YtadehobimlpmcaaDoor
set_option linter.unusedVariables false
open Go.RowKit

def combA (p n : Int) : Int := if p = 0 then (if inT n = true then n else 0) else 0
def combS (p n : Int) (s : ByteArray) : ByteArray := if p = 0 then (if inT n = true then s else ⟨#[]⟩) else ⟨#[]⟩
theorem comb_agg (p n : Int) (s : ByteArray) : combV p n s = .agg #[.int .i64 (combA p n), .string (combS p n s)] := by
  unfold combV combA combS totV monV zeroM
  by_cases h : p = 0
  · rw [if_pos h, if_pos h, if_pos h]
    by_cases h2 : inT n = true
    · rw [if_pos h2, if_pos h2, if_pos h2]
    · rw [if_neg h2, if_neg h2, if_neg h2]
  · rw [if_neg h, if_neg h, if_neg h]
theorem keep5 {W w' : World} {b1 b3 b5 b7 b9 : Nat} {C1 C3 C5 C7 C9 : Array Value} {T : TypeId} (h : Below W.heap.size W w') (k1 : W.heap[b1]? = some (.cells C1 T)) (k3 : W.heap[b3]? = some (.cells C3 T)) (k5 : W.heap[b5]? = some (.cells C5 T)) (k7 : W.heap[b7]? = some (.cells C7 T)) (k9 : W.heap[b9]? = some (.cells C9 T)) :
    Below W.heap.size W w' ∧ w'.cell? ⟨b1, 0, none⟩ = C1[0]? ∧ w'.cell? ⟨b1, 1, none⟩ = C1[1]? ∧ w'.cell? ⟨b3, 0, none⟩ = C3[0]? ∧ w'.cell? ⟨b3, 1, none⟩ = C3[1]? ∧ w'.cell? ⟨b5, 0, none⟩ = C5[0]? ∧ w'.cell? ⟨b5, 1, none⟩ = C5[1]? ∧ w'.cell? ⟨b7, 0, none⟩ = C7[0]? ∧ w'.cell? ⟨b7, 1, none⟩ = C7[1]? ∧ w'.cell? ⟨b9, 0, none⟩ = C9[0]? ∧ w'.cell? ⟨b9, 1, none⟩ = C9[1]? :=
  ⟨h, cell_c (blk_later k1 h) 0, cell_c (blk_later k1 h) 1, cell_c (blk_later k3 h) 0, cell_c (blk_later k3 h) 1, cell_c (blk_later k5 h) 0, cell_c (blk_later k5 h) 1, cell_c (blk_later k7 h) 0, cell_c (blk_later k7 h) 1, cell_c (blk_later k9 h) 0, cell_c (blk_later k9 h) 1⟩
set_option maxRecDepth 100000 in
set_option maxHeartbeats 12800000 in
theorem moneyAdds_walk (w : World) (hw : KW w) (_ : True) (x : Mny) (hx : (Lit.int .i64 x.a).wf = true ∧ x.s.size ≤ maxLen) (y : Mny) (hy : (Lit.int .i64 y.a).wf = true ∧ y.s.size ≤ maxLen) :
    Calls Tryd.prog 7 #[x.val, y.val] w fun e w' => e = .returned (.bool true) ∧ Below w.heap.size w w' := by
  obtain ⟨a, s⟩ := x
  obtain ⟨b, t⟩ := y
  have hs : s.size ≤ maxLen := hx.2
  have ht : t.size ≤ maxLen := hy.2
  show Calls Tryd.prog 7 #[.agg #[.int .i64 a, .string s], .agg #[.int .i64 b, .string t]] w _
  have hA := fun W => add_any a s b t W hs ht
  have hB := fun W => radd_any a s b t W hs ht
  have hC := fun W => sub_any a s b t W hs ht
  have hD := fun W => rsub_any a s b t W hs ht
  have hE := fun W => mcmp_any a s b t W hs ht
  have hF := fun W => rcmp_any a s b t W hs ht
  have HG := Lib.hid (fun W => mon_any a s W hs)
  have HH := Lib.hid (fun W => rmon_any a s W hs)
  have HI := Lib.hid (fun W hW => awake_any W hW)
  have HW := Lib.hid hw
  unfold CombPost at hA hB hC hD
  unfold CmpPost at hE hF
  rw [comb_agg] at hA hB hC hD
  generalize combA (pairE a s b t) (a + b) = A1 at *
  generalize combS (pairE a s b t) (a + b) s = S1 at *
  generalize combA (pairE a s b t) (a - b) = A2 at *
  generalize combS (pairE a s b t) (a - b) s = S2 at *
  generalize combE (pairE a s b t) (a + b) = E1 at *
  generalize combE (pairE a s b t) (a - b) = E2 at *
  generalize cmpV (pairE a s b t) a b = C1 at *
  generalize pairE a s b t = PE at *
  generalize monE a s = ME at *
  have HA := Lib.hid hA
  have HB := Lib.hid hB
  have HC := Lib.hid hC
  have HD := Lib.hid hD
  have HE := Lib.hid hE
  have HF := Lib.hid hF
  clear hA hB hC hD hE hF hx hy hs ht hw
  go_enter Tryd.func7, Tryd.ntmps7
  go_wp2_with fail
  refine (HA.out _).mono ?_
  rintro e w1 ⟨rfl, hb⟩
  obtain ⟨k1, k2, hz, hb1⟩ := box2 hb
  have KA := Lib.hid k1
  have KB := Lib.hid k2
  have B1 := Lib.hid hb1
  have y0 : w.heap.size < w1.heap.size := by omega
  have a0 := cell_c k1 0
  have a1 := cell_c k1 1
  have b0 := cell_c k2 0
  have b1 := cell_c k2 1
  clear hb hb1 k1 k2
  go_wp2_with fail
  refine (HB.out _).mono ?_
  rintro e w2 ⟨rfl, hb⟩
  obtain ⟨k, z1, hb1⟩ := box1 hb
  have y2 : w.heap.size < w2.heap.size := by omega
  have x2 : w.heap.size + 1 < w2.heap.size := by omega
  have K1 := Lib.hid k
  have KA := Lib.hid (blk_later KA.out hb1)
  have KB := Lib.hid (blk_later KB.out hb1)
  have B2 := Lib.hid (B1.out.trans (hb1.mono B1.out.size))
  clear a0 a1 b0 b1
  have a0 := cell_c KA.out 0
  have a1 := cell_c KA.out 1
  have b0 := cell_c KB.out 0
  have b1 := cell_c KB.out 1
  clear hb hb1 k
  go_wp2_with fail
  refine (HC.out _).mono ?_
  rintro e w3 ⟨rfl, hb⟩
  obtain ⟨k, z2, hb1⟩ := box1 hb
  have y3 : w.heap.size < w3.heap.size := by omega
  have x3 : w.heap.size + 1 < w3.heap.size := by omega
  have K2 := Lib.hid k
  have K1 := Lib.hid (blk_later K1.out hb1)
  have KA := Lib.hid (blk_later KA.out hb1)
  have KB := Lib.hid (blk_later KB.out hb1)
  have B3 := Lib.hid (B2.out.trans (hb1.mono B2.out.size))
  clear a0 a1 b0 b1
  have a0 := cell_c KA.out 0
  have a1 := cell_c KA.out 1
  have b0 := cell_c KB.out 0
  have b1 := cell_c KB.out 1
  clear hb hb1 k
  go_wp2_with fail
  refine (HD.out _).mono ?_
  rintro e w4 ⟨rfl, hb⟩
  obtain ⟨k, z3, hb1⟩ := box1 hb
  have y4 : w.heap.size < w4.heap.size := by omega
  have x4 : w.heap.size + 1 < w4.heap.size := by omega
  have K3 := Lib.hid k
  have K1 := Lib.hid (blk_later K1.out hb1)
  have K2 := Lib.hid (blk_later K2.out hb1)
  have KA := Lib.hid (blk_later KA.out hb1)
  have KB := Lib.hid (blk_later KB.out hb1)
  have B4 := Lib.hid (B3.out.trans (hb1.mono B3.out.size))
  clear a0 a1 b0 b1
  have a0 := cell_c KA.out 0
  have a1 := cell_c KA.out 1
  have b0 := cell_c KB.out 0
  have b1 := cell_c KB.out 1
  clear hb hb1 k
  go_wp2_with fail
  refine (HE.out _).mono ?_
  rintro e w5 ⟨rfl, hb⟩
  obtain ⟨k, z4, hb1⟩ := box1 hb
  have y5 : w.heap.size < w5.heap.size := by omega
  have x5 : w.heap.size + 1 < w5.heap.size := by omega
  have K4 := Lib.hid k
  have K1 := Lib.hid (blk_later K1.out hb1)
  have K2 := Lib.hid (blk_later K2.out hb1)
  have K3 := Lib.hid (blk_later K3.out hb1)
  have KA := Lib.hid (blk_later KA.out hb1)
  have KB := Lib.hid (blk_later KB.out hb1)
  have B5 := Lib.hid (B4.out.trans (hb1.mono B4.out.size))
  clear a0 a1 b0 b1
  have a0 := cell_c KA.out 0
  have a1 := cell_c KA.out 1
  have b0 := cell_c KB.out 0
  have b1 := cell_c KB.out 1
  clear hb hb1 k
  go_wp2_with fail
  refine (HF.out _).mono ?_
  rintro e w6 ⟨rfl, hb⟩
  have K1 := Lib.hid (blk_later K1.out hb)
  have K2 := Lib.hid (blk_later K2.out hb)
  have K3 := Lib.hid (blk_later K3.out hb)
  have K4 := Lib.hid (blk_later K4.out hb)
  have KA := Lib.hid (blk_later KA.out hb)
  have B6 := Lib.hid (B5.out.trans (hb.mono B5.out.size))
  clear a0 a1 b0 b1 hb KB
  go_wp2_with fail
  have HBW : Hid (Below w6.heap.size w6 w6.drew) := Lib.hid ((Below.refl _ _).drew)
  have q1 := fun W => eq_same A1 S1 W
  have q2 := fun W => eq_same A2 S2 W
  go_region_held3 (fun w' => Below w6.heap.size w6 w' ∧ w'.cell? ⟨w.heap.size, 0, none⟩ = some (.int .i64 a) ∧ w'.cell? ⟨w.heap.size, 1, none⟩ = some (.string s) ∧ w'.cell? ⟨w1.heap.size, 0, none⟩ = some (.int .i64 A1) ∧ w'.cell? ⟨w1.heap.size, 1, none⟩ = some (.string S1) ∧ w'.cell? ⟨w2.heap.size, 0, none⟩ = some (.int .i64 A1) ∧ w'.cell? ⟨w2.heap.size, 1, none⟩ = some (.string S1) ∧ w'.cell? ⟨w3.heap.size, 0, none⟩ = some (.int .i64 A2) ∧ w'.cell? ⟨w3.heap.size, 1, none⟩ = some (.string S2) ∧ w'.cell? ⟨w4.heap.size, 0, none⟩ = some (.int .i64 A2) ∧ w'.cell? ⟨w4.heap.size, 1, none⟩ = some (.string S2))
    (exact keep5 HBW.out KA.out K1.out K2.out K3.out K4.out)
    (first
      | (go_at_call 19; refine (HG.out _).mono ?_; rintro e w' ⟨rfl, hb⟩; have HBW := Lib.hid (HBW.out.trans (hb.mono HBW.out.size)); clear hb)
      | (go_at_call 26; refine (HH.out _).mono ?_; rintro e w' ⟨rfl, hb⟩; have HBW := Lib.hid (HBW.out.trans (hb.mono HBW.out.size)); clear hb)
      | (go_at_call 12; refine (HI.out _ (HW.out.below (B6.out.trans (HBW.out.mono B6.out.size)))).mono ?_; rintro e w' ⟨rfl, hb⟩; have HBW := Lib.hid (HBW.out.trans (hb.mono HBW.out.size)); clear hb))
  all_goals
    go_wp2_with fail
    go_ret
    exact ⟨rfl, B6.out.trans (HBW.out.mono B6.out.size)⟩
end Go.Proofs.YtadehobimlpmcaaDoor
