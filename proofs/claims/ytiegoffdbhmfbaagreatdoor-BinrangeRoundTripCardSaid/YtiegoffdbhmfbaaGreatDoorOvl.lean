/- Ranges: filled, Overlap. -/
import Derived.Test.YtiegoffdbhmfbaaGreatDoorRng
import Derived.IntWalk
import Derived.Lib.MinMaxS
import Derived.Deep.RegionHeld3
namespace Go.Proofs.YtiegoffdbhmfbaaGreatDoor
set_option linter.unusedVariables false
open Go.RowKit

def fillS (s : ByteArray) (c : UInt8) : ByteArray := s ++ ⟨(Lib.repeatL [c] (10 - s.size)).toArray⟩
set_option maxHeartbeats 1600000 in
theorem fill_any (s : ByteArray) (c : UInt8) (w : World) (hs : s.size ≤ 10) : Calls Tryz.prog 57 #[.string s, .string ⟨#[c]⟩] w fun e w' => e = .returned (.string (fillS s c)) ∧ Below w.heap.size w w' := by
  obtain ⟨n, hn⟩ : ∃ n : Nat, 10 - s.size = n := ⟨_, rfl⟩
  have e1 : IntKind.i64.wrap (10 - (s.size : Int)) = (n : Int) := by rw [IntWalk.i64_in _ (by omega)]; omega
  have hn10 : n ≤ 10 := by omega
  have HR : Hid (∀ W, Calls Tryz.prog 71 #[.string ⟨#[c]⟩, .int .i64 n] W fun e w' => e = .returned (.string ⟨(Lib.repeatL [c] n).toArray⟩) ∧ Below W.heap.size W w') := Lib.hid (fun W => by
    have hc : n = 0 ∨ n = 1 ∨ 2 ≤ n := by omega
    rcases hc with rfl | rfl | h
    · exact (Tryz.strings_Repeat_zero ⟨#[c]⟩ W).mono (fun e w' ⟨h1, h2⟩ => ⟨h1, by rw [h2]; exact Below.refl _ _⟩)
    · exact (Tryz.strings_Repeat_one ⟨#[c]⟩ W).mono (fun e w' ⟨h1, h2⟩ => ⟨h1, by rw [h2]; exact Below.refl _ _⟩)
    · have := Tryz.strings_Repeat_main ⟨#[c]⟩ n W h (by omega) (by show 1 * n ≤ _; omega) (by show 0 < 1; omega)
      exact this)
  have HF : Hid (fillS s c = s ++ ⟨(Lib.repeatL [c] n).toArray⟩) := Lib.hid (by unfold fillS; rw [hn])
  have hz : ¬ 9223372036854775807 < s.size + (Lib.repeatL [c] n).length := by rw [Lib.repeatL_length]; simp; omega
  clear hn
  go_enter Tryz.func57, Tryz.ntmps57
  go_wp2_with fail
  refine (HR.out _).mono ?_
  rintro e w2 ⟨rfl, hb⟩
  have HB := Lib.hid hb
  clear hb
  go_wp2_with fail
  go_ret
  exact ⟨by rw [HF.out]; rfl, HB.out⟩
def gtS (a b : ByteArray) : Bool := !Op.bytesLess a.toList b.toList && !(a.toList == b.toList)
def ovB (a b : Rg) : Bool := formB a.lo a.hi && formB b.lo b.hi && !(gtS a.lo a.hi) && !(gtS b.lo b.hi) && !(gtS (Lib.maxS (fillS a.lo 48) (fillS b.lo 48)) (Lib.minS (fillS a.hi 57) (fillS b.hi 57)))
theorem form_size {lo hi : ByteArray} (h : formB lo hi = true) : lo.size ≤ 10 ∧ hi.size ≤ 10 ∧ lo.size = hi.size ∧ 1 ≤ lo.size ∧ digsB lo = true ∧ digsB hi = true := by
  unfold formB pfxB at h
  simp only [Bool.and_eq_true, decide_eq_true_eq] at h
  obtain ⟨⟨⟨⟨a1, a2⟩, a3⟩, ⟨b1, b2⟩, b3⟩, c1⟩ := h
  exact ⟨a2, b2, c1, a1, a3, b3⟩
theorem box2 {w w2 : World} {A B : Array Value} {T U : TypeId} (hb : Below ((w.alloc (.cells A T)).alloc (.cells B U)).heap.size ((w.alloc (.cells A T)).alloc (.cells B U)) w2) :
    w2.heap[w.heap.size]? = some (.cells A T) ∧ w2.heap[w.heap.size + 1]? = some (.cells B U) ∧ Below w.heap.size w w2 := by
  have h1 : ((w.alloc (.cells A T)).alloc (.cells B U)).heap[w.heap.size]? = some (.cells A T) := blk_later (heap_alloc_new w _) (alloc_lt _ _)
  have h2 := heap_alloc2_new w (.cells A T) (.cells B U)
  refine ⟨blk_later h1 hb, blk_later h2 hb, ?_⟩
  have h3 := (alloc_lt w (.cells A T)).trans ((alloc_lt (w.alloc (.cells A T)) (.cells B U)).mono (by simp))
  exact h3.trans (hb.mono (by simp; omega))
theorem bools (x : Bool) : x = true ∨ x = false := by cases x
                                                      · exact .inr rfl
                                                      · exact .inl rfl
set_option maxRecDepth 100000 in
set_option maxHeartbeats 3200000 in
theorem ovl_any (a b : Rg) (w : World) (h1 : a.lo.size ≤ maxLen) (h2 : a.hi.size ≤ maxLen) (h3 : b.lo.size ≤ maxLen) (h4 : b.hi.size ≤ maxLen) : Calls Tryz.prog 41 #[.agg (rgC a), .agg (rgC b)] w fun e w' => e = .returned (.bool (ovB a b)) ∧ Below w.heap.size w w' := by
  have HFA := Lib.hid (fun W => form_any a W h1 h2)
  have HFB := Lib.hid (fun W => form_any b W h3 h4)
  have HSA := Lib.hid (fun h => form_size (lo := a.lo) (hi := a.hi) h)
  have HSB := Lib.hid (fun h => form_size (lo := b.lo) (hi := b.hi) h)
  have HO : Hid (ovB a b = (formB a.lo a.hi && formB b.lo b.hi && !(gtS a.lo a.hi) && !(gtS b.lo b.hi) && !(gtS (Lib.maxS (fillS a.lo 48) (fillS b.lo 48)) (Lib.minS (fillS a.hi 57) (fillS b.hi 57))))) := Lib.hid rfl
  clear h1 h2 h3 h4
  obtain ⟨al, ah, ai, ap⟩ := a
  obtain ⟨bl, bh, bi, bp⟩ := b
  unfold rgC at *
  simp only at HFA HFB HSA HSB HO ⊢
  generalize ovB ⟨al, ah, ai, ap⟩ ⟨bl, bh, bi, bp⟩ = OV at *
  generalize formB al ah = FA at *
  generalize formB bl bh = FB at *
  cases FA
  · have HO2 : Hid (OV = false) := Lib.hid (by rw [HO.out]; rfl)
    clear HO
    go_enter Tryz.func41, Tryz.ntmps41
    go_wp2_with fail
    refine (HFA.out _).mono ?_
    rintro e w2 ⟨rfl, hb⟩
    have HB := Lib.hid (box2 hb)
    clear hb
    go_wp2_with fail
    go_ret
    exact ⟨by rw [HO2.out]; rfl, HB.out.2.2⟩
  · cases FB
    · have HO2 : Hid (OV = false) := Lib.hid (by rw [HO.out]; rfl)
      clear HO
      go_enter Tryz.func41, Tryz.ntmps41
      go_wp2_with fail
      refine (HFA.out _).mono ?_
      rintro e w2 ⟨rfl, hb⟩
      have HB := Lib.hid (box2 hb)
      have k0 := cell_c HB.out.2.1 0
      have k1 := cell_c HB.out.2.1 1
      have k2 := cell_c HB.out.2.1 2
      have k3 := cell_c HB.out.2.1 3
      clear hb
      go_wp2_with fail
      refine (HFB.out _).mono ?_
      rintro e w3 ⟨rfl, hb⟩
      have HB3 := Lib.hid (HB.out.2.2.trans (hb.mono HB.out.2.2.size))
      clear hb
      go_wp2_with fail
      go_ret
      exact ⟨by rw [HO2.out]; rfl, HB3.out⟩
    · have HFL1 := Lib.hid (fun W => fill_any al 48 W (HSA.out rfl).1)
      have HFL2 := Lib.hid (fun W => fill_any bl 48 W (HSB.out rfl).1)
      have HFH1 := Lib.hid (fun W => fill_any ah 57 W (HSA.out rfl).2.1)
      have HFH2 := Lib.hid (fun W => fill_any bh 57 W (HSB.out rfl).2.1)
      have HO1 : Hid (OV = (!(gtS al ah) && !(gtS bl bh) && !(gtS (Lib.maxS (fillS al 48) (fillS bl 48)) (Lib.minS (fillS ah 57) (fillS bh 57))))) := Lib.hid (by rw [HO.out]; simp)
      clear HO HSA HSB
      have hways : gtS al ah = true ∨ (gtS al ah = false ∧ gtS bl bh = true) ∨ (gtS al ah = false ∧ gtS bl bh = false) := by
        rcases bools (gtS al ah) with h | h <;> rcases bools (gtS bl bh) with h' | h' <;> simp [h, h']
      generalize fillS al 48 = x1 at *
      generalize fillS bl 48 = x2 at *
      generalize fillS ah 57 = y1 at *
      generalize fillS bh 57 = y2 at *
      rcases hways with h | ⟨h, h'⟩ | ⟨h, h'⟩
      · have HO2 : Hid (OV = false) := Lib.hid (by rw [HO1.out, h]; rfl)
        unfold gtS at h
        try unfold gtS at h'
        clear HO1
        go_enter Tryz.func41, Tryz.ntmps41
        go_wp2_with fail
        refine (HFA.out _).mono ?_
        rintro e w2 ⟨rfl, hb⟩
        have HB := Lib.hid (box2 hb)
        have k0 := cell_c HB.out.2.1 0
        have k1 := cell_c HB.out.2.1 1
        have k2 := cell_c HB.out.2.1 2
        have k3 := cell_c HB.out.2.1 3
        clear hb
        go_wp2_with fail
        refine (HFB.out _).mono ?_
        rintro e w3 ⟨rfl, hb⟩
        have HB3 := Lib.hid (HB.out.2.2.trans (hb.mono HB.out.2.2.size))
        have HK3 := Lib.hid (And.intro (blk_later HB.out.1 hb) (blk_later HB.out.2.1 hb))
        clear hb k0 k1 k2 k3
        have j0 := cell_c HK3.out.1 0
        have j1 := cell_c HK3.out.1 1
        have k0 := cell_c HK3.out.2 0
        have k1 := cell_c HK3.out.2 1
        go_wp2_with fail
        go_ret
        exact ⟨by rw [HO2.out]; rfl, HB3.out⟩
      · have HO2 : Hid (OV = false) := Lib.hid (by rw [HO1.out, h, h']; rfl)
        unfold gtS at h
        try unfold gtS at h'
        clear HO1
        go_enter Tryz.func41, Tryz.ntmps41
        go_wp2_with fail
        refine (HFA.out _).mono ?_
        rintro e w2 ⟨rfl, hb⟩
        have HB := Lib.hid (box2 hb)
        have k0 := cell_c HB.out.2.1 0
        have k1 := cell_c HB.out.2.1 1
        have k2 := cell_c HB.out.2.1 2
        have k3 := cell_c HB.out.2.1 3
        clear hb
        go_wp2_with fail
        refine (HFB.out _).mono ?_
        rintro e w3 ⟨rfl, hb⟩
        have HB3 := Lib.hid (HB.out.2.2.trans (hb.mono HB.out.2.2.size))
        have HK3 := Lib.hid (And.intro (blk_later HB.out.1 hb) (blk_later HB.out.2.1 hb))
        clear hb k0 k1 k2 k3
        have j0 := cell_c HK3.out.1 0
        have j1 := cell_c HK3.out.1 1
        have k0 := cell_c HK3.out.2 0
        have k1 := cell_c HK3.out.2 1
        go_wp2_with fail
        go_ret
        exact ⟨by rw [HO2.out]; rfl, HB3.out⟩
      · have HO2 : Hid (OV = !(gtS (Lib.maxS x1 x2) (Lib.minS y1 y2))) := Lib.hid (by rw [HO1.out, h, h']; rfl)
        unfold gtS at h
        try unfold gtS at h'
        clear HO1
        go_enter Tryz.func41, Tryz.ntmps41
        go_wp2_with fail
        refine (HFA.out _).mono ?_
        rintro e w2 ⟨rfl, hb⟩
        have HB := Lib.hid (box2 hb)
        have k0 := cell_c HB.out.2.1 0
        have k1 := cell_c HB.out.2.1 1
        have k2 := cell_c HB.out.2.1 2
        have k3 := cell_c HB.out.2.1 3
        clear hb
        go_wp2_with fail
        refine (HFB.out _).mono ?_
        rintro e w3 ⟨rfl, hb⟩
        have HB3 := Lib.hid (HB.out.2.2.trans (hb.mono HB.out.2.2.size))
        have HK3 := Lib.hid (And.intro (blk_later HB.out.1 hb) (blk_later HB.out.2.1 hb))
        clear hb k0 k1 k2 k3
        have j0 := cell_c HK3.out.1 0
        have j1 := cell_c HK3.out.1 1
        have k0 := cell_c HK3.out.2 0
        have k1 := cell_c HK3.out.2 1
        go_wp2_with fail
        have HBW := Lib.hid (Below.drew (Below.refl w3.heap.size w3))
        have hmx := fun W ts t => Lib.run_max_strs (P := Tryz.prog) W ts t x1 x2
        have hmn := fun W ts t => Lib.run_min_strs (P := Tryz.prog) W ts t y1 y2
        clear j0 j1 k0 k1
        go_region_held3 (fun w' => w'.cell? ⟨w.heap.size, 0, none⟩ = some (.string al) ∧ w'.cell? ⟨w.heap.size + 1, 0, none⟩ = some (.string bl))
          (exact ⟨cell_c (blk_later HK3.out.1 HBW.out) 0, cell_c (blk_later HK3.out.2 HBW.out) 0⟩)
          (first
            | (go_at_call 57; (with_reducible refine (HFL1.out _).mono ?_); rintro e wq ⟨rfl, hb⟩; have HBW := Lib.hid (HBW.out.trans (hb.mono HBW.out.size)); clear hb)
            | (go_at_call 57; (with_reducible refine (HFL2.out _).mono ?_); rintro e wq ⟨rfl, hb⟩; have HBW := Lib.hid (HBW.out.trans (hb.mono HBW.out.size)); clear hb))
        go_wp2_with fail
        have HB4 := Lib.hid (HB3.out.trans (HBW.out.mono HB3.out.size))
        have HK4 := Lib.hid (And.intro (blk_later HK3.out.1 HBW.out) (blk_later HK3.out.2 HBW.out))
        have HBV := Lib.hid (Below.drew (Below.refl wq.heap.size wq))
        generalize Lib.maxS x1 x2 = X at *
        go_region_held3 (fun w' => w'.cell? ⟨w.heap.size, 1, none⟩ = some (.string ah) ∧ w'.cell? ⟨w.heap.size + 1, 1, none⟩ = some (.string bh))
          (exact ⟨cell_c (blk_later HK4.out.1 HBV.out) 1, cell_c (blk_later HK4.out.2 HBV.out) 1⟩)
          (first
            | (go_at_call 57; (with_reducible refine (HFH1.out _).mono ?_); rintro e w' ⟨rfl, hb⟩; have HBV := Lib.hid (HBV.out.trans (hb.mono HBV.out.size)); clear hb)
            | (go_at_call 57; (with_reducible refine (HFH2.out _).mono ?_); rintro e w' ⟨rfl, hb⟩; have HBV := Lib.hid (HBV.out.trans (hb.mono HBV.out.size)); clear hb))
        generalize Lib.minS y1 y2 = Y at *
        have HE : Hid ((Op.bytesLess X.toList Y.toList || X.toList == Y.toList) = OV) := Lib.hid (by rw [HO2.out]; unfold gtS; cases Op.bytesLess X.toList Y.toList <;> simp)
        clear HO2
        go_wp2_with fail
        go_ret
        exact ⟨by rw [← HE.out]; rfl, HB4.out.trans (HBV.out.mono HB4.out.size)⟩
end Go.Proofs.YtiegoffdbhmfbaaGreatDoor
