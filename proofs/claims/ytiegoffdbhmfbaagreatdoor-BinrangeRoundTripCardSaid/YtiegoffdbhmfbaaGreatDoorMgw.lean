/- The walk of Merge. -/
import Derived.Test.YtiegoffdbhmfbaaGreatDoorMrg
import Derived.WalkMore
import Derived.Deep.LoopGhost
namespace Go.Proofs.YtiegoffdbhmfbaaGreatDoor
set_option linter.unusedVariables false
open Go.RowKit

theorem Good.ok {r : Rg} (h : Good r) : RgOk r := by
  have h1 := h.ten; have h2 := h.sz
  have hn : ∀ s : ByteArray, nameB s.data.toList = true → s.size ≤ maxLen := fun s hs => by
    unfold nameB at hs
    simp only [Bool.and_eq_true, decide_eq_true_eq] at hs
    have : s.data.toList.length = s.size := rfl
    unfold maxLen; omega
  exact ⟨by unfold maxLen; omega, by unfold maxLen; omega, hn _ h.nis, hn _ h.npr⟩
theorem TabOK.oks {l : List Rg} (h : TabOK l) : ∀ x ∈ l, RgOk x := fun x hx => (h.good x hx).ok
def MrgPost (l : List Rg) (w : World) (e : Ending) (w' : World) : Prop := ∃ v r, e = .returned (.tuple #[v, .int .i64 (ckR l)]) ∧ SlR w' v r ∧ Below w.heap.size w w' ∧ (ckR l = 0 → MrgOf l r) ∧ (ckR l ≠ 0 → r = [])
def sln : Value → Nat
  | .slice _ n _ => n
  | _ => 0
set_option maxRecDepth 1000000 in
set_option maxHeartbeats 12800000 in
theorem mrg_any (v : Value) (l : List Rg) (w : World) (hv : SlR w v l) (hok : ∀ x ∈ l, RgOk x) : Calls Tryz.prog 15 #[v] w (MrgPost l w) := by
  obtain ⟨A, cp, rfl, hr, hc, hcm, hn⟩ := hv.form
  have HCK := Lib.hid (ckl_any A cp l w hr hok hc hcm)
  have HR := Lib.hid hr
  unfold MrgPost
  by_cases hE : ckR l = 0
  · have HT := Lib.hid ((ck_iff l).1 hE)
    have HTL := HT.out.len
    have HCL := Lib.hid (fun (W : World) (h : IsRow W A (l.flatMap rgF)) => clone_any A cp l W h hc (by omega) hn)
    unfold ClnPost at HCL
    have HSO := Lib.hid (fun (v : Value) (m : List Rg) (W : World) (h : SlR W v m) (hm : TabOK m) => sort_any v m W h hm.oks (by have := hm.len; omega))
    unfold SrtPost at HSO
    rw [hE] at HCK ⊢
    clear hr hv hok hE
    by_cases h0 : 0 < l.length
    · have H0 := Lib.hid h0
      clear h0 hc hcm hn
      go_enter Tryz.func15, Tryz.ntmps15
      go_wp2_with fail
      go_step3
      go_wp2_with fail
      refine HCK.out.mono ?_
      rintro e w1 ⟨rfl, hb⟩
      have HB1 := Lib.hid hb
      have HR1 := Lib.hid (HR.out.below hb)
      clear hb
      go_wp2_with fail
      refine (HCL.out _ HR1.out).mono ?_
      rintro e w2 ⟨v, rfl, hown, hb⟩
      obtain ⟨g, cap, rfl, hg, h2, h3, h4⟩ := RowL.of_own hown H0.out
      have HB2 := Lib.hid (And.intro (HB1.out.trans (hb.mono HB1.out.size)) (Nat.le_trans HB1.out.size hg))
      have HC2 := Lib.hid (And.intro h2 h3)
      have HS2 := Lib.hid h4
      have hcap : cap ≤ 9223372036854775807 := h3
      clear hown hb hg h2 h3 h4 HTL HCL HR HR1
      go_wp2_with fail
      go_step3
      go_wp2_with fail
      go_loopg [5] l.length (fun gh v5 wr => ∃ m : List Rg, v5 = .slice (some ⟨g, 0, none⟩) m.length cap ∧ m.length ≤ gh ∧ Hid (RowL g w2 m cap wr) ∧ Hid (JStar l m))
      case atStart => exact ⟨l, rfl, Nat.le_refl _, HS2, Lib.hid .refl⟩
      case round =>
        obtain ⟨m, rfl, hgm, HM, HJ⟩ := hrel
        have HGM := Lib.hid hgm
        clear hgm
        have HTM := Lib.hid (HJ.out.ok HT.out)
        have hml : m.length ≤ 64 := HTM.out.1.len
        have hmc : m.length ≤ cap := by have := HC2.out.1; have := HTM.out.2; omega
        obtain ⟨wr1, hw1⟩ : ∃ wr1, wr1 = wr := ⟨_, rfl⟩
        subst hw1
        go_wp2_with fail
        go_loopg [5, 19] m.length (fun gh v5 i wr => ∃ k : Nat, v5 = .slice (some ⟨g, 0, none⟩) m.length cap ∧ k ≤ m.length ∧ i = .int .i64 k ∧ m.length - k ≤ gh ∧ Hid (RowL g w2 m cap wr) ∧ Hid (∀ i', i' < k → ∀ k', k' < m.length → folB (rgAt m i') (rgAt m k') = false))
        case atStart => exact ⟨0, rfl, Nat.zero_le _, rfl, Nat.le_refl _, HM, Lib.hid (fun i' h => by omega)⟩
        case round =>
          clear HM
          obtain ⟨i, rfl, hi, rfl, hgi, HM, HNF⟩ := hrel
          have HGI0 := Lib.hid hgi
          clear hgi
          obtain ⟨wr2, hw2⟩ : ∃ wr2, wr2 = wr := ⟨_, rfl⟩
          subst hw2
          by_cases hilt : i < m.length
          · obtain ⟨c0, c1, c2, c3⟩ := HM.out.cells i hilt
            have hbl := HM.out.lt
            have iI : (i : Int) < (m.length : Int) := by omega
            have i0 : (0 : Int) ≤ (i : Int) := by omega
            have HGI := Lib.hid (show Good (rgAt m i) from by rw [rgAt_get m i hilt]; exact HTM.out.1.good _ (List.getElem_mem hilt))
            have HJI := Lib.hid (fun k hk hf => (⟨i, k, hilt, hk, hf, rfl⟩ : Joins m ((setHi m i (rgAt m k).hi).eraseIdx k)))
            have HSH := Lib.hid (fun (W : World) (h : RowL g w2 m cap W) (s : ByteArray) => h.setHi i hilt s)
            have HZ := Lib.hid (show ∀ s, (setHi m i s).length = m.length from fun s => by unfold setHi; simp)
            have HNX := Lib.hid (fun (hf : ∀ k', k' < m.length → folB (rgAt m i) (rgAt m k') = false) i' (hi' : i' < i + 1) => show ∀ k', k' < m.length → folB (rgAt m i') (rgAt m k') = false from by
              rcases Nat.lt_or_ge i' i with q | q
              · exact HNF.out i' q
              · obtain rfl : i' = i := by omega
                exact hf)
            generalize rgAt m i = ra at *
            obtain ⟨al, ah, ai, ap⟩ := ra
            simp only at c0 c1 c2 c3
            have HST : Hid ((wr2.alloc (.cells #[.string al, .string ah, .string ai, .string ap] 26)).heap[wr2.heap.size]? = some (.cells #[.string al, .string ah, .string ai, .string ap] 26) ∧ RowL g w2 m cap (wr2.alloc (.cells #[.string al, .string ah, .string ai, .string ap] 26))) := Lib.hid ⟨heap_alloc_new _ _, HM.out.later (alloc_lt _ _)⟩
            go_wp2_with fail
            clear c0 c1 c2 c3 hbl
            go_loopg [5, 26] m.length (fun gh v5 j wr => ∃ k : Nat, v5 = .slice (some ⟨g, 0, none⟩) m.length cap ∧ k ≤ m.length ∧ j = .int .i64 k ∧ m.length - k ≤ gh ∧ Hid (wr.heap[wr2.heap.size]? = some (.cells #[.string al, .string ah, .string ai, .string ap] 26) ∧ RowL g w2 m cap wr) ∧ Hid (∀ k', k' < k → folB ⟨al, ah, ai, ap⟩ (rgAt m k') = false))
            case atStart => exact ⟨0, rfl, Nat.zero_le _, rfl, Nat.le_refl _, HST, Lib.hid (fun k' h => by omega)⟩
            case round =>
              clear HST HM
              obtain ⟨k, rfl, hk, rfl, hgk, HST, HNK⟩ := hrel
              have HGK0 := Lib.hid hgk
              clear hgk
              obtain ⟨wr3, hw3⟩ : ∃ wr3, wr3 = wr := ⟨_, rfl⟩
              subst hw3
              generalize wr2.heap.size = bp at *
              by_cases hklt : k < m.length
              · obtain ⟨c0, c1, c2, c3⟩ := HST.out.2.cells k hklt
                have hbl := HST.out.2.lt
                have hbp : bp < wr3.heap.size := (Array.getElem?_eq_some_iff.1 HST.out.1).1
                have kI : (k : Int) < (m.length : Int) := by omega
                have k0 : (0 : Int) ≤ (k : Int) := by omega
                have HGK := Lib.hid (show Good (rgAt m k) from by rw [rgAt_get m k hklt]; exact HTM.out.1.good _ (List.getElem_mem hklt))
                have HJK := Lib.hid (fun hf => HJI.out k hklt hf)
                have HNK2 := Lib.hid (fun (hf : folB ⟨al, ah, ai, ap⟩ (rgAt m k) = false) k' (hk' : k' < k + 1) => show folB ⟨al, ah, ai, ap⟩ (rgAt m k') = false from by
                  rcases Nat.lt_or_ge k' k with q | q
                  · exact HNK.out k' q
                  · obtain rfl : k' = k := by omega
                    exact hf)
                generalize rgAt m k = rb at *
                obtain ⟨bl, bh, bi, bpr⟩ := rb
                simp only at c0 c1 c2 c3 HJK
                have HF := Lib.hid (fun W => follows_any ⟨al, ah, ai, ap⟩ ⟨bl, bh, bi, bpr⟩ W HGI.out.form HGK.out.form)
                unfold rgC at HF
                simp only at HF
                have HST3 : Hid ((wr3.alloc (.cells #[.string bl, .string bh, .string bi, .string bpr] 26)).heap[bp]? = some (.cells #[.string al, .string ah, .string ai, .string ap] 26) ∧ RowL g w2 m cap (wr3.alloc (.cells #[.string bl, .string bh, .string bi, .string bpr] 26)) ∧ (wr3.alloc (.cells #[.string bl, .string bh, .string bi, .string bpr] 26)).heap[wr3.heap.size]? = some (.cells #[.string bl, .string bh, .string bi, .string bpr] 26)) := Lib.hid ⟨blk_later HST.out.1 (alloc_lt _ _), HST.out.2.later (alloc_lt _ _), heap_alloc_new _ _⟩
                have z0 := cell_c HST.out.1 0
                have z1 := cell_c HST.out.1 1
                have z2 := cell_c HST.out.1 2
                have z3 := cell_c HST.out.1 3
                cases hfb : folB ⟨al, ah, ai, ap⟩ ⟨bl, bh, bi, bpr⟩
                · rw [hfb] at HF
                  have HN2 := Lib.hid (HNK2.out hfb)
                  clear hfb
                  go_wp2_with fail
                  refine (HF.out _).mono ?_
                  rintro e w5 ⟨rfl, hb⟩
                  have HS5 := Lib.hid (And.intro (blk_later HST3.out.1 hb) (HST3.out.2.1.later hb))
                  clear hb
                  go_wp2_with fail
                  go_roundg (m.length - (k + 1))
                  case measure => have := HGK0.out; omega
                  case rel => exact ⟨k + 1, rfl, by omega, by go_num, Nat.le_refl _, HS5, HN2⟩
                · rw [hfb] at HF
                  have HJN := Lib.hid (HJK.out hfb)
                  clear hfb
                  go_wp2_with fail
                  refine (HF.out _).mono ?_
                  rintro e w5 ⟨rfl, hb⟩
                  have HS5 := Lib.hid (HST3.out.2.1.later hb)
                  have HK5 := Lib.hid (blk_later HST3.out.2.2 hb)
                  have y1 := cell_c HK5.out 1
                  have HST6 := Lib.hid (HSH.out _ HS5.out bh)
                  have hbg := HS5.out.lt
                  have fg := HS5.out.free (i * 4 + 1)
                  have HDL := Lib.hid (del_any g cap k (setHi m i bh) w2 _ HST6.out (by rw [HZ.out]; exact hklt) (by rw [HZ.out]; exact hmc) HC2.out.2)
                  unfold DelPost at HDL
                  rw [HZ.out] at HDL
                  have cI := (HS5.out.cells i hilt).2.1
                  have HLEN := Lib.hid (show m.length - 1 = ((setHi m i bh).eraseIdx k).length by rw [List.length_eraseIdx_of_lt (by rw [HZ.out]; exact hklt), HZ.out])
                  clear hb z0 z1 z2 z3 c0 c1 c2 c3
                  go_wp2_with fail
                  refine HDL.out.mono ?_
                  rintro e w6 ⟨rfl, hs6⟩
                  have HS6 := Lib.hid hs6
                  clear hs6
                  go_wp2_with fail
                  go_roundg (m.length - 1)
                  case measure => have := HGM.out; omega
                  case rel => exact ⟨(setHi m i bh).eraseIdx k, by rw [HLEN.out], by rw [HLEN.out]; exact Nat.le_refl _, HS6, Lib.hid (HJ.out.tail HJN.out)⟩
              · obtain rfl : k = m.length := by omega
                have HNI := Lib.hid (HNX.out HNK.out)
                clear hklt
                go_wp2_with fail
                go_roundg (m.length - (i + 1))
                case measure => have := HGI0.out; omega
                case rel => exact ⟨i + 1, rfl, by omega, by go_num, Nat.le_refl _, Lib.hid HST.out.2, HNI⟩
          · obtain rfl : i = m.length := by omega
            have HNO := Lib.hid (show NoFol m from fun a ha b hb => by
              obtain ⟨i, hi, rfl⟩ := List.getElem_of_mem ha
              obtain ⟨k, hk, rfl⟩ := List.getElem_of_mem hb
              have := HNF.out i hi k hk
              rw [rgAt_get m i hi, rgAt_get m k hk] at this; exact this)
            have HSR := Lib.hid (HSO.out _ m _ (SlR.of_rowL HM.out hmc HC2.out.2) HTM.out.1)
            go_wp2_with fail
            refine HSR.out.mono ?_
            rintro e w6 ⟨v6, r, rfl, hsr, hsl, hb⟩
            have HX := Lib.hid (And.intro hsr (And.intro hsl hb))
            have HBX : Hid (Below w.heap.size w w6) := Lib.hid (by
              obtain ⟨C, q1, q2, q3, q4⟩ := HM.out
              have hbb := HB2.out.1.trans (q4.mono HB2.out.2)
              exact hbb.trans (hb.mono hbb.size))
            clear hsr hsl hb
            go_wp2_with fail
            try rw [Exit.noGoto_ret]
            go_ret2
            exact ⟨v6, r, rfl, HX.out.2.1, HBX.out, fun _ => ⟨m, HJ.out, HNO.out, HX.out.1⟩, fun h => absurd rfl h⟩
    · obtain rfl : l = [] := List.eq_nil_of_length_eq_zero (by omega)
      clear h0 hc hcm hn
      go_enter Tryz.func15, Tryz.ntmps15
      go_wp2_with fail
      go_step3
      go_wp2_with fail
      refine HCK.out.mono ?_
      rintro e w1 ⟨rfl, hb⟩
      have HB1 := Lib.hid hb
      have HR1 := Lib.hid (HR.out.below hb)
      clear hb
      go_wp2_with fail
      refine (HCL.out _ HR1.out).mono ?_
      rintro e w2 ⟨v, rfl, hown, hb⟩
      have HB2 := Lib.hid (HB1.out.trans (hb.mono HB1.out.size))
      have HSL := Lib.hid (SlR.of_own hown)
      obtain ⟨A', c', rfl, q1, q2, q3, q4⟩ := HSL.out.form
      clear hown hb HTL HCL HR HR1 q1 q2 q3 q4
      go_wp2_with fail
      go_step3
      go_wp2_with fail
      refine wp_loop_rounds 1 ?_
      rw [rounds_succ]
      go_wp2_with fail
      refine wp_loop_rounds 1 ?_
      rw [rounds_succ]
      go_wp2_with fail
      refine (HSO.out _ [] _ HSL.out HT.out).mono ?_
      rintro e w6 ⟨v6, r, rfl, hsr, hsl, hb⟩
      have HX := Lib.hid (And.intro hsr (And.intro hsl hb))
      clear hsr hsl hb
      go_wp2_with fail
      try rw [Exit.noGoto_ret]
      go_ret2
      exact ⟨v6, r, rfl, HX.out.2.1, HB2.out.trans (HX.out.2.2.mono HB2.out.size), fun _ => ⟨[], .refl, fun a ha => absurd ha List.not_mem_nil, HX.out.1⟩, fun h => absurd rfl h⟩
  · have HE := Lib.hid hE
    have hE' : (ckR l != 0) = true := by simpa using hE
    generalize ckR l = E at *
    clear hr hv hok hE hc hcm hn
    go_enter Tryz.func15, Tryz.ntmps15
    go_wp2_with fail
    go_step3
    go_wp2_with fail
    refine HCK.out.mono ?_
    rintro e w1 ⟨rfl, hb⟩
    have HB1 := Lib.hid hb
    clear hb
    go_wp2_with fail
    try rw [Exit.noGoto_ret]
    go_ret2
    exact ⟨.slice none 0 0, [], rfl, SlR.nil _, HB1.out, fun h => absurd h HE.out, fun _ => rfl⟩
end Go.Proofs.YtiegoffdbhmfbaaGreatDoor
