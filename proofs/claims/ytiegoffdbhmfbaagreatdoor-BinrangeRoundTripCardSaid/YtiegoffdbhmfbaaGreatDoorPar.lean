/- The walk of Parse. -/
import Derived.Test.YtiegoffdbhmfbaaGreatDoorPrs
namespace Go.Proofs.YtiegoffdbhmfbaaGreatDoor
set_option linter.unusedVariables false
open Go.RowKit

theorem parF_none {s : ByteArray} {g k : Nat} {acc : List Rg} (hg : 0 < g) (hk : k < s.size) (h : enP s k = none) : parF s g k acc = none := by
  obtain ⟨f, rfl⟩ : ∃ f, g = f + 1 := ⟨g - 1, by omega⟩
  unfold parF; rw [if_pos hk, h]
theorem parF_step {s : ByteArray} {g k q : Nat} {x : Rg} {acc : List Rg} (hg : 0 < g) (hk : k < s.size) (h : enP s k = some (x, q)) : parF s g k acc = parF s (g - 1) (skipP s q) (acc ++ [x]) := by
  obtain ⟨f, rfl⟩ : ∃ f, g = f + 1 := ⟨g - 1, by omega⟩
  conv => lhs; unfold parF
  rw [if_pos hk, h]; rfl
theorem parF_end {s : ByteArray} {g k : Nat} {acc : List Rg} (hg : 0 < g) (hk : ¬ k < s.size) : parF s g k acc = some acc := by
  obtain ⟨f, rfl⟩ : ∃ f, g = f + 1 := ⟨g - 1, by omega⟩
  unfold parF; rw [if_neg hk]
set_option maxRecDepth 1000000 in
set_option maxHeartbeats 25600000 in
theorem parse_any (s : ByteArray) (w : World) (hs : s.size ≤ maxLen) : Calls Tryz.prog 11 #[.string s] w (PsPost s w) := by
  by_cases h4 : s.size ≤ 4000
  · have h4I : ¬ (4000 : Int) < (s.size : Int) := by omega
    have HT0 := Lib.hid (show TxW w.heap.size s 0 (w.alloc (.cells #[.string s, .int .i64 0] 57)) from heap_alloc_new w _)
    have HSK := Lib.hid (skip_any w.heap.size s 0 _ HT0.out (Nat.zero_le _) (by omega))
    have HK0 := Lib.hid (skipP_le (s := s) (Nat.zero_le _))
    have HEN := Lib.hid (fun W k h hk => entry_any w.heap.size s k W h hk (by omega))
    have HSP := Lib.hid (fun W k h hk => skip_any w.heap.size s k W h hk (by omega))
    unfold SkPost at HSK HSP
    obtain ⟨i0, hi0, hz0, hz1, hz2⟩ := info_parts info29
    obtain ⟨i3, hi3, hy0, hy1, hy2⟩ := info_parts info3
    have HI := Lib.hid (And.intro hi0 (And.intro hz0 (And.intro hz1 hz2)))
    have HI3 := Lib.hid (And.intro hi3 (And.intro hy0 (And.intro hy1 hy2)))
    clear hi0 hz0 hz1 hz2 hi3 hy0 hy1 hy2
    go_enter Tryz.func11, Tryz.ntmps11
    go_wp2_with fail
    refine HSK.out.mono ?_
    rintro e w1 ⟨rfl, ht, hk⟩
    have HW0 : Hid (PrW w.heap.size s (skipP s 0) [] [] (.slice none 0 0) (.slice none 0 0) w w1) := Lib.hid ⟨ht, World.ownsRow_nil _ _ _ _, World.ownsRow_nil _ _ _ _, hk.below ((Below.refl _ _).alloc (Nat.le_refl _) _) (fun k hk => by rcases List.mem_singleton.1 hk with rfl; exact Nat.le_refl _) (alloc_lt w _).size⟩
    clear ht hk
    have t1 := cell_c (show w1.heap[w.heap.size]? = some (.cells #[.string s, .int .i64 (skipP s 0)] 57) from HW0.out.tx) 1
    go_wp2_with fail
    clear t1
    go_loopg [6, 7] (s.size + 1) (fun g v6 v7 wr => ∃ (k : Nat) (l : List Rg) (st : List Nat), k ≤ s.size ∧ s.size - k < g ∧ st.length = l.length ∧ l.length ≤ k ∧ Hid (PrW w.heap.size s k l st v6 v7 w wr ∧ parF s g k l = parP s ∧ ∀ x ∈ l, FewB s.size x))
    case atStart => exact ⟨skipP s 0, [], [], HK0.out.2, by omega, rfl, Nat.zero_le _, Lib.hid ⟨HW0.out, rfl, fun x hx => by cases hx⟩⟩
    case round =>
      clear HW0 HSK
      obtain ⟨k, l, st, hk, hg, hst, hlk, HW⟩ := hrel
      have t1 := cell_c (show wr.heap[w.heap.size]? = some (.cells #[.string s, .int .i64 k] 57) from HW.out.1.tx) 1
      have hPl : w.heap.size < wr.heap.size := HW.out.1.tx.lt
      have hg1 := Lib.hid (show 0 < gk by omega)
      by_cases hlt : k < s.size
      · have kI : (k : Int) < (s.size : Int) := by omega
        have hl4 : l.length < 4000 := by omega
        go_wp2_with (first | (at_builtin; refine wpList_append_own _ rfl (.tmp 29) (.tmp 34) _ rfl (w.heap.size + 1) 3 i3 _ 1 8 Tryz.underlying58 HI3.out.1 HI3.out.2.1 HI3.out.2.2.1 HI3.out.2.2.2 rfl (by omega) _ _ _ rfl (HW.out.1.o7.alloc _) ⟨wr.heap.size, 0, none⟩ 1 1 [.int .i64 k] rfl rfl (World.news_of_block (cs := #[.int .i64 k]) (t := 3) (fr := (0, 0)) (heap_alloc_new wr _)) (by simp [Value.oneCell']) (by unfold maxLen; omega) (by omega) (by simp; omega) ?_; intro v8 w1 hown hgrow hnil; have HA := Lib.hid hown; have HG := Lib.hid hgrow; clear hown hgrow hnil t1))
        have HS := Lib.hid ((HW.out.1.keep rfl (show TxW w.heap.size s k _ from blk_later HW.out.1.tx (alloc_lt wr _)) (KeepL.of (alloc_lt wr _))).start HA.out HG.out)
        refine (HEN.out w1 k HS.out.tx hk).mono ?_
        rintro e w2 ⟨x, b, q, rfl, hq1, hq2, ht, hkp, hy, hn⟩
        have HW2 := Lib.hid (HS.out.keep rfl ht hkp)
        have HY := Lib.hid hy
        have HN := Lib.hid hn
        clear ht hkp hy hn
        obtain ⟨x0, x1, x2, x3⟩ := x
        unfold rgC
        have t1 := cell_c (show w2.heap[w.heap.size]? = some (.cells #[.string s, .int .i64 q] 57) from HW2.out.tx) 1
        have hPl : w.heap.size < w2.heap.size := HW2.out.tx.lt
        have HBB := Lib.hid (show Below w2.heap.size w2 ((w2.alloc (.cells #[.string x0, .string x1, .string x2, .string x3] 26)).alloc (.cells #[.string x0, .string x1, .string x2, .string x3] 26)) from (alloc_lt w2 _).alloc (alloc_lt w2 _).size _)
        cases b
        · go_wp2_with fail
          go_quiet (fail)
          go_wp2_with fail
          go_ret3
          refine ⟨_, _, _, [], rfl, SlR.nil _, dNb (HW2.out.bl.alloc (Nat.le_of_lt HW2.out.tx.lt) _) _, fun x hx => (by cases hx), fun h => (by cases h), fun m hm => ?_, Nat.zero_le _⟩
          rw [← HW.out.2.1, parF_none hg1.out hlt (by simpa using HN.out)] at hm
          cases hm
        · have HN1 := Lib.hid (HY.out rfl)
          go_wp2_with (first | (at_builtin; refine wpList_append_own _ rfl (.tmp 47) (.tmp 49) _ rfl (w.heap.size + 1) 26 i0 _ 4 64 Tryz.underlying22 HI.out.1 HI.out.2.1 HI.out.2.2.1 HI.out.2.2.2 rfl (by omega) _ _ _ rfl ((HW2.out.o6.alloc _).alloc _) ⟨w2.heap.size + 1, 0, none⟩ 1 1 [.string x0, .string x1, .string x2, .string x3] rfl rfl (World.news_of_block (cs := #[.string x0, .string x1, .string x2, .string x3]) (t := 26) (fr := (0, 0)) (heap_alloc2_new w2 _ _)) (by simp [Value.oneCell']) (by unfold maxLen; omega) (by omega) (by simp; omega) ?_; intro v9 w3 hown hgrow hnil; have HC := Lib.hid hown; have HG2 := Lib.hid hgrow; clear hown hgrow hnil t1))
          have HW3 := Lib.hid ((HW2.out.keep rfl (show TxW w.heap.size s q _ from blk_later HW2.out.tx HBB.out) (KeepL.of HBB.out)).more (x := ⟨x0, x1, x2, x3⟩) HC.out HG2.out)
          refine (HSP.out w3 q HW3.out.tx hq2).mono ?_
          rintro e w4 ⟨rfl, ht, hkp⟩
          have HW4 := Lib.hid (HW3.out.keep rfl ht hkp)
          clear ht hkp
          have HE := Lib.hid (enP_some hk HN1.out)
          have HSQ := Lib.hid (skipP_le (s := s) hq2)
          have HST := Lib.hid (parF_step (acc := l) hg1.out hlt HN1.out)
          go_wp2_with fail
          go_roundg (gk - 1)
          case measure => have := hg1.out; omega
          case rel => exact ⟨skipP s q, l ++ [⟨x0, x1, x2, x3⟩], st ++ [k], HSQ.out.2, by have := HSQ.out; have := HE.out; omega, by simp [hst], by have := HSQ.out; have := HE.out; simp; omega, Lib.hid ⟨HW4.out, HST.out.symm.trans HW.out.2.1, fun x hx => (List.mem_append.1 hx).elim (HW.out.2.2 x) (fun h => by rw [List.mem_singleton.1 h]; exact HE.out.2.2)⟩⟩
      · have hm := hg1.out
        have HR : Hid (parP s = some l) := Lib.hid (by rw [← HW.out.2.1]; exact parF_end hg1.out hlt)
        have HOK : Hid (∀ x ∈ l, RgOk x) := Lib.hid (fun x hx => by have := HW.out.2.2 x hx; unfold FewB at this; unfold RgOk; unfold maxLen; omega)
        have HSL := Lib.hid (SlR.of_own HW.out.1.o6)
        obtain ⟨A, cp, rfl, hr, hc, hcm, hn⟩ := HSL.out.form
        have HEX := Lib.hid (exa_any A cp l wr hr HOK.out hc hcm)
        have HSP := 0
        have HID := Lib.hid (exR_idx l)
        have hl4 : Hid (l.length ≤ 4000) := Lib.hid (by omega)
        have HCK : Hid ((exR l).1 = 0 → TabOK l) := Lib.hid (fun h => (ck_iff l).1 h)
        have HCK2 : Hid (TabOK l → (exR l).1 = 0) := Lib.hid (fun h => (ck_iff l).2 h)
        unfold ExPost at HEX
        obtain ⟨er, her⟩ : ∃ er, (exR l).1 = er := ⟨_, rfl⟩
        obtain ⟨ix, hix⟩ : ∃ ix, (exR l).2 = ix := ⟨_, rfl⟩
        rw [her] at HEX HID HCK HCK2
        rw [hix] at HEX HID
        clear her hix hr hn hm
        have kI : ¬ (k : Int) < (s.size : Int) := by omega
        go_wp2_with fail
        refine HEX.out.mono ?_
        rintro e w5 ⟨rfl, hb⟩
        have HB := Lib.hid hb
        have HW5 := Lib.hid (HW.out.1.bl.trans (hb.mono HW.out.1.bl.size))
        clear hb
        by_cases he : er = 0
        · subst he
          go_wp2_with fail
          go_ret3
          exact ⟨_, 0, 0, l, rfl, HSL.out.below HB.out, HW5.out, HOK.out, fun _ => ⟨rfl, by simpa using HCK.out⟩, fun m hm _ _ => ⟨rfl, by rw [HR.out] at hm; exact Option.some.inj hm⟩, hl4.out⟩
        · have HER := Lib.hid he
          have heb : (er == 0) = false := by simpa using he
          have heb2 : (er != 0) = true := by simpa using he
          have hix : ix < st.length := by rw [hst]; exact HID.out he
          have o7 := HW.out.1.o7
          obtain ⟨g7, c7, cur7, rfl, h7a, h7b, h7c, h7d, h7e, h7f⟩ : ∃ g c cur, u7 = .slice (some ⟨g, 0, none⟩) st.length c ∧ w.heap.size + 1 ≤ g ∧ wr.heap[g]? = some (.cells cur 3 (0, 0)) ∧ st.length ≤ c ∧ c ≤ maxLen ∧ cur.size = c * 1 ∧ cur.toList.take (st.length * 1) = (st.map fun (n : Nat) => Value.int .i64 (n : Int)) := by
            rcases o7.2 with ⟨-, h0⟩ | h
            · omega
            · exact h
          have c7 : w5.cell? ⟨g7, ix, none⟩ = some (.int .i64 (st[ix]'hix)) := by
            rw [HB.out.cell (Array.getElem?_eq_some_iff.1 h7b).1, cell_c h7b]
            have : (cur7.toList.take (st.length * 1))[ix]? = some (Value.int .i64 ((st[ix]'hix : Nat) : Int)) := by rw [h7f]; simp [hix]
            rw [List.getElem?_take_of_lt (by omega)] at this
            rwa [Array.getElem?_toList] at this
          have ixI : (ix : Int) < (st.length : Int) := by omega
          have ix0 : (0 : Int) ≤ (ix : Int) := by omega
          clear he o7 h7a h7b h7c h7d h7e h7f
          go_wp2_with fail
          go_quiet (fail)
          go_wp2_with fail
          go_ret3
          exact ⟨_, _, _, [], rfl, SlR.nil _, dNb HW5.out _, fun x hx => (by cases hx), fun h => absurd h HER.out, fun m hm ht _ => absurd (HCK2.out (by rw [HR.out] at hm; rw [Option.some.inj hm]; exact ht)) HER.out, Nat.zero_le _⟩
  · have h4I : (4000 : Int) < (s.size : Int) := by omega
    go_enter Tryz.func11, Tryz.ntmps11
    go_wp2_with fail
    go_ret3
    exact ⟨_, _, _, [], rfl, SlR.nil _, Below.refl _ _, fun x hx => (by cases hx), fun h => (by cases h), fun m hm _ h => absurd h h4, Nat.zero_le _⟩
end Go.Proofs.YtiegoffdbhmfbaaGreatDoor
