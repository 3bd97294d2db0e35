/- The walk of symMerge: the middle lies in the left block. -/
import Derived.Test.YtiegoffdbhmfbaaGreatDoorSo3
namespace Go.Proofs.YtiegoffdbhmfbaaGreatDoor
set_option linter.unusedVariables false
open Go.RowKit Go.Sort

set_option maxHeartbeats 8000000 in
set_option maxRecDepth 1000000 in
theorem sym_hi (f : Nat → Rg) (cm : Nat → Nat → Int) (blk cap N S : Nat) (r : Nat → Nat) (w0 : World) (hcmp : CmpR f cm N) (hcm : ∀ x y, x < N → y < N → ltR r x y = decide (cm x y < 0)) (hsz : S < 1000000)
    (g : Nat) (ih : SymIH f blk cap N S r w0 g) (a m b : Nat) (d : Array Nat) (w : World) (hg : b - a ≤ g + 1) (hd : d.size = S) (hN : ∀ k, k < S → d[k]! < N) (h2 : Two (ahd r) (ltR r) a m b d) (hR : RowS f blk w0 d w) (hm1 : ¬ m = a + 1) (hb1 : ¬ b = m + 1) (hq : (a + b) / 2 < m) :
    Calls Tryz.prog 63 #[.slice (some ⟨blk, 0, none⟩) S cap, .int .i64 a, .int .i64 m, .int .i64 b, .func (.func 28) #[] #[]] w (SymPost f blk w0 r a b d) := by
  have IH := Lib.hid ih
  unfold SymIH at IH
  clear ih
  have am := h2.am
  have mb := h2.mb
  have bs := h2.bs
  have HC := Lib.hid hcmp
  unfold CmpR at HC
  have HCM := Lib.hid hcm
  have H2 := Lib.hid h2
  have HN := Lib.hid hN
  have HR := Lib.hid hR
  clear hcmp hcm h2 hN hR
  have w1 : IntKind.i64.wrap ((m : Int) - (a : Int)) = ((m - a : Nat) : Int) := by rw [IntWalk.i64_in _ (by omega)]; omega
  have w2 : IntKind.i64.wrap ((b : Int) - (m : Int)) = ((b - m : Nat) : Int) := by rw [IntWalk.i64_in _ (by omega)]; omega
  have t1 : (((m - a : Nat) : Int) == 1) = false := by simp; omega
  have t2 : (((b - m : Nat) : Int) == 1) = false := by simp; omega
  have MONO := Lib.hid (H2.out.mono_sym (ahd_swo r))
  have HCUT := Lib.hid (fun s d1 => sym_cut (s := s) (d1 := d1) (ahd_swo r) H2.out)
  obtain ⟨z1, z2, z3, z4⟩ := s0_facts am mb
  obtain ⟨s0, hs0⟩ : ∃ s0, s0Of a m b = s0 := ⟨_, rfl⟩
  obtain ⟨r0, hr0⟩ : ∃ r0, r0Of a m b = r0 := ⟨_, rfl⟩
  rw [hs0] at z1 z2 MONO HCUT
  rw [hr0] at z2 z3 z4 MONO HCUT
  have hS0 := hs0
  have hR0 := hr0
  unfold s0Of at hS0
  unfold r0Of at hR0
  have zb : (a + b) / 2 + m - b ≤ s0 ∨ s0 = a := by split at hS0 <;> omega
  have zc : s0 = a → (a + b) / 2 + m - a ≤ b := by intro e; split at hS0 <;> omega
  obtain ⟨mid, hmid⟩ : ∃ mid, (a + b) / 2 = mid := ⟨_, rfl⟩
  have hmz : ((a : Int) + (b : Int)) / 2 = (mid : Int) := by omega
  obtain ⟨hm1', hm2⟩ : a < mid ∧ mid < b := by omega
  have hmg : mid - a ≤ g ∧ b - mid ≤ g := by omega
  rw [hmid] at z4 zb zc MONO HCUT hS0 hR0
  have HMID := Lib.hid hmid
  rw [hmid] at hq
  clear hmid hs0 hr0
  obtain ⟨n, hn⟩ : ∃ n, mid + m = n := ⟨_, rfl⟩
  have hnz : (mid : Int) + (m : Int) = (n : Int) := by omega
  have hnw : IntKind.i64.wrap (n : Int) = (n : Int) := IntWalk.i64_in _ (by omega)
  obtain ⟨p, hp⟩ : ∃ p, n - 1 = p := ⟨_, rfl⟩
  have hpz : (n : Int) - 1 = (p : Int) := by omega
  have hpw : IntKind.i64.wrap (p : Int) = (p : Int) := IntWalk.i64_in _ (by omega)
  simp only [hn] at MONO HCUT zb zc hS0
  simp only [hp] at MONO HCUT
  have HNP := Lib.hid (And.intro hn hp)
  have hpb : p < 2000000 ∧ n < 2000000 := by omega
  obtain ⟨hpb1, hpb2⟩ := hpb
  have hsn : s0 ≤ n := by omega
  have HSR : Hid (mid < m ∧ s0 = n - b ∧ r0 = mid ∨ ¬ mid < m ∧ s0 = a ∧ r0 = m) := Lib.hid (by
    by_cases q : mid < m
    · rw [if_pos q] at hS0 hR0; exact Or.inl ⟨q, hS0.symm, hR0.symm⟩
    · rw [if_neg q] at hS0 hR0; exact Or.inr ⟨q, hS0.symm, hR0.symm⟩)
  have HPC : Hid (∀ c, s0 ≤ c → c < r0 → m ≤ p - c ∧ p - c < b ∧ c ≤ p ∧ c < m) := Lib.hid (fun c c1 c2 => by
    have := HSR.out
    omega)
  have HFI : Hid (∀ s, s0 ≤ s → s ≤ r0 → n - s ≤ b ∧ mid ≤ n - s ∧ m ≤ n - s ∧ s ≤ m ∧ s ≤ mid ∧ s ≤ n) := Lib.hid (fun s c1 c2 => by
    have := HSR.out
    omega)
  clear hS0 hR0 zb zc hn hp
  obtain ⟨q1, q2, q3⟩ : mid < m ∧ s0 = n - b ∧ r0 = mid := by
    rcases HSR.out with h | h
    · exact h
    · exact absurd hq h.1
  clear HSR hq
  have q1z : (mid : Int) < (m : Int) := by omega
  have q2z : (n : Int) - (b : Int) = (s0 : Int) := by omega
  have q2w : IntKind.i64.wrap (s0 : Int) = (s0 : Int) := IntWalk.i64_in _ (by omega)
  have HQ2 := Lib.hid q2
  clear q2
  have q3 := q3.symm
  subst q3
  go_enter Tryz.func63, Tryz.ntmps63
  go_wp2_with fail
  go_loopg [20, 21] (b + m) (fun g vi vj wr => ∃ (i j : Nat), vi = .int .i64 i ∧ vj = .int .i64 j ∧ j - i ≤ g ∧ s0 ≤ i ∧ j ≤ mid ∧ Hid (Bis (fun c => ahd r d[p - c]! d[c]!) s0 mid i j) ∧ Hid (RowS f blk w0 d wr))
  case atStart => exact ⟨s0, mid, rfl, rfl, by omega, Nat.le_refl _, Nat.le_refl _, Lib.hid (Bis.start _ z2), HR⟩
  case round =>
    clear HR
    obtain ⟨i, j, rfl, rfl, hgk, hai, hjb, HBI, HR⟩ := hrel
    have hij := HBI.out.le
    by_cases hlt : i < j
    · have hltz : (i : Int) < (j : Int) := by omega
      obtain ⟨h, hh⟩ : ∃ h, (i + j) / 2 = h := ⟨_, rfl⟩
      have hhz : ((i : Int) + (j : Int)) / 2 = (h : Int) := by omega
      obtain ⟨hh1, hh2⟩ : i ≤ h ∧ h < j := by omega
      have HUP := Lib.hid (HBI.out.up MONO.out hlt)
      have HDN := Lib.hid (HBI.out.down MONO.out hlt)
      rw [hh] at HUP HDN
      clear hh
      obtain ⟨c1, c2, c3, c4⟩ := HPC.out h (by omega) (by omega)
      have hCR := H2.out.cross h (p - h) (by omega) c4 c1 c2
      obtain ⟨pc, hpc⟩ : ∃ pc, p - h = pc := ⟨_, rfl⟩
      have hpcz : (p : Int) - (h : Int) = (pc : Int) := by omega
      have hpcw : IntKind.i64.wrap (pc : Int) = (pc : Int) := IntWalk.i64_in _ (by omega)
      rw [hpc] at hCR c1 c2 HUP HDN
      clear hpc
      have HCR := Lib.hid hCR
      have hxN : d[pc]! < N := HN.out _ (by omega)
      have hyN : d[h]! < N := HN.out _ (by omega)
      have HCEL := Lib.hid (fun (W : World) (hW : RowS f blk w0 d W) => And.intro (hW.cells pc (by omega)) (hW.cells h (by omega)))
      have HLR0 := HCM.out _ _ hxN hyN
      have hc := fun W => HC.out W _ _ hxN hyN
      obtain ⟨x, hx⟩ : ∃ x, d[pc]! = x := ⟨_, rfl⟩
      obtain ⟨y, hy⟩ : ∃ y, d[h]! = y := ⟨_, rfl⟩
      rw [hx, hy] at HCEL HLR0 hc
      have x0 : (0 : Int) ≤ (pc : Int) := by omega
      have y0 : (0 : Int) ≤ (h : Int) := by omega
      have x1 : (pc : Int) < (S : Int) := by omega
      have y1 : (h : Int) < (S : Int) := by omega
      have hb0 := HR.out.lt
      generalize cm x y = cv at hc HLR0
      generalize f x = fx at *
      generalize f y = fy at *
      obtain ⟨xl, xh, xi, xp⟩ := fx
      obtain ⟨yl, yh, yi, yp⟩ := fy
      unfold rgC at hc
      simp only at hc HCEL
      have hc := Lib.hid hc
      have HLR : Hid (ltR r d[pc]! d[h]! = decide (cv < 0)) := Lib.hid (by rw [hx, hy]; exact HLR0)
      have HQ := Lib.hid (And.intro hgk (And.intro hai hjb))
      clear hx hy HLR0 hxN hyN hCR
      by_cases hlv : cv < 0
      · have hP := Lib.hid (show ahd r d[pc]! d[h]! = true by rw [← HCR.out, HLR.out, decide_eq_true hlv])
        have hnd : (!decide (cv < 0)) = false := by simp [hlv]
        have HRD := Lib.hid HR.out.drew
        go_wp2_with fail
        go_region_held3 (fun w' => (w'.cell? ⟨blk, pc * 4, none⟩ = some (.string xl) ∧ w'.cell? ⟨blk, pc * 4 + 1, none⟩ = some (.string xh) ∧ w'.cell? ⟨blk, pc * 4 + 2, none⟩ = some (.string xi) ∧ w'.cell? ⟨blk, pc * 4 + 3, none⟩ = some (.string xp)) ∧ (w'.cell? ⟨blk, h * 4, none⟩ = some (.string yl) ∧ w'.cell? ⟨blk, h * 4 + 1, none⟩ = some (.string yh) ∧ w'.cell? ⟨blk, h * 4 + 2, none⟩ = some (.string yi) ∧ w'.cell? ⟨blk, h * 4 + 3, none⟩ = some (.string yp)))
          (exact HCEL.out _ HRD.out)
          (first
            | (go_at_call 28; refine (hc.out _).mono ?_; rintro e wq ⟨rfl, hb⟩; have HRD := Lib.hid (HRD.out.later hb); clear hb))
        go_wp2_with fail
        go_roundg (h - i)
        case measure => have := HQ.out; omega
        case rel => exact ⟨i, h, rfl, rfl, Nat.le_refl _, HQ.out.2.1, by have := HQ.out; omega, Lib.hid (HDN.out hP.out), HRD⟩
      · have hP := Lib.hid (show ahd r d[pc]! d[h]! = false by rw [← HCR.out, HLR.out, decide_eq_false hlv])
        have hnd : (!decide (cv < 0)) = true := by simp [hlv]
        have HRD := Lib.hid HR.out.drew
        go_wp2_with fail
        go_region_held3 (fun w' => (w'.cell? ⟨blk, pc * 4, none⟩ = some (.string xl) ∧ w'.cell? ⟨blk, pc * 4 + 1, none⟩ = some (.string xh) ∧ w'.cell? ⟨blk, pc * 4 + 2, none⟩ = some (.string xi) ∧ w'.cell? ⟨blk, pc * 4 + 3, none⟩ = some (.string xp)) ∧ (w'.cell? ⟨blk, h * 4, none⟩ = some (.string yl) ∧ w'.cell? ⟨blk, h * 4 + 1, none⟩ = some (.string yh) ∧ w'.cell? ⟨blk, h * 4 + 2, none⟩ = some (.string yi) ∧ w'.cell? ⟨blk, h * 4 + 3, none⟩ = some (.string yp)))
          (exact HCEL.out _ HRD.out)
          (first
            | (go_at_call 28; refine (hc.out _).mono ?_; rintro e wq ⟨rfl, hb⟩; have HRD := Lib.hid (HRD.out.later hb); clear hb))
        go_wp2_with fail
        go_roundg (j - (h + 1))
        case measure => have := HQ.out; omega
        case rel => exact ⟨h + 1, j, by go_num, rfl, Nat.le_refl _, by have := HQ.out; omega, HQ.out.2.2, Lib.hid (HUP.out hP.out), HRD⟩
    · have hltz : ¬ (i : Int) < (j : Int) := by omega
      have : i = j := by omega
      subst this
      obtain ⟨f1, f2, f3, f4, f5, f6⟩ := HFI.out i hai hjb
      have HCUT := Lib.hid (fun d1 => HCUT.out i d1 HBI.out)
      obtain ⟨e, he⟩ : ∃ e, n - i = e := ⟨_, rfl⟩
      have hez : (n : Int) - (i : Int) = (e : Int) := by omega
      have hew : IntKind.i64.wrap (e : Int) = (e : Int) := IntWalk.i64_in _ (by omega)
      rw [he] at f1 f2 f3 HCUT
      have HEN := Lib.hid he
      clear he
      have hai2 : a ≤ i := by omega
      by_cases A1 : i < m
      · have A1z : (i : Int) < (m : Int) := by omega
        by_cases A2 : m < e
        · have A2z : (m : Int) < (e : Int) := by omega
          by_cases B1 : a < i
          · have B1z : (a : Int) < (i : Int) := by omega
            by_cases B2 : i < mid
            · have B2z : (i : Int) < (mid : Int) := by omega
              by_cases C1 : mid < e
              · have C1z : (mid : Int) < (e : Int) := by omega
                by_cases C2 : e < b
                · have C2z : (e : Int) < (b : Int) := by omega
                  have hr0 := rot_any f blk cap i m e (.func (.func 28) #[] #[]) d w0 _ HR.out A1 A2 (by omega) (by omega)
                  rw [hd] at hr0
                  have HRT := Lib.hid hr0
                  clear hr0
                  go_wp2_with fail
                  refine HRT.out.mono ?_
                  rintro _ w1 ⟨rfl, d1, hr, hs⟩
                  have HW1 := Lib.hid hs
                  clear hs
                  have HC := Lib.hid (HCUT.out d1 hr)
                  have hz1 : d1.size = S := HC.out.perm.1.trans hd
                  have HN1 := Lib.hid (all_lt hd (by omega) HC.out.perm HN.out)
                  clear hr
                  have HS1 := Lib.hid (IH.out a i mid d1 _ (by omega) hz1 HN1.out (HC.out.two1 B1 B2 (by omega) (by omega)) HW1.out)
                  go_wp2_with fail
                  refine HS1.out.mono ?_
                  rintro _ w2 ⟨rfl, d2, hp2, hs⟩
                  have HW2 := Lib.hid hs
                  clear hs
                  have P2 := Lib.hid hp2
                  clear hp2
                  have hz2 : d2.size = S := P2.out.1.1.trans hz1
                  have HS2 := Lib.hid (IH.out mid e b d2 _ (by omega) hz2 (all_lt hz1 (by omega) P2.out.1 HN1.out) (HC.out.two2 P2.out.1 C1 C2 (by omega)) HW2.out)
                  go_wp2_with fail
                  refine HS2.out.mono ?_
                  rintro _ w3 ⟨rfl, d3, hp3, hs⟩
                  have HW3 := Lib.hid hs
                  clear hs
                  have P3 := Lib.hid hp3
                  clear hp3
                  go_wp2_with fail
                  go_end0
                  exact ⟨rfl, d3, HC.out.join (by omega) (by omega) (by omega) P2.out.1 P2.out.2 P3.out.1 P3.out.2, HW3.out⟩
                · have C2z : ¬ (e : Int) < (b : Int) := by omega
                  have hr0 := rot_any f blk cap i m e (.func (.func 28) #[] #[]) d w0 _ HR.out A1 A2 (by omega) (by omega)
                  rw [hd] at hr0
                  have HRT := Lib.hid hr0
                  clear hr0
                  go_wp2_with fail
                  refine HRT.out.mono ?_
                  rintro _ w1 ⟨rfl, d1, hr, hs⟩
                  have HW1 := Lib.hid hs
                  clear hs
                  have HC := Lib.hid (HCUT.out d1 hr)
                  have hz1 : d1.size = S := HC.out.perm.1.trans hd
                  have HN1 := Lib.hid (all_lt hd (by omega) HC.out.perm HN.out)
                  clear hr
                  have HS1 := Lib.hid (IH.out a i mid d1 _ (by omega) hz1 HN1.out (HC.out.two1 B1 B2 (by omega) (by omega)) HW1.out)
                  go_wp2_with fail
                  refine HS1.out.mono ?_
                  rintro _ w2 ⟨rfl, d2, hp2, hs⟩
                  have HW2 := Lib.hid hs
                  clear hs
                  have P2 := Lib.hid hp2
                  clear hp2
                  have hz2 : d2.size = S := P2.out.1.1.trans hz1
                  have P3 : Hid (PermIn mid b d2 d2 ∧ SortedIn (ahd r) mid b d2) := Lib.hid ⟨permIn_refl d2 mid b, cut_idle2 HC.out P2.out.1 f2 f1 (by omega)⟩
                  go_wp2_with fail
                  go_end0
                  exact ⟨rfl, d2, HC.out.join (by omega) (by omega) (by omega) P2.out.1 P2.out.2 P3.out.1 P3.out.2, HW2.out⟩
              · have C1z : ¬ (mid : Int) < (e : Int) := by omega
                exfalso
                have n1 := HNP.out.1
                have n2 := HMID.out
                have n3 := HEN.out
                have n4 := HQ2.out
                omega
            · have B2z : ¬ (i : Int) < (mid : Int) := by omega
              exfalso
              have n1 := HNP.out.1
              have n2 := HMID.out
              have n3 := HEN.out
              have n4 := HQ2.out
              omega
          · have B1z : ¬ (a : Int) < (i : Int) := by omega
            by_cases C1 : mid < e
            · have C1z : (mid : Int) < (e : Int) := by omega
              by_cases C2 : e < b
              · have C2z : (e : Int) < (b : Int) := by omega
                exfalso
                have n1 := HNP.out.1
                have n2 := HMID.out
                have n3 := HEN.out
                have n4 := HQ2.out
                omega
              · have C2z : ¬ (e : Int) < (b : Int) := by omega
                have hr0 := rot_any f blk cap i m e (.func (.func 28) #[] #[]) d w0 _ HR.out A1 A2 (by omega) (by omega)
                rw [hd] at hr0
                have HRT := Lib.hid hr0
                clear hr0
                go_wp2_with fail
                refine HRT.out.mono ?_
                rintro _ w1 ⟨rfl, d1, hr, hs⟩
                have HW1 := Lib.hid hs
                clear hs
                have HC := Lib.hid (HCUT.out d1 hr)
                have hz1 : d1.size = S := HC.out.perm.1.trans hd
                have HN1 := Lib.hid (all_lt hd (by omega) HC.out.perm HN.out)
                clear hr
                have P2 : Hid (PermIn a mid d1 d1 ∧ SortedIn (ahd r) a mid d1) := Lib.hid ⟨permIn_refl d1 a mid, cut_idle1 HC.out hai2 f5 (by omega)⟩
                have hz2 : d1.size = S := P2.out.1.1.trans hz1
                have P3 : Hid (PermIn mid b d1 d1 ∧ SortedIn (ahd r) mid b d1) := Lib.hid ⟨permIn_refl d1 mid b, cut_idle2 HC.out P2.out.1 f2 f1 (by omega)⟩
                go_wp2_with fail
                go_end0
                exact ⟨rfl, d1, HC.out.join (by omega) (by omega) (by omega) P2.out.1 P2.out.2 P3.out.1 P3.out.2, HW1.out⟩
            · have C1z : ¬ (mid : Int) < (e : Int) := by omega
              exfalso
              have n1 := HNP.out.1
              have n2 := HMID.out
              have n3 := HEN.out
              have n4 := HQ2.out
              omega
        · have A2z : ¬ (m : Int) < (e : Int) := by omega
          by_cases B1 : a < i
          · have B1z : (a : Int) < (i : Int) := by omega
            by_cases B2 : i < mid
            · have B2z : (i : Int) < (mid : Int) := by omega
              exfalso
              have n1 := HNP.out.1
              have n2 := HMID.out
              have n3 := HEN.out
              have n4 := HQ2.out
              omega
            · have B2z : ¬ (i : Int) < (mid : Int) := by omega
              by_cases C1 : mid < e
              · have C1z : (mid : Int) < (e : Int) := by omega
                by_cases C2 : e < b
                · have C2z : (e : Int) < (b : Int) := by omega
                  have hr : Rot d d i m e := by
                    have : m = e := by omega
                    subst this; exact Rot.refl_right d _ _
                  have HC := Lib.hid (HCUT.out d hr)
                  have hz1 : d.size = S := HC.out.perm.1.trans hd
                  have HN1 := Lib.hid (all_lt hd (by omega) HC.out.perm HN.out)
                  clear hr
                  have P2 : Hid (PermIn a mid d d ∧ SortedIn (ahd r) a mid d) := Lib.hid ⟨permIn_refl d a mid, cut_idle1 HC.out hai2 f5 (by omega)⟩
                  have hz2 : d.size = S := P2.out.1.1.trans hz1
                  have HS2 := Lib.hid (IH.out mid e b d _ (by omega) hz2 (all_lt hz1 (by omega) P2.out.1 HN1.out) (HC.out.two2 P2.out.1 C1 C2 (by omega)) HR.out)
                  go_wp2_with fail
                  refine HS2.out.mono ?_
                  rintro _ w3 ⟨rfl, d3, hp3, hs⟩
                  have HW3 := Lib.hid hs
                  clear hs
                  have P3 := Lib.hid hp3
                  clear hp3
                  go_wp2_with fail
                  go_end0
                  exact ⟨rfl, d3, HC.out.join (by omega) (by omega) (by omega) P2.out.1 P2.out.2 P3.out.1 P3.out.2, HW3.out⟩
                · have C2z : ¬ (e : Int) < (b : Int) := by omega
                  exfalso
                  have n1 := HNP.out.1
                  have n2 := HMID.out
                  have n3 := HEN.out
                  have n4 := HQ2.out
                  omega
              · have C1z : ¬ (mid : Int) < (e : Int) := by omega
                exfalso
                have n1 := HNP.out.1
                have n2 := HMID.out
                have n3 := HEN.out
                have n4 := HQ2.out
                omega
          · have B1z : ¬ (a : Int) < (i : Int) := by omega
            exfalso
            have n1 := HNP.out.1
            have n2 := HMID.out
            have n3 := HEN.out
            have n4 := HQ2.out
            omega
      · have A1z : ¬ (i : Int) < (m : Int) := by omega
        exfalso
        have n1 := HNP.out.1
        have n2 := HMID.out
        have n3 := HEN.out
        have n4 := HQ2.out
        omega
end Go.Proofs.YtiegoffdbhmfbaaGreatDoor
