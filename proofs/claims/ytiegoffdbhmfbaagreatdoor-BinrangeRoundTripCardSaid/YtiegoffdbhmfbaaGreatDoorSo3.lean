/- symMerge over rows of ranges: the blocks of one element. -/
import Derived.Test.YtiegoffdbhmfbaaGreatDoorSo2
namespace Go.Proofs.YtiegoffdbhmfbaaGreatDoor
set_option linter.unusedVariables false
open Go.RowKit Go.Sort

theorem all_lt {a b S N : Nat} {d d' : Array Nat} (hd : d.size = S) (hb : b ≤ S) (hp : PermIn a b d d') (hN : ∀ k, k < S → d[k]! < N) : ∀ k, k < S → d'[k]! < N := by
  intro k hk
  by_cases h : k < a ∨ b ≤ k
  · rw [hp.2.1 k h]; exact hN k hk
  · exact permIn_all d d' a b (fun x => x < N) (by omega) hp (fun p _ hpb => hN p (by omega)) k (by omega) (by omega)
section
variable {lt ltC : Nat → Nat → Bool}
theorem cut_idle1 {a s mid e b : Nat} {d d1 : Array Nat} (h : Cut lt ltC a s mid e b d d1) (h1 : a ≤ s) (h2 : s ≤ mid) (hn : ¬ (a < s ∧ s < mid)) : SortedIn lt a mid d1 := by
  by_cases q : a < s
  · have : s = mid := by omega
    subst this; exact h.s1
  · have : a = s := by omega
    subst this; exact h.s2
theorem cut_idle2 {a s mid e b : Nat} {d d1 d2 : Array Nat} (h : Cut lt ltC a s mid e b d d1) (p : PermIn a mid d1 d2) (h1 : mid ≤ e) (h2 : e ≤ b) (hn : ¬ (mid < e ∧ e < b)) : SortedIn lt mid b d2 := by
  have k : ∀ l, mid ≤ l → d2[l]! = d1[l]! := fun l hl => p.2.1 l (Or.inr hl)
  intro i j i1 ij j2
  rw [k i i1, k j (by omega)]
  by_cases q : mid < e
  · have : e = b := by omega
    subst this; exact h.s3 i j i1 ij j2
  · have : mid = e := by omega
    subst this; exact h.s4 i j i1 ij j2
end
/-- What symMerge makes of the row. -/
def SymPost (f : Nat → Rg) (blk : Nat) (w0 : World) (r : Nat → Nat) (a b : Nat) (d : Array Nat) (e : Ending) (w' : World) : Prop :=
  e = .returned (.tuple #[]) ∧ ∃ d', (PermIn a b d d' ∧ SortedIn (ahd r) a b d') ∧ RowS f blk w0 d' w'
/-- symMerge at blocks of fewer than g elements. -/
def SymIH (f : Nat → Rg) (blk cap N S : Nat) (r : Nat → Nat) (w0 : World) (g : Nat) : Prop := ∀ (a m b : Nat) (d : Array Nat) (w : World), b - a ≤ g → d.size = S → (∀ k, k < S → d[k]! < N) → Two (ahd r) (ltR r) a m b d → RowS f blk w0 d w →
    Calls Tryz.prog 63 #[.slice (some ⟨blk, 0, none⟩) S cap, .int .i64 a, .int .i64 m, .int .i64 b, .func (.func 28) #[] #[]] w (SymPost f blk w0 r a b d)
set_option maxHeartbeats 8000000 in
set_option maxRecDepth 1000000 in
theorem sym_one (f : Nat → Rg) (cm : Nat → Nat → Int) (blk cap N S : Nat) (r : Nat → Nat) (w0 : World) (hcmp : CmpR f cm N) (hcm : ∀ x y, x < N → y < N → ltR r x y = decide (cm x y < 0)) (hsz : S < 1000000)
    (g : Nat) (ih : SymIH f blk cap N S r w0 g) (a m b : Nat) (d : Array Nat) (w : World) (hg : b - a ≤ g + 1) (hd : d.size = S) (hN : ∀ k, k < S → d[k]! < N) (h2 : Two (ahd r) (ltR r) a m b d) (hR : RowS f blk w0 d w) (hm1 : m = a + 1) :
    Calls Tryz.prog 63 #[.slice (some ⟨blk, 0, none⟩) S cap, .int .i64 a, .int .i64 m, .int .i64 b, .func (.func 28) #[] #[]] w (SymPost f blk w0 r a b d) := by
  have IH := Lib.hid ih
  unfold SymIH at IH
  clear ih
  have am := h2.am
  have mb := h2.mb
  have bs := h2.bs
  have HC := Lib.hid hcmp
  unfold CmpR at HC
  have HCM := Lib.hid hcm
  have H2 := Lib.hid h2
  have HN := Lib.hid hN
  have HR := Lib.hid hR
  clear hcmp hcm h2 hN hR
  have w1 : IntKind.i64.wrap ((m : Int) - (a : Int)) = ((m - a : Nat) : Int) := by rw [IntWalk.i64_in _ (by omega)]; omega
  have w2 : IntKind.i64.wrap ((b : Int) - (m : Int)) = ((b - m : Nat) : Int) := by rw [IntWalk.i64_in _ (by omega)]; omega
  subst hm1
  have t1 : (((a : Int) + 1 - (a : Int)) == 1) = true := by simp; omega
  have MONO := Lib.hid (H2.out.mono_left (ahd_swo r))
  go_enter Tryz.func63, Tryz.ntmps63
  go_wp2_with fail
  go_loopg [10, 11] b (fun g vi vj wr => ∃ (i j : Nat), vi = .int .i64 i ∧ vj = .int .i64 j ∧ j - i ≤ g ∧ a + 1 ≤ i ∧ j ≤ b ∧ Hid (Bis (fun c => !ahd r d[c]! d[a]!) (a + 1) b i j) ∧ Hid (RowS f blk w0 d wr))
  case atStart => exact ⟨a + 1, b, by go_num, rfl, by omega, Nat.le_refl _, Nat.le_refl _, Lib.hid (Bis.start _ (by omega)), HR⟩
  case round =>
    clear HR
    obtain ⟨i, j, rfl, rfl, hgk, hai, hjb, HBI, HR⟩ := hrel
    have hij := HBI.out.le
    by_cases hlt : i < j
    · have hltz : (i : Int) < (j : Int) := by omega
      obtain ⟨h, hh⟩ : ∃ h, (i + j) / 2 = h := ⟨_, rfl⟩
      have hhz : ((i : Int) + (j : Int)) / 2 = (h : Int) := by omega
      obtain ⟨hh1, hh2⟩ : i ≤ h ∧ h < j := by omega
      have HUP := Lib.hid (HBI.out.up MONO.out hlt)
      have HDN := Lib.hid (HBI.out.down MONO.out hlt)
      rw [hh] at HUP HDN
      clear hh
      have hCR := H2.out.cross a h (Nat.le_refl _) (by omega) (by omega) (by omega)
      have HCR := Lib.hid hCR
      have hxN : d[h]! < N := HN.out _ (by omega)
      have hyN : d[a]! < N := HN.out _ (by omega)
      have HCEL := Lib.hid (fun (W : World) (hW : RowS f blk w0 d W) => And.intro (hW.cells h (by omega)) (hW.cells a (by omega)))
      have HLR0 := HCM.out _ _ hxN hyN
      have hc := fun W => HC.out W _ _ hxN hyN
      obtain ⟨x, hx⟩ : ∃ x, d[h]! = x := ⟨_, rfl⟩
      obtain ⟨y, hy⟩ : ∃ y, d[a]! = y := ⟨_, rfl⟩
      rw [hx, hy] at HCEL HLR0 hc
      have x0 : (0 : Int) ≤ (h : Int) := by omega
      have y0 : (0 : Int) ≤ (a : Int) := by omega
      have x1 : (h : Int) < (S : Int) := by omega
      have y1 : (a : Int) < (S : Int) := by omega
      have hb0 := HR.out.lt
      generalize cm x y = cv at hc HLR0
      generalize f x = fx at *
      generalize f y = fy at *
      obtain ⟨xl, xh, xi, xp⟩ := fx
      obtain ⟨yl, yh, yi, yp⟩ := fy
      unfold rgC at hc
      simp only at hc HCEL
      have hc := Lib.hid hc
      have HLR : Hid (ltR r d[h]! d[a]! = decide (cv < 0)) := Lib.hid (by rw [hx, hy]; exact HLR0)
      have HQ := Lib.hid (And.intro hgk (And.intro hai hjb))
      clear hx hy HLR0 hxN hyN hCR
      by_cases hlv : cv < 0
      · have hP := Lib.hid (show (!ahd r d[h]! d[a]!) = false by rw [← HCR.out, HLR.out, decide_eq_true hlv]; rfl)
        have HRD := Lib.hid HR.out.drew
        go_wp2_with fail
        go_region_held3 (fun w' => (w'.cell? ⟨blk, h * 4, none⟩ = some (.string xl) ∧ w'.cell? ⟨blk, h * 4 + 1, none⟩ = some (.string xh) ∧ w'.cell? ⟨blk, h * 4 + 2, none⟩ = some (.string xi) ∧ w'.cell? ⟨blk, h * 4 + 3, none⟩ = some (.string xp)) ∧ (w'.cell? ⟨blk, a * 4, none⟩ = some (.string yl) ∧ w'.cell? ⟨blk, a * 4 + 1, none⟩ = some (.string yh) ∧ w'.cell? ⟨blk, a * 4 + 2, none⟩ = some (.string yi) ∧ w'.cell? ⟨blk, a * 4 + 3, none⟩ = some (.string yp)))
          (exact HCEL.out _ HRD.out)
          (first
            | (go_at_call 28; refine (hc.out _).mono ?_; rintro e wq ⟨rfl, hb⟩; have HRD := Lib.hid (HRD.out.later hb); clear hb))
        go_wp2_with fail
        go_roundg (j - (h + 1))
        case measure => have := HQ.out; omega
        case rel => exact ⟨h + 1, j, by go_num, rfl, Nat.le_refl _, by have := HQ.out; omega, HQ.out.2.2, Lib.hid (HUP.out hP.out), HRD⟩
      · have hP := Lib.hid (show (!ahd r d[h]! d[a]!) = true by rw [← HCR.out, HLR.out, decide_eq_false hlv]; rfl)
        have HRD := Lib.hid HR.out.drew
        go_wp2_with fail
        go_region_held3 (fun w' => (w'.cell? ⟨blk, h * 4, none⟩ = some (.string xl) ∧ w'.cell? ⟨blk, h * 4 + 1, none⟩ = some (.string xh) ∧ w'.cell? ⟨blk, h * 4 + 2, none⟩ = some (.string xi) ∧ w'.cell? ⟨blk, h * 4 + 3, none⟩ = some (.string xp)) ∧ (w'.cell? ⟨blk, a * 4, none⟩ = some (.string yl) ∧ w'.cell? ⟨blk, a * 4 + 1, none⟩ = some (.string yh) ∧ w'.cell? ⟨blk, a * 4 + 2, none⟩ = some (.string yi) ∧ w'.cell? ⟨blk, a * 4 + 3, none⟩ = some (.string yp)))
          (exact HCEL.out _ HRD.out)
          (first
            | (go_at_call 28; refine (hc.out _).mono ?_; rintro e wq ⟨rfl, hb⟩; have HRD := Lib.hid (HRD.out.later hb); clear hb))
        go_wp2_with fail
        go_roundg (h - i)
        case measure => have := HQ.out; omega
        case rel => exact ⟨i, h, rfl, rfl, Nat.le_refl _, HQ.out.2.1, by have := HQ.out; omega, Lib.hid (HDN.out hP.out), HRD⟩
    · have hltz : ¬ (i : Int) < (j : Int) := by omega
      have : i = j := by omega
      subst this
      obtain ⟨i1, hi1⟩ : ∃ i1, i = i1 + 1 := ⟨i - 1, by omega⟩
      have hi1z : (i : Int) - 1 = (i1 : Int) := by omega
      have hi1w : IntKind.i64.wrap (i1 : Int) = (i1 : Int) := IntWalk.i64_in _ (by omega)
      have HFIN := Lib.hid (merge_left (ahd_swo r) H2.out HBI.out)
      have hi1e : i - 1 - a = i1 - a := by omega
      rw [hi1e] at HFIN
      clear hi1e
      go_wp2_with fail
      go_loopg [13] (i1 - a) (fun g vk wr => ∃ (k t : Nat), vk = .int .i64 k ∧ k = a + t ∧ k ≤ i1 ∧ i1 - k ≤ g ∧ Hid (RowS f blk w0 (shl a t d) wr))
      case atStart => exact ⟨a, 0, rfl, rfl, by omega, Nat.le_refl _, HR⟩
      case round =>
        obtain ⟨k, t, rfl, hkt, hk1, hgk, HR2⟩ := hrel
        by_cases hlt2 : k < i1
        · have hltz2 : (k : Int) < (i1 : Int) := by omega
          obtain ⟨k1, hk1'⟩ : ∃ k1, k1 = k + 1 := ⟨_, rfl⟩
          have hk1z : (k : Int) + 1 = (k1 : Int) := by omega
          have hk1w : IntKind.i64.wrap (k1 : Int) = (k1 : Int) := IntWalk.i64_in _ (by omega)
          have hnext : shl a (t + 1) d = swp (shl a t d) k k1 := by rw [hk1', hkt]; rfl
          have hds : (shl a t d).size = S := (shl_size a d t).trans hd
          obtain ⟨dj, hdj⟩ : ∃ dj, shl a t d = dj := ⟨_, rfl⟩
          rw [hdj] at hnext hds HR2
          have HNX := Lib.hid hnext
          have HK := Lib.hid (show k1 = a + (t + 1) ∧ k1 ≤ i1 ∧ i1 - k1 < i1 - k by omega)
          have hkk : k < k1 ∧ k1 < b ∧ k ≠ k1 := by omega
          obtain ⟨hkk1, hkk2, hkk3⟩ := hkk
          clear hdj hnext hkt hk1'
          have HSW := Lib.hid (HR2.out.swap k k1 (by omega) (by omega) _ _ rfl rfl)
          obtain ⟨c0, c1, c2, c3⟩ := HR2.out.cells k (by omega)
          obtain ⟨e0, e1, e2, e3⟩ := HR2.out.cells k1 (by omega)
          have f0 := HR2.out.free (k * 4)
          have f1 := HR2.out.free (k * 4 + 1)
          have f2 := HR2.out.free (k * 4 + 2)
          have f3 := HR2.out.free (k * 4 + 3)
          have g0 := HR2.out.free (k1 * 4)
          have g1 := HR2.out.free (k1 * 4 + 1)
          have g2 := HR2.out.free (k1 * 4 + 2)
          have g3 := HR2.out.free (k1 * 4 + 3)
          have hbq := HR2.out.lt
          rw [← HNX.out] at HSW
          generalize f dj[k]! = fx at *
          generalize f dj[k1]! = fy at *
          obtain ⟨xl, xh, xi, xp⟩ := fx
          obtain ⟨yl, yh, yi, yp⟩ := fy
          simp only at c0 c1 c2 c3 e0 e1 e2 e3 HSW
          have p0 : (0 : Int) ≤ (k : Int) := by omega
          have q0 : (0 : Int) ≤ (k1 : Int) := by omega
          have p1 : (k : Int) < (S : Int) := by omega
          have q1 : (k1 : Int) < (S : Int) := by omega
          clear HR2 HNX
          go_wp2_with fail
          go_region
          all_goals go_wp2_with fail
          go_roundg (i1 - k1)
          case measure => have := HK.out.2.2; omega
          case rel => exact ⟨k1, t + 1, rfl, HK.out.1, HK.out.2.1, Nat.le_refl _, HSW⟩
        · have hltz2 : ¬ (k : Int) < (i1 : Int) := by omega
          have : t = i1 - a := by omega
          subst this
          go_wp2_with fail
          go_end0
          exact ⟨rfl, _, HFIN.out, HR2.out⟩
set_option maxHeartbeats 8000000 in
set_option maxRecDepth 1000000 in
theorem sym_two (f : Nat → Rg) (cm : Nat → Nat → Int) (blk cap N S : Nat) (r : Nat → Nat) (w0 : World) (hcmp : CmpR f cm N) (hcm : ∀ x y, x < N → y < N → ltR r x y = decide (cm x y < 0)) (hsz : S < 1000000)
    (g : Nat) (ih : SymIH f blk cap N S r w0 g) (a m b : Nat) (d : Array Nat) (w : World) (hg : b - a ≤ g + 1) (hd : d.size = S) (hN : ∀ k, k < S → d[k]! < N) (h2 : Two (ahd r) (ltR r) a m b d) (hR : RowS f blk w0 d w) (hm1 : ¬ m = a + 1) (hb1 : b = m + 1) :
    Calls Tryz.prog 63 #[.slice (some ⟨blk, 0, none⟩) S cap, .int .i64 a, .int .i64 m, .int .i64 b, .func (.func 28) #[] #[]] w (SymPost f blk w0 r a b d) := by
  have IH := Lib.hid ih
  unfold SymIH at IH
  clear ih
  have am := h2.am
  have mb := h2.mb
  have bs := h2.bs
  have HC := Lib.hid hcmp
  unfold CmpR at HC
  have HCM := Lib.hid hcm
  have H2 := Lib.hid h2
  have HN := Lib.hid hN
  have HR := Lib.hid hR
  clear hcmp hcm h2 hN hR
  have w1 : IntKind.i64.wrap ((m : Int) - (a : Int)) = ((m - a : Nat) : Int) := by rw [IntWalk.i64_in _ (by omega)]; omega
  have w2 : IntKind.i64.wrap ((b : Int) - (m : Int)) = ((b - m : Nat) : Int) := by rw [IntWalk.i64_in _ (by omega)]; omega
  have t1 : (((m - a : Nat) : Int) == 1) = false := by simp; omega
  subst hb1
  have t2 : (((m : Int) + 1 - (m : Int)) == 1) = true := by simp; omega
  have MONO := Lib.hid (H2.out.mono_right (ahd_swo r))
  go_enter Tryz.func63, Tryz.ntmps63
  go_wp2_with fail
  go_loopg [14, 15] m (fun g vi vj wr => ∃ (i j : Nat), vi = .int .i64 i ∧ vj = .int .i64 j ∧ j - i ≤ g ∧ a ≤ i ∧ j ≤ m ∧ Hid (Bis (fun c => ahd r d[m]! d[c]!) a m i j) ∧ Hid (RowS f blk w0 d wr))
  case atStart => exact ⟨a, m, rfl, rfl, by omega, Nat.le_refl _, Nat.le_refl _, Lib.hid (Bis.start _ (by omega)), HR⟩
  case round =>
    clear HR
    obtain ⟨i, j, rfl, rfl, hgk, hai, hjb, HBI, HR⟩ := hrel
    have hij := HBI.out.le
    by_cases hlt : i < j
    · have hltz : (i : Int) < (j : Int) := by omega
      obtain ⟨h, hh⟩ : ∃ h, (i + j) / 2 = h := ⟨_, rfl⟩
      have hhz : ((i : Int) + (j : Int)) / 2 = (h : Int) := by omega
      obtain ⟨hh1, hh2⟩ : i ≤ h ∧ h < j := by omega
      have HUP := Lib.hid (HBI.out.up MONO.out hlt)
      have HDN := Lib.hid (HBI.out.down MONO.out hlt)
      rw [hh] at HUP HDN
      clear hh
      have hCR := H2.out.cross h m (by omega) (by omega) (Nat.le_refl _) (by omega)
      have HCR := Lib.hid hCR
      have hxN : d[m]! < N := HN.out _ (by omega)
      have hyN : d[h]! < N := HN.out _ (by omega)
      have HCEL := Lib.hid (fun (W : World) (hW : RowS f blk w0 d W) => And.intro (hW.cells m (by omega)) (hW.cells h (by omega)))
      have HLR0 := HCM.out _ _ hxN hyN
      have hc := fun W => HC.out W _ _ hxN hyN
      obtain ⟨x, hx⟩ : ∃ x, d[m]! = x := ⟨_, rfl⟩
      obtain ⟨y, hy⟩ : ∃ y, d[h]! = y := ⟨_, rfl⟩
      rw [hx, hy] at HCEL HLR0 hc
      have x0 : (0 : Int) ≤ (m : Int) := by omega
      have y0 : (0 : Int) ≤ (h : Int) := by omega
      have x1 : (m : Int) < (S : Int) := by omega
      have y1 : (h : Int) < (S : Int) := by omega
      have hb0 := HR.out.lt
      generalize cm x y = cv at hc HLR0
      generalize f x = fx at *
      generalize f y = fy at *
      obtain ⟨xl, xh, xi, xp⟩ := fx
      obtain ⟨yl, yh, yi, yp⟩ := fy
      unfold rgC at hc
      simp only at hc HCEL
      have hc := Lib.hid hc
      have HLR : Hid (ltR r d[m]! d[h]! = decide (cv < 0)) := Lib.hid (by rw [hx, hy]; exact HLR0)
      have HQ := Lib.hid (And.intro hgk (And.intro hai hjb))
      clear hx hy HLR0 hxN hyN hCR
      by_cases hlv : cv < 0
      · have hP := Lib.hid (show ahd r d[m]! d[h]! = true by rw [← HCR.out, HLR.out, decide_eq_true hlv])
        have hnd : (!decide (cv < 0)) = false := by simp [hlv]
        have HRD := Lib.hid HR.out.drew
        go_wp2_with fail
        go_region_held3 (fun w' => (w'.cell? ⟨blk, m * 4, none⟩ = some (.string xl) ∧ w'.cell? ⟨blk, m * 4 + 1, none⟩ = some (.string xh) ∧ w'.cell? ⟨blk, m * 4 + 2, none⟩ = some (.string xi) ∧ w'.cell? ⟨blk, m * 4 + 3, none⟩ = some (.string xp)) ∧ (w'.cell? ⟨blk, h * 4, none⟩ = some (.string yl) ∧ w'.cell? ⟨blk, h * 4 + 1, none⟩ = some (.string yh) ∧ w'.cell? ⟨blk, h * 4 + 2, none⟩ = some (.string yi) ∧ w'.cell? ⟨blk, h * 4 + 3, none⟩ = some (.string yp)))
          (exact HCEL.out _ HRD.out)
          (first
            | (go_at_call 28; refine (hc.out _).mono ?_; rintro e wq ⟨rfl, hb⟩; have HRD := Lib.hid (HRD.out.later hb); clear hb))
        go_wp2_with fail
        go_roundg (h - i)
        case measure => have := HQ.out; omega
        case rel => exact ⟨i, h, rfl, rfl, Nat.le_refl _, HQ.out.2.1, by have := HQ.out; omega, Lib.hid (HDN.out hP.out), HRD⟩
      · have hP := Lib.hid (show ahd r d[m]! d[h]! = false by rw [← HCR.out, HLR.out, decide_eq_false hlv])
        have hnd : (!decide (cv < 0)) = true := by simp [hlv]
        have HRD := Lib.hid HR.out.drew
        go_wp2_with fail
        go_region_held3 (fun w' => (w'.cell? ⟨blk, m * 4, none⟩ = some (.string xl) ∧ w'.cell? ⟨blk, m * 4 + 1, none⟩ = some (.string xh) ∧ w'.cell? ⟨blk, m * 4 + 2, none⟩ = some (.string xi) ∧ w'.cell? ⟨blk, m * 4 + 3, none⟩ = some (.string xp)) ∧ (w'.cell? ⟨blk, h * 4, none⟩ = some (.string yl) ∧ w'.cell? ⟨blk, h * 4 + 1, none⟩ = some (.string yh) ∧ w'.cell? ⟨blk, h * 4 + 2, none⟩ = some (.string yi) ∧ w'.cell? ⟨blk, h * 4 + 3, none⟩ = some (.string yp)))
          (exact HCEL.out _ HRD.out)
          (first
            | (go_at_call 28; refine (hc.out _).mono ?_; rintro e wq ⟨rfl, hb⟩; have HRD := Lib.hid (HRD.out.later hb); clear hb))
        go_wp2_with fail
        go_roundg (j - (h + 1))
        case measure => have := HQ.out; omega
        case rel => exact ⟨h + 1, j, by go_num, rfl, Nat.le_refl _, by have := HQ.out; omega, HQ.out.2.2, Lib.hid (HUP.out hP.out), HRD⟩
    · have hltz : ¬ (i : Int) < (j : Int) := by omega
      have : i = j := by omega
      subst this
      have HFIN := Lib.hid (merge_right (ahd_swo r) H2.out HBI.out)
      go_wp2_with fail
      go_loopg [17] (m - i) (fun g vk wr => ∃ (k t : Nat), vk = .int .i64 k ∧ m = k + t ∧ i ≤ k ∧ k - i ≤ g ∧ Hid (RowS f blk w0 (shr m t d) wr))
      case atStart => exact ⟨m, 0, rfl, rfl, by omega, Nat.le_refl _, HR⟩
      case round =>
        obtain ⟨k, t, rfl, hkt, hk1, hgk, HR2⟩ := hrel
        by_cases hlt2 : i < k
        · have hltz2 : (i : Int) < (k : Int) := by omega
          obtain ⟨k1, hk1'⟩ : ∃ k1, k = k1 + 1 := ⟨k - 1, by omega⟩
          have hk1z : (k : Int) - 1 = (k1 : Int) := by omega
          have hk1w : IntKind.i64.wrap (k1 : Int) = (k1 : Int) := IntWalk.i64_in _ (by omega)
          have hnext : shr m (t + 1) d = swp (shr m t d) k k1 := by rw [shr, show m - t = k by omega, show k - 1 = k1 by omega]
          have hds : (shr m t d).size = S := (shr_size m d t).trans hd
          obtain ⟨dj, hdj⟩ : ∃ dj, shr m t d = dj := ⟨_, rfl⟩
          rw [hdj] at hnext hds HR2
          have HNX := Lib.hid hnext
          have HK := Lib.hid (show m = k1 + (t + 1) ∧ i ≤ k1 ∧ k1 - i < k - i by omega)
          have hkk : k1 < k ∧ k < m + 1 ∧ k ≠ k1 := by omega
          obtain ⟨hkk1, hkk2, hkk3⟩ := hkk
          clear hdj hnext hkt hk1'
          have HSW := Lib.hid (HR2.out.swap k k1 (by omega) (by omega) _ _ rfl rfl)
          obtain ⟨c0, c1, c2, c3⟩ := HR2.out.cells k (by omega)
          obtain ⟨e0, e1, e2, e3⟩ := HR2.out.cells k1 (by omega)
          have f0 := HR2.out.free (k * 4)
          have f1 := HR2.out.free (k * 4 + 1)
          have f2 := HR2.out.free (k * 4 + 2)
          have f3 := HR2.out.free (k * 4 + 3)
          have g0 := HR2.out.free (k1 * 4)
          have g1 := HR2.out.free (k1 * 4 + 1)
          have g2 := HR2.out.free (k1 * 4 + 2)
          have g3 := HR2.out.free (k1 * 4 + 3)
          have hbq := HR2.out.lt
          rw [← HNX.out] at HSW
          generalize f dj[k]! = fx at *
          generalize f dj[k1]! = fy at *
          obtain ⟨xl, xh, xi, xp⟩ := fx
          obtain ⟨yl, yh, yi, yp⟩ := fy
          simp only at c0 c1 c2 c3 e0 e1 e2 e3 HSW
          have p0 : (0 : Int) ≤ (k : Int) := by omega
          have q0 : (0 : Int) ≤ (k1 : Int) := by omega
          have p1 : (k : Int) < (S : Int) := by omega
          have q1 : (k1 : Int) < (S : Int) := by omega
          clear HR2 HNX
          go_wp2_with fail
          go_region
          all_goals go_wp2_with fail
          go_roundg (k1 - i)
          case measure => have := HK.out.2.2; omega
          case rel => exact ⟨k1, t + 1, rfl, HK.out.1, HK.out.2.1, Nat.le_refl _, HSW⟩
        · have hltz2 : ¬ (i : Int) < (k : Int) := by omega
          have : t = m - i := by omega
          subst this
          clear hkt
          go_wp2_with fail
          go_end0
          exact ⟨rfl, _, HFIN.out, HR2.out⟩
end Go.Proofs.YtiegoffdbhmfbaaGreatDoor
