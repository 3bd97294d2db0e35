/- The walk of symMerge. -/
import Derived.Test.YtadehobimlpmcaaDoorSrt2
namespace Go.Proofs.YtadehobimlpmcaaDoor
set_option linter.unusedVariables false
open Go.RowKit Go.Sort

theorem all_lt {a b S N : Nat} {d d' : Array Nat} (hd : d.size = S) (hb : b ≤ S) (hp : PermIn a b d d') (hN : ∀ k, k < S → d[k]! < N) : ∀ k, k < S → d'[k]! < N := by
  intro k hk
  by_cases h : k < a ∨ b ≤ k
  · rw [hp.2.1 k h]; exact hN k hk
  · exact permIn_all d d' a b (fun x => x < N) (by omega) hp (fun p _ hpb => hN p (by omega)) k (by omega) (by omega)
section
variable {lt ltC : Nat → Nat → Bool}
theorem cut_idle1 {a s mid e b : Nat} {d d1 : Array Nat} (h : Cut lt ltC a s mid e b d d1) (h1 : a ≤ s) (h2 : s ≤ mid) (hn : ¬ (a < s ∧ s < mid)) : SortedIn lt a mid d1 := by
  by_cases q : a < s
  · have : s = mid := by omega
    subst this; exact h.s1
  · have : a = s := by omega
    subst this; exact h.s2
theorem cut_idle2 {a s mid e b : Nat} {d d1 d2 : Array Nat} (h : Cut lt ltC a s mid e b d d1) (p : PermIn a mid d1 d2) (h1 : mid ≤ e) (h2 : e ≤ b) (hn : ¬ (mid < e ∧ e < b)) : SortedIn lt mid b d2 := by
  have k : ∀ l, mid ≤ l → d2[l]! = d1[l]! := fun l hl => p.2.1 l (Or.inr hl)
  intro i j i1 ij j2
  rw [k i i1, k j (by omega)]
  by_cases q : mid < e
  · have : e = b := by omega
    subst this; exact h.s3 i j i1 ij j2
  · have : mid = e := by omega
    subst this; exact h.s4 i j i1 ij j2
end
/-- rotate behind other turns of the row. -/
theorem rot_at (blk cap a m b q : Nat) (F : Value) (d d0 : Array Nat) (w : World) (hH : Holds encI w blk 0 d0) (hs : d.size = d0.size) (h1 : a < m) (h2 : m < b) (h3 : b ≤ d.size) (hsz : d.size < 1000000) :
    Calls Tryd.prog 78 #[.slice (some ⟨blk, 0, none⟩) d.size cap, .int .i64 a, .int .i64 m, .int .i64 b, F] ((putRow encI w blk 0 d).drewN q) fun e w' =>
      e = .returned (.tuple #[]) ∧ ∃ q' d', Rot d d' a m b ∧ w' = (putRow encI w blk 0 d').drewN q' := by
  refine (rot_any blk cap a m b F d _ (holds_mix hH hs) h1 h2 h3 hsz).mono ?_
  rintro e w' ⟨rfl, q', d', hr, rfl⟩
  exact ⟨rfl, q + q', d', hr, put_mix w blk q q' d d' hr.perm.1⟩
/-- What symMerge makes of the row. -/
def SymPost (w : World) (blk : Nat) (r : Nat → Nat) (a b : Nat) (d : Array Nat) (e : Ending) (w' : World) : Prop :=
  e = .returned (.tuple #[]) ∧ ∃ q d', (PermIn a b d d' ∧ SortedIn (ahd r) a b d') ∧ w' = (putRow encI w blk 0 d').drewN q
/-- symMerge at blocks of fewer than g elements. -/
def SymIH (BR blk cap N S : Nat) (r : Nat → Nat) (w : World) (g : Nat) : Prop := ∀ (a m b q : Nat) (d : Array Nat), b - a ≤ g → d.size = S → (∀ k, k < S → d[k]! < N) → Two (ahd r) (ltR r) a m b d →
    Calls Tryd.prog 69 #[.slice (some ⟨blk, 0, none⟩) S cap, .int .i64 a, .int .i64 m, .int .i64 b, .func (.func 38) #[] #[.pointer (some ⟨BR, 0, none⟩)]] ((putRow encI w blk 0 d).drewN q) (SymPost w blk r a b d)
set_option maxHeartbeats 8000000 in
set_option maxRecDepth 1000000 in
theorem sym_one (BR blk cap N S : Nat) (r : Nat → Nat) (d0 : Array Nat) (w : World) (hcmp : CmpAt w BR blk N r S) (hH : Holds encI w blk 0 d0) (h0 : d0.size = S) (hsz : S < 1000000)
    (g : Nat) (ih : SymIH BR blk cap N S r w g) (a m b q : Nat) (d : Array Nat) (hg : b - a ≤ g + 1) (hd : d.size = S) (hN : ∀ k, k < S → d[k]! < N) (h2 : Two (ahd r) (ltR r) a m b d) (hm1 : m = a + 1) :
    Calls Tryd.prog 69 #[.slice (some ⟨blk, 0, none⟩) S cap, .int .i64 a, .int .i64 m, .int .i64 b, .func (.func 38) #[] #[.pointer (some ⟨BR, 0, none⟩)]] ((putRow encI w blk 0 d).drewN q) (SymPost w blk r a b d) := by
  have IH := Lib.hid ih
  unfold SymIH at IH
  clear ih
  have am := h2.am
  have mb := h2.mb
  have bs := h2.bs
  have HCMP := Lib.hid hcmp
  have H2 := Lib.hid h2
  have HN := Lib.hid hN
  have HH := Lib.hid hH
  clear hcmp h2 hN hH
  have w1 : IntKind.i64.wrap ((m : Int) - (a : Int)) = ((m - a : Nat) : Int) := by rw [IntWalk.i64_in _ (by omega)]; omega
  have w2 : IntKind.i64.wrap ((b : Int) - (m : Int)) = ((b - m : Nat) : Int) := by rw [IntWalk.i64_in _ (by omega)]; omega
  subst hm1
  have t1 : (((a : Int) + 1 - (a : Int)) == 1) = true := by simp; omega
  have MONO := Lib.hid (H2.out.mono_left (ahd_swo r))
  go_enter Tryd.func69, Tryd.ntmps69
  go_wp2_with fail
  go_loopg [10, 11] b (fun g vi vj wr => ∃ (i j q : Nat), vi = .int .i64 i ∧ vj = .int .i64 j ∧ j - i ≤ g ∧ a + 1 ≤ i ∧ j ≤ b ∧ Hid (Bis (fun c => !ahd r d[c]! d[a]!) (a + 1) b i j) ∧ wr = (putRow encI w blk 0 d).drewN q)
  case atStart => exact ⟨a + 1, b, q, by go_num, rfl, by omega, Nat.le_refl _, Nat.le_refl _, Lib.hid (Bis.start _ (by omega)), rfl⟩
  case round =>
    obtain ⟨i, j, q, rfl, rfl, hgk, hai, hjb, HBI, rfl⟩ := hrel
    have hij := HBI.out.le
    by_cases hlt : i < j
    · have hltz : (i : Int) < (j : Int) := by omega
      obtain ⟨h, hh⟩ : ∃ h, (i + j) / 2 = h := ⟨_, rfl⟩
      have hhz : ((i : Int) + (j : Int)) / 2 = (h : Int) := by omega
      obtain ⟨hh1, hh2⟩ : i ≤ h ∧ h < j := by omega
      have HUP := Lib.hid (HBI.out.up MONO.out hlt)
      have HDN := Lib.hid (HBI.out.down MONO.out hlt)
      rw [hh] at HUP HDN
      clear hh
      have hCR := H2.out.cross a h (Nat.le_refl _) (by omega) (by omega) (by omega)
      have HCR := Lib.hid hCR
      obtain ⟨x, hx⟩ : ∃ x, d[h]! = x := ⟨_, rfl⟩
      obtain ⟨y, hy⟩ : ∃ y, d[a]! = y := ⟨_, rfl⟩
      have hHj := holds_putRow encI w blk 0 d0 d HH.out (hd.trans h0.symm)
      obtain ⟨cx, fx⟩ := hHj h (by omega)
      obtain ⟨cy, fy⟩ := hHj a (by omega)
      rw [Nat.zero_add] at cx fx cy fy
      have hxN : x < N := by rw [← hx]; exact HN.out _ (by omega)
      have hyN : y < N := by rw [← hy]; exact HN.out _ (by omega)
      have HX := Lib.hid hx
      have HY := Lib.hid hy
      rw [hx] at cx
      rw [hy] at cy
      have hc : ∀ n, Calls Tryd.prog 38 #[.int .i64 x, .int .i64 y, .pointer (some ⟨BR, 0, none⟩)] (((putRow encI w blk 0 d).drewN q).drewN n) fun e w' => e = .returned (.int .i64 (cmpI (r y) (r x))) ∧ ∃ q', w' = (((putRow encI w blk 0 d).drewN q).drewN n).drewN q' := fun n => by
        have := HCMP.out (q + n) d hd x y hxN hyN
        rw [← World.drewN_drewN] at this
        exact this
      have hc := Lib.hid hc
      have cx' : ((putRow encI w blk 0 d).drewN q).cell? ⟨blk, h, none⟩ = some (.int .i64 x) := cx
      have cy' : ((putRow encI w blk 0 d).drewN q).cell? ⟨blk, a, none⟩ = some (.int .i64 y) := cy
      have x0 : (0 : Int) ≤ (h : Int) := by omega
      have y0 : (0 : Int) ≤ (a : Int) := by omega
      have x1 : (h : Int) < (S : Int) := by omega
      have y1 : (a : Int) < (S : Int) := by omega
      clear hHj cx fx cy fy hCR
      generalize hwq : (putRow encI w blk 0 d).drewN q = wq at cx' cy' hc ⊢
      have HWQ := Lib.hid hwq
      obtain ⟨cv, hcv⟩ : ∃ cv, cmpI (r y) (r x) = cv := ⟨_, rfl⟩
      have HLR : Hid (ltR r d[h]! d[a]! = decide (cv < 0)) := Lib.hid (by rw [hx, hy, ← hcv]; exact cmp_neg r x y)
      rw [hcv] at hc
      clear hwq hcv hx hy
      by_cases hlv : cv < 0
      · have hP := Lib.hid (show (!ahd r d[h]! d[a]!) = false by rw [← HCR.out, HLR.out, decide_eq_true hlv]; rfl)
        go_wp2_with fail
        go_quiet ((go_at_call 38; exact Calls.quiet_of (hc.out _)))
        go_wp2_with fail
        go_roundg (j - (h + 1))
        case measure => omega
        case rel => exact ⟨h + 1, j, q + nq, by go_num, rfl, Nat.le_refl _, by omega, hjb, Lib.hid (HUP.out hP.out), by rw [← HWQ.out, World.drewN_drewN]⟩
      · have hP := Lib.hid (show (!ahd r d[h]! d[a]!) = true by rw [← HCR.out, HLR.out, decide_eq_false hlv]; rfl)
        go_wp2_with fail
        go_quiet ((go_at_call 38; exact Calls.quiet_of (hc.out _)))
        go_wp2_with fail
        go_roundg (h - i)
        case measure => omega
        case rel => exact ⟨i, h, q + nq, rfl, rfl, Nat.le_refl _, hai, by omega, Lib.hid (HDN.out hP.out), by rw [← HWQ.out, World.drewN_drewN]⟩
    · have hltz : ¬ (i : Int) < (j : Int) := by omega
      have : i = j := by omega
      subst this
      obtain ⟨i1, hi1⟩ : ∃ i1, i = i1 + 1 := ⟨i - 1, by omega⟩
      have hi1z : (i : Int) - 1 = (i1 : Int) := by omega
      have hi1w : IntKind.i64.wrap (i1 : Int) = (i1 : Int) := IntWalk.i64_in _ (by omega)
      have HFIN := Lib.hid (merge_left (ahd_swo r) H2.out HBI.out)
      have hi1e : i - 1 - a = i1 - a := by omega
      rw [hi1e] at HFIN
      clear hi1e
      go_wp2_with fail
      go_loopg [13] (i1 - a) (fun g vk wr => ∃ (k t qn : Nat), vk = .int .i64 k ∧ k = a + t ∧ k ≤ i1 ∧ i1 - k ≤ g ∧ wr = (putRow encI w blk 0 (shl a t d)).drewN qn)
      case atStart => exact ⟨a, 0, q, rfl, rfl, by omega, Nat.le_refl _, rfl⟩
      case round =>
        obtain ⟨k, t, qn, rfl, hkt, hk1, hgk, rfl⟩ := hrel
        by_cases hlt2 : k < i1
        · have hltz2 : (k : Int) < (i1 : Int) := by omega
          obtain ⟨k1, hk1'⟩ : ∃ k1, k1 = k + 1 := ⟨_, rfl⟩
          have hk1z : (k : Int) + 1 = (k1 : Int) := by omega
          have hk1w : IntKind.i64.wrap (k1 : Int) = (k1 : Int) := IntWalk.i64_in _ (by omega)
          have hnext : shl a (t + 1) d = swp (shl a t d) k k1 := by rw [hk1', hkt]; rfl
          have hds : (shl a t d).size = S := (shl_size a d t).trans hd
          obtain ⟨dj, hdj⟩ : ∃ dj, shl a t d = dj := ⟨_, rfl⟩
          rw [hdj] at hnext hds ⊢
          have HNX := Lib.hid hnext
          have HK := Lib.hid (show k1 = a + (t + 1) ∧ k1 ≤ i1 ∧ i1 - k1 < i1 - k by omega)
          have hkk : k < k1 ∧ k1 < b ∧ k ≠ k1 := by omega
          obtain ⟨hkk1, hkk2, hkk3⟩ := hkk
          clear hdj hnext hkt hk1'
          have hHj := holds_putRow encI w blk 0 d0 dj HH.out (hds.trans h0.symm)
          obtain ⟨x, hx⟩ : ∃ x, dj[k]! = x := ⟨_, rfl⟩
          obtain ⟨y, hy⟩ : ∃ y, dj[k1]! = y := ⟨_, rfl⟩
          obtain ⟨cp, fp⟩ := hHj k (by omega)
          obtain ⟨cq, fq⟩ := hHj k1 (by omega)
          rw [Nat.zero_add] at cp fp cq fq
          rw [hx] at cp
          rw [hy] at cq
          have p0 : (0 : Int) ≤ (k : Int) := by omega
          have q0 : (0 : Int) ≤ (k1 : Int) := by omega
          have p1 : (k : Int) < (S : Int) := by omega
          have q1 : (k1 : Int) < (S : Int) := by omega
          have cp' : ((putRow encI w blk 0 dj).drewN qn).cell? ⟨blk, k, none⟩ = some (.int .i64 x) := cp
          have cq' : ((putRow encI w blk 0 dj).drewN qn).cell? ⟨blk, k1, none⟩ = some (.int .i64 y) := cq
          have fp' : ((putRow encI w blk 0 dj).drewN qn).frozen? ⟨blk, k, none⟩ = false := fp
          have fq' : ((putRow encI w blk 0 dj).drewN qn).frozen? ⟨blk, k1, none⟩ = false := fq
          have HX := Lib.hid hx
          have HY := Lib.hid hy
          have HW : Hid (((((putRow encI w blk 0 dj).drewN qn).setCell ⟨blk, k, none⟩ (.int .i64 y)).setCell ⟨blk, k1, none⟩ (.int .i64 x)).drew = (putRow encI w blk 0 (swp dj k k1)).drewN (qn + 1)) := Lib.hid (by
            rw [← hx, ← hy]
            have := swap_worldC encI w blk 0 dj qn k k1 (by omega) (by omega)
            rw [Nat.zero_add, Nat.zero_add] at this
            exact this)
          clear hHj cp fp cq fq hx hy
          generalize hwq : (putRow encI w blk 0 dj).drewN qn = wq at cp' cq' fp' fq' HW ⊢
          clear hwq
          go_wp2_with fail
          go_region
          all_goals go_wp2_with fail
          rw [HW.out, ← HNX.out]
          go_roundg (i1 - k1)
          case measure => have := HK.out.2.2; omega
          case rel => exact ⟨k1, t + 1, qn + 1, rfl, HK.out.1, HK.out.2.1, Nat.le_refl _, rfl⟩
        · have hltz2 : ¬ (k : Int) < (i1 : Int) := by omega
          have : t = i1 - a := by omega
          subst this
          go_wp2_with fail
          go_end0
          exact ⟨rfl, qn, _, HFIN.out, rfl⟩
set_option maxHeartbeats 8000000 in
set_option maxRecDepth 1000000 in
theorem sym_two (BR blk cap N S : Nat) (r : Nat → Nat) (d0 : Array Nat) (w : World) (hcmp : CmpAt w BR blk N r S) (hH : Holds encI w blk 0 d0) (h0 : d0.size = S) (hsz : S < 1000000)
    (g : Nat) (ih : SymIH BR blk cap N S r w g) (a m b q : Nat) (d : Array Nat) (hg : b - a ≤ g + 1) (hd : d.size = S) (hN : ∀ k, k < S → d[k]! < N) (h2 : Two (ahd r) (ltR r) a m b d) (hm1 : ¬ m = a + 1) (hb1 : b = m + 1) :
    Calls Tryd.prog 69 #[.slice (some ⟨blk, 0, none⟩) S cap, .int .i64 a, .int .i64 m, .int .i64 b, .func (.func 38) #[] #[.pointer (some ⟨BR, 0, none⟩)]] ((putRow encI w blk 0 d).drewN q) (SymPost w blk r a b d) := by
  have IH := Lib.hid ih
  unfold SymIH at IH
  clear ih
  have am := h2.am
  have mb := h2.mb
  have bs := h2.bs
  have HCMP := Lib.hid hcmp
  have H2 := Lib.hid h2
  have HN := Lib.hid hN
  have HH := Lib.hid hH
  clear hcmp h2 hN hH
  have w1 : IntKind.i64.wrap ((m : Int) - (a : Int)) = ((m - a : Nat) : Int) := by rw [IntWalk.i64_in _ (by omega)]; omega
  have w2 : IntKind.i64.wrap ((b : Int) - (m : Int)) = ((b - m : Nat) : Int) := by rw [IntWalk.i64_in _ (by omega)]; omega
  have t1 : (((m - a : Nat) : Int) == 1) = false := by simp; omega
  subst hb1
  have t2 : (((m : Int) + 1 - (m : Int)) == 1) = true := by simp; omega
  have MONO := Lib.hid (H2.out.mono_right (ahd_swo r))
  go_enter Tryd.func69, Tryd.ntmps69
  go_wp2_with fail
  go_loopg [14, 15] m (fun g vi vj wr => ∃ (i j q : Nat), vi = .int .i64 i ∧ vj = .int .i64 j ∧ j - i ≤ g ∧ a ≤ i ∧ j ≤ m ∧ Hid (Bis (fun c => ahd r d[m]! d[c]!) a m i j) ∧ wr = (putRow encI w blk 0 d).drewN q)
  case atStart => exact ⟨a, m, q, rfl, rfl, by omega, Nat.le_refl _, Nat.le_refl _, Lib.hid (Bis.start _ (by omega)), rfl⟩
  case round =>
    obtain ⟨i, j, q, rfl, rfl, hgk, hai, hjb, HBI, rfl⟩ := hrel
    have hij := HBI.out.le
    by_cases hlt : i < j
    · have hltz : (i : Int) < (j : Int) := by omega
      obtain ⟨h, hh⟩ : ∃ h, (i + j) / 2 = h := ⟨_, rfl⟩
      have hhz : ((i : Int) + (j : Int)) / 2 = (h : Int) := by omega
      obtain ⟨hh1, hh2⟩ : i ≤ h ∧ h < j := by omega
      have HUP := Lib.hid (HBI.out.up MONO.out hlt)
      have HDN := Lib.hid (HBI.out.down MONO.out hlt)
      rw [hh] at HUP HDN
      clear hh
      have hCR := H2.out.cross h m (by omega) (by omega) (Nat.le_refl _) (by omega)
      have HCR := Lib.hid hCR
      obtain ⟨x, hx⟩ : ∃ x, d[m]! = x := ⟨_, rfl⟩
      obtain ⟨y, hy⟩ : ∃ y, d[h]! = y := ⟨_, rfl⟩
      have hHj := holds_putRow encI w blk 0 d0 d HH.out (hd.trans h0.symm)
      obtain ⟨cx, fx⟩ := hHj m (by omega)
      obtain ⟨cy, fy⟩ := hHj h (by omega)
      rw [Nat.zero_add] at cx fx cy fy
      have hxN : x < N := by rw [← hx]; exact HN.out _ (by omega)
      have hyN : y < N := by rw [← hy]; exact HN.out _ (by omega)
      have HX := Lib.hid hx
      have HY := Lib.hid hy
      rw [hx] at cx
      rw [hy] at cy
      have hc : ∀ n, Calls Tryd.prog 38 #[.int .i64 x, .int .i64 y, .pointer (some ⟨BR, 0, none⟩)] (((putRow encI w blk 0 d).drewN q).drewN n) fun e w' => e = .returned (.int .i64 (cmpI (r y) (r x))) ∧ ∃ q', w' = (((putRow encI w blk 0 d).drewN q).drewN n).drewN q' := fun n => by
        have := HCMP.out (q + n) d hd x y hxN hyN
        rw [← World.drewN_drewN] at this
        exact this
      have hc := Lib.hid hc
      have cx' : ((putRow encI w blk 0 d).drewN q).cell? ⟨blk, m, none⟩ = some (.int .i64 x) := cx
      have cy' : ((putRow encI w blk 0 d).drewN q).cell? ⟨blk, h, none⟩ = some (.int .i64 y) := cy
      have x0 : (0 : Int) ≤ (m : Int) := by omega
      have y0 : (0 : Int) ≤ (h : Int) := by omega
      have x1 : (m : Int) < (S : Int) := by omega
      have y1 : (h : Int) < (S : Int) := by omega
      clear hHj cx fx cy fy hCR
      generalize hwq : (putRow encI w blk 0 d).drewN q = wq at cx' cy' hc ⊢
      have HWQ := Lib.hid hwq
      obtain ⟨cv, hcv⟩ : ∃ cv, cmpI (r y) (r x) = cv := ⟨_, rfl⟩
      have HLR : Hid (ltR r d[m]! d[h]! = decide (cv < 0)) := Lib.hid (by rw [hx, hy, ← hcv]; exact cmp_neg r x y)
      rw [hcv] at hc
      clear hwq hcv hx hy
      by_cases hlv : cv < 0
      · have hP := Lib.hid (show ahd r d[m]! d[h]! = true by rw [← HCR.out, HLR.out, decide_eq_true hlv])
        have hnd : (!decide (cv < 0)) = false := by simp [hlv]
        go_wp2_with fail
        go_quiet ((go_at_call 38; exact Calls.quiet_of (hc.out _)))
        go_wp2_with fail
        go_roundg (h - i)
        case measure => omega
        case rel => exact ⟨i, h, q + nq, rfl, rfl, Nat.le_refl _, hai, by omega, Lib.hid (HDN.out hP.out), by rw [← HWQ.out, World.drewN_drewN]⟩
      · have hP := Lib.hid (show ahd r d[m]! d[h]! = false by rw [← HCR.out, HLR.out, decide_eq_false hlv])
        have hnd : (!decide (cv < 0)) = true := by simp [hlv]
        go_wp2_with fail
        go_quiet ((go_at_call 38; exact Calls.quiet_of (hc.out _)))
        go_wp2_with fail
        go_roundg (j - (h + 1))
        case measure => omega
        case rel => exact ⟨h + 1, j, q + nq, by go_num, rfl, Nat.le_refl _, by omega, hjb, Lib.hid (HUP.out hP.out), by rw [← HWQ.out, World.drewN_drewN]⟩
    · have hltz : ¬ (i : Int) < (j : Int) := by omega
      have : i = j := by omega
      subst this
      have HFIN := Lib.hid (merge_right (ahd_swo r) H2.out HBI.out)
      go_wp2_with fail
      go_loopg [17] (m - i) (fun g vk wr => ∃ (k t qn : Nat), vk = .int .i64 k ∧ m = k + t ∧ i ≤ k ∧ k - i ≤ g ∧ wr = (putRow encI w blk 0 (shr m t d)).drewN qn)
      case atStart => exact ⟨m, 0, q, rfl, rfl, by omega, Nat.le_refl _, rfl⟩
      case round =>
        obtain ⟨k, t, qn, rfl, hkt, hk1, hgk, rfl⟩ := hrel
        by_cases hlt2 : i < k
        · have hltz2 : (i : Int) < (k : Int) := by omega
          obtain ⟨k1, hk1'⟩ : ∃ k1, k = k1 + 1 := ⟨k - 1, by omega⟩
          have hk1z : (k : Int) - 1 = (k1 : Int) := by omega
          have hk1w : IntKind.i64.wrap (k1 : Int) = (k1 : Int) := IntWalk.i64_in _ (by omega)
          have hnext : shr m (t + 1) d = swp (shr m t d) k k1 := by rw [shr, show m - t = k by omega, show k - 1 = k1 by omega]
          have hds : (shr m t d).size = S := (shr_size m d t).trans hd
          obtain ⟨dj, hdj⟩ : ∃ dj, shr m t d = dj := ⟨_, rfl⟩
          rw [hdj] at hnext hds ⊢
          have HNX := Lib.hid hnext
          have HK := Lib.hid (show m = k1 + (t + 1) ∧ i ≤ k1 ∧ k1 - i < k - i by omega)
          have hkk : k1 < k ∧ k < m + 1 ∧ k ≠ k1 := by omega
          obtain ⟨hkk1, hkk2, hkk3⟩ := hkk
          clear hdj hnext hkt hk1'
          have hHj := holds_putRow encI w blk 0 d0 dj HH.out (hds.trans h0.symm)
          obtain ⟨x, hx⟩ : ∃ x, dj[k]! = x := ⟨_, rfl⟩
          obtain ⟨y, hy⟩ : ∃ y, dj[k1]! = y := ⟨_, rfl⟩
          obtain ⟨cp, fp⟩ := hHj k (by omega)
          obtain ⟨cq, fq⟩ := hHj k1 (by omega)
          rw [Nat.zero_add] at cp fp cq fq
          rw [hx] at cp
          rw [hy] at cq
          have p0 : (0 : Int) ≤ (k : Int) := by omega
          have q0 : (0 : Int) ≤ (k1 : Int) := by omega
          have p1 : (k : Int) < (S : Int) := by omega
          have q1 : (k1 : Int) < (S : Int) := by omega
          have cp' : ((putRow encI w blk 0 dj).drewN qn).cell? ⟨blk, k, none⟩ = some (.int .i64 x) := cp
          have cq' : ((putRow encI w blk 0 dj).drewN qn).cell? ⟨blk, k1, none⟩ = some (.int .i64 y) := cq
          have fp' : ((putRow encI w blk 0 dj).drewN qn).frozen? ⟨blk, k, none⟩ = false := fp
          have fq' : ((putRow encI w blk 0 dj).drewN qn).frozen? ⟨blk, k1, none⟩ = false := fq
          have HX := Lib.hid hx
          have HY := Lib.hid hy
          have HW : Hid (((((putRow encI w blk 0 dj).drewN qn).setCell ⟨blk, k, none⟩ (.int .i64 y)).setCell ⟨blk, k1, none⟩ (.int .i64 x)).drew = (putRow encI w blk 0 (swp dj k k1)).drewN (qn + 1)) := Lib.hid (by
            rw [← hx, ← hy]
            have := swap_worldC encI w blk 0 dj qn k k1 (by omega) (by omega)
            rw [Nat.zero_add, Nat.zero_add] at this
            exact this)
          clear hHj cp fp cq fq hx hy
          generalize hwq : (putRow encI w blk 0 dj).drewN qn = wq at cp' cq' fp' fq' HW ⊢
          clear hwq
          go_wp2_with fail
          go_region
          all_goals go_wp2_with fail
          rw [HW.out, ← HNX.out]
          go_roundg (k1 - i)
          case measure => have := HK.out.2.2; omega
          case rel => exact ⟨k1, t + 1, qn + 1, rfl, HK.out.1, HK.out.2.1, Nat.le_refl _, rfl⟩
        · have hltz2 : ¬ (i : Int) < (k : Int) := by omega
          have : t = m - i := by omega
          subst this
          clear hkt
          go_wp2_with fail
          go_end0
          exact ⟨rfl, qn, _, HFIN.out, rfl⟩
end Go.Proofs.YtadehobimlpmcaaDoor
