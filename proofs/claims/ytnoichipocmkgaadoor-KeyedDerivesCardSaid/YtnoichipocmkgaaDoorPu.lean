/- strconv.ParseUint at base 16, of sixteen bytes. -/
import Derived.Test.YtnoichipocmkgaaDoorCode
namespace Go.Proofs.YtnoichipocmkgaaDoor
set_option linter.unusedVariables false
open Go.RowKit

theorem or32 (c : UInt8) : bits .or .u8 (c.toNat : Int) 32 = ((c.toNat ||| 32 : Nat) : Int) := by
  have key : ∀ c : Fin 256, bits .or .u8 (c.1 : Int) 32 = ((c.1 ||| 32 : Nat) : Int) := by decide +kernel
  exact key ⟨c.toNat, c.toNat_lt⟩
theorem low32 (c : UInt8) : (c.toNat ||| 32) < 256 ∧ (lowB c.toNat = true → ¬ c.toNat ≤ 57 → (c.toNat ||| 32) = c.toNat) ∧ (c.toNat = 95 → (c.toNat ||| 32) = 127) := by
  have key : ∀ c : Fin 256, (c.1 ||| 32) < 256 ∧ (lowB c.1 = true → ¬ c.1 ≤ 57 → (c.1 ||| 32) = c.1) ∧ (c.1 = 95 → (c.1 ||| 32) = 127) := by decide +kernel
  exact key ⟨c.toNat, c.toNat_lt⟩
set_option maxHeartbeats 400000 in
theorem lower_any (c : UInt8) (w : World) : Calls Tryd.prog 39 #[.int .u8 c.toNat] w fun e w' => e = .returned (.int .u8 ((c.toNat ||| 32 : Nat) : Int)) ∧ w = w' := by
  have h := or32 c
  go_enter Tryd.func39, Tryd.ntmps39
  go_wp2
  go_ret
  exact ⟨rfl, rfl⟩
/-- What ParseUint answers at sixteen bytes. -/
def PuPost (s : ByteArray) (w : World) (e : Ending) (w' : World) : Prop :=
  ∃ (n : Nat) (ev : Value), e = .returned (.tuple #[.int .u64 n, ev]) ∧ n < M64 ∧ (ev = .nilIface ∨ ev = .iface 60 (.int .i64 2)) ∧ (lowHex s.data.toList = true → ev = .nilIface ∧ n = hexVal s.data.toList) ∧ Below w.heap.size w w'
theorem conv_bytes (s : ByteArray) (w : World) : ∃ (cap : Nat) (W : World), (convert 9 42 (.string s)).run Tryd.prog w = .ok (.slice (some ⟨w.heap.size, 0, none⟩) s.size cap) W ∧ Below w.heap.size w W ∧
    ∀ k, (hk : k < s.size) → W.cell? ⟨w.heap.size, k, none⟩ = some (.int .u8 ((s[k].toNat : Nat) : Int)) := by
  refine ⟨_, _, run_bytes_of_string w 9 42 5 s Tryd.underlying9 Tryd.underlying42 Tryd.underlying5, (Below.refl _ _).drew.alloc (Nat.le_refl _) _, fun k hk => ?_⟩
  have := bytesRow_at s (grownCap w s.size 0 5) k hk
  rw [show w.heap.size = w.drew.heap.size from rfl, World.cell?_alloc_mark]
  exact this
/-- Behind k digits. -/
structure PuAt (s : ByteArray) (k n : Nat) : Prop where
  lt : n < 16 ^ k
  val : lowHex s.data.toList = true → n = hexVal (s.data.toList.take k)
theorem lowHex_at (s : ByteArray) (k : Nat) (hk : k < s.size) (h : lowHex s.data.toList = true) : lowB (s[k]).toNat = true := by
  unfold lowHex at h
  rw [List.all_eq_true] at h
  exact h _ (Array.getElem_mem_toList hk)
theorem puAt_next {s : ByteArray} {k n d : Nat} (h : PuAt s k n) (hk : k < s.size) (hd : d < 16) (hv : lowB (s[k]).toNat = true → d = hval (s[k]).toNat) : PuAt s (k + 1) (n * 16 + d) := by
  refine ⟨?_, fun hl => ?_⟩
  · have := h.lt; rw [Nat.pow_succ]; omega
  · rw [take_snoc s k hk, hexVal_snoc, ← h.val hl, hv (lowHex_at s k hk hl)]
theorem puAt_60 {s : ByteArray} {k n : Nat} (h : PuAt s k n) (hk : k < 16) : n < 1152921504606846976 := by
  have h2 : 16 ^ k ≤ 16 ^ 15 := Nat.pow_le_pow_right (by omega) (by omega)
  have := h.lt
  omega
set_option maxHeartbeats 1600000 in
set_option maxRecDepth 100000 in
theorem ipu_any (s : ByteArray) (w : World) (hs : s.size = 16) :
    Calls Tryd.prog 28 #[.string s, .int .i64 16, .int .i64 64] w (PuPost s w) := by
  have hne : s.toList.isEmpty = false := by
    rw [ByteArray.toList_eq]
    cases h : s.data.toList with
    | nil => rw [Lib.size_eq, h] at hs; simp at hs
    | cons a l => rfl
  have hmx : IntKind.u64.wrap (IntKind.u64.wrap 18446744073709551616 - 1) = 18446744073709551615 := by decide +kernel
  obtain ⟨cap, W, hcv, hbw, hcell⟩ := conv_bytes s w
  rw [hs] at hcv
  have HB := Lib.hid hbw
  have HC := Lib.hid hcell
  clear hbw hcell
  go_enter Tryd.func28, Tryd.ntmps28
  go_wp2_with fail
  generalize hC0 : (1152921504606846976 : Int) = C
  generalize hM0 : (18446744073709551615 : Int) = M
  have hC := Lib.hid hC0
  have hM := Lib.hid hM0
  clear hC0 hM0 hmx
  go_loop [12, 13, 101] (fun u v i => ∃ k n : Nat, k ≤ 16 ∧ u = .bool false ∧ i = .int .i64 k ∧ v = .int .u64 n ∧ Hid (PuAt s k n)) (fun _ _ i => 16 - (intOf i).toNat)
  case atStart => exact ⟨0, 0, by omega, rfl, rfl, rfl, Lib.hid ⟨by simp, fun _ => rfl⟩⟩
  case round =>
    obtain ⟨k, n, hk, rfl, rfl, rfl, hp⟩ := hrel
    by_cases hlt : k < 16
    · have hks : k < s.size := by omega
      have hc := HC.out k hks
      have hl := low32 s[k]
      have hlow := Lib.hid (lowHex_at s k hks)
      have hlw := lower_any s[k]
      have hnx := Lib.hid (fun d => puAt_next (d := d) hp.out hks)
      have h60 := puAt_60 hp.out hlt
      have hcl := s[k].toNat_lt
      obtain ⟨c, hcc⟩ : ∃ c, c = s[k].toNat := ⟨_, rfl⟩
      rw [← hcc] at hc hl hlow hlw hnx hcl
      clear hcc
      by_cases hA : 48 ≤ c ∧ c ≤ 57
      · obtain ⟨a1, a2⟩ := hA
        have hN := Lib.hid (hnx.out (c - 48) (by omega) (fun _ => by unfold hval; rw [if_pos (by omega)]))
        clear hl hlw hnx hp hlow
        obtain ⟨d, hd⟩ : ∃ d, d = c - 48 := ⟨_, rfl⟩
        rw [← hd] at hN
        have hsub : (c : Int) - 48 = (d : Int) := by omega
        have hd16 : d < 16 := by omega
        clear hd
        have r1 : (n : Int) < C := by have := hC.out; omega
        have r3 : (n : Int) * 16 + (d : Int) ≤ M := by have := hM.out; omega
        go_wp2_with fail
        go_round
        case rel => exact ⟨k + 1, n * 16 + d, by omega, rfl, by go_num, by go_num, hN⟩
        case measure => simp [intOf]; omega
      · have hlb : lowB c = true → 97 ≤ c ∧ c ≤ 102 := fun h => by unfold lowB at h; simp at h; omega
        have hcc : c < 48 ∨ 57 < c := by omega
        obtain ⟨l, hl0⟩ : ∃ l, l = c ||| 32 := ⟨_, rfl⟩
        rw [← hl0] at hl hlw
        have hlw' := Lib.hid hlw
        clear hl0 hlw hA
        obtain ⟨hl1, hl2, hl3⟩ := hl
        by_cases hB : 97 ≤ l ∧ l ≤ 122
        · obtain ⟨b1, b2⟩ := hB
          have h95 : ((c : Int) == 95) = false := beq_eq_false_iff_ne.2 (by omega)
          obtain ⟨d, hd⟩ : ∃ d, d = l - 87 := ⟨_, rfl⟩
          have hsub : (l : Int) - 97 + 10 = (d : Int) := by omega
          by_cases hd16 : d < 16
          · have hN := Lib.hid (hnx.out d hd16 (fun h => by have h1 := hlb h; have h2 := hl2 h (by omega); unfold hval; rw [if_neg (by omega)]; omega))
            have r1 : (n : Int) < C := by have := hC.out; omega
            have r3 : (n : Int) * 16 + (d : Int) ≤ M := by have := hM.out; omega
            clear hl2 hl3 hlb hnx hlow hp hd
            rcases hcc with hcc | hcc
            all_goals
              go_wp2_with (go_at_call 39; refine (hlw'.out _).mono ?_; rintro e w' ⟨rfl, rfl⟩)
              go_round
              · exact ⟨k + 1, n * 16 + d, by omega, rfl, by go_num, by go_num, hN⟩
              · simp [intOf]; omega
          · have hbad := Lib.hid (fun h : lowHex s.data.toList = true => by have h1 := hlb (hlow.out h); have h2 := hl2 (hlow.out h) (by omega); omega : lowHex s.data.toList = true → False)
            clear hl2 hl3 hlb hnx hlow hp hd
            rcases hcc with hcc | hcc
            all_goals
              go_wp2_with (go_at_call 39; refine (hlw'.out _).mono ?_; rintro e w' ⟨rfl, rfl⟩)
              go_ret2
              exact ⟨0, _, rfl, by unfold M64; omega, .inr rfl, fun h => (hbad.out h).elim, HB.out⟩
        · have hbad := Lib.hid (fun h : lowHex s.data.toList = true => by have h1 := hlb (hlow.out h); have h2 := hl2 (hlow.out h) (by omega); omega : lowHex s.data.toList = true → False)
          have hll : l < 97 ∨ 122 < l := by omega
          clear hl2 hl3 hlb hnx hlow hp hB
          have h95 : ((c : Int) == 95) = true ∨ ((c : Int) == 95) = false := by cases ((c : Int) == 95) <;> simp
          rcases h95 with h95 | h95 <;> rcases hcc with hcc | hcc <;> rcases hll with hll | hll
          all_goals
            go_wp2_with (go_at_call 39; refine (hlw'.out _).mono ?_; rintro e w' ⟨rfl, rfl⟩)
            go_ret2
            exact ⟨0, _, rfl, by unfold M64; omega, .inr rfl, fun h => (hbad.out h).elim, HB.out⟩
    · obtain rfl : k = 16 := by omega
      go_wp2_with fail
      go_ret2
      exact ⟨n, .nilIface, rfl, by have := hp.out.lt; unfold M64; omega, .inl rfl, fun h => ⟨rfl, by have := hp.out.val h; rw [this, List.take_of_length_le (by rw [← Lib.size_eq]; omega)]⟩, HB.out⟩
end Go.Proofs.YtnoichipocmkgaaDoor
