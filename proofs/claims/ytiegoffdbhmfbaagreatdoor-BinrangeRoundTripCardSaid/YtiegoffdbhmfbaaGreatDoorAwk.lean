/- The chapter's examples: awake answers true. -/
import Derived.Test.YtiegoffdbhmfbaaGreatDoorFmt
import Derived.Test.YtiegoffdbhmfbaaGreatDoorSam
import Derived.Test.YtiegoffdbhmfbaaGreatDoorMks
namespace Go.Proofs.YtiegoffdbhmfbaaGreatDoor
set_option linter.unusedVariables false
open Go.RowKit

def r0 : Rg := ⟨⟨#[52]⟩, ⟨#[52]⟩, ⟨#[98, 97, 110, 107, 111, 110, 101]⟩, ⟨#[98, 97, 115, 105, 99]⟩⟩
def r1 : Rg := ⟨⟨#[52, 48, 48, 48]⟩, ⟨#[52, 48, 57, 57]⟩, ⟨#[98, 97, 110, 107, 116, 119, 111]⟩, ⟨#[103, 111, 108, 100]⟩⟩
def q0 : Rg := ⟨⟨#[52, 48, 48, 49, 48, 48]⟩, ⟨#[52, 48, 48, 49, 57, 57]⟩, ⟨#[97]⟩, ⟨#[98]⟩⟩
def q1 : Rg := ⟨⟨#[52, 48, 48, 48, 48, 48]⟩, ⟨#[52, 48, 48, 48, 57, 57]⟩, ⟨#[97]⟩, ⟨#[98]⟩⟩
def q2 : Rg := ⟨⟨#[52, 48, 48, 48, 48, 48]⟩, ⟨#[52, 48, 48, 49, 57, 57]⟩, ⟨#[97]⟩, ⟨#[98]⟩⟩
theorem g_r0 : Good r0 := ⟨by decide, by decide, by decide, by decide, by decide, by decide, by decide, by decide⟩
theorem g_r1 : Good r1 := ⟨by decide, by decide, by decide, by decide, by decide, by decide, by decide, by decide⟩
theorem g_q0 : Good q0 := ⟨by decide, by decide, by decide, by decide, by decide, by decide, by decide, by decide⟩
theorem g_q1 : Good q1 := ⟨by decide, by decide, by decide, by decide, by decide, by decide, by decide, by decide⟩
theorem t_r : TabOK [r0, r1] := by
  refine ⟨by decide, fun r hr => ?_, ?_⟩
  · simp only [List.mem_cons, List.not_mem_nil, or_false] at hr
    rcases hr with rfl | rfl
    · exact g_r0
    · exact g_r1
  · rw [List.pairwise_cons]
    exact ⟨fun r hr => by
      simp only [List.mem_cons, List.not_mem_nil, or_false] at hr
      subst hr
      intro h; exact absurd h (by decide), List.pairwise_singleton _ _⟩
theorem t_r0 : TabOK [r0] := ⟨by decide, fun r hr => by simp only [List.mem_cons, List.not_mem_nil, or_false] at hr; subst hr; exact g_r0, List.pairwise_singleton _ _⟩
theorem t_q : TabOK [q0, q1] := by
  refine ⟨by decide, fun r hr => ?_, ?_⟩
  · simp only [List.mem_cons, List.not_mem_nil, or_false] at hr
    rcases hr with rfl | rfl
    · exact g_q0
    · exact g_q1
  · rw [List.pairwise_cons]
    exact ⟨fun r hr => by
      simp only [List.mem_cons, List.not_mem_nil, or_false] at hr
      subst hr
      intro h; right; decide, List.pairwise_singleton _ _⟩
theorem fd_A : fdR [r0, r1] panA = (r1, true) := by
  have hck := (ck_iff _).2 t_r
  have hpan : panE panA = 0 := by decide +kernel
  unfold fdR
  rw [if_neg (by rw [hck, hpan]; simp)]
  obtain ⟨a1, a2⟩ := fd_end [r0, r1] panA
  have w1 : wiB panA r1.lo r1.hi = true := (wi_val g_r1).2 ⟨by decide, by decide, by decide, by decide⟩
  generalize fdAt [r0, r1] panA [r0, r1].length = A at *
  obtain ⟨A1, A2⟩ := A
  simp only at a1 a2
  cases A2
  · have := a1 rfl r1 (by simp)
    rw [w1] at this; cases this
  · obtain ⟨m, hw, hmax⟩ := a2 rfl
    have := hmax r1 (by simp) w1
    simp only [List.mem_cons, List.not_mem_nil, or_false] at m
    rcases m with rfl | rfl
    · exact absurd this (by decide)
    · rfl
theorem fd_B : fdR [r0, r1] panB = (r0, true) := by
  have hck := (ck_iff _).2 t_r
  have hpan : panE panB = 0 := by decide +kernel
  unfold fdR
  rw [if_neg (by rw [hck, hpan]; simp)]
  obtain ⟨a1, a2⟩ := fd_end [r0, r1] panB
  have w0 : wiB panB r0.lo r0.hi = true := (wi_val g_r0).2 ⟨by decide, by decide, by decide, by decide⟩
  generalize fdAt [r0, r1] panB [r0, r1].length = A at *
  obtain ⟨A1, A2⟩ := A
  simp only at a1 a2
  cases A2
  · have := a1 rfl r0 (by simp)
    rw [w0] at this; cases this
  · obtain ⟨m, hw, hmax⟩ := a2 rfl
    simp only [List.mem_cons, List.not_mem_nil, or_false] at m
    rcases m with rfl | rfl
    · rfl
    · have := ((wi_val g_r1).1 hw).2.2.2
      exact absurd this (by decide)
theorem js_q {x : List Rg} (h : JStar [q0, q1] x) : x = [q0, q1] ∨ x = [q2] := by
  induction h with
  | refl => exact .inl rfl
  | tail _ hj ih =>
    obtain ⟨i, k, hi, hk, hf, rfl⟩ := hj
    rcases ih with rfl | rfl
    · have hi' : i = 0 ∨ i = 1 := by simp at hi; omega
      have hk' : k = 0 ∨ k = 1 := by simp at hk; omega
      rcases hi' with rfl | rfl <;> rcases hk' with rfl | rfl
      · exact absurd hf (by decide)
      · exact absurd hf (by decide)
      · exact .inr rfl
      · exact absurd hf (by decide)
    · have hi' : i = 0 := by simp at hi; omega
      have hk' : k = 0 := by simp at hk; omega
      subst hi'; subst hk'
      exact absurd hf (by decide)
theorem mrg_q {r : List Rg} (h : MrgOf [q0, q1] r) : r = [q2] := by
  obtain ⟨m, h1, h2, h3⟩ := h
  rcases js_q h1 with rfl | rfl
  · have := h2 q1 (by simp) q0 (by simp)
    exact absurd this (by decide)
  · have := h3.perm
    exact List.perm_singleton.1 this
theorem fmt_r0 : fmtS [r0] = ⟨#[52, 45, 52, 32, 98, 97, 110, 107, 111, 110, 101, 32, 98, 97, 115, 105, 99, 59, 10]⟩ := by
  unfold fmtS
  rw [if_pos ((ck_iff _).2 t_r0)]
  decide
theorem row8 {W : World} {g : Nat} {a b : Rg} (h : W.heap[g]? = some (.cells #[.string a.lo, .string a.hi, .string a.is, .string a.pr, .string b.lo, .string b.hi, .string b.is, .string b.pr] 26)) : RowL g W [a, b] 2 W := by
  refine ⟨_, h, rfl, fun k hk => ?_, Below.refl _ _⟩
  have : k = 0 ∨ k = 1 := by simp at hk; omega
  rcases this with rfl | rfl
  · exact ⟨rfl, rfl, rfl, rfl⟩
  · exact ⟨rfl, rfl, rfl, rfl⟩
theorem row8' {W : World} {g : Nat} {a b : Rg} (h : W.heap[g]? = some (.cells #[.string a.lo, .string a.hi, .string a.is, .string a.pr, .string b.lo, .string b.hi, .string b.is, .string b.pr] 26)) : SlR W (.slice (some ⟨g, 0, none⟩) 1 2) [a] := by
  have hl : RowL g W [a, b] 2 W := row8 h
  obtain ⟨C, h1, h2, h3, h4⟩ := hl
  exact SlR.of_rowL (l := [a]) (cap := 2) ⟨C, h1, h2, fun k hk => by
    have : k = 0 := by simp at hk; omega
    subst this; exact h3 0 (by simp), h4⟩ (by simp) (by decide)
end Go.Proofs.YtiegoffdbhmfbaaGreatDoor
