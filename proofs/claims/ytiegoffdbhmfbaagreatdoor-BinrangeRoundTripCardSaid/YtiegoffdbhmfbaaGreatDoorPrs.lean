/- The walk of Parse. -/
import Derived.Test.YtiegoffdbhmfbaaGreatDoorEnt
import Derived.Test.YtiegoffdbhmfbaaGreatDoorSor
import Derived.Laws.AppendOwn
import Derived.Laws.OwnMore
import Derived.OwnWalk
namespace Go.Proofs.YtiegoffdbhmfbaaGreatDoor
set_option linter.unusedVariables false
open Go.RowKit

theorem KeepL.grown {P : Nat} {w w' : World} (h : KeepL [P] w w') : w.grownBy w' (some P) := ⟨h.os, h.tape, h.output, h.size, fun k hk hx => h.block k hk (by simp; exact fun e => hx (by rw [e]))⟩
theorem own_keep {P e n size : Nat} {v : Value} {xs : List Value} {w w' : World} (h : w.ownsRow (P + 1) e size v n xs) (hk : KeepL [P] w w') : w'.ownsRow (P + 1) e size v n xs :=
  h.kept hk.grown (by
    cases hv : v.ownBlock with
    | none => exact .inl rfl
    | some g => exact .inr (fun he => by have := (h.lt g hv).1; injection he with he; omega))
theorem own_ne {B1 B2 e1 e2 s1 s2 n1 n2 : Nat} {v1 v2 : Value} {xs1 xs2 : List Value} {w : World} (h1 : w.ownsRow B1 e1 s1 v1 n1 xs1) (h2 : w.ownsRow B2 e2 s2 v2 n2 xs2) (he : e1 ≠ e2) : v2.ownBlock = none ∨ v2.ownBlock ≠ v1.ownBlock := by
  rcases h1.2 with ⟨rfl, -⟩ | ⟨g, c, cur, rfl, -, hg, -⟩
  · rcases h2.2 with ⟨rfl, -⟩ | ⟨g2, c2, cur2, rfl, -, hg2, -⟩
    · exact .inl rfl
    · exact .inr (by simp [Value.ownBlock])
  · rcases h2.2 with ⟨rfl, -⟩ | ⟨g2, c2, cur2, rfl, -, hg2, -⟩
    · exact .inl rfl
    · refine .inr (fun q => ?_)
      have q : g2 = g := by simpa [Value.ownBlock] using q
      rw [q] at hg2
      rw [hg] at hg2
      injection hg2 with hg2
      injection hg2 with _ hg2
      exact he hg2
/-- The worlds of Parse: the text, the ranges so far, the places where they begin. -/
structure PrW (P : Nat) (s : ByteArray) (k : Nat) (l : List Rg) (st : List Nat) (v6 v7 : Value) (w W : World) : Prop where
  tx : TxW P s k W
  o6 : W.ownsRow (P + 1) 26 4 v6 l.length (l.flatMap rgF)
  o7 : W.ownsRow (P + 1) 3 1 v7 st.length (st.map fun (n : Nat) => Value.int .i64 (n : Int))
  bl : Below P w W
theorem PrW.keep {P : Nat} {s : ByteArray} {k q : Nat} {l : List Rg} {st : List Nat} {v6 v7 : Value} {w W W' : World} (h : PrW P s k l st v6 v7 w W) (hP : w.heap.size = P) (ht : TxW P s q W') (hk : KeepL [P] W W') : PrW P s q l st v6 v7 w W' :=
  ⟨ht, own_keep h.o6 hk, own_keep h.o7 hk, hk.below h.bl (by simp) (Nat.le_of_lt h.tx.lt)⟩
theorem grown_blk {P : Nat} {v : Value} {B e size n : Nat} {xs : List Value} {W W' : World} (h : W.ownsRow (P + 1) e size v n xs) (hg : W.grownBy W' v.ownBlock) : KeepL (v.ownBlock.toList) W W' :=
  ⟨hg.os, hg.tape, hg.output, hg.size, fun k hk hx => hg.block k hk (fun e => hx (by rw [← e]; simp))⟩
theorem PrW.start {P : Nat} {s : ByteArray} {k : Nat} {l : List Rg} {st : List Nat} {v6 v7 v8 : Value} {w W W' : World} (h : PrW P s k l st v6 v7 w W) (h7 : W'.ownsRow (P + 1) 3 1 v8 (st.length + 1) ((st.map fun (n : Nat) => Value.int .i64 (n : Int)) ++ [.int .i64 k])) (hg : W.grownBy W' v7.ownBlock) : PrW P s k l (st ++ [k]) v6 v8 w W' := by
  refine ⟨?_, h.o6.kept hg (own_ne h.o7 h.o6 (by decide)), ?_, ?_⟩
  · have := hg.block P h.tx.lt (fun e => by have := (h.o7.lt P e.symm).1; omega)
    unfold TxW; rw [this]; exact h.tx
  · rw [List.length_append, List.map_append]; exact h7
  · exact h.bl.grown hg (Nat.le_of_lt h.tx.lt) (fun j hj => by have := (h.o7.lt j hj).1; omega)
theorem PrW.more {P : Nat} {s : ByteArray} {k : Nat} {l : List Rg} {x : Rg} {st : List Nat} {v6 v7 v8 : Value} {w W W' : World} (h : PrW P s k l st v6 v7 w W) (h6 : W'.ownsRow (P + 1) 26 4 v8 (l.length + 1) (l.flatMap rgF ++ rgF x)) (hg : W.grownBy W' v6.ownBlock) : PrW P s k (l ++ [x]) st v8 v7 w W' := by
  refine ⟨?_, ?_, h.o7.kept hg (own_ne h.o6 h.o7 (by decide)), ?_⟩
  · have := hg.block P h.tx.lt (fun e => by have := (h.o6.lt P e.symm).1; omega)
    unfold TxW; rw [this]; exact h.tx
  · rw [List.length_append, List.flatMap_append]; simpa using h6
  · exact h.bl.grown hg (Nat.le_of_lt h.tx.lt) (fun j hj => by have := (h.o6.lt j hj).1; omega)
/-- What Parse reads. -/
def parF (s : ByteArray) : Nat → Nat → List Rg → Option (List Rg)
  | 0, _, _ => none
  | f + 1, k, acc => if k < s.size then match enP s k with | none => none | some (x, q) => parF s f (skipP s q) (acc ++ [x]) else some acc
def parP (s : ByteArray) : Option (List Rg) := parF s (s.size + 1) (skipP s 0) []
theorem tkD_lt {s : ByteArray} {c k : Nat} {x : Rg} (h : k ≤ s.size) (ht : (tkD s c k x).1 = true) : k < (tkD s c k x).2.1 := by
  have h1 := skipP_le (s := s) h
  have : skipP s k < runP isDg s (skipP s k) := by simpa [tkD] using ht
  exact Nat.lt_of_le_of_lt h1.1 this
theorem ext_le (s : ByteArray) (a b : Nat) : (s.extract a b).size ≤ s.size := by rw [ByteArray.size_extract]; omega
theorem putF_ok {M : Nat} {x : Rg} {c : Nat} {t : ByteArray} (h : x.lo.size ≤ M ∧ x.hi.size ≤ M ∧ x.is.size ≤ M ∧ x.pr.size ≤ M) (ht : t.size ≤ M) : (putF x c t).lo.size ≤ M ∧ (putF x c t).hi.size ≤ M ∧ (putF x c t).is.size ≤ M ∧ (putF x c t).pr.size ≤ M := by
  unfold putF
  obtain ⟨h0, h1, h2, h3⟩ := h
  split
  · exact ⟨ht, h1, h2, h3⟩
  · split
    · exact ⟨h0, ht, h2, h3⟩
    · split
      · exact ⟨h0, h1, ht, h3⟩
      · exact ⟨h0, h1, h2, ht⟩
def FewB (M : Nat) (x : Rg) : Prop := x.lo.size ≤ M ∧ x.hi.size ≤ M ∧ x.is.size ≤ M ∧ x.pr.size ≤ M
theorem tkD_few {s : ByteArray} {c k : Nat} {x : Rg} (h : FewB s.size x) : FewB s.size (tkD s c k x).2.2 := putF_ok h (ext_le _ _ _)
theorem tkM_few {s : ByteArray} {b : UInt8} {k : Nat} {x : Rg} (h : FewB s.size x) : FewB s.size (tkM s b k x).2.2 := h
theorem tkW_few {s : ByteArray} {c k : Nat} {x : Rg} (h : FewB s.size x) : FewB s.size (tkW s c k x).2.2 := by
  unfold tkW
  simp only
  split
  · exact putF_ok h (ext_le _ _ _)
  · exact h
theorem enP_some {s : ByteArray} {a k : Nat} {x : Rg} (ha : a ≤ s.size) (h : enP s a = some (x, k)) : a < k ∧ k ≤ s.size ∧ FewB s.size x := by
  unfold enP at h
  simp only at h
  split at h
  · rename_i hc
    simp only [Bool.and_eq_true] at hc
    have h1 := tkD_lt (c := 0) (x := zRg) ha hc.1
    have l1 := (tkD_le (c := 0) (x := zRg) ha).2
    have f1 : FewB s.size (tkD s 0 a zRg).2.2 := tkD_few ⟨Nat.zero_le _, Nat.zero_le _, Nat.zero_le _, Nat.zero_le _⟩
    revert h hc h1 l1 f1
    generalize tkD s 0 a zRg = t1
    intro h hc h1 l1 f1
    have l2 := tkM_le (b := 45) (x := t1.2.2) l1
    have f2 := tkM_few (b := 45) (k := t1.2.1) f1
    revert h hc l2 f2
    generalize tkM s 45 t1.2.1 t1.2.2 = t2
    intro h hc l2 f2
    have l3 := tkD_le (c := 1) (x := t2.2.2) l2.2
    have f3 := tkD_few (c := 1) (k := t2.2.1) f2
    revert h hc l3 f3
    generalize tkD s 1 t2.2.1 t2.2.2 = t3
    intro h hc l3 f3
    have l4 := tkW_le (c := 2) (x := t3.2.2) l3.2
    have f4 := tkW_few (c := 2) (k := t3.2.1) f3
    revert h hc l4 f4
    generalize tkW s 2 t3.2.1 t3.2.2 = t4
    intro h hc l4 f4
    have l5 := tkW_le (c := 3) (x := t4.2.2) l4.2
    have f5 := tkW_few (c := 3) (k := t4.2.1) f4
    revert h hc l5 f5
    generalize tkW s 3 t4.2.1 t4.2.2 = t5
    intro h hc l5 f5
    have l6 := tkM_le (b := 59) (x := t5.2.2) l5.2
    have f6 := tkM_few (b := 59) (k := t5.2.1) f5
    simp only [Option.some.injEq, Prod.mk.injEq] at h
    rw [← h.1, ← h.2]
    exact ⟨by omega, l6.2, f6⟩
  · cases h
theorem exR_idx (l : List Rg) (h : (exR l).1 ≠ 0) : (exR l).2 < l.length := by
  unfold exR at *
  split at h
  · rename_i q; rw [if_pos q]; exact q
  · rename_i q
    rw [if_neg q]
    have hf : ∀ (p : Nat → Bool) (i : Nat), fstB p l.length = some i → i < l.length := fun p i hi => by
      have := List.mem_of_find?_eq_some hi
      simpa using this
    cases h1 : fstB (badP l) l.length with
    | some i => exact hf _ _ h1
    | none =>
      cases h2 : fstB (ovP l) l.length with
      | some i => simp only; exact hf _ _ h2
      | none => rw [h1, h2] at h; exact absurd rfl h
structure PsOk (s : ByteArray) (er at0 : Int) (l : List Rg) : Prop where
  ok : ∀ x ∈ l, RgOk x
  fwd : er = 0 → at0 = 0 ∧ TabOK l
  back : ∀ m, parP s = some m → TabOK m → s.size ≤ 4000 → er = 0 ∧ l = m
  few : l.length ≤ 4000
def PsPost (s : ByteArray) (w : World) (e : Ending) (w' : World) : Prop := ∃ v er at0 l, e = .returned (.tuple #[v, .int .i64 er, .int .i64 at0]) ∧ SlR w' v l ∧ Below w.heap.size w w' ∧ PsOk s er at0 l
theorem info3 : (Tryz.prog.info? 3).map (fun i => (i.zero, i.size, i.bytes)) = some (some (.int .i64 0), 1, 8) := by kernel_rfl
end Go.Proofs.YtiegoffdbhmfbaaGreatDoor
