/- A file as an argument, opened. -/
import Derived.Test.YthflmdgfenojcaaGreatDoorHbt
namespace Go.Proofs.YthflmdgfenojcaaGreatDoor
set_option linter.unusedVariables false
open Go.RowKit Go.ChangeShapes Go.WideShapes Go.Deep Go.Joins

/-- A file as it is handed in. -/
structure BArg where
  b : Bat
  A : Option Addr
  cp : Nat
def BArg.cells (x : BArg) : List Value := [.string x.b.id, .string x.b.sd, .int .i64 x.b.dt, .slice x.A x.b.rs.length x.cp]
def BArg.val (x : BArg) : Value := batV x.b x.A x.cp
structure BOk (w : World) (x : BArg) : Prop where
  r : IsRow w x.A (x.b.rs.flatMap recF)
  k : BatRch x.b
  c : x.b.rs.length ≤ x.cp
  m : x.cp ≤ maxLen
  d : (Lit.int .i64 x.b.dt).wf = true
theorem cells61 : Tryz.prog.cellsOf 61 = 4 := by kernel_rfl
set_option maxRecDepth 100000 in
theorem bat_read {H : Type} {enc : TypeId × Value → H} {W : World} (cs : List Value) (m : Nat) (y) (hl : cs.length = 4) (h : DataW.trod enc Tryz.prog W 0 (fun _ => true) true m 61 cs = some y) (hw : ∀ k ∈ y.1.weights Tryz.prog 61, k ≤ reachBytes) :
    ∃ x : BArg, cs = x.cells ∧ BOk W x := by
  match cs, hl with
  | [c0, c1, c2, c3], _ =>
    obtain ⟨y0, y1, y2, y3, n, xy, _, h0, h1, h2, h3⟩ := trod_struct4 Tryz.underlying61 h
    have k9 : Tryz.prog.cellsOf 9 = 1 := by kernel_rfl
    have k3 : Tryz.prog.cellsOf 3 = 1 := by kernel_rfl
    have k34 : Tryz.prog.cellsOf 34 = 1 := by kernel_rfl
    obtain ⟨s0, e0, x0, w0⟩ := DataW.trod_string Tryz.underlying9 (show DataW.trod enc Tryz.prog W 0 (fun _ => true) true n 9 [c0] = some y0 by simpa [k9] using h0)
    obtain ⟨s1, e1, x1, w1⟩ := DataW.trod_string Tryz.underlying9 (show DataW.trod enc Tryz.prog W 0 (fun _ => true) true n 9 [c1] = some y1 by simpa [k9] using h1)
    obtain ⟨s2, e2, x2, w2⟩ := DataW.trod_int Tryz.underlying3 (show DataW.trod enc Tryz.prog W 0 (fun _ => true) true n 3 [c2] = some y2 by simpa [k3] using h2)
    have h3' : DataW.trod enc Tryz.prog W 0 (fun _ => true) true n 34 [c3] = some y3 := by simpa [k34] using h3
    have hw3 : ∀ k ∈ y3.1.weights Tryz.prog 34, k ≤ reachBytes := fun k hk => hw k (by
      rw [xy]
      simp only [DataW.weights, Tryz.underlying61]
      exact DataW.weights_mem_each (j := 3) (t := 34) (d := y3.1) rfl rfl k hk)
    injection e0 with e0; injection e1 with e1; injection e2 with e2
    subst e0 e1 e2
    have hsl : ∃ a len cap, c3 = .slice a len cap := by
      rcases open_slice Tryz.underlying34 h3' with ⟨hcs, _⟩ | ⟨a, ln, cp, _, _, _, _, hcs, _⟩
      · injection hcs with hcs; exact ⟨_, _, _, hcs⟩
      · injection hcs with hcs; exact ⟨_, _, _, hcs⟩
    obtain ⟨a, len, cap, rfl⟩ := hsl
    obtain ⟨l, rfl, g1, g2, g3, g4, g5⟩ := recs_open (a := a) (len := len) (cap := cap) (d := y3.1) (p := y3.2) ⟨n, by simpa [Value.cells] using h3'⟩ hw3
    exact ⟨⟨⟨s0, s1, s2, l⟩, a, cap⟩, rfl, ⟨g1, ⟨w0, w1, g2⟩, g3, g5, w2⟩⟩
set_option maxRecDepth 100000 in
theorem bat_open {H : Type} {enc : TypeId × Value → H} {W : World} {r : Reach} {b0 : Nat} {v : Value} {d : DataW H} {p : List MemPlace} (hv : Value.okWide Tryz.prog W r b0 61 v) (h : DataW.Trod enc Tryz.prog W 0 (fun _ => true) true 61 v d p) (hw : ∀ k ∈ d.weights Tryz.prog 61, k ≤ reachBytes) :
    ∃ x : BArg, v = x.val ∧ BOk W x := by
  obtain ⟨cs, rfl, hsz⟩ := okWide_struct Tryz.underlying61 hv
  obtain ⟨fuel, hf⟩ := h
  have hc : cs.toList.length = 4 := by rw [Array.length_toList, hsz]; exact cells61
  obtain ⟨x, hx, hok⟩ := bat_read cs.toList fuel _ hc (by simpa [Value.cells] using hf) hw
  refine ⟨x, ?_, hok⟩
  have : cs = x.cells.toArray := by rw [← hx]
  rw [this]; rfl
theorem bats_open {H : Type} {enc : TypeId × Value → H} {W : World} {a : Option Addr} {len cap : Nat} {d : DataW H} {p : List MemPlace} (h : DataW.Trod enc Tryz.prog W 0 (fun _ => true) true 83 (.slice a len cap) d p) (hw : ∀ k ∈ d.weights Tryz.prog 83, k ≤ reachBytes) :
    ∃ l : List BArg, l.length = len ∧ IsRow W a (l.flatMap BArg.cells) ∧ (∀ x ∈ l, BOk W x) ∧ len ≤ cap ∧ (a = none → cap = 0) ∧ cap ≤ maxLen :=
  haveI : Inhabited BArg := ⟨⟨⟨⟨#[]⟩, ⟨#[]⟩, 0, []⟩, none, 0⟩⟩
  slice_openW BArg.cells (fun x => BOk W x) 4 Tryz.underlying83 cells61 (fun cs m y hl hy hk => bat_read cs m y hl hy hk) h hw
end Go.Proofs.YthflmdgfenojcaaGreatDoor
