/- The walk of SchemeSaves, joined; its argument. -/
import Derived.Test.YtfhiepcjkocnlaaSavA
import Derived.Test.YtfhiepcjkocnlaaSavB
import Derived.Test.YtfhiepcjkocnlaaOpen
namespace Go.Proofs.Ytfhiepcjkocnlaa
set_option linter.unusedVariables false
open Go.RowKit Go.Maps Go.ChangeShapes Go.WideShapes Go.Deep Go.Joins

structure AskT where
  A : Option Addr
  c : Nat
  l : List Tr
  B : Option Addr
  d : Nat
  v : List Vol
  n : Int
  m : Int
def AskT.val (x : AskT) : Value := .agg #[.slice x.A x.l.length x.c, .slice x.B x.v.length x.d, .int .i64 x.n, .int .i64 x.m]
structure AskOk (w : World) (x : AskT) : Prop where
  t : TierArg w x.A x.c x.l
  v : VolArg w x.B x.d x.v
set_option maxRecDepth 100000 in
set_option maxHeartbeats 6400000 in
theorem saves_few (w : World) (A : Option Addr) (c : Nat) (l : List Tr) (B : Option Addr) (d : Nat) (v : List Vol) (cnt more : Int) (hlm : l.length ≤ maxLen) (hv : IsRow w B (cellsV v)) (hvm : v.length ≤ maxLen) (hns : ∀ x ∈ v, x.s.size ≤ maxLen) (hf : fewB l v = false) :
    Calls Try.prog 7 #[.agg #[.slice A l.length c, .slice B v.length d, .int .i64 cnt, .int .i64 more]] w fun e w' => e = .returned (.bool true) ∧ Below w.heap.size w w' := by
  have HFW := Lib.hid (fun W h => few_any A c l B d v W hlm h hvm hns)
  rw [hf] at HFW
  have HV := Lib.hid hv
  clear hlm hv hvm hns hf
  go_enter Try.func7, Try.ntmps7
  go_wp2_with fail
  have hbw := (Below.refl w.heap.size w).alloc (Nat.le_refl _) (.cells #[.slice A l.length c, .slice B v.length d, .int .i64 cnt, .int .i64 more] 49)
  generalize hW : w.alloc (Obj.cells #[.slice A l.length c, .slice B v.length d, .int .i64 cnt, .int .i64 more] 49) = W1 at hbw ⊢
  have x0 : W1.cell? ⟨w.heap.size, 0, none⟩ = some (.slice A l.length c) := by rw [← hW]; simp
  have x1 : W1.cell? ⟨w.heap.size, 1, none⟩ = some (.slice B v.length d) := by rw [← hW]; simp
  have x2 : W1.cell? ⟨w.heap.size, 2, none⟩ = some (.int .i64 cnt) := by rw [← hW]; simp
  have x3 : W1.cell? ⟨w.heap.size, 3, none⟩ = some (.int .i64 more) := by rw [← hW]; simp
  have HBW := Lib.hid hbw
  clear hW hbw
  go_quiet (fail)
  clear x0 x1 x2 x3
  have HB8 := Lib.hid (dNb HBW.out nq)
  have HV8 := Lib.hid (HV.out.below HB8.out)
  generalize W1.drewN nq = w9 at HB8 HV8 ⊢
  go_wp2_with fail
  refine (HFW.out _ HV8.out).mono ?_
  rintro e w7 ⟨rfl, rfl⟩
  go_wp2_with fail
  refine (awake_any _).mono ?_
  rintro e w6 ⟨rfl, hb⟩
  go_wp2_with fail
  go_ret
  exact ⟨rfl, HB8.out.trans (hb.mono HB8.out.size)⟩
theorem schemeSaves_walk (w : World) (x : AskT) (h : AskOk w x) :
    Calls Try.prog 7 #[x.val] w fun e w' => e = .returned (.bool true) ∧ Below w.heap.size w w' := by
  have hup := upT_of h.t.2.1
  have hns : ∀ y ∈ x.v, y.s.size ≤ maxLen := fun y hy => (h.v.2.1 y hy).1
  have hlm := Nat.le_trans h.t.2.2.1 h.t.2.2.2.2
  have hvm := Nat.le_trans h.v.2.2.1 h.v.2.2.2.2
  cases hf : fewB x.l x.v
  case false => exact saves_few w x.A x.c x.l x.B x.d x.v x.n x.m hlm h.v.1 hvm hns hf
  case true =>
    by_cases h1 : 0 ≤ x.n
    · by_cases h2 : x.n ≤ 1000000000
      · by_cases h3 : x.n ≤ x.m
        · by_cases h4 : x.m ≤ 1000000000
          · exact saves_e w x.A x.c x.l x.B x.d x.v x.n x.m h.t.1 hup hlm h.v.1 hvm hns hf h1 h2 h3 h4
          · exact saves_d w x.A x.c x.l x.B x.d x.v x.n x.m h.t.1 hup hlm h.v.1 hvm hns hf h1 h2 h3 (by omega)
        · exact saves_c w x.A x.c x.l x.B x.d x.v x.n x.m h.t.1 hup hlm h.v.1 hvm hns hf h1 h2 (by omega)
      · exact saves_b w x.A x.c x.l x.B x.d x.v x.n x.m h.t.1 hup hlm h.v.1 hvm hns hf h1 (by omega)
    · exact saves_a w x.A x.c x.l x.B x.d x.v x.n x.m h.t.1 hup hlm h.v.1 hvm hns hf (by omega)

theorem slice1_open {α : Type} [Inhabited α] {H : Type} {enc : TypeId × Value → H} {P : Program} {W : World} {t e : TypeId} (cells : α → List Value) (ok : α → Prop) (n : Nat) (ht : P.underlying t = some (.slice e)) (hC : P.cellsOf e = n)
    (hread : ∀ (cs : List Value) (m : Nat) y, cs.length = n → DataW.trod enc P W 0 (fun _ => true) true m e cs = some y → ∃ x, cs = cells x ∧ ok x)
    {v : Value} {fuel : Nat} {y : DataW H × List MemPlace} (hf : DataW.trod enc P W 0 (fun _ => true) true fuel t [v] = some y) :
    ∃ (a : Option Addr) (cap : Nat) (l : List α), v = .slice a l.length cap ∧ IsRow W a (l.flatMap cells) ∧ (∀ x ∈ l, ok x) ∧ l.length ≤ cap ∧ (a = none → cap = 0) ∧ cap ≤ maxLen := by
  have hs : ∃ a len cap, v = .slice a len cap := by
    rcases open_slice ht hf with ⟨hcs, _⟩ | ⟨x, ln, cp, m, k, D, Pl, hcs, _⟩
    · injection hcs with h _; exact ⟨_, _, _, h⟩
    · injection hcs with h _; exact ⟨_, _, _, h⟩
  obtain ⟨a, len, cap, rfl⟩ := hs
  obtain ⟨l, h1, h2, h3, h4⟩ := slice_open cells ok n ht hC hread (a := a) (len := len) (cap := cap) (d := y.1) (p := y.2) ⟨fuel, by simpa [Value.cells] using hf⟩
  exact ⟨a, cap, l, by rw [h1], h2, h3, by rw [h1]; exact h4.1, h4.2⟩
theorem ask_open {H : Type} {enc : TypeId × Value → H} {W : World} {r : Reach} {b : Nat} {v : Value} {d : DataW H} {p : List MemPlace} (hv : Value.okWide Try.prog W r b 49 v) (h : DataW.Trod enc Try.prog W 0 (fun _ => true) true 49 v d p) :
    ∃ x : AskT, v = x.val ∧ AskOk W x := by
  obtain ⟨v0, v1, v2, v3, y0, y1, y2, y3, n, rfl, _, _, h0, h1, h2, h3⟩ := open_agg4 Try.underlying49 (by kernel_rfl) (by kernel_rfl) hv h
  obtain ⟨a, c, l, rfl, hl⟩ := slice1_open trCells (fun x => (Lit.int .i64 x.f).wf = true ∧ (Lit.int .i64 x.p).wf = true) 2 Try.underlying22 (by kernel_rfl) tier_read h0
  obtain ⟨a', c', l', rfl, hl'⟩ := slice1_open volCells (fun x => x.s.size ≤ maxLen ∧ (Lit.int .i64 x.c).wf = true) 2 Try.underlying23 (by kernel_rfl) vol_read h1
  obtain ⟨i, e1, _, _⟩ := DataW.trod_int Try.underlying2 h2
  obtain ⟨j, e2, _, _⟩ := DataW.trod_int Try.underlying2 h3
  injection e1 with e1; injection e2 with e2
  subst e1; subst e2
  exact ⟨⟨a, c, l, a', c', l', i, j⟩, rfl, hl, hl'⟩
end Go.Proofs.Ytfhiepcjkocnlaa
