/- Part of the proof over this seat. -/
import Derived.Test.YthflmdgfenojcaaGreatDoorQLex
import Derived.Test.YthflmdgfenojcaaGreatDoorQPan
import Derived.Test.YthflmdgfenojcaaGreatDoorQMon
namespace Go.Proofs.YthflmdgfenojcaaGreatDoor
set_option linter.unusedVariables false
open Go.RowKit
/-- A record as its fields. -/
structure Rec where
  k : Int
  id : ByteArray
  au : ByteArray
  aq : ByteArray
  iss : ByteArray
  me : ByteArray
  ca : ByteArray
  a : Int
  cu : ByteArray
  d : Int
  c : Int
  f : Bool
def Rec.cells (r : Rec) : Array Value := #[.int .i64 r.k, .string r.id, .string r.au, .string r.aq, .string r.iss, .string r.me, .string r.ca, .int .i64 r.a, .string r.cu, .int .i64 r.d, .int .i64 r.c, .bool r.f]
def Rec.val (r : Rec) : Value := .agg r.cells
def Rec.Fit (r : Rec) : Prop := r.id.size ≤ maxLen ∧ r.au.size ≤ maxLen ∧ r.aq.size ≤ maxLen ∧ r.iss.size ≤ maxLen ∧ r.me.size ≤ maxLen ∧ r.ca.size ≤ maxLen ∧ r.cu.size ≤ maxLen
def kindE (r : Rec) : Int := if 1 ≤ r.k ∧ r.k ≤ 4 then 0 else 4
def emptyB (s : ByteArray) : Bool := decide (s.size = 0)
def namesE (r : Rec) : Int := if idB r.id = true ∧ (emptyB r.au = true ∨ idB r.au = true) ∧ nameB r.aq.data.toList = true ∧ nameB r.iss.data.toList = true ∧ idB r.me = true then 0 else 5
def cardE (r : Rec) : Int := if panE r.ca = 0 then 0 else 17
def limE (r : Rec) : Int := if 1 ≤ r.a ∧ r.a ≤ 999999999999 ∧ 0 ≤ r.c ∧ r.c ≤ 9999 then 0 else 4
def dateE (r : Rec) : Int := if 0 ≤ r.d ∧ r.d ≤ 99999 then 0 else 14
def PtPost (E : Int) (w : World) (e : Ending) (w' : World) : Prop := e = .returned (.int .i64 E) ∧ Below w.heap.size w w'
theorem bx (w : World) (X : Obj) : Below w.heap.size w (w.alloc X) := (Below.refl _ _).alloc (Nat.le_refl _) _
theorem blk_later {w w1 : World} {b : Nat} {o : Obj} (h : w.heap[b]? = some o) (hb : Below w.heap.size w w1) : w1.heap[b]? = some o := by
  rw [hb.block _ (by rcases Nat.lt_or_ge b w.heap.size with q | q; exact q; rw [Array.getElem?_eq_none (by omega)] at h; cases h)]; exact h
theorem cell_c {w : World} {b : Nat} {C : Array Value} {T : TypeId} (h : w.heap[b]? = some (.cells C T)) (o : Nat) : w.cell? ⟨b, o, none⟩ = C[o]? := by simp [World.cell?, h]
theorem cell_f {w : World} {b : Nat} {C : Array Value} {T : TypeId} (h : w.heap[b]? = some (.cells C T)) (o : Nat) : w.frozen? ⟨b, o, none⟩ = false := by simp [World.frozen?, h]
theorem box1 {w w1 : World} {C1 : Array Value} {T1 : TypeId} (hb : Below (w.alloc (.cells C1 T1)).heap.size (w.alloc (.cells C1 T1)) w1) :
    w1.heap[w.heap.size]? = some (.cells C1 T1) ∧ w.heap.size < w1.heap.size ∧ Below w.heap.size w w1 := by
  have hz := hb.size
  simp only [World.alloc, Array.size_push] at hz
  refine ⟨?_, by omega, ((Below.refl _ _).alloc (Nat.le_refl _) _).trans (hb.mono (by simp))⟩
  rw [hb.block _ (by simp)]; exact (MapKept.heap_alloc w _).1
theorem box2 {w w1 : World} {C1 C2 : Array Value} {T1 T2 : TypeId} (hb : Below ((w.alloc (.cells C1 T1)).alloc (.cells C2 T2)).heap.size ((w.alloc (.cells C1 T1)).alloc (.cells C2 T2)) w1) :
    w1.heap[w.heap.size]? = some (.cells C1 T1) ∧ w1.heap[w.heap.size + 1]? = some (.cells C2 T2) ∧ Below w.heap.size w w1 := by
  obtain ⟨k2, z, hb2⟩ := box1 hb
  refine ⟨blk_later (heap_alloc_new w _) hb2, ?_, (bx w _).trans (hb2.mono (by simp))⟩
  simpa using k2
set_option maxHeartbeats 1600000 in
theorem kind_any (r : Rec) (w : World) : Calls Tryz.prog 83 #[r.val] w (PtPost (kindE r) w) := by
  obtain ⟨K, id, au, aq, iss, me, ca, a, cu, d, c, f⟩ := r
  unfold Rec.val Rec.cells PtPost kindE
  dsimp only
  have hc : K < 1 ∨ (¬ K < 1 ∧ 4 < K) ∨ (¬ K < 1 ∧ ¬ 4 < K) := by omega
  rcases hc with q | ⟨q, q'⟩ | ⟨q, q'⟩
  · rw [if_neg (by omega)]
    go_enter Tryz.func83, Tryz.ntmps83
    go_wp2_with fail
    go_ret
    exact ⟨rfl, bx _ _⟩
  · rw [if_neg (by omega)]
    go_enter Tryz.func83, Tryz.ntmps83
    go_wp2_with fail
    go_ret
    exact ⟨rfl, bx _ _⟩
  · rw [if_pos (by omega)]
    go_enter Tryz.func83, Tryz.ntmps83
    go_wp2_with fail
    go_ret
    exact ⟨rfl, bx _ _⟩
set_option maxHeartbeats 1600000 in
theorem date_any (r : Rec) (w : World) : Calls Tryz.prog 88 #[r.val] w (PtPost (dateE r) w) := by
  obtain ⟨K, id, au, aq, iss, me, ca, a, cu, d, c, f⟩ := r
  unfold Rec.val Rec.cells PtPost dateE
  dsimp only
  have hc : d < 0 ∨ (¬ d < 0 ∧ 99999 < d) ∨ (¬ d < 0 ∧ ¬ 99999 < d) := by omega
  rcases hc with q | ⟨q, q'⟩ | ⟨q, q'⟩
  · rw [if_neg (by omega)]
    go_enter Tryz.func88, Tryz.ntmps88
    go_wp2_with fail
    go_ret
    exact ⟨rfl, bx _ _⟩
  · rw [if_neg (by omega)]
    go_enter Tryz.func88, Tryz.ntmps88
    go_wp2_with fail
    go_ret
    exact ⟨rfl, bx _ _⟩
  · rw [if_pos (by omega)]
    go_enter Tryz.func88, Tryz.ntmps88
    go_wp2_with fail
    go_ret
    exact ⟨rfl, bx _ _⟩
set_option maxHeartbeats 1600000 in
theorem lim_any (r : Rec) (w : World) : Calls Tryz.prog 87 #[r.val] w (PtPost (limE r) w) := by
  obtain ⟨K, id, au, aq, iss, me, ca, a, cu, d, c, f⟩ := r
  unfold Rec.val Rec.cells PtPost limE
  dsimp only
  have hc : a < 1 ∨ (¬ a < 1 ∧ 999999999999 < a) ∨ (¬ a < 1 ∧ ¬ 999999999999 < a ∧ c < 0) ∨ (¬ a < 1 ∧ ¬ 999999999999 < a ∧ ¬ c < 0 ∧ 9999 < c) ∨ (¬ a < 1 ∧ ¬ 999999999999 < a ∧ ¬ c < 0 ∧ ¬ 9999 < c) := by omega
  rcases hc with q | ⟨q, q'⟩ | ⟨q, q1, q2⟩ | ⟨q, q1, q2, q3⟩ | ⟨q, q1, q2, q3⟩
  iterate 4
    · rw [if_neg (by omega)]
      go_enter Tryz.func87, Tryz.ntmps87
      go_wp2_with fail
      go_ret
      exact ⟨rfl, bx _ _⟩
  · rw [if_pos (by omega)]
    go_enter Tryz.func87, Tryz.ntmps87
    go_wp2_with fail
    go_ret
    exact ⟨rfl, bx _ _⟩
set_option maxHeartbeats 1600000 in
theorem card_any (r : Rec) (hr : r.Fit) (w : World) : Calls Tryz.prog 85 #[r.val] w (PtPost (cardE r) w) := by
  obtain ⟨K, id, au, aq, iss, me, ca, a, cu, d, c, f⟩ := r
  obtain ⟨h1, h2, h3, h4, h5, h6, h7⟩ := hr
  unfold Rec.val Rec.cells PtPost cardE
  dsimp only at *
  have HP := Lib.hid (fun W => pan_any ca W h6)
  clear h1 h2 h3 h4 h5 h6 h7
  obtain ⟨E, hE⟩ : ∃ E, panE ca = E := ⟨_, rfl⟩
  rw [hE] at HP ⊢
  clear hE
  cases q : (E != 0)
  · rw [if_pos (by simpa using q)]
    go_enter Tryz.func85, Tryz.ntmps85
    go_wp2_with fail
    refine (HP.out _).mono ?_
    rintro e w1 ⟨rfl, hb⟩
    have HB := Lib.hid (box1 hb).2.2
    clear hb
    go_wp2_with fail
    go_ret
    exact ⟨rfl, HB.out⟩
  · rw [if_neg (by simpa using q)]
    go_enter Tryz.func85, Tryz.ntmps85
    go_wp2_with fail
    refine (HP.out _).mono ?_
    rintro e w1 ⟨rfl, hb⟩
    have HB := Lib.hid (box1 hb).2.2
    clear hb
    go_wp2_with fail
    go_ret
    exact ⟨rfl, HB.out⟩
set_option maxHeartbeats 1600000 in
theorem amount_any (r : Rec) (hr : r.Fit) (w : World) : Calls Tryz.prog 86 #[r.val] w (PtPost (monE r.a r.cu) w) := by
  obtain ⟨K, id, au, aq, iss, me, ca, a, cu, d, c, f⟩ := r
  obtain ⟨h1, h2, h3, h4, h5, h6, h7⟩ := hr
  unfold Rec.val Rec.cells PtPost
  dsimp only at *
  have HP := Lib.hid (fun W => mon_any a cu W h7)
  clear h1 h2 h3 h4 h5 h6 h7
  generalize monE a cu = E at *
  go_enter Tryz.func86, Tryz.ntmps86
  go_wp2_with fail
  refine (HP.out _).mono ?_
  rintro e w1 ⟨rfl, hb⟩
  have HB := Lib.hid (box1 hb).2.2
  clear hb
  go_wp2_with fail
  go_ret
  exact ⟨rfl, HB.out⟩
theorem empty_list (s : ByteArray) : s.toList.isEmpty = emptyB s := by
  unfold emptyB
  rw [ByteArray.toList_eq, Bool.eq_iff_iff, List.isEmpty_iff, decide_eq_true_iff]
  constructor
  · intro h
    have : s.data.toList.length = 0 := by rw [h]; rfl
    simpa using this
  · intro h
    apply List.eq_nil_of_length_eq_zero
    simpa using h
set_option maxHeartbeats 6400000 in
theorem names_any (r : Rec) (hr : r.Fit) (w : World) : Calls Tryz.prog 84 #[r.val] w (PtPost (namesE r) w) := by
  obtain ⟨K, id, au, aq, iss, me, ca, a, cu, d, c, f⟩ := r
  obtain ⟨h1, h2, h3, h4, h5, h6, h7⟩ := hr
  unfold Rec.val Rec.cells PtPost namesE
  dsimp only at *
  have H1 := Lib.hid (fun W => ident_any id W h1)
  have H2 := Lib.hid (fun W => ident_any au W h2)
  have H3 := Lib.hid (fun W => lname_any aq W h3)
  have H4 := Lib.hid (fun W => lname_any iss W h4)
  have H5 := Lib.hid (fun W => ident_any me W h5)
  have HE := empty_list au
  have HB := Lib.hid (fun X => bx w X)
  clear h1 h2 h3 h4 h5 h6 h7
  generalize idB id = b1 at *
  generalize idB au = b2 at *
  generalize nameB aq.data.toList = b3 at *
  generalize nameB iss.data.toList = b4 at *
  generalize idB me = b5 at *
  generalize emptyB au = b0 at *
  obtain ⟨E, hE⟩ : ∃ E : Int, (if b1 = true ∧ (b0 = true ∨ b2 = true) ∧ b3 = true ∧ b4 = true ∧ b5 = true then 0 else 5) = E := ⟨_, rfl⟩
  rw [hE]
  have HEQ := Lib.hid hE
  clear hE
  cases b1 with
  | false =>
    go_enter Tryz.func84, Tryz.ntmps84
    go_wp2_with fail
    refine (H1.out _).mono ?_
    rintro e w1 ⟨rfl, rfl⟩
    go_wp2_with fail
    go_ret
    exact ⟨by rw [← HEQ.out]; simp, HB.out _⟩
  | true =>
    cases b0 with
    | true =>
        cases b3 <;> cases b4 <;> cases b5
        all_goals
          go_enter Tryz.func84, Tryz.ntmps84
          go_wp2_with fail
          refine (H1.out _).mono ?_
          rintro e w1 ⟨rfl, rfl⟩
          go_wp2_with fail
          refine (H3.out _).mono ?_
          rintro e w3 ⟨rfl, rfl⟩
          go_wp2_with fail
          first
            | (go_ret; exact ⟨by rw [← HEQ.out]; simp, HB.out _⟩)
            | (refine (H4.out _).mono ?_
               rintro e w4 ⟨rfl, rfl⟩
               go_wp2_with fail
               first
                 | (go_ret; exact ⟨by rw [← HEQ.out]; simp, HB.out _⟩)
                 | (refine (H5.out _).mono ?_
                    rintro e w5 ⟨rfl, rfl⟩
                    go_wp2_with fail
                    go_ret
                    exact ⟨by rw [← HEQ.out]; simp, HB.out _⟩))
    | false =>
      cases b2 with
      | false =>
        go_enter Tryz.func84, Tryz.ntmps84
        go_wp2_with fail
        refine (H1.out _).mono ?_
        rintro e w1 ⟨rfl, rfl⟩
        go_wp2_with fail
        refine (H2.out _).mono ?_
        rintro e w2 ⟨rfl, rfl⟩
        go_wp2_with fail
        go_ret
        exact ⟨by rw [← HEQ.out]; simp, HB.out _⟩
      | true =>
        cases b3 <;> cases b4 <;> cases b5
        all_goals
          go_enter Tryz.func84, Tryz.ntmps84
          go_wp2_with fail
          refine (H1.out _).mono ?_
          rintro e w1 ⟨rfl, rfl⟩
          go_wp2_with fail
          refine (H2.out _).mono ?_
          rintro e w2 ⟨rfl, rfl⟩
          go_wp2_with fail
          refine (H3.out _).mono ?_
          rintro e w3 ⟨rfl, rfl⟩
          go_wp2_with fail
          first
            | (go_ret; exact ⟨by rw [← HEQ.out]; simp, HB.out _⟩)
            | (refine (H4.out _).mono ?_
               rintro e w4 ⟨rfl, rfl⟩
               go_wp2_with fail
               first
                 | (go_ret; exact ⟨by rw [← HEQ.out]; simp, HB.out _⟩)
                 | (refine (H5.out _).mono ?_
                    rintro e w5 ⟨rfl, rfl⟩
                    go_wp2_with fail
                    go_ret
                    exact ⟨by rw [← HEQ.out]; simp, HB.out _⟩))
end Go.Proofs.YthflmdgfenojcaaGreatDoor
