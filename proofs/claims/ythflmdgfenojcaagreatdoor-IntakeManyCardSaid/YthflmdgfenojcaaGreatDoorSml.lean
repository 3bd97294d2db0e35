/- Small functions: Less, the reference's Less, Short, Debit, Name, sample. -/
import Derived.Test.YthflmdgfenojcaaGreatDoorDec
import Derived.WalkLawsBesides
namespace Go.Proofs.YthflmdgfenojcaaGreatDoor
set_option linter.unusedVariables false
open Go.RowKit Go.Sort

def BPost (v : Bool) (w : World) (e : Ending) (w' : World) : Prop := e = .returned (.bool v) ∧ Below w.heap.size w w'
def lessB (a b : Rec) : Bool := if a.d ≠ b.d then decide (a.d < b.d) else if a.aq ≠ b.aq then Op.bytesLess a.aq.toList b.aq.toList else Op.bytesLess a.id.toList b.id.toList
theorem str_eq {a b : ByteArray} (h : a = b) : (a.toList == b.toList) = true ∧ a.toList = b.toList := by subst h; simp
theorem str_ne {a b : ByteArray} (h : a ≠ b) : (a.toList == b.toList) = false ∧ ¬ a.toList = b.toList := by
  have h1 := ba_diff a b h
  exact ⟨h1, by simpa using h1⟩
def shortB (r : Rec) : Bool := decide (r.id.size ≤ 100) && (decide (r.au.size ≤ 100) && (decide (r.aq.size ≤ 100) && (decide (r.iss.size ≤ 100) && (decide (r.me.size ≤ 100) && (decide (r.ca.size ≤ 100) && decide (r.cu.size ≤ 100))))))
set_option maxRecDepth 100000 in
set_option maxHeartbeats 3200000 in
theorem short_any (r : Rec) (w : World) : Calls Tryz.prog 31 #[r.val] w (BPost (shortB r) w) := by
  have HS : Hid (shortB r = (decide (r.id.size ≤ 100) && (decide (r.au.size ≤ 100) && (decide (r.aq.size ≤ 100) && (decide (r.iss.size ≤ 100) && (decide (r.me.size ≤ 100) && (decide (r.ca.size ≤ 100) && decide (r.cu.size ≤ 100)))))))) := Lib.hid rfl
  unfold BPost
  generalize shortB r = S at *
  obtain ⟨K, id, au, aq, iss, me, ca, x, cu, d, c, f⟩ := r
  have HB := Lib.hid (bx w (.cells #[.int .i64 K, .string id, .string au, .string aq, .string iss, .string me, .string ca, .int .i64 x, .string cu, .int .i64 d, .int .i64 c, .bool f] 57))
  unfold Rec.val Rec.cells
  dsimp only at *
  have hc : (¬ id.size ≤ 100) ∨ (id.size ≤ 100 ∧ ¬ au.size ≤ 100) ∨ (id.size ≤ 100 ∧ au.size ≤ 100 ∧ ¬ aq.size ≤ 100) ∨ (id.size ≤ 100 ∧ au.size ≤ 100 ∧ aq.size ≤ 100 ∧ ¬ iss.size ≤ 100) ∨ (id.size ≤ 100 ∧ au.size ≤ 100 ∧ aq.size ≤ 100 ∧ iss.size ≤ 100 ∧ ¬ me.size ≤ 100) ∨ (id.size ≤ 100 ∧ au.size ≤ 100 ∧ aq.size ≤ 100 ∧ iss.size ≤ 100 ∧ me.size ≤ 100 ∧ ¬ ca.size ≤ 100) ∨ (id.size ≤ 100 ∧ au.size ≤ 100 ∧ aq.size ≤ 100 ∧ iss.size ≤ 100 ∧ me.size ≤ 100 ∧ ca.size ≤ 100 ∧ ¬ cu.size ≤ 100) ∨ (id.size ≤ 100 ∧ au.size ≤ 100 ∧ aq.size ≤ 100 ∧ iss.size ≤ 100 ∧ me.size ≤ 100 ∧ ca.size ≤ 100 ∧ cu.size ≤ 100) := by omega
  rcases hc with h0 | ⟨h0, h1⟩ | ⟨h0, h1, h2⟩ | ⟨h0, h1, h2, h3⟩ | ⟨h0, h1, h2, h3, h4⟩ | ⟨h0, h1, h2, h3, h4, h5⟩ | ⟨h0, h1, h2, h3, h4, h5, h6⟩ | ⟨h0, h1, h2, h3, h4, h5, h6⟩
  iterate 6
    · have HS2 := Lib.hid (show S = false by rw [HS.out]; simp [*])
      go_enter Tryz.func31, Tryz.ntmps31
      go_wp2_with fail
      go_ret
      exact ⟨by rw [HS2.out]; rfl, HB.out⟩
  · have HS2 := Lib.hid (show S = false by rw [HS.out]; simp [*])
    have hd : decide ((cu.size : Int) ≤ 100) = false := decide_eq_false (by omega)
    go_enter Tryz.func31, Tryz.ntmps31
    go_wp2_with fail
    go_ret
    exact ⟨by rw [HS2.out]; rfl, HB.out⟩
  · have HS2 := Lib.hid (show S = true by rw [HS.out]; simp [*])
    have hd : decide ((cu.size : Int) ≤ 100) = true := decide_eq_true (by omega)
    go_enter Tryz.func31, Tryz.ntmps31
    go_wp2_with fail
    go_ret
    exact ⟨by rw [HS2.out]; rfl, HB.out⟩
/-- The debit of a record. -/
def debV (r : Rec) : Int := if chkE r = 0 then (if r.k = 1 ∨ r.k = 4 then r.a else -r.a) else 0
def IPost (v : Int) (w : World) (e : Ending) (w' : World) : Prop := e = .returned (.int .i64 v) ∧ Below w.heap.size w w'
set_option maxRecDepth 100000 in
set_option maxHeartbeats 3200000 in
theorem debit_any (r : Rec) (hr : r.Fit) (w : World) : Calls Tryz.prog 37 #[r.val] w (IPost (debV r) w) := by
  have HD : Hid (debV r = if chkE r = 0 then (if r.k = 1 ∨ r.k = 4 then r.a else -r.a) else 0) := Lib.hid rfl
  have HC := Lib.hid (fun W => chk_any r hr W)
  have HI := Lib.hid (Fit.ints r)
  unfold IPost
  unfold PtPost at HC
  generalize debV r = D at *
  generalize chkE r = CE at *
  clear hr
  obtain ⟨K, id, au, aq, iss, me, ca, a, cu, d, c, f⟩ := r
  unfold Rec.val Rec.cells at *
  dsimp only at *
  cases q : (CE != 0)
  case true =>
    have HE := Lib.hid (show D = 0 by rw [HD.out, if_neg (by simpa using q)])
    go_enter Tryz.func37, Tryz.ntmps37
    go_wp2_with fail
    refine (HC.out _).mono ?_
    rintro e w1 ⟨rfl, hb⟩
    have HB := Lib.hid (box1 hb).2.2
    clear hb
    go_wp2_with fail
    go_ret
    exact ⟨by rw [HE.out]; rfl, HB.out⟩
  case false =>
    have h0 : CE = 0 := by simpa using q
    subst h0
    have hi := HI.out rfl
    have hc : K = 1 ∨ K = 4 ∨ (K = 2 ∨ K = 3) := by omega
    have a1 : 1 ≤ a := hi.2.2.1
    have a2 : a ≤ 999999999999 := hi.2.2.2.1
    clear q hi
    rcases hc with rfl | rfl | hk
    · have HE := Lib.hid (show D = a by rw [HD.out, if_pos rfl, if_pos (by omega)])
      go_enter Tryz.func37, Tryz.ntmps37
      go_wp2_with fail
      refine (HC.out _).mono ?_
      rintro e w1 ⟨rfl, hb⟩
      have k0 := cell_c (box1 hb).1 0
      have k7 := cell_c (box1 hb).1 7
      have HB := Lib.hid (box1 hb).2.2
      clear hb
      go_wp2_with fail
      go_ret
      exact ⟨by rw [HE.out]; rfl, HB.out⟩
    · have HE := Lib.hid (show D = a by rw [HD.out, if_pos rfl, if_pos (by omega)])
      go_enter Tryz.func37, Tryz.ntmps37
      go_wp2_with fail
      refine (HC.out _).mono ?_
      rintro e w1 ⟨rfl, hb⟩
      have k0 := cell_c (box1 hb).1 0
      have k7 := cell_c (box1 hb).1 7
      have HB := Lib.hid (box1 hb).2.2
      clear hb
      go_wp2_with fail
      go_ret
      exact ⟨by rw [HE.out]; rfl, HB.out⟩
    · have HE := Lib.hid (show D = -a by rw [HD.out, if_pos rfl, if_neg (by omega)])
      have b1 : (K == 1) = false := by simp; omega
      have b4 : (K == 4) = false := by simp; omega
      clear hk
      go_enter Tryz.func37, Tryz.ntmps37
      go_wp2_with fail
      refine (HC.out _).mono ?_
      rintro e w1 ⟨rfl, hb⟩
      have k0 := cell_c (box1 hb).1 0
      have k7 := cell_c (box1 hb).1 7
      have HB := Lib.hid (box1 hb).2.2
      clear hb
      go_wp2_with fail
      go_ret
      exact ⟨by rw [HE.out]; rfl, HB.out⟩
def sampR (k : Int) : Rec := ⟨k, ⟨#[48, 48, 48, 48, 48, 49, 48, 48, 48, 48, 48, 55, 45, 49]⟩, ⟨#[48, 48, 48, 48, 48, 49, 48, 48, 48, 48, 48, 55]⟩, ⟨#[115, 104, 111, 112, 98, 97, 110, 107]⟩, ⟨#[104, 111, 109, 101, 98, 97, 110, 107]⟩, ⟨#[83, 72, 79, 80, 49]⟩, ⟨#[52, 48, 48, 48, 48, 48, 48, 48, 48, 48, 48, 48, 48, 48, 55, 55]⟩, 1000, ⟨#[69, 85, 82]⟩, 12, 5411, true⟩
set_option maxRecDepth 100000 in
set_option maxHeartbeats 1600000 in
theorem sample_any (k : Int) (w : World) : Calls Tryz.prog 76 #[.int .i64 k] w fun e w' => e = .returned (sampR k).val ∧ Below w.heap.size w w' := by
  have HZ := Lib.hid (heap_alloc_new w (.cells zrec.cells 57))
  have HB := Lib.hid (bx w (.cells zrec.cells 57))
  go_enter Tryz.func76, Tryz.ntmps76
  go_wp2_with (refine wpList_store_row rfl 57 _ _ rfl w.heap.size (sampR k).cells rfl rfl 57 _ HZ.out (info25 _) rfl (rec_one _) ?_)
  refine bodyPost_ret (v := (sampR k).val) ?_ rfl ⟨rfl, below_setRow HB.out (Nat.le_refl _) _⟩
  exact results_cell_row (show Tryz.f76.results = #[.cell 2 57] by kernel_rfl) _ _ w.heap.size 57 (sampR k).cells (0, 0) _ rfl (setRow_heap _ _ _ _ _ _ HZ.out) Tryz.underlying57 rfl (info25 _)
theorem name3 (w : World) : Calls Tryz.prog 39 #[.int .i64 3] w fun e w' => e = .returned (.string ⟨#[99, 104, 97, 114, 103, 101, 98, 97, 99, 107]⟩) ∧ w = w' := by
  go_enter Tryz.func39, Tryz.ntmps39
  go_wp2_with fail
  go_ret
  exact ⟨rfl, rfl⟩
end Go.Proofs.YthflmdgfenojcaaGreatDoor
