/- The walk of Format. -/
import Derived.Test.YtiegoffdbhmfbaaGreatDoorBld
import Derived.Test.YtiegoffdbhmfbaaGreatDoorMgw
namespace Go.Proofs.YtiegoffdbhmfbaaGreatDoor
set_option linter.unusedVariables false
open Go.RowKit

theorem bld_later {T e : TypeId} {B b : Nat} {p : Value} {bs : List Value} {w w' : World} (h : Lib.BuilderAt T e B b p bs w) (hb : Below w.heap.size w w') : Lib.BuilderAt T e B b p bs w' := by
  obtain ⟨h1, v, h2, h3, h4⟩ := h
  refine ⟨h1, v, blk_later h2 hb, ⟨h3.1, ?_⟩, h4⟩
  rcases h3.2 with q | ⟨g, cap, cur, q1, q2, q3, q4⟩
  · exact .inl q
  · exact .inr ⟨g, cap, cur, q1, q2, blk_later q3 hb, q4⟩
theorem isb_later {T e : TypeId} {B b : Nat} {bs : List Value} {w w' : World} (h : Lib.IsBuilder T e B b bs w) (hb : Below w.heap.size w w') : Lib.IsBuilder T e B b bs w' :=
  h.imp (fun q => bld_later q hb) (fun q => bld_later q hb)
def lineS (r : Rg) : ByteArray := (((((r.lo ++ ⟨#[45]⟩) ++ r.hi) ++ ⟨#[32]⟩) ++ r.is) ++ ⟨#[32]⟩ ++ r.pr) ++ ⟨#[59, 10]⟩
def textL (l : List Rg) : List UInt8 := l.flatMap fun r => (lineS r).data.toList
def fmtS (l : List Rg) : ByteArray := if ckR l = 0 then ⟨(textL l).toArray⟩ else ⟨#[]⟩
theorem name_size {s : ByteArray} (h : nameB s.data.toList = true) : s.size ≤ 16 := by
  unfold nameB at h
  simp only [Bool.and_eq_true, decide_eq_true_eq] at h
  have : s.data.toList.length = s.size := rfl
  omega
theorem lineS_size (r : Rg) : (lineS r).size = r.lo.size + r.hi.size + r.is.size + r.pr.size + 5 := by
  unfold lineS
  simp only [ByteArray.size_append]
  have h1 : (⟨#[45]⟩ : ByteArray).size = 1 := rfl
  have h2 : (⟨#[32]⟩ : ByteArray).size = 1 := rfl
  have h3 : (⟨#[59, 10]⟩ : ByteArray).size = 2 := rfl
  rw [h1, h2, h3]; omega
theorem textL_len {l : List Rg} (h : ∀ r ∈ l, Good r) : (textL l).length ≤ l.length * 57 := by
  induction l with
  | nil => exact Nat.le_refl _
  | cons a l ih =>
    unfold textL at *
    have ha := h a List.mem_cons_self
    have := ih (fun r hr => h r (List.mem_cons_of_mem _ hr))
    rw [List.flatMap_cons, List.length_append, List.length_cons]
    have e : (lineS a).data.toList.length = (lineS a).size := rfl
    rw [e, lineS_size]
    have := ha.ten; have := ha.sz; have := name_size ha.nis; have := name_size ha.npr
    omega
theorem textL_take (l : List Rg) (k : Nat) (hk : k < l.length) : Lib.byteCells (textL (l.take (k + 1))) = Lib.byteCells (textL (l.take k)) ++ Lib.strCells (lineS (rgAt l k)) := by
  unfold textL Lib.byteCells Lib.strCells
  rw [List.take_succ_eq_append_getElem hk, List.flatMap_append, List.map_append, rgAt_get l k hk]
  simp
def FmtPost (l : List Rg) (w : World) (e : Ending) (w' : World) : Prop := e = .returned (.string (fmtS l)) ∧ Below w.heap.size w w'
set_option maxRecDepth 1000000 in
set_option maxHeartbeats 6400000 in
theorem fmt_any (v : Value) (l : List Rg) (w : World) (hv : SlR w v l) (hok : ∀ x ∈ l, RgOk x) : Calls Tryz.prog 9 #[v] w (FmtPost l w) := by
  obtain ⟨A, cp, rfl, hr, hc, hcm, hn⟩ := hv.form
  have HCK := Lib.hid (ckl_any A cp l w hr hok hc hcm)
  have HR := Lib.hid hr
  unfold FmtPost
  by_cases hE : ckR l = 0
  · have HT := Lib.hid ((ck_iff l).1 hE)
    have HTL := HT.out.len
    have HF : Hid (fmtS l = ⟨(textL l).toArray⟩) := Lib.hid (by unfold fmtS; rw [if_pos hE])
    rw [hE] at HCK
    have HWS := Lib.hid (fun (b B : Nat) (bs : List Value) (s : ByteArray) (W : World) h1 h2 h3 => ws_any B b bs s W h1 h2 h3)
    have HTXT := Lib.hid (textL_len HT.out.good)
    clear hv hr hok hE hc hcm hn
    go_enter Tryz.func9, Tryz.ntmps9
    go_wp2_with fail
    refine HCK.out.mono ?_
    rintro e w1 ⟨rfl, hb⟩
    have HB1 := Lib.hid hb
    have HR1 := Lib.hid (HR.out.below hb)
    clear hb
    have HB0 : Hid (Lib.IsBuilder 47 5 w1.heap.size w1.heap.size (Lib.byteCells (textL (l.take 0))) (w1.alloc (.cells #[.pointer none, .slice none 0 0] 47)) ∧ Below w1.heap.size w1 (w1.alloc (.cells #[.pointer none, .slice none 0 0] 47))) := Lib.hid ⟨.inl ⟨Nat.le_refl _, _, heap_alloc_new _ _, World.ownsRow_nil _ _ _ _, by simp [Value.ownBlock]⟩, alloc_lt _ _⟩
    go_wp2_with fail
    go_loopw [11] (fun i wr => ∃ k : Nat, k ≤ l.length ∧ i = .int .i64 k ∧ Hid (Lib.IsBuilder 47 5 w1.heap.size w1.heap.size (Lib.byteCells (textL (l.take k))) wr ∧ Below w1.heap.size w1 wr)) (fun i _ => l.length - (intOf i).toNat)
    case atStart => exact ⟨0, Nat.zero_le _, rfl, HB0⟩
    case round =>
      clear HB0
      obtain ⟨k, hk, rfl, HS⟩ := hrel
      by_cases hlt : k < l.length
      · rcases row_rg HR1.out k hlt with ⟨b, off, rfl, hcell⟩
        obtain ⟨d0, d1, d2, d3⟩ := hcell k hlt
        have c0 := cell_later HS.out.2 d0
        have c1 := cell_later HS.out.2 d1
        have c2 := cell_later HS.out.2 d2
        have c3 := cell_later HS.out.2 d3
        have hbl : b < wr.heap.size := World.block_lt_of_cell? wr _ c0
        have kI : (k : Int) < (l.length : Int) := by omega
        have k0 : (0 : Int) ≤ (k : Int) := by omega
        have hG : Good (rgAt l k) := by rw [rgAt_get l k hlt]; exact HT.out.good _ (List.getElem_mem hlt)
        have hNX := textL_take l k hlt
        have hLN : (Lib.byteCells (textL (l.take k))).length ≤ 64 * 57 := by
          rw [Lib.byteCells_length]
          have := textL_len (l := l.take k) (fun r hr => HT.out.good r (List.mem_of_mem_take hr))
          rw [List.length_take] at this
          have : min k l.length * 57 ≤ 64 * 57 := Nat.mul_le_mul_right _ (by omega)
          omega
        clear d0 d1 d2 d3 hcell
        generalize rgAt l k = r at *
        obtain ⟨lo, hi, is, pr⟩ := r
        have s1 := hG.ten
        have s2 := hG.sz
        have s3 := name_size hG.nis
        have s4 := name_size hG.npr
        simp only at c0 c1 c2 c3 s1 s2 s3 s4
        have hsz := lineS_size ⟨lo, hi, is, pr⟩
        simp only at hsz
        have z1 : ¬ 9223372036854775807 < lo.size + 1 := by omega
        have z2 : ¬ 9223372036854775807 < lo.size + 1 + hi.size := by omega
        have z3 : ¬ 9223372036854775807 < lo.size + 1 + hi.size + 1 := by omega
        have z4 : ¬ 9223372036854775807 < lo.size + 1 + hi.size + 1 + is.size := by omega
        have z5 : ¬ 9223372036854775807 < lo.size + 1 + hi.size + 1 + is.size + 1 := by omega
        have z6 : ¬ 9223372036854775807 < lo.size + 1 + hi.size + 1 + is.size + 1 + pr.size := by omega
        have z7 : ¬ 9223372036854775807 < lo.size + 1 + hi.size + 1 + is.size + 1 + pr.size + 2 := by omega
        have HA : Hid (Lib.IsBuilder 47 5 w1.heap.size w1.heap.size (Lib.byteCells (textL (l.take k))) (wr.alloc (.cells #[.string lo, .string hi, .string is, .string pr] 26)) ∧ Below w1.heap.size w1 (wr.alloc (.cells #[.string lo, .string hi, .string is, .string pr] 26))) := Lib.hid ⟨isb_later HS.out.1 (alloc_lt _ _), HS.out.2.trans ((alloc_lt _ _).mono HS.out.2.size)⟩
        have HW := Lib.hid (HWS.out w1.heap.size w1.heap.size _ (lineS ⟨lo, hi, is, pr⟩) _ HA.out.1 (by omega) HA.out.2.size)
        have HNX := Lib.hid hNX
        unfold lineS at HW
        simp only at HW
        clear hNX hLN hG s1 s2 s3 s4 hsz
        go_wp2_with fail
        refine HW.out.mono ?_
        rintro e w3 ⟨rfl, hbd, hb⟩
        have HS3 : Hid (Lib.IsBuilder 47 5 w1.heap.size w1.heap.size (Lib.byteCells (textL (l.take (k + 1)))) w3 ∧ Below w1.heap.size w1 w3) := Lib.hid ⟨.inr (by rw [HNX.out]; exact hbd), HA.out.2.trans hb⟩
        clear hbd hb
        go_wp2_with fail
        go_roundw
        case rel => exact ⟨k + 1, by omega, by go_num, HS3⟩
        case measure => simp [intOf]; omega
      · obtain rfl : k = l.length := by omega
        have hq := HS.out
        rw [List.take_length] at hq
        have HST := Lib.hid (Tryz.Builder_String_any w1.heap.size w1.heap.size (textL l) wr hq.1 hq.2.size)
        clear hq
        go_wp2_with fail
        refine HST.out.mono ?_
        rintro e w3 ⟨rfl, hb⟩
        have HB3 := Lib.hid (HB1.out.trans ((HS.out.2.trans hb).mono HB1.out.size))
        clear hb
        go_wp2_with fail
        go_ret
        exact ⟨by rw [HF.out]; rfl, HB3.out⟩
  · have hE' : (ckR l != 0) = true := by simpa using hE
    have HF : Hid (fmtS l = ⟨#[]⟩) := Lib.hid (by unfold fmtS; rw [if_neg hE])
    generalize ckR l = E at *
    clear hr hv hok hE hc hcm hn
    go_enter Tryz.func9, Tryz.ntmps9
    go_wp2_with fail
    refine HCK.out.mono ?_
    rintro e w1 ⟨rfl, hb⟩
    have HB1 := Lib.hid hb
    clear hb
    go_wp2_with fail
    go_ret
    exact ⟨by rw [HF.out]; rfl, HB1.out⟩
end Go.Proofs.YtiegoffdbhmfbaaGreatDoor
