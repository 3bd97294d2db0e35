/- The walk of batch.Encode. -/
import Derived.Test.YthflmdgfenojcaaGreatDoorBck
import Derived.Test.YthflmdgfenojcaaGreatDoorBwr
import Derived.Test.YthflmdgfenojcaaGreatDoorCrd
import Derived.Test.YthflmdgfenojcaaGreatDoorPrt2
import Derived.Test.YthflmdgfenojcaaGreatDoorEnc
import Derived.Lib.ItoaLen
import Derived.Deep.RegionHeld3
import Derived.Outline
namespace Go.Proofs.YthflmdgfenojcaaGreatDoor
set_option linter.unusedVariables false
open Go.RowKit Go.Maps

def BW (w : World) : Prop := KW w ∧ TzW w
theorem BW.below {w w' : World} (h : BW w) (hb : Below w.heap.size w w') : BW w' := ⟨h.1.below hb, h.2.below hb⟩
/-! ### sizes -/
theorem ito_size {v : Int} (h0 : -9223372036854775808 ≤ v) (h1 : v ≤ 9223372036854775807) : (itoS v).data.toList.length ≤ 21 := Lib.itoa_length_le v h0 h1
theorem finS_size (f : Bool) : (finS f).data.toList.length ≤ 1 := by cases f <;> decide
def szR (r : Rec) : Nat := r.id.size + r.au.size + r.aq.size + r.iss.size + r.me.size + r.ca.size + r.cu.size
theorem encS_size' {r : Rec} (h : chkE r = 0) : (encS r).size ≤ szR r + 100 := by
  obtain ⟨i1, i2, i3, i4, i5, i6, i7, i8⟩ := Fit.ints r h
  have h1 := ito_size (v := r.k) (by omega) (by omega)
  have h2 := ito_size (v := r.a) (by omega) (by omega)
  have h3 := ito_size (v := r.d) (by omega) (by omega)
  have h4 := ito_size (v := r.c) (by omega) (by omega)
  have h5 := finS_size r.f
  show (Lib.join (r.texts.map (·.data.toList)) [124]).toArray.size ≤ szR r + 100
  rw [List.size_toArray]
  unfold Rec.texts szR
  rw [List.map_cons, Lib.join_length]
  simp [Lib.lens] at *
  omega
theorem hcs2 (x y : ByteArray) : ∀ i, i < [x, y].length → (#[Value.string x, .string y])[i]? = some (.string (strAt [x, y] i)) := fun i hi => by
  match i, hi with
  | 0, _ => rfl
  | 1, _ => rfl
theorem hsz2 {x y : ByteArray} {M : Nat} (hx : x.size ≤ M) (hy : y.size ≤ M) : ∀ i, i < [x, y].length → (strAt [x, y] i).size ≤ M := fun i hi => by
  match i, hi with
  | 0, _ => exact hx
  | 1, _ => exact hy
theorem hcs4 (x y z u : ByteArray) : ∀ i, i < [x, y, z, u].length → (#[Value.string x, .string y, .string z, .string u])[i]? = some (.string (strAt [x, y, z, u] i)) := fun i hi => by
  match i, hi with
  | 0, _ => rfl
  | 1, _ => rfl
  | 2, _ => rfl
  | 3, _ => rfl
theorem hsz4 {x y z u : ByteArray} {M : Nat} (hx : x.size ≤ M) (hy : y.size ≤ M) (hz : z.size ≤ M) (hu : u.size ≤ M) : ∀ i, i < [x, y, z, u].length → (strAt [x, y, z, u] i).size ≤ M := fun i hi => by
  match i, hi with
  | 0, _ => exact hx
  | 1, _ => exact hy
  | 2, _ => exact hz
  | 3, _ => exact hu
theorem hcs5 (x y z u v : ByteArray) : ∀ i, i < [x, y, z, u, v].length → (#[Value.string x, .string y, .string z, .string u, .string v])[i]? = some (.string (strAt [x, y, z, u, v] i)) := fun i hi => by
  match i, hi with
  | 0, _ => rfl
  | 1, _ => rfl
  | 2, _ => rfl
  | 3, _ => rfl
  | 4, _ => rfl
theorem hsz5 {x y z u v : ByteArray} {M : Nat} (hx : x.size ≤ M) (hy : y.size ≤ M) (hz : z.size ≤ M) (hu : u.size ≤ M) (hv : v.size ≤ M) : ∀ i, i < [x, y, z, u, v].length → (strAt [x, y, z, u, v] i).size ≤ M := fun i hi => by
  match i, hi with
  | 0, _ => exact hx
  | 1, _ => exact hy
  | 2, _ => exact hz
  | 3, _ => exact hu
  | 4, _ => exact hv
theorem bodyK_len {b : Bat} (hi : b.id.size ≤ 1000000) (hs : b.sd.size ≤ 1000000) (hd : -9223372036854775808 ≤ b.dt ∧ b.dt ≤ 9223372036854775807) (hr : ∀ j, j < b.rs.length → (encS (rcAt b.rs j)).size ≤ 1000000) : ∀ k, k ≤ b.rs.length → (bodyK b k).length ≤ 4000005 * (k + 1)
  | 0, _ => by
    unfold bodyK hdrL
    have := lineL_len [⟨#[72]⟩, b.id, b.sd, itoS b.dt] 1000000 (hsz4 (by decide) hi hs (Nat.le_trans (itoS_size _ hd) (by omega)))
    simp only [List.take_zero, List.flatMap_nil, List.append_nil]
    exact Nat.le_trans this (by simp)
  | k + 1, h => by
    have ih := bodyK_len hi hs hd hr k (by omega)
    rw [bodyK_succ b k (by omega), List.length_append]
    have := lineL_len [⟨#[82]⟩, encS (rcAt b.rs k)] 1000000 (hsz2 (by decide) (hr k (by omega)))
    unfold recL'
    have e : ([⟨#[82]⟩, encS (rcAt b.rs k)] : List ByteArray).length = 2 := rfl
    rw [e] at this
    omega
/-! ### the state of the walk -/
theorem isbF_later {T e : TypeId} {B b : Nat} {bs : List Value} {w w' : World} (h : Lib.IsBuilderF T e B b bs w) (hb : Below w.heap.size w w') : Lib.IsBuilderF T e B b bs w' := by
  have key : ∀ p, Lib.BuilderAtF T e B b p bs w → Lib.BuilderAtF T e B b p bs w' := fun p ⟨h1, v, h2, h3, h4⟩ =>
    ⟨h1, v, blk_later h2 hb, h3.kept (row := none) ⟨hb.os, hb.tape, hb.output, hb.size, fun k hk _ => hb.block k hk⟩ (Classical.em _), h4⟩
  exact h.imp (key _) (key _)
/-- The boxed file and the builder with the bytes l. -/
structure EnS (b : Bat) (A : Option Addr) (cp B : Nat) (l : List UInt8) (w W : World) : Prop where
  t : W.heap[w.heap.size]? = some (.cells #[.string b.id, .string b.sd, .int .i64 b.dt, .slice A b.rs.length cp] 61)
  bl : Lib.IsBuilderF 138 5 B B (Lib.byteCells l) W
  be : Below w.heap.size w W
  lt : w.heap.size < B
  le : B < W.heap.size
section
variable {b : Bat} {A : Option Addr} {cp B : Nat} {l m : List UInt8} {w W W' X : World}
theorem EnS.below (h : EnS b A cp B l w W) (hb : Below W.heap.size W W') : EnS b A cp B l w W' :=
  ⟨blk_later h.t hb, isbF_later h.bl hb, h.be.trans (hb.mono h.be.size), h.lt, Nat.lt_of_lt_of_le h.le hb.size⟩
theorem EnS.wr (h : EnS b A cp B l w W) (k : Bld B B m W W') : EnS b A cp B m w W' :=
  ⟨(k.2.1.block _ h.lt).trans h.t, k.1, h.be.trans (k.2.1.mono (Nat.le_of_lt h.lt)), h.lt, Nat.lt_of_lt_of_le h.le k.2.1.size⟩
def EnP (b : Bat) (A : Option Addr) (cp B : Nat) (l : List UInt8) (w X : World) (e : Ending) (w' : World) : Prop := e = .returned (.tuple #[]) ∧ EnS b A cp B l w w' ∧ Lib.OthersKept 5 (some B) X w'
theorem EnS.line (h : EnS b A cp B l w X) (hl : l.length ≤ 10000000000) (ps : List ByteArray) (cs : Array Value) (hcs : ∀ i, i < ps.length → cs[i]? = some (.string (strAt ps i))) (hn : ps.length ≤ 10) (hsz : ∀ i, i < ps.length → (strAt ps i).size ≤ 1000000) :
    Calls Tryz.prog 94 #[.pointer (some ⟨B, 0, none⟩), .slice (some ⟨X.heap.size, 0, none⟩) ps.length ps.length] (X.alloc (.cells cs 9)) (EnP b A cp B (l ++ lineL ps) w X) := by
  have h2 := h.below (bx X (.cells cs 9))
  refine (wline_any B B X.heap.size l ps cs 9 ps.length _ h2.bl hl (Nat.le_of_lt h2.le) (heap_alloc_new X _) (by decide) (by have := h.le; omega) hcs hn (Nat.le_refl _) hsz).mono ?_
  rintro e w' ⟨he, hb⟩
  exact ⟨he, h2.wr hb, (((Lib.OthersKept.refl 5 (some B) X).alloc _).trans hb.2.2)⟩
theorem EnS.line2 (h : EnS b A cp B l w X) (hl : l.length ≤ 10000000000) (x y : ByteArray) (hx : x.size ≤ 1000000) (hy : y.size ≤ 1000000) :
    Calls Tryz.prog 94 #[.pointer (some ⟨B, 0, none⟩), .slice (some ⟨X.heap.size, 0, none⟩) 2 2] (X.alloc (.cells #[.string x, .string y] 9)) (EnP b A cp B (l ++ lineL [x, y]) w X) :=
  h.line hl [x, y] _ (hcs2 x y) (by simp) (hsz2 hx hy)
theorem EnS.line4 (h : EnS b A cp B l w X) (hl : l.length ≤ 10000000000) (x y z u : ByteArray) (hx : x.size ≤ 1000000) (hy : y.size ≤ 1000000) (hz : z.size ≤ 1000000) (hu : u.size ≤ 1000000) :
    Calls Tryz.prog 94 #[.pointer (some ⟨B, 0, none⟩), .slice (some ⟨X.heap.size, 0, none⟩) 4 4] (X.alloc (.cells #[.string x, .string y, .string z, .string u] 9)) (EnP b A cp B (l ++ lineL [x, y, z, u]) w X) :=
  h.line hl [x, y, z, u] _ (hcs4 x y z u) (by simp) (hsz4 hx hy hz hu)
theorem EnS.line5 (h : EnS b A cp B l w X) (hl : l.length ≤ 10000000000) (x y z u v : ByteArray) (hx : x.size ≤ 1000000) (hy : y.size ≤ 1000000) (hz : z.size ≤ 1000000) (hu : u.size ≤ 1000000) (hv : v.size ≤ 1000000) :
    Calls Tryz.prog 94 #[.pointer (some ⟨B, 0, none⟩), .slice (some ⟨X.heap.size, 0, none⟩) 5 5] (X.alloc (.cells #[.string x, .string y, .string z, .string u, .string v] 9)) (EnP b A cp B (l ++ lineL [x, y, z, u, v]) w X) :=
  h.line hl [x, y, z, u, v] _ (hcs5 x y z u v) (by simp) (hsz5 hx hy hz hu hv)
theorem EnS.row (h : EnS b A cp B l w W) : W.cell? ⟨w.heap.size, 0, none⟩ = some (.string b.id) ∧ W.cell? ⟨w.heap.size, 1, none⟩ = some (.string b.sd) ∧ W.cell? ⟨w.heap.size, 2, none⟩ = some (.int .i64 b.dt) :=
  ⟨cell_c h.t 0, cell_c h.t 1, cell_c h.t 2⟩
/-- With the totals in a block of their own. -/
structure EnT (b : Bat) (A : Option Addr) (cp B TB : Nat) (x0 x1 x2 x3 : Int) (l : List UInt8) (w W : World) : Prop where
  s : EnS b A cp B l w W
  tt : W.heap[TB]? = some (.cells #[.int .i64 x0, .int .i64 x1, .int .i64 x2, .int .i64 x3] 46)
variable {TB : Nat} {x0 x1 x2 x3 : Int}
theorem EnT.below (h : EnT b A cp B TB x0 x1 x2 x3 l w W) (hb : Below W.heap.size W W') : EnT b A cp B TB x0 x1 x2 x3 l w W' := ⟨h.s.below hb, blk_later h.tt hb⟩
theorem EnT.row (h : EnT b A cp B TB x0 x1 x2 x3 l w W) : W.cell? ⟨TB, 0, none⟩ = some (.int .i64 x0) ∧ W.cell? ⟨TB, 1, none⟩ = some (.int .i64 x1) ∧ W.cell? ⟨TB, 2, none⟩ = some (.int .i64 x2) ∧ W.cell? ⟨TB, 3, none⟩ = some (.int .i64 x3) :=
  ⟨cell_c h.tt 0, cell_c h.tt 1, cell_c h.tt 2, cell_c h.tt 3⟩
theorem EnT.wr (h : EnT b A cp B TB x0 x1 x2 x3 l w X) (hs : EnS b A cp B m w W') (ho : Lib.OthersKept 5 (some B) X W') (hne : TB ≠ B) : EnT b A cp B TB x0 x1 x2 x3 m w W' :=
  ⟨hs, ho TB _ h.tt (fun e => hne (by injection e)) (fun c fz e => by injection e with _ e; exact absurd e (by decide))⟩
end
def BenPost (b : Bat) (w : World) (e : Ending) (w' : World) : Prop := e = .returned (.tuple #[.string (encB b), .int .i64 (chkB b)]) ∧ Below w.heap.size w w'
set_option maxRecDepth 1000000 in
set_option maxHeartbeats 25600000 in
theorem benc_any (A : Option Addr) (cp : Nat) (b : Bat) (w : World) (hw : BW w) (hr : IsRow w A (b.rs.flatMap recF)) (hok : BatOk b) (hsz : ∀ x ∈ b.rs, szR x ≤ 500000) (hi : b.id.size ≤ 1000000) (hs : b.sd.size ≤ 1000000) (hc : b.rs.length ≤ cp) (hm : b.rs.length ≤ 100000) : Calls Tryz.prog 43 #[batV b A cp] w (BenPost b w) := by
  have HR := Lib.hid hr
  have HKW := Lib.hid hw
  have HCK := Lib.hid (fun W h => bcheck_any A cp b W h hok hc hm)
  unfold BenPost
  unfold PtPost batV at HCK
  unfold batV
  by_cases hE : chkB b = 0
  · have HE := Lib.hid hE
    obtain ⟨z1, z2, z3⟩ := chkB_zero hE
    obtain ⟨i1, i2, i3, i4⟩ := headE_zero z1
    rw [hE] at HCK ⊢
    have hrc : ∀ j, j < b.rs.length → chkE (rcAt b.rs j) = 0 ∧ (rcAt b.rs j).Fit ∧ szR (rcAt b.rs j) ≤ 1000000 ∧ (encS (rcAt b.rs j)).size ≤ 1000000 := fun j hj => by
      have h1 := (ptL_zero (z3 j hj)).1
      have h2 := hsz (rcAt b.rs j) (by rw [rcAt_get _ _ hj]; exact List.getElem_mem hj)
      have h3 := encS_size' h1
      exact ⟨h1, rcAt_fit hok.r j hj, by omega, by omega⟩
    have HRC := Lib.hid hrc
    have hln := bodyK_len hi hs (by omega) (fun j hj => (hrc j hj).2.2.2)
    have HLN : Hid (∀ k, k ≤ b.rs.length → (bodyK b k).length ≤ 1000000000) := Lib.hid (fun k hk => by have := hln k hk; omega)
    have HDT : Hid (0 ≤ b.dt ∧ b.dt ≤ 99999) := Lib.hid ⟨i3, i4⟩
    have HID := Lib.hid (And.intro hi hs)
    have HEN : Hid (encB b = ⟨(textL b).toArray⟩) := Lib.hid (by unfold encB; rw [if_pos hE])
    have HSM := Lib.hid (fun W h => bsum_any A cp b.rs W h hok.r hc (Nat.le_trans hm (by omega)))
    unfold SumPost totV at HSM
    have HDC := Lib.hid (deb_lt (b := b) z2)
    have HTB := Lib.hid (C7.totB_lt (cardsOf b.rs))
    have z2' : b.rs.length ≤ 200 := z2
    clear hr hw hok hsz hi hs hrc hln z1 z2 z3 i1 i2 i3 i4 hE hm
    go_enter Tryz.func43, Tryz.ntmps43
    go_wp2_with fail
    refine (HCK.out _ (HR.out.below (bx _ _))).mono ?_
    rintro e w1 ⟨rfl, hb⟩
    obtain ⟨kT, hz, hb1⟩ := box1 hb
    have HE0 : Hid (EnS b A cp w1.heap.size [] w (w1.alloc (.cells #[.pointer none, .slice none 0 0] 138))) := Lib.hid
      ⟨blk_later kT (bx _ _), Lib.IsBuilderF.of (.inl ⟨Nat.le_refl _, _, heap_alloc_new _ _, World.ownsRow_nil _ _ _ _, by simp [Value.ownBlock]⟩), hb1.trans ((bx _ _).mono hb1.size), hz, by show _ < (w1.heap.push _).size; simp⟩
    clear kT hz hb hb1 HCK
    go_wp2_with fail
    obtain ⟨W, hW⟩ : ∃ W, w1.alloc (.cells #[.pointer none, .slice none 0 0] 138) = W := ⟨_, rfl⟩
    rw [hW] at HE0 ⊢
    clear hW
    generalize w1.heap.size = B at *
    have HBW : Hid (EnS b A cp B [] w W.drew) := Lib.hid (HE0.out.below ((Below.refl _ _).drew))
    go_region_held3 (fun X => X.cell? ⟨w.heap.size, 0, none⟩ = some (.string b.id) ∧ X.cell? ⟨w.heap.size, 1, none⟩ = some (.string b.sd) ∧ X.cell? ⟨w.heap.size, 2, none⟩ = some (.int .i64 b.dt))
      (first | exact HBW.out.row | exact (HBW.out.below (bx _ _)).row)
      (first
        | (go_at_call 78; refine (itoa_any b.dt _ (HKW.out.below HBW.out.be).1.1 (by have := HDT.out; omega) (by have := HDT.out; omega)).mono ?_; rintro e w' ⟨rfl, hb⟩; have HBW := Lib.hid (HBW.out.below hb); clear hb)
        | (go_at_call 94; refine (HBW.out.line4 (by simp) ⟨#[72]⟩ b.id b.sd (itoS b.dt) (by decide) HID.out.1 HID.out.2 (Nat.le_trans (itoS_size _ (by have := HDT.out; omega)) (by omega))).mono ?_; rintro e w' ⟨rfl, hb, ho⟩; have HBW := Lib.hid hb; clear hb ho))
    have HB0 : Hid (EnS b A cp B (bodyK b 0) w w') := Lib.hid (by
      have e : bodyK b 0 = [] ++ lineL [⟨#[72]⟩, b.id, b.sd, itoS b.dt] := by unfold bodyK hdrL; simp
      rw [e]; exact HBW.out)
    clear HBW HE0
    obtain ⟨t3, ht3⟩ : ∃ v, w'.cell? ⟨w.heap.size, 3, none⟩ = some v ∧ v = .slice A b.rs.length cp := ⟨_, cell_c HB0.out.t 3, rfl⟩
    obtain ⟨ht3, rfl⟩ := ht3
    go_wp2_with fail
    go_loopw [29] (fun i wr => ∃ k : Nat, k ≤ b.rs.length ∧ i = .int .i64 k ∧ Hid (EnS b A cp B (bodyK b k) w wr)) (fun i _ => b.rs.length - (intOf i).toNat)
    case atStart => exact ⟨0, Nat.zero_le _, rfl, HB0⟩
    case round =>
      clear HB0 ht3
      obtain ⟨k, hk, rfl, HW⟩ := hrel
      have HLK := Lib.hid (HLN.out k hk)
      by_cases hlt : k < b.rs.length
      · rcases row_rc HR.out k hlt with ⟨g, off, rfl, hcell⟩
        have HC := Lib.hid ((hcell k hlt).later HW.out.be)
        obtain ⟨q1, q2, q3, q4⟩ := HRC.out k hlt
        have HENC : Hid (∀ W, KW W → Calls Tryz.prog 33 #[(rcAt b.rs k).val] W fun e w' => e = .returned (.tuple #[.string (encS (rcAt b.rs k)), .int .i64 0]) ∧ Below W.heap.size W w') := Lib.hid (fun W hW => by
          have := enc_any (rcAt b.rs k) q2 q3 W hW
          unfold EncPost at this
          unfold encV at this
          rw [q1, if_pos rfl] at this
          exact this)
        have HQ4 := Lib.hid q4
        have HNX : Hid (bodyK b (k + 1) = bodyK b k ++ lineL [⟨#[82]⟩, encS (rcAt b.rs k)]) := Lib.hid (bodyK_succ b k hlt)
        clear q1 q2 q3 q4 hcell
        generalize encS (rcAt b.rs k) = ES at *
        generalize rcAt b.rs k = r at *
        obtain ⟨K, rid, au, aq, is, me, ca, a, cu, d, c, f⟩ := r
        have c0 := HC.out.c0
        have c1 := HC.out.c1
        have c2 := HC.out.c2
        have c3 := HC.out.c3
        have c4 := HC.out.c4
        have c5 := HC.out.c5
        have c6 := HC.out.c6
        have c7 := HC.out.c7
        have c8 := HC.out.c8
        have c9 := HC.out.c9
        have c10 := HC.out.c10
        have c11 := HC.out.c11
        unfold Rec.val Rec.cells at HENC
        dsimp only at c0 c1 c2 c3 c4 c5 c6 c7 c8 c9 c10 c11 HENC
        have kI : (k : Int) < (b.rs.length : Int) := by omega
        have k0 : (0 : Int) ≤ (k : Int) := by omega
        have hBl := HW.out.le
        go_wp2_with fail
        refine (HENC.out _ (HKW.out.below (HW.out.be.trans ((bx wr _).mono HW.out.be.size))).1).mono ?_
        rintro e w1 ⟨rfl, hb⟩
        have HW1 := Lib.hid ((HW.out.below (bx wr _)).below hb)
        clear hb c0 c1 c2 c3 c4 c5 c6 c7 c8 c9 c10 c11
        go_wp2_with fail
        refine (HW1.out.line2 (by have := HLK.out; omega) ⟨#[82]⟩ ES (by decide) HQ4.out).mono ?_
        rintro e w2 ⟨rfl, hb, ho⟩
        have HW2 := Lib.hid hb
        rw [← HNX.out] at HW2
        clear hb ho
        go_wp2_with fail
        go_roundw
        case rel => exact ⟨k + 1, by omega, by go_num, HW2⟩
        case measure => simp [intOf]; omega
      · obtain rfl : k = b.rs.length := by omega
        have ht3 := cell_c HW.out.t 3
        simp at ht3
        go_wp2_with fail
        refine (HSM.out wr (HR.out.below HW.out.be)).mono ?_
        rintro e w1 ⟨rfl, hb⟩
        have HW1 := Lib.hid (HW.out.below hb)
        have HT0 : Hid (EnT b A cp B w1.heap.size b.rs.length (debS b.rs b.rs.length) (creS b.rs b.rs.length) (C7.totB (cardsOf b.rs)) (bodyK b b.rs.length) w (w1.alloc (.cells #[.int .i64 b.rs.length, .int .i64 (debS b.rs b.rs.length), .int .i64 (creS b.rs b.rs.length), .int .i64 (C7.totB (cardsOf b.rs))] 46))) := Lib.hid ⟨HW1.out.below (bx _ _), heap_alloc_new _ _⟩
        have HNE := Lib.hid (show w1.heap.size ≠ B by have := HW1.out.le; omega)
        clear hb ht3
        have HBD : Hid (bodyL b = bodyK b b.rs.length ++ lineL [⟨#[84]⟩, itoS b.rs.length, itoS (debS b.rs b.rs.length), itoS (creS b.rs b.rs.length), itoS (C7.totB (cardsOf b.rs))]) := Lib.hid rfl
        have HTX : Hid (textL b = bodyL b ++ lineL [⟨#[67]⟩, crcS (bodyL b)]) := Lib.hid rfl
        have HZ0 := Lib.hid (show (-9223372036854775808 : Int) ≤ b.rs.length ∧ (b.rs.length : Int) ≤ 9223372036854775807 by omega)
        generalize hdb : debS b.rs b.rs.length = DB at *
        generalize hcb : creS b.rs b.rs.length = CR at *
        generalize htb : C7.totB (cardsOf b.rs) = TT at *
        generalize hcr : crcS (bodyL b) = CRC at *
        have HCRC := Lib.hid hcr
        clear hdb hcb htb hcr
        have HZ1 := Lib.hid (show (-9223372036854775808 : Int) ≤ DB ∧ DB ≤ 9223372036854775807 by have := HDC.out; omega)
        have HZ2 := Lib.hid (show (-9223372036854775808 : Int) ≤ CR ∧ CR ≤ 9223372036854775807 by have := HDC.out; omega)
        have HZ3 := Lib.hid (show (-9223372036854775808 : Int) ≤ TT ∧ (TT : Int) ≤ 9223372036854775807 by have := HTB.out; omega)
        have HLB : Hid ((bodyL b).length ≤ 2000000000) := Lib.hid (by
          rw [HBD.out, List.length_append]
          have h1 := lineL_len [⟨#[84]⟩, itoS b.rs.length, itoS DB, itoS CR, itoS TT] 1000000 (hsz5 (by decide) (Nat.le_trans (itoS_size _ HZ0.out) (by omega)) (Nat.le_trans (itoS_size _ HZ1.out) (by omega)) (Nat.le_trans (itoS_size _ HZ2.out) (by omega)) (Nat.le_trans (itoS_size _ HZ3.out) (by omega)))
          have h2 := HLK.out
          have e : ([⟨#[84]⟩, itoS b.rs.length, itoS DB, itoS CR, itoS TT] : List ByteArray).length = 5 := rfl
          rw [e] at h1
          omega)
        have HC8 : Hid (CRC.size ≤ 1000000) := Lib.hid (by
          rw [← HCRC.out]
          show (text8 _).toArray.size ≤ 1000000
          rw [List.size_toArray, text8_len]; omega)
        go_wp2_with fail
        obtain ⟨W, hW⟩ : ∃ W, w1.alloc (.cells #[.int .i64 b.rs.length, .int .i64 DB, .int .i64 CR, .int .i64 TT] 46) = W := ⟨_, rfl⟩
        rw [hW] at HT0 ⊢
        clear hW HW1
        generalize w1.heap.size = TB at *
        have HBW : Hid (EnT b A cp B TB b.rs.length DB CR TT (bodyK b b.rs.length) w W.drew) := Lib.hid (HT0.out.below ((Below.refl _ _).drew))
        go_region_held3 (fun X => X.cell? ⟨TB, 0, none⟩ = some (.int .i64 b.rs.length) ∧ X.cell? ⟨TB, 1, none⟩ = some (.int .i64 DB) ∧ X.cell? ⟨TB, 2, none⟩ = some (.int .i64 CR) ∧ X.cell? ⟨TB, 3, none⟩ = some (.int .i64 TT))
          (first | exact HBW.out.row | exact (HBW.out.below (bx _ _)).row)
          (first
            | (go_at_call 78; refine (itoa_any b.rs.length _ (HKW.out.below HBW.out.s.be).1.1 HZ0.out.1 HZ0.out.2).mono ?_; rintro e w' ⟨rfl, hb⟩; have HBW := Lib.hid (HBW.out.below hb); clear hb)
            | (go_at_call 95; refine (bdec_any DB _ (HKW.out.below HBW.out.s.be).1.1 HZ1.out.1 HZ1.out.2).mono ?_; rintro e w' ⟨rfl, hb⟩; have HBW := Lib.hid (HBW.out.below hb); clear hb)
            | (go_at_call 95; refine (bdec_any CR _ (HKW.out.below HBW.out.s.be).1.1 HZ2.out.1 HZ2.out.2).mono ?_; rintro e w' ⟨rfl, hb⟩; have HBW := Lib.hid (HBW.out.below hb); clear hb)
            | (go_at_call 95; refine (bdec_any TT _ (HKW.out.below HBW.out.s.be).1.1 HZ3.out.1 HZ3.out.2).mono ?_; rintro e w' ⟨rfl, hb⟩; have HBW := Lib.hid (HBW.out.below hb); clear hb)
            | (go_at_call 94; refine (HBW.out.s.line5 (by have := HLK.out; omega) ⟨#[84]⟩ (itoS b.rs.length) (itoS DB) (itoS CR) (itoS TT) (by decide) (Nat.le_trans (itoS_size _ HZ0.out) (by omega)) (Nat.le_trans (itoS_size _ HZ1.out) (by omega)) (Nat.le_trans (itoS_size _ HZ2.out) (by omega)) (Nat.le_trans (itoS_size _ HZ3.out) (by omega))).mono ?_; rintro e w' ⟨rfl, hb, ho⟩; have HBW := Lib.hid (HBW.out.wr hb ho HNE.out); clear hb ho))
        have HB2 := Lib.hid HBW.out.s
        rw [← HBD.out] at HB2
        clear HBW HT0
        go_wp2_with fail
        refine (Tryz.Builder_String_any_k B B (bodyL b) _ HB2.out.bl (Nat.le_of_lt HB2.out.le)).mono ?_
        rintro e w3 ⟨rfl, hb⟩
        have HB3 := Lib.hid (HB2.out.wr hb)
        clear hb
        have HCC := Lib.hid (crcd_any ⟨(bodyL b).toArray⟩ w3 (HKW.out.below HB3.out.be).2 (by have := HLB.out; show (bodyL b).toArray.size ≤ maxLen; rw [List.size_toArray]; unfold maxLen; omega))
        unfold StrPost at HCC
        rw [show (⟨(bodyL b).toArray⟩ : ByteArray).data.toList = bodyL b from rfl, HCRC.out] at HCC
        go_wp2_with fail
        refine HCC.out.mono ?_
        rintro e w4 ⟨rfl, hb⟩
        have HB4 := Lib.hid (HB3.out.below hb)
        clear hb
        go_wp2_with fail
        refine (HB4.out.line2 (by have := HLB.out; omega) ⟨#[67]⟩ CRC (by decide) HC8.out).mono ?_
        rintro e w5 ⟨rfl, hb, ho⟩
        have HB5 := Lib.hid hb
        rw [← HTX.out] at HB5
        clear hb ho
        go_wp2_with fail
        refine (Tryz.Builder_String_any_k B B (textL b) _ HB5.out.bl (Nat.le_of_lt HB5.out.le)).mono ?_
        rintro e w6 ⟨rfl, hb⟩
        have HB6 := Lib.hid (HB5.out.wr hb)
        clear hb
        go_wp2_with fail
        go_ret2
        exact ⟨by rw [HEN.out]; rfl, HB6.out.be⟩
  · have HE := Lib.hid (show encB b = ⟨#[]⟩ by unfold encB; rw [if_neg hE])
    rw [HE.out]
    generalize chkB b = E at *
    have heb : (E != 0) = true := by simpa using hE
    clear hE hok hsz hi hs hw hr
    go_enter Tryz.func43, Tryz.ntmps43
    go_wp2_with fail
    refine (HCK.out _ (HR.out.below (bx _ _))).mono ?_
    rintro e w1 ⟨rfl, hb⟩
    have HB := Lib.hid (box1 hb).2.2
    clear hb
    go_wp2_with fail
    go_ret2
    exact ⟨rfl, HB.out⟩
end Go.Proofs.YthflmdgfenojcaaGreatDoor
