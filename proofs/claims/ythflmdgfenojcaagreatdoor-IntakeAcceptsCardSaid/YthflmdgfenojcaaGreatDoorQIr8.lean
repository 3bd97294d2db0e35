/- Part of the proof over this seat. -/
import Derived.Test.YthflmdgfenojcaaGreatDoorQIr7
import Derived.Test.YthflmdgfenojcaaGreatDoorQOSs
namespace Go.Proofs.YthflmdgfenojcaaGreatDoor
set_option linter.unusedVariables false
open Go.RowKit Go.Sort Go.Maps
set_option maxRecDepth 1000000 in
theorem acc_nil (d : Int) (s : ByteArray) (w : World) : Calls Tryz.prog 17 #[.pointer none, .int .i64 d, .string s] w fun e w' => e = .returned (.tuple #[.slice none 0 0, .slice none 0 0, .int .i64 6]) ∧ w = w' := by
  go_enter Tryz.func17, Tryz.ntmps17
  go_wp2_with fail
  go_ret3
  exact ⟨rfl, rfl⟩
set_option maxRecDepth 1000000 in
theorem files_nil (w : World) : Calls Tryz.prog 22 #[.pointer none] w fun e w' => e = .returned (.slice none 0 0) ∧ w = w' := by
  go_enter Tryz.func22, Tryz.ntmps22
  go_wp2_with fail
  go_ret
  exact ⟨rfl, rfl⟩
set_option maxRecDepth 1000000 in
theorem open_nil (d : ByteArray) (w : World) : Calls Tryz.prog 24 #[.pointer none, .string d] w fun e w' => e = .returned (.slice none 0 0) ∧ w = w' := by
  go_enter Tryz.func24, Tryz.ntmps24
  go_wp2_with fail
  go_ret
  exact ⟨rfl, rfl⟩
set_option maxRecDepth 1000000 in
theorem seen_nil (d s : ByteArray) (w : World) : Calls Tryz.prog 28 #[.pointer none, .string d, .string s] w fun e w' => e = .returned (.bool false) ∧ w = w' := by
  go_enter Tryz.func28, Tryz.ntmps28
  go_wp2_with fail
  go_ret
  exact ⟨rfl, rfl⟩
set_option maxRecDepth 1000000 in
theorem tot_nil (d : ByteArray) (w : World) : Calls Tryz.prog 26 #[.pointer none, .string d] w fun e w' => e = .returned (totV 0 0 0 0) ∧ Below w.heap.size w w' := by
  have HK := Lib.hid (heap_alloc_new w (.cells #[.int .i64 0, .int .i64 0, .int .i64 0, .int .i64 0] 46))
  unfold totV
  go_enter Tryz.func26, Tryz.ntmps26
  go_wp2_with fail
  refine bodyPost_ret (results_cell_row (show Tryz.f26.results = #[.cell 4 46] by kernel_rfl) _ _ w.heap.size 46 #[.int .i64 0, .int .i64 0, .int .i64 0, .int .i64 0] (0, 0) _ rfl HK.out Tryz.underlying46 rfl (by kernel_rfl)) rfl ?_
  exact ⟨rfl, bx _ _⟩
set_option maxRecDepth 1000000 in
theorem neq46 (n x y z : Int) (W : World) : (binOp .neq 46 (.agg #[.int .i64 n, .int .i64 x, .int .i64 y, .int .i64 z]) (.agg #[.int .i64 n, .int .i64 x, .int .i64 y, .int .i64 z])).run Tryz.prog W = .ok (.bool false) W := by
  rw [run_neq_struct]
  rw [run_equalIn_struct _ _ _ _ _ Tryz.underlying46 Tryz.stoodInHeld46]
  go_simp
set_option maxRecDepth 1000000 in
theorem eql46 (W : World) : (binOp .eql 46 (.agg #[.int .i64 0, .int .i64 0, .int .i64 0, .int .i64 0]) (.agg #[.int .i64 0, .int .i64 0, .int .i64 0, .int .i64 0])).run Tryz.prog W = .ok (.bool true) W := by
  rw [run_eql_struct]
  rw [run_equalIn_struct _ _ _ _ _ Tryz.underlying46 Tryz.stoodInHeld46]
  go_simp
theorem acc_fit {st : InS} {d : Int} {s : ByteArray} (hf : fileE s = 0) (hs : s.size ≤ 1000000) (h0 : accE st d s = 0) : ∀ r ∈ accG st d s, r.Fit := by
  intro r hr
  have eG : accG st d s = (accT st s).acc := by unfold accG; rw [if_pos h0]
  rw [eG] at hr
  have h1 := trS_in (fileV s).sd (fileV s).rs (fileB s) ⟨st.good, st.bad, [], []⟩ (file_laced s) (fun r h => by cases h) _ (Nat.le_refl _) r hr
  have h2 := (file_ok hf).r r h1
  exact szR_fit' (show szR r ≤ 100000000 by omega)
/-- What is kept from file to file. -/
theorem acc_next {sds : List ByteArray} {st : InS} {i : Nat} (h : OnC sds st i) (hf : ∀ x ∈ st.good, x.2.Fit) (d : Int) (s : ByteArray) (hs : s.size ≤ 1000000) :
    OnC sds (accS st d s) (i + 1) ∧ (∀ x ∈ (accS st d s).good, x.2.Fit) ∧ (accS st d s).sds = st.sds ∧ (accG st d s).length ≤ 200 ∧ (accB st d s).length ≤ 200 := by
  by_cases h0 : accE st d s = 0
  · have hL := acc_law h.ok h0
    have hE := (accE_zero h0).2.1
    have hn := (file_ok hE).n
    have hl := hL.n
    refine ⟨h.next hL hn ?_ (acc_szb hE hs h0 h.sb), fun x hx => ?_, hL.sds, by omega, by omega⟩
    · have eS : accS st d s = ⟨st.sds, st.fs ++ [((fileV s).sd, (fileV s).id)], (accT st s).good, (accT st s).bad⟩ := by unfold accS; rw [if_pos h0]
      rw [eS]
      have := (trS_bd (fileV s).sd (fileV s).rs (fileB s) ⟨st.good, st.bad, [], []⟩ ((fileV s).rs.length + (fileB s).length)).2.1
      have h3 := h.ob
      show (trK (fileV s).sd (fileV s).rs (fileB s) ⟨st.good, st.bad, [], []⟩ ((fileV s).rs.length + (fileB s).length)).t.bad.length ≤ _
      have h4 : (⟨st.good, st.bad, [], []⟩ : TreS).bad.length = st.bad.length := rfl
      omega
    · rw [hL.gd] at hx
      rcases List.mem_append.1 hx with hx | hx
      · exact hf x hx
      · obtain ⟨r, hr, rfl⟩ := List.mem_map.1 hx
        exact acc_fit hE hs h0 r hr
  · obtain ⟨z1, z2, z3⟩ := accS_no (st := st) (date := d) (s := s) h0
    rw [z1, z2, z3]
    exact ⟨h.same, hf, rfl, Nat.zero_le _, Nat.zero_le _⟩
structure AcW (w : World) (sds : List ByteArray) (A : Option Addr) (cp : Nat) (s1 s2 : InS) (N bx rx : Nat) (F G : Nat → Prop) (b : InB) (rb : RiB) (W : World) : Prop where
  i : InW w s1 s1.good N F b W
  r : InR w A cp s2 G rb W
  hx : b.x = bx
  hr : rb.x = rx
  h1 : s1.sds = sds
  h2 : s2.sds = sds
  dj : ∀ k, F k → ¬ G k
section
variable {w : World} {sds : List ByteArray} {A : Option Addr} {cp : Nat} {s1 s2 s3 : InS} {N M bx rx : Nat} {F G F' G' : Nat → Prop} {b b' : InB} {rb rb' : RiB} {W W' : World}
theorem AcW.below (h : AcW w sds A cp s1 s2 N bx rx F G b rb W) (hb : Below W.heap.size W W') : AcW w sds A cp s1 s2 N bx rx F G b rb W' := ⟨h.i.below hb, h.r.below hb, h.hx, h.hr, h.h1, h.h2, h.dj⟩
theorem AcW.mono (h : AcW w sds A cp s1 s2 N bx rx F G b rb W) (hM : N ≤ M) : AcW w sds A cp s1 s2 M bx rx F G b rb W := { h with i := h.i.mono hM }
theorem AcW.accX (h : AcW w sds A cp s1 s2 N bx rx F G b rb W) (hi : InW w s3 s3.good M F' b' W') (hx : b'.x = bx) (hs : s3.sds = s1.sds) (hf : ∀ k, F' k → F k ∨ W.heap.size ≤ k) (hk : KeptE F W W') : AcW w sds A cp s3 s2 M bx rx F' G b' rb W' := by
  refine ⟨hi, h.r.keptE hk (fun k hg hF => h.dj k hF hg) (fun k hF => (h.i.fp k hF).1), hx, h.hr, hs.trans h.h1, h.h2, fun k hF hg => ?_⟩
  rcases hf k hF with q | q
  · exact h.dj k q hg
  · have := (h.r.fp k hg).2; omega
theorem AcW.accR (h : AcW w sds A cp s1 s2 N bx rx F G b rb W) (hi : InR w A cp s3 G' rb' W') (hx : rb'.x = rb.x) (hs : s3.sds = s2.sds) (hf : ∀ k, G' k → G k ∨ W.heap.size ≤ k) (hk : KeptE G W W') : AcW w sds A cp s1 s3 N bx rx F G' b rb' W' := by
  refine ⟨h.i.keptE hk (fun k hF hg => h.dj k hF hg) (fun k hg => (h.r.fp k hg).1), hi, h.hx, hx.trans h.hr, h.h1, hs.trans h.h2, fun k hF hg => ?_⟩
  rcases hf k hg with q | q
  · exact h.dj k hF q
  · have := (h.i.fp k hF).2; omega
end
/-- The reference's Accept as the walk meets it. -/
def RacOn (w : World) (A : Option Addr) (cp : Nat) (st : InS) (d : Int) (s : ByteArray) (rb : RiB) (G : Nat → Prop) (W : World) (e : Ending) (W' : World) : Prop :=
  ∃ A8 c8 A9 c9 G' b', e = .returned (.tuple #[.slice A8 (accG st d s).length c8, .slice A9 (accB st d s).length c9, .int .i64 (accE st d s)]) ∧ InR w A cp (accS st d s) G' b' W' ∧ b'.x = rb.x ∧ (∀ k, G' k → G k ∨ W.heap.size ≤ k) ∧ KeptE G W W' ∧
    IsRow W' A8 ((accG st d s).flatMap recF) ∧ IsRow W' A9 ((accB st d s).flatMap rejF)
theorem rac_on {w : World} {A : Option Addr} {cp : Nat} {st : InS} {rb : RiB} {G : Nat → Prop} {W : World} (h : InR w A cp st G rb W) (hsr : IsRow w A (st.sds.map Value.string)) (hsl : st.sds.length ≤ 1000) (hw0 : BW w) (hob : st.bad.length ≤ 500000) (d : Int) (s : ByteArray) (hs : s.size ≤ 1000000) (hfl : st.fs.length ≤ 64) (hgl : st.good.length ≤ 100000) :
    Calls Tryz.prog 18 #[.pointer (some ⟨rb.x, 0, none⟩), .int .i64 d, .string s] W (RacOn w A cp st d s rb G W) := by
  refine (raccept_any h hsr hsl (hw0.below h.be) hob d s hs hfl hgl).mono ?_
  rintro e W' ⟨v8, v9, G', b', rfl, q1, q2, q3, q4, q5, q6, q7, q8, q9⟩
  obtain ⟨A8, c8, rfl, r8, -⟩ := own_form q6
  obtain ⟨A9, c9, rfl, r9, -⟩ := own_form q7
  exact ⟨A8, c8, A9, c9, G', b', rfl, q1, q2, q3, q5, r8, r9⟩
/-- A row that the call has made is kept by what changes other blocks. -/
theorem row_kept {F : Nat → Prop} {W W' : World} {B e size n c : Nat} {A : Option Addr} {xs : List Value} (hk : KeptE F W W') (ho : W.ownsRow B e size (.slice A n c) n xs) (hn : ∀ g, (Value.slice A n c).ownBlock = some g → ¬ F g) : IsRow W' A xs := IsRow.of_own (c := c) (hk.own ho hn)
end Go.Proofs.YthflmdgfenojcaaGreatDoor
