/- Part of the proof over this seat. -/
import Derived.Deep.RegionLaw
import Derived.Test.YthflmdgfenojcaaGreatDoorQIa
namespace Go.Proofs.YthflmdgfenojcaaGreatDoor
set_option linter.unusedVariables false
open Go.RowKit Go.Sort Go.Maps
def LbC (C : Array Value) (l : List (ByteArray × Rej)) : Prop := ∀ k, k < l.length → ∀ i, i < 16 → C[k * 16 + i]? = (rlB (oAt l k))[i]?
theorem lb_flat (l : List (ByteArray × Rej)) (k : Nat) (hk : k < l.length) (i : Nat) (hi : i < 16) : (l.flatMap rlB)[k * 16 + i]? = (rlB (oAt l k))[i]? := by
  rw [flat_cells rlB 16 (fun _ => rfl) l k hk i hi, oAt_get l k hk]
theorem lb_len (l : List (ByteArray × Rej)) : (l.flatMap rlB).length = l.length * 16 := flat_len rlB 16 (fun _ => rfl) l
theorem lb_of_own {w : World} {B g n cap : Nat} {l : List (ByteArray × Rej)} (h : w.ownsRow B 112 16 (.slice (some ⟨g, 0, none⟩) n cap) l.length (l.flatMap rlB)) :
    n = l.length ∧ B ≤ g ∧ n ≤ cap ∧ cap ≤ maxLen ∧ ∃ C, w.heap[g]? = some (.cells C 112) ∧ C.size = cap * 16 ∧ LbC C l := by
  rcases h.2 with ⟨q, _⟩ | ⟨g', cap', cur, q1, q2, q3, q4, q5, q6, q7⟩
  · cases q
  · injection q1 with e1 e2 e3
    injection e1 with e1
    injection e1 with e1
    subst e1 e2 e3
    refine ⟨rfl, q2, q4, q5, cur, q3, q6, fun k hk i hi => ?_⟩
    rw [← lb_flat l k hk i hi, ← q7, List.getElem?_take, if_pos (by omega), Array.getElem?_toList]
theorem own_of_lb {w : World} {B g cap : Nat} {C : Array Value} {l : List (ByteArray × Rej)} (h : w.heap[g]? = some (.cells C 112)) (hz : C.size = cap * 16) (hl : l.length ≤ cap) (hm : cap ≤ maxLen) (hB : B ≤ g) (hc : LbC C l) :
    w.ownsRow B 112 16 (.slice (some ⟨g, 0, none⟩) l.length cap) l.length (l.flatMap rlB) := by
  refine ⟨lb_len l, .inr ⟨g, cap, C, rfl, hB, h, hl, hm, hz, ?_⟩⟩
  apply List.ext_getElem?
  intro i
  rcases Nat.lt_or_ge i (l.length * 16) with q | q
  · rw [List.getElem?_take, if_pos q]
    have hk : i / 16 < l.length := by omega
    have e : i = i / 16 * 16 + i % 16 := by omega
    have h1 := hc (i / 16) hk (i % 16) (by omega)
    have h2 := lb_flat l (i / 16) hk (i % 16) (by omega)
    rw [← e] at h1 h2
    rw [Array.getElem?_toList, h1, h2]
  · rw [List.getElem?_eq_none (by rw [List.length_take]; omega), List.getElem?_eq_none (by rw [lb_len]; omega)]
def put16 (C : Array Value) (k : Nat) (r : Rej) : Array Value := ((C.setIfInBounds (k * 16 + 13) (.int .i64 r.1)).setIfInBounds (k * 16 + 14) (.string r.2.1)).setIfInBounds (k * 16 + 15) (.int .i64 r.2.2)
theorem put16_size (C : Array Value) (k : Nat) (r : Rej) : (put16 C k r).size = C.size := by simp [put16]
theorem LbC.put {C : Array Value} {m : List (ByteArray × Rej)} (h : LbC C m) (k : Nat) (hk : k < m.length) (r : Rej) : LbC (put16 C k r) (m.set k ((oAt m k).1, r)) := fun j hj i hi => by
  rw [List.length_set] at hj
  have h1 := h j hj i hi
  have s2 : k * 16 + 15 < C.size := by
    have := h k hk 15 (by decide)
    rw [show (rlB (oAt m k))[15]? = some (.int .i64 (oAt m k).2.2.2) from rfl] at this
    exact (Array.getElem?_eq_some_iff.1 this).1
  unfold put16
  by_cases q : j = k
  · subst q
    have e : oAt (m.set j ((oAt m j).1, r)) j = ((oAt m j).1, r) := by rw [oAt_get _ _ (by simpa using hj)]; simp
    rw [e]
    have hc : i < 13 ∨ i = 13 ∨ i = 14 ∨ i = 15 := by omega
    rcases hc with c | rfl | rfl | rfl
    · rw [Array.getElem?_setIfInBounds_ne (by omega), Array.getElem?_setIfInBounds_ne (by omega), Array.getElem?_setIfInBounds_ne (by omega), h1]
      obtain ⟨p, x⟩ := oAt m j
      have hc : i = 0 ∨ i = 1 ∨ i = 2 ∨ i = 3 ∨ i = 4 ∨ i = 5 ∨ i = 6 ∨ i = 7 ∨ i = 8 ∨ i = 9 ∨ i = 10 ∨ i = 11 ∨ i = 12 := by omega
      rcases hc with rfl | rfl | rfl | rfl | rfl | rfl | rfl | rfl | rfl | rfl | rfl | rfl | rfl <;> rfl
    · rw [Array.getElem?_setIfInBounds_ne (by omega), Array.getElem?_setIfInBounds_ne (by omega), Array.getElem?_setIfInBounds_self_of_lt (by omega)]; rfl
    · rw [Array.getElem?_setIfInBounds_ne (by omega), Array.getElem?_setIfInBounds_self_of_lt (by simp; omega)]; rfl
    · rw [Array.getElem?_setIfInBounds_self_of_lt (by simp; omega)]; rfl
  · have e : oAt (m.set k ((oAt m k).1, r)) j = oAt m j := by
      rw [oAt_get _ _ (by simpa using hj), oAt_get _ _ hj, List.getElem_set_ne (fun e => q e.symm)]
    rw [e, ← h1, Array.getElem?_setIfInBounds_ne (by omega), Array.getElem?_setIfInBounds_ne (by omega), Array.getElem?_setIfInBounds_ne (by omega)]
theorem heap_put16 {w : World} {b : Nat} {C : Array Value} {T : TypeId} (h : w.heap[b]? = some (.cells C T)) (k : Nat) (r : Rej) :
    (((w.setCell ⟨b, k * 16 + 13, none⟩ (.int .i64 r.1)).setCell ⟨b, k * 16 + 14, none⟩ (.string r.2.1)).setCell ⟨b, k * 16 + 15, none⟩ (.int .i64 r.2.2)).heap[b]? = some (.cells (put16 C k r) T) :=
  heap_set1 (heap_set1 (heap_set1 h _ _) _ _) _ _
def isB (sd id : ByteArray) (x : ByteArray × Rej) : Prop := x.1 = sd ∧ x.2.2.1 = id
theorem oAt_cons (x : ByteArray × Rej) (l : List (ByteArray × Rej)) (j : Nat) : oAt (x :: l) (j + 1) = oAt l j := by unfold oAt; simp
theorem putB_none (sd : ByteArray) (r : Rej) : ∀ l : List (ByteArray × Rej), (∀ j, j < l.length → ¬ isB sd r.2.1 (oAt l j)) → putB sd r l = l ++ [(sd, r)]
  | [], _ => rfl
  | x :: l, h => by
    have h0 : ¬ (x.1 = sd ∧ x.2.2.1 = r.2.1) := h 0 (by simp)
    have ih := putB_none sd r l (fun j hj => by rw [← oAt_cons x l j]; exact h (j + 1) (by simpa using hj))
    unfold putB
    rw [if_neg h0, ih]; rfl
theorem putB_at (sd : ByteArray) (r : Rej) : ∀ (l : List (ByteArray × Rej)) (k : Nat), k < l.length → (∀ j, j < k → ¬ isB sd r.2.1 (oAt l j)) → isB sd r.2.1 (oAt l k) → putB sd r l = l.set k (sd, r)
  | x :: l, 0, _, _, h1 => by
    have h1 : x.1 = sd ∧ x.2.2.1 = r.2.1 := h1
    unfold putB
    rw [if_pos h1]; rfl
  | x :: l, k + 1, hk, h0, h1 => by
    have h2 : ¬ (x.1 = sd ∧ x.2.2.1 = r.2.1) := h0 0 (by omega)
    have ih := putB_at sd r l k (by simpa using hk) (fun j hj => by rw [← oAt_cons x l j]; exact h0 (j + 1) (by omega)) (by rw [← oAt_cons x l k]; exact h1)
    unfold putB
    rw [if_neg h2, ih]; rfl
/-- What reject and accept leave. -/
def RmPost (w0 : World) (A : Option Addr) (cp : Nat) (st' : InS) (G : Nat → Prop) (b : RiB) (W : World) (e : Ending) (W' : World) : Prop :=
  e = .returned (.tuple #[]) ∧ ∃ G' b', InR w0 A cp st' G' b' W' ∧ b'.x = b.x ∧ (∀ k, G' k → G k ∨ W.heap.size ≤ k) ∧ (∀ k, G k → G' k) ∧ KeptE G W W'
section
variable {w0 : World} {A : Option Addr} {cp : Nat} {st : InS} {G : Nat → Prop} {b : RiB} {W W' : World}
theorem rm_fin {st' : InS} {G' : Nat → Prop} {b' : RiB} {W1 W' : World} (h0 : Below W.heap.size W W1) (hi : InR w0 A cp st' G' b' W') (hx : b'.x = b.x) (hf : ∀ k, G' k → G k ∨ W.heap.size ≤ k) (hm : ∀ k, G k → G' k) (hk : KeptE G W1 W') :
    RmPost w0 A cp st' G b W (.returned (.tuple #[])) W' :=
  ⟨rfl, G', b', hi, hx, hf, hm, (KeptE.of_below (F := G) h0).trans hk (fun _ q => .inl q)⟩
theorem rm_same (h : InR w0 A cp st G b W) (hb : Below W.heap.size W W') : RmPost w0 A cp st G b W (.returned (.tuple #[])) W' :=
  rm_fin hb (h.below hb) rfl (fun k q => .inl q) (fun k q => q) (KeptE.refl _ _)
/-- One line is laid anew. -/
theorem put_fin {W1 : World} (h0 : Below W.heap.size W W1) (h : InR w0 A cp st G b W1) (hGW : ∀ k, G k → k < W.heap.size) (sd : ByteArray) (r : Rej) {bad' : List (ByteArray × Rej)} {g cap k : Nat} {C : Array Value} (hov : b.bv = .slice (some ⟨g, 0, none⟩) st.bad.length cap)
    (r5 : W1.heap[g]? = some (.cells C 112)) (r6 : C.size = cap * 16) (r7 : LbC C st.bad) (hk : k < st.bad.length) (hc : st.bad.length ≤ cap) (hm : cap ≤ maxLen) (hB : w0.heap.size ≤ g)
    (hsd : (oAt st.bad k).1 = sd) (hop : bad' = st.bad.set k (sd, r)) :
    RmPost w0 A cp ⟨st.sds, st.fs, st.good, bad'⟩ G b W (.returned (.tuple #[])) ((((W1.setCell ⟨g, k * 16 + 13, none⟩ (.int .i64 r.1)).setCell ⟨g, k * 16 + 13 + 1, none⟩ (.string r.2.1)).setCell ⟨g, k * 16 + 13 + 2, none⟩ (.int .i64 r.2.2)).drew) := by
  show RmPost w0 A cp ⟨st.sds, st.fs, st.good, bad'⟩ G b W (.returned (.tuple #[])) ((((W1.setCell ⟨g, k * 16 + 13, none⟩ (.int .i64 r.1)).setCell ⟨g, k * 16 + 14, none⟩ (.string r.2.1)).setCell ⟨g, k * 16 + 15, none⟩ (.int .i64 r.2.2)).drew)
  have hfg : G g := h.fb g (by rw [hov]; rfl)
  have hk0 : KeptE (fun j => j = g) W1 (((W1.setCell ⟨g, k * 16 + 13, none⟩ (.int .i64 r.1)).setCell ⟨g, k * 16 + 14, none⟩ (.string r.2.1)).setCell ⟨g, k * 16 + 15, none⟩ (.int .i64 r.2.2)) :=
    KeptE.set1 (F := fun j => j = g) (KeptE.set1 (F := fun j => j = g) (KeptE.set1 (F := fun j => j = g) (KeptE.refl (fun j => j = g) W1) (p := ⟨g, k * 16 + 13, none⟩) rfl _) (p := ⟨g, k * 16 + 14, none⟩) rfl _) (p := ⟨g, k * 16 + 15, none⟩) rfl _
  have hl : bad'.length = st.bad.length := by rw [hop, List.length_set]
  have hu : (((W1.setCell ⟨g, k * 16 + 13, none⟩ (.int .i64 r.1)).setCell ⟨g, k * 16 + 14, none⟩ (.string r.2.1)).setCell ⟨g, k * 16 + 15, none⟩ (.int .i64 r.2.2)).ownsRow w0.heap.size 112 16 b.bv bad'.length (bad'.flatMap rlB) := by
    rw [hov, ← hl]
    exact own_of_lb (heap_put16 r5 k r) (by rw [put16_size]; exact r6) (by rw [hl]; exact hc) hm hB (by rw [hop, ← hsd]; exact r7.put k hk r)
  have hx := (h.replB bad' hu (by rw [hov]; exact hk0.grown)).1.below ((Below.refl _ _).drew)
  exact rm_fin h0 hx rfl (fun k q => .inl q) (fun k q => q) ((hk0.mono (fun j hj => by rw [hj]; exact hfg)).trans (KeptE.of_below (F := G) ((Below.refl _ _).drew)) (fun _ q => .inl q))
theorem mk112 : (Tryz.prog.info? 112).map (fun i => (i.zero, i.size, i.bytes)) = some (some (.agg #[.string ⟨#[]⟩, .int .i64 0, .string ⟨#[]⟩, .string ⟨#[]⟩, .string ⟨#[]⟩, .string ⟨#[]⟩, .string ⟨#[]⟩, .string ⟨#[]⟩, .int .i64 0, .string ⟨#[]⟩, .int .i64 0, .int .i64 0, .bool false, .int .i64 0, .string ⟨#[]⟩, .int .i64 0]), 16, 200) := by kernel_rfl
/-- The state of reject's loop. -/
structure RjS (w0 : World) (A : Option Addr) (cp : Nat) (st : InS) (G : Nat → Prop) (b : RiB) (W : World) (r : Rej) (X : World) : Prop where
  i : InR w0 A cp st G b X
  k : X.heap[W.heap.size]? = some (.cells #[.int .i64 r.1, .string r.2.1, .int .i64 r.2.2] 65)
  be : Below W.heap.size W X
theorem RjS.below {r : Rej} {X X' : World} (h : RjS w0 A cp st G b W r X) (hb : Below X.heap.size X X') : RjS w0 A cp st G b W r X' := ⟨h.i.below hb, blk_later h.k hb, h.be.trans (hb.mono h.be.size)⟩
set_option maxRecDepth 1000000 in
set_option maxHeartbeats 12800000 in
theorem reject_any' (h : InR w0 A cp st G b W) (hn : st.bad.length ≤ 1000000) (hg : st.good.length ≤ 1000000) (sd : ByteArray) (r : Rej) :
    Calls Tryz.prog 62 #[.pointer (some ⟨b.x, 0, none⟩), .string sd, .agg #[.int .i64 r.1, .string r.2.1, .int .i64 r.2.2]] W (RmPost w0 A cp ⟨st.sds, st.fs, st.good, keepB st.good sd r st.bad⟩ G b W) := by
  have HSK : Hid (r.2.1 = noS ∨ seenB st.good sd r.2.1 = true → keepB st.good sd r st.bad = st.bad) := Lib.hid (fun q => by unfold keepB; rw [if_pos q])
  have HLY : Hid (¬ (r.2.1 = noS ∨ seenB st.good sd r.2.1 = true) → keepB st.good sd r st.bad = putB sd r st.bad) := Lib.hid (fun q => by unfold keepB; rw [if_neg q])
  have HSM : Hid (∀ W', keepB st.good sd r st.bad = st.bad → Below W.heap.size W W' → RmPost w0 A cp ⟨st.sds, st.fs, st.good, keepB st.good sd r st.bad⟩ G b W (.returned (.tuple #[])) W') := Lib.hid (fun W' q hb => by rw [q]; exact rm_same h hb)
  have HP1 := Lib.hid (putB_none sd r st.bad)
  have HP2 := Lib.hid (putB_at sd r st.bad)
  have HGW : Hid (∀ k, G k → k < W.heap.size) := Lib.hid (fun k q => (h.fp k q).2)
  generalize keepB st.good sd r st.bad = bad' at *
  obtain ⟨i, id, er⟩ := r
  dsimp only at HSK HLY HP1 HP2 ⊢
  have HB := Lib.hid (bx W (.cells #[.int .i64 i, .string id, .int .i64 er] 65))
  have HK := Lib.hid (heap_alloc_new W (.cells #[.int .i64 i, .string id, .int .i64 er] 65))
  have HS0 : Hid (RjS w0 A cp st G b W (i, id, er) (W.alloc (.cells #[.int .i64 i, .string id, .int .i64 er] 65))) := Lib.hid ⟨h.below HB.out, HK.out, HB.out⟩
  have HSN := Lib.hid (rseen_any HS0.out.i hg sd id)
  have k1 := cell_c HK.out 1
  have he := empty_list id
  simp at k1
  by_cases q : id = noS
  · have q2 : emptyB id = true := by rw [q]; rfl
    have HE := Lib.hid (HSK.out (.inl q))
    rw [q2] at he
    clear h q q2
    go_enter Tryz.func62, Tryz.ntmps62
    go_wp2_with fail
    exact bodyPost_ret (results_none (by kernel_rfl) _ _ _) rfl (HSM.out _ HE.out HB.out)
  have q2 : emptyB id = false := by
    unfold emptyB
    refine decide_eq_false (fun e => q ?_)
    have : id.data.toList = [] := List.eq_nil_of_length_eq_zero e
    exact ByteArray.ext (Array.ext' (by rw [this]; rfl))
  rw [q2] at he
  cases hs : seenB st.good sd id with
  | true =>
    have HE := Lib.hid (HSK.out (.inr hs))
    rw [hs] at HSN
    clear h q q2 hs
    go_enter Tryz.func62, Tryz.ntmps62
    go_wp2_with fail
    refine (HSN.out).mono ?_
    rintro e w1 ⟨rfl, rfl⟩
    go_wp2_with fail
    exact bodyPost_ret (results_none (by kernel_rfl) _ _ _) rfl (HSM.out _ HE.out HB.out)
  | false =>
  have HLE := Lib.hid (HLY.out (fun h => by rcases h with h | h; exact q h; rw [hs] at h; cases h))
  rw [hs] at HSN
  obtain ⟨Al, cl, hlv, -, -⟩ := own_form h.rb
  have HBV := Lib.hid hlv
  have HC : Hid (∀ X, RjS w0 A cp st G b W (i, id, er) X → X.cell? ⟨b.x, 3, none⟩ = some (.slice Al st.bad.length cl)) := Lib.hid (fun X hX => by
    have := hX.i.c3
    rw [hlv] at this
    exact this)
  clear h q q2 hs HSK HLY HSM hlv
  have hcx := HC.out _ HS0.out
  go_enter Tryz.func62, Tryz.ntmps62
  go_wp2_with fail
  refine (HSN.out).mono ?_
  rintro e w1 ⟨rfl, rfl⟩
  clear HSN
  go_wp2_with fail
  clear hcx k1
  go_loopw [6] (fun iv wr => ∃ k : Nat, k ≤ st.bad.length ∧ iv = .int .i64 k ∧ Hid (RjS w0 A cp st G b W (i, id, er) wr) ∧ Hid (∀ j, j < k → ¬ isB sd id (oAt st.bad j))) (fun iv _ => st.bad.length - (intOf iv).toNat)
  case atStart => exact ⟨0, Nat.zero_le _, rfl, HS0, Lib.hid (fun j hj => absurd hj (Nat.not_lt_zero _))⟩
  case round =>
    clear HS0 HB HK
    obtain ⟨k, hk, rfl, HW, HZ⟩ := hrel
    have c3 := HC.out wr HW.out
    have hbx := HW.out.i.xlt
    have k1 : wr.cell? ⟨W.heap.size, 1, none⟩ = some (.string id) := cell_c HW.out.k 1
    by_cases hlt : k < st.bad.length
    · have kI : (k : Int) < (st.bad.length : Int) := by omega
      have k0 : (0 : Int) ≤ (k : Int) := by omega
      have hob := HW.out.i.rb
      rw [HBV.out] at hob
      obtain ⟨bb, off, rfl, hcell⟩ := row_lb (IsRow.of_own (c := cl) hob) k hlt
      have hoff : off = 0 := by
        rcases hob.2 with ⟨q, _⟩ | ⟨g', cap', cur, q1, _⟩
        · cases q
        · injection q1 with e1; injection e1 with e1; injection e1
      subst hoff
      simp only [Nat.zero_add] at hcell
      have d0 := hcell k hlt 0 _ rfl
      have d14 := hcell k hlt 14 _ rfl
      rw [Nat.add_zero] at d0
      have HST := Lib.hid (fun (h : ¬ isB sd id (oAt st.bad k)) j (hj : j < k + 1) => show ¬ isB sd id (oAt st.bad j) from by
        rcases Nat.lt_or_ge j k with c | c
        · exact HZ.out j c
        · obtain rfl : j = k := by omega
          exact h)
      have HPL : Hid (isB sd id (oAt st.bad k) → bad' = st.bad.set k (sd, i, id, er)) := Lib.hid (fun h => HLE.out.trans (HP2.out k hlt HZ.out h))
      have HOB := Lib.hid hob
      clear hcell hob
      obtain ⟨x, hx⟩ : ∃ x, oAt st.bad k = x := ⟨_, rfl⟩
      have HX := Lib.hid hx
      rw [hx] at d0 d14 HST HPL
      clear hx
      obtain ⟨p, x1, x2, x3⟩ := x
      dsimp only at d0 d14
      by_cases hp : p = sd
      · by_cases hq : x2 = id
        · obtain ⟨t1, -⟩ := str_eq hp
          obtain ⟨t2, -⟩ := str_eq hq
          have HPR := Lib.hid (HPL.out ⟨hp, hq⟩)
          have HSD : Hid ((oAt st.bad k).1 = sd) := Lib.hid (by rw [HX.out]; exact hp)
          clear hp hq HST HPL
          go_wp2_with fail
          go_quiet (fail)
          rename Nat => nq
          have HW3 := Lib.hid (HW.out.below (below_drewN wr nq))
          have HOB3 := Lib.hid (own_later HOB.out (below_drewN wr nq))
          clear c3 k1 d0 d14 HW HOB
          generalize wr.drewN nq = w3 at *
          have c3 := HC.out w3 HW3.out
          have m0' : w3.cell? ⟨W.heap.size, 0, none⟩ = some (.int .i64 i) := cell_c HW3.out.k 0
          have m1' : w3.cell? ⟨W.heap.size, 1, none⟩ = some (.string id) := cell_c HW3.out.k 1
          have m2' : w3.cell? ⟨W.heap.size, 2, none⟩ = some (.int .i64 er) := cell_c HW3.out.k 2
          obtain ⟨_, r2, r3, r4, C, r5, r6, r7⟩ := lb_of_own HOB3.out
          have a0 := r7 k hlt 13 (by decide)
          have a1 := r7 k hlt 14 (by decide)
          have a2 := r7 k hlt 15 (by decide)
          rw [HX.out] at a0 a1 a2
          have m0 : w3.cell? ⟨bb, k * 16 + 13, none⟩ = some (.int .i64 x1) := (cell_c r5 (k * 16 + 13)).trans a0
          have m1 : w3.cell? ⟨bb, k * 16 + 13 + 1, none⟩ = some (.string x2) := (cell_c r5 (k * 16 + 14)).trans a1
          have m2 : w3.cell? ⟨bb, k * 16 + 13 + 2, none⟩ = some (.int .i64 x3) := (cell_c r5 (k * 16 + 15)).trans a2
          have f0 := cell_f r5 (k * 16 + 13)
          have f1 := cell_f r5 (k * 16 + 13 + 1)
          have f2 := cell_f r5 (k * 16 + 13 + 2)
          have R5 := Lib.hid r5
          have R6 := Lib.hid r6
          have R7 := Lib.hid r7
          have R4 := Lib.hid r4
          have R2 := Lib.hid r2
          clear r2 r4 r5 r6 r7 a0 a1 a2
          go_wp2_with fail
          go_region
          all_goals
            go_wp2_with fail
            exact bodyPost_ret (results_none (by kernel_rfl) _ _ _) rfl (put_fin HW3.out.be HW3.out.i HGW.out sd (i, id, er) HBV.out R5.out R6.out R7.out hlt r3 R4.out R2.out HSD.out HPR.out)
        · obtain ⟨t1, -⟩ := str_eq hp
          obtain ⟨t2, -⟩ := str_ne hq
          have HZ2 := Lib.hid (HST.out (fun h => hq h.2))
          clear hp hq HST HPL
          go_wp2_with fail
          go_quiet (fail)
          rename Nat => nq
          have HX2 := Lib.hid (HW.out.below (below_drewN wr nq))
          go_wp2_with fail
          go_roundw
          case rel => exact ⟨k + 1, by omega, by go_num, HX2, HZ2⟩
          case measure => simp [intOf]; omega
      · obtain ⟨t1, -⟩ := str_ne hp
        have HZ2 := Lib.hid (HST.out (fun h => hp h.1))
        clear hp HST HPL
        go_wp2_with fail
        go_quiet (fail)
        rename Nat => nq
        have HX2 := Lib.hid (HW.out.below (below_drewN wr nq))
        go_wp2_with fail
        go_roundw
        case rel => exact ⟨k + 1, by omega, by go_num, HX2, HZ2⟩
        case measure => simp [intOf]; omega
    · obtain rfl : k = st.bad.length := by omega
      have kI : ¬ (st.bad.length : Int) < (st.bad.length : Int) := by omega
      have HPE : Hid (bad' = st.bad ++ [(sd, i, id, er)]) := Lib.hid (HLE.out.trans (HP1.out HZ.out))
      obtain ⟨i112, HJ⟩ := info_parts mk112
      have HJ := Lib.hid HJ
      have HWA := Lib.hid ((HW.out.below (bx wr (.cells #[.string sd, .int .i64 0, .string ⟨#[]⟩, .string ⟨#[]⟩, .string ⟨#[]⟩, .string ⟨#[]⟩, .string ⟨#[]⟩, .string ⟨#[]⟩, .int .i64 0, .string ⟨#[]⟩, .int .i64 0, .int .i64 0, .bool false, .int .i64 i, .string id, .int .i64 er] 112))).below ((Below.refl _ _).drew))
      have HOB := Lib.hid HWA.out.i.rb
      rw [HBV.out] at HOB
      have HRD : Hid (Reads ((wr.alloc (.cells #[.string sd, .int .i64 0, .string ⟨#[]⟩, .string ⟨#[]⟩, .string ⟨#[]⟩, .string ⟨#[]⟩, .string ⟨#[]⟩, .string ⟨#[]⟩, .int .i64 0, .string ⟨#[]⟩, .int .i64 0, .int .i64 0, .bool false, .int .i64 i, .string id, .int .i64 er] 112)).drew) (wr.heap.size + 1) 16 (some ⟨wr.heap.size, 0, none⟩) 1 (rlB (sd, i, id, er))) := Lib.hid
        ⟨rfl, fun _ => ⟨⟨wr.heap.size, 0, none⟩, rfl, Nat.lt_succ_self _, World.news_of_block (cs := #[.string sd, .int .i64 0, .string ⟨#[]⟩, .string ⟨#[]⟩, .string ⟨#[]⟩, .string ⟨#[]⟩, .string ⟨#[]⟩, .string ⟨#[]⟩, .int .i64 0, .string ⟨#[]⟩, .int .i64 0, .int .i64 0, .bool false, .int .i64 i, .string id, .int .i64 er]) (t := 112) (fr := (0, 0)) (heap_alloc_new wr _)⟩⟩
      have HON2 : Hid ((rlB (sd, i, id, er)).all (·.oneCell') = true) := Lib.hid (by simp [rlB, recF, rejF, zR, Value.oneCell'])
      have HB0 := Lib.hid HWA.out.i.be.size
      have HCX := Lib.hid HWA.out.i.x
      have c3a := fun X => (World.cell?_alloc_lt wr X ⟨b.x, 3, none⟩ hbx).trans c3
      have m0 : wr.cell? ⟨W.heap.size, 0, none⟩ = some (.int .i64 i) := cell_c HW.out.k 0
      have m2 : wr.cell? ⟨W.heap.size, 2, none⟩ = some (.int .i64 er) := cell_c HW.out.k 2
      have hbk : W.heap.size < wr.heap.size := (Array.getElem?_eq_some_iff.1 HW.out.k).1
      have m0a := fun X => (World.cell?_alloc_lt wr X ⟨W.heap.size, 0, none⟩ hbk).trans m0
      have m1a := fun X => (World.cell?_alloc_lt wr X ⟨W.heap.size, 1, none⟩ hbk).trans k1
      have m2a := fun X => (World.cell?_alloc_lt wr X ⟨W.heap.size, 2, none⟩ hbk).trans m2
      go_wp2_with fail
      go_region_law
        (refine step_append_any _ rfl (.tmp 62) (.tmp 66) 98 rfl w0.heap.size 112 i112 _ 16 200 Tryz.underlying98 HJ.out.1 HJ.out.2.1 HJ.out.2.2.1 HJ.out.2.2.2 rfl (by omega) (.slice Al st.bad.length cl) st.bad.length _ rfl HOB.out _ (some ⟨wr.heap.size, 0, none⟩) 1 1 (rlB (sd, i, id, er)) rfl HRD.out (by intro u hu; have := List.all_eq_true.1 HON2.out u hu; simpa using this) (by unfold maxLen; omega) (by omega) HB0.out ?_
         intro u w8 hown hgrow hwh
         obtain ⟨uA, uc, rfl, -, -⟩ := own_form hown
         have HU : Hid (w8.ownsRow w0.heap.size 112 16 (.slice uA (st.bad.length + 1) uc) bad'.length (bad'.flatMap rlB)) := Lib.hid (by rw [HPE.out, List.length_append, List.flatMap_append]; simpa using hown)
         have HG := Lib.hid hgrow
         have HWH := Lib.hid hwh
         obtain ⟨q1, q2⟩ := HWA.out.i.setB (W1 := w8) bad' (.slice uA (st.bad.length + 1) uc) HU.out (by rw [HBV.out]; exact HG.out) (fun k hk => by
           rcases HWH.out with q | q
           · exact .inl (by rw [HBV.out, ← q]; exact hk)
           · refine .inr (fun hg => ?_)
             rw [hk] at q
             injection q with q
             have := (HWA.out.i.fp k hg).2
             rw [q] at this
             exact Nat.lt_irrefl _ this)
         have HFIN := Lib.hid (rm_fin (W' := w8.setCell ⟨b.x, 3, none⟩ (.slice uA (st.bad.length + 1) uc)) HWA.out.be q1 rfl (fun k q => by
           rcases q with q | q
           · exact .inl q
           · rcases HWH.out with q3 | q3
             · exact .inl (HWA.out.i.fb k (by rw [HBV.out, ← q3]; exact q))
             · rw [q] at q3
               injection q3 with q3
               exact .inr (by rw [q3]; exact HWA.out.be.size)) (fun k q => .inl q) q2)
         have c38 : w8.cell? ⟨b.x, 3, none⟩ = some (.slice Al st.bad.length cl) := by
           have h8 := cell_c (grown_lt (B := 0) hgrow HCX.out (fun e => own_nx HOB.out HCX.out (by decide) e.symm)) 3
           rw [show (b.cells A st.sds.length cp)[3]? = some b.bv from rfl, HBV.out] at h8
           exact h8
         have f38 : w8.frozen? ⟨b.x, 3, none⟩ = false := cell_f (grown_lt (B := 0) hgrow HCX.out (fun e => own_nx HOB.out HCX.out (by decide) e.symm)) 3
         clear hown hgrow hwh q1 q2)
      all_goals
        go_wp2_with fail
        exact bodyPost_ret (results_none (by kernel_rfl) _ _ _) rfl HFIN.out
end
end Go.Proofs.YthflmdgfenojcaaGreatDoor
namespace Go.Proofs.YthflmdgfenojcaaGreatDoor
set_option linter.unusedVariables false
open Go.RowKit Go.Sort Go.Maps
theorem del_yes {l : List (ByteArray × Rej)} {sd id : ByteArray} {k : Nat} (hk : k < l.length) (h : isB sd id (oAt l k)) : delB sd id (l.take (k + 1)) = delB sd id (l.take k) := by
  unfold delB
  unfold isB at h
  rw [oAt_get l k hk] at h
  rw [List.take_succ_eq_append_getElem hk, List.filter_append]
  simp [h.1, h.2]
theorem del_no {l : List (ByteArray × Rej)} {sd id : ByteArray} {k : Nat} (hk : k < l.length) (h : ¬ isB sd id (oAt l k)) : delB sd id (l.take (k + 1)) = delB sd id (l.take k) ++ [oAt l k] := by
  unfold delB
  unfold isB at h
  rw [oAt_get l k hk] at h ⊢
  rw [List.take_succ_eq_append_getElem hk, List.filter_append]
  have : (!(decide (l[k].1 = sd) && decide (l[k].2.2.1 = id))) = true := by
    cases h2 : (decide (l[k].1 = sd) && decide (l[k].2.2.1 = id)) with
    | false => rfl
    | true =>
      exfalso
      simp only [Bool.and_eq_true, decide_eq_true_eq] at h2
      exact h h2
  congr 1
  simp only [List.filter_cons, this, if_true, List.filter_nil]
theorem del_le (l : List (ByteArray × Rej)) (sd id : ByteArray) (k : Nat) : (delB sd id (l.take k)).length ≤ k := by
  unfold delB
  refine Nat.le_trans (List.length_filter_le _ _) ?_
  rw [List.length_take]; omega
section
variable {w0 : World} {A : Option Addr} {cp : Nat} {st : InS} {G : Nat → Prop} {b : RiB} {W W' : World}
/-- The state of accept's loop. -/
structure RaS (w0 : World) (A : Option Addr) (cp : Nat) (st : InS) (G : Nat → Prop) (b : RiB) (W : World) (r : Rec) (bd : List (ByteArray × Rej)) (v : Value) (X : World) : Prop where
  i : InR w0 A cp st G b X
  k : X.heap[W.heap.size]? = some (.cells r.cells 57)
  o : X.ownsRow W.heap.size 112 16 v bd.length (bd.flatMap rlB)
  be : Below W.heap.size W X
theorem RaS.below {r : Rec} {bd : List (ByteArray × Rej)} {v : Value} {X X' : World} (h : RaS w0 A cp st G b W r bd v X) (hb : Below X.heap.size X X') : RaS w0 A cp st G b W r bd v X' := ⟨h.i.below hb, blk_later h.k hb, own_later h.o hb, h.be.trans (hb.mono h.be.size)⟩
theorem RaS.nb {r : Rec} {bd : List (ByteArray × Rej)} {v : Value} {X : World} (h : RaS w0 A cp st G b W r bd v X) : v.ownBlock ≠ some W.heap.size := fun q => by
  obtain ⟨cur, hc⟩ := own_obj h.o q
  rw [h.k] at hc
  injection hc with hc
  injection hc with _ hc
  exact absurd hc (by decide)
theorem RaS.app {r : Rec} {bd : List (ByteArray × Rej)} {v u : Value} {X X' : World} (h : RaS w0 A cp st G b W r bd v X) (hGW : ∀ k, G k → k < W.heap.size) (x : ByteArray × Rej) (ho : X'.ownsRow W.heap.size 112 16 u (bd.length + 1) (bd.flatMap rlB ++ rlB x)) (hg : X.grownBy X' v.ownBlock) : RaS w0 A cp st G b W r (bd ++ [x]) u X' := by
  have hbe : Below W.heap.size W X' := h.be.grown hg h.be.size (fun j hj => (h.o.lt j hj).1)
  have hne : ∀ k, G k → some k ≠ v.ownBlock := fun k hk e => by
    have h1 := (h.o.lt k e.symm).1
    have h2 := hGW k hk
    omega
  refine ⟨h.i.same (h.i.be.grown hg h.i.be.size (fun j hj => Nat.le_trans ?_ (h.o.lt j hj).1)) hg.size (fun k hk => hg.block k (h.i.fp k hk).2 (hne k hk)), grown_lt (B := 0) hg h.k (fun e => h.nb e.symm), by rw [List.length_append, List.flatMap_append]; simpa using ho, hbe⟩
  have := (h.i.fp _ h.i.fx).1
  have := hGW _ h.i.fx
  omega
set_option maxRecDepth 1000000 in
set_option maxHeartbeats 25600000 in
theorem accept63_any (h : InR w0 A cp st G b W) (hn : st.bad.length ≤ 1000000) (hg : st.good.length ≤ 1000000) (hwW : w0.heap.size ≤ W.heap.size) (sd : ByteArray) (r : Rec) :
    Calls Tryz.prog 63 #[.pointer (some ⟨b.x, 0, none⟩), .string sd, .agg r.cells] W (RmPost w0 A cp ⟨st.sds, st.fs, st.good ++ [(sd, r)], delB sd r.id st.bad⟩ G b W) := by
  have HGW : Hid (∀ k, G k → k < W.heap.size) := Lib.hid (fun k q => (h.fp k q).2)
  have HDY := Lib.hid (fun k hk h => del_yes (l := st.bad) (sd := sd) (id := r.id) (k := k) hk h)
  have HDN := Lib.hid (fun k hk h => del_no (l := st.bad) (sd := sd) (id := r.id) (k := k) hk h)
  have HDL := Lib.hid (del_le st.bad sd r.id)
  have HS0 : Hid (RaS w0 A cp st G b W r (delB sd r.id (st.bad.take 0)) (.slice none 0 0) (W.alloc (.cells r.cells 57))) := Lib.hid ⟨h.below (bx W _), heap_alloc_new W _, World.ownsRow_nil _ _ _ _, bx W _⟩
  obtain ⟨K, id, au, aq, is, me, ca, a, cu, dd, cg, ff⟩ := r
  unfold Rec.cells at HS0 ⊢
  dsimp only at HDY HDN HDL HS0 ⊢
  obtain ⟨Al, cl, hlv, -, -⟩ := own_form h.rb
  have HBV := Lib.hid hlv
  have HC : Hid (∀ X v bd, RaS w0 A cp st G b W ⟨K, id, au, aq, is, me, ca, a, cu, dd, cg, ff⟩ bd v X → X.cell? ⟨b.x, 3, none⟩ = some (.slice Al st.bad.length cl)) := Lib.hid (fun X v bd hX => by
    have := hX.i.c3
    rw [hlv] at this
    exact this)
  obtain ⟨Ag, cg', hgv, -, -⟩ := own_form h.rg
  have HGV := Lib.hid hgv
  obtain ⟨i112, HJ⟩ := info_parts mk112
  have HJ := Lib.hid HJ
  have HWZ := Lib.hid hwW
  clear h hlv hgv hwW
  have hcx := HC.out _ _ _ HS0.out
  go_enter Tryz.func63, Tryz.ntmps63
  go_wp2_with fail
  clear hcx
  go_loopw [6, 7] (fun v iv wr => ∃ k : Nat, k ≤ st.bad.length ∧ iv = .int .i64 k ∧ Hid (RaS w0 A cp st G b W ⟨K, id, au, aq, is, me, ca, a, cu, dd, cg, ff⟩ (delB sd id (st.bad.take k)) v wr)) (fun _ iv _ => st.bad.length - (intOf iv).toNat)
  case atStart => exact ⟨0, Nat.zero_le _, rfl, HS0⟩
  case round =>
    clear HS0
    obtain ⟨k, hk, rfl, HW⟩ := hrel
    have c3 := HC.out wr _ _ HW.out
    have hbx := HW.out.i.xlt
    have k1 : wr.cell? ⟨W.heap.size, 1, none⟩ = some (.string id) := cell_c HW.out.k 1
    by_cases hlt : k < st.bad.length
    · have kI : (k : Int) < (st.bad.length : Int) := by omega
      have k0 : (0 : Int) ≤ (k : Int) := by omega
      have hob := HW.out.i.rb
      rw [HBV.out] at hob
      obtain ⟨bb, off, rfl, hcell⟩ := row_lb (IsRow.of_own (c := cl) hob) k hlt
      have hcw : Hid (∀ X, Below wr.heap.size wr X → ∀ i v, (rlB (oAt st.bad k))[i]? = some v → X.cell? ⟨bb, off + k * 16 + i, none⟩ = some v) := Lib.hid (fun X hb i v hv => cell_later hb (hcell k hlt i v hv))
      have d0 := hcell k hlt 0 _ rfl
      have d14 := hcell k hlt 14 _ rfl
      rw [Nat.add_zero] at d0
      have HY := Lib.hid (HDY.out k hlt)
      have HN := Lib.hid (HDN.out k hlt)
      have hln := HDL.out k
      clear hcell hob
      generalize oAt st.bad k = x at *
      generalize delB sd id (st.bad.take k) = bd at *
      obtain ⟨p, x1, x2, x3⟩ := x
      dsimp only at d0 d14
      have hc : (p = sd ∧ x2 = id) ∨ (p = sd ∧ x2 ≠ id) ∨ p ≠ sd := by
        by_cases hp : p = sd
        · by_cases hq : x2 = id
          · exact .inl ⟨hp, hq⟩
          · exact .inr (.inl ⟨hp, hq⟩)
        · exact .inr (.inr hp)
      rcases hc with ⟨hp, hq⟩ | hc
      · obtain ⟨-, t1⟩ := str_eq hp
        obtain ⟨-, t2⟩ := str_eq hq
        have HT := Lib.hid (HY.out ⟨hp, hq⟩)
        clear hp hq HY HN
        go_wp2_with fail
        go_quiet (fail)
        rename Nat => nq
        have HX2 : Hid (RaS w0 A cp st G b W ⟨K, id, au, aq, is, me, ca, a, cu, dd, cg, ff⟩ (delB sd id (st.bad.take (k + 1))) u6 (wr.drewN nq)) := Lib.hid (by rw [HT.out]; exact HW.out.below (below_drewN wr nq))
        go_wp2_with fail
        go_roundw
        case rel => exact ⟨k + 1, by omega, by go_num, HX2⟩
        case measure => simp [intOf]; omega
      · have HT : Hid (delB sd id (st.bad.take (k + 1)) = bd ++ [(p, x1, x2, x3)]) := Lib.hid (HN.out (fun q => by rcases hc with c | c; exact c.2 q.2; exact c q.1))
        have hd : (((p.toList == sd.toList) = true ∧ p.toList = sd.toList) ∧ ((x2.toList == id.toList) = false ∧ ¬ x2.toList = id.toList)) ∨ ((p.toList == sd.toList) = false ∧ ¬ p.toList = sd.toList) := by
          rcases hc with ⟨c, c2⟩ | c
          · exact .inl ⟨str_eq c, str_ne c2⟩
          · exact .inr (str_ne c)
        clear hc HY HN
        rcases hd with ⟨⟨t1, n1⟩, t2, n2⟩ | ⟨t1, n1⟩
        all_goals
          go_wp2_with fail
          go_quiet (fail)
          rename Nat => nq
          have HW3 := Lib.hid (HW.out.below (below_drewN wr nq))
          have hcw3 : Hid (∀ i v, (rlB (p, x1, x2, x3))[i]? = some v → (wr.drewN nq).cell? ⟨bb, off + k * 16 + i, none⟩ = some v) := Lib.hid (fun i v hv => hcw.out _ (below_drewN wr nq) i v hv)
          clear c3 k1 d0 d14 HW hcw
          generalize wr.drewN nq = w3 at *
          have c3 := HC.out w3 _ _ HW3.out
          have d0 := hcw3.out 0 _ rfl
          have d1 := hcw3.out 1 _ rfl
          have d2 := hcw3.out 2 _ rfl
          have d3 := hcw3.out 3 _ rfl
          have d4 := hcw3.out 4 _ rfl
          have d5 := hcw3.out 5 _ rfl
          have d6 := hcw3.out 6 _ rfl
          have d7 := hcw3.out 7 _ rfl
          have d8 := hcw3.out 8 _ rfl
          have d9 := hcw3.out 9 _ rfl
          have d10 := hcw3.out 10 _ rfl
          have d11 := hcw3.out 11 _ rfl
          have d12 := hcw3.out 12 _ rfl
          have d13 := hcw3.out 13 _ rfl
          have d14 := hcw3.out 14 _ rfl
          have d15 := hcw3.out 15 _ rfl
          rw [Nat.add_zero] at d0
          dsimp only [zR] at d0 d1 d2 d3 d4 d5 d6 d7 d8 d9 d10 d11 d12 d13 d14 d15
          have HO := Lib.hid (HW3.out.below (bx w3 (.cells #[.string p, .int .i64 0, .string ⟨#[]⟩, .string ⟨#[]⟩, .string ⟨#[]⟩, .string ⟨#[]⟩, .string ⟨#[]⟩, .string ⟨#[]⟩, .int .i64 0, .string ⟨#[]⟩, .int .i64 0, .int .i64 0, .bool false, .int .i64 x1, .string x2, .int .i64 x3] 112)))
          have hsz := HW3.out.be.size
          have HON2 : Hid ((rlB (p, x1, x2, x3)).all (·.oneCell') = true) := Lib.hid (by simp [rlB, recF, rejF, zR, Value.oneCell'])
          have HRD := Lib.hid (World.news_of_block (cs := #[.string p, .int .i64 0, .string ⟨#[]⟩, .string ⟨#[]⟩, .string ⟨#[]⟩, .string ⟨#[]⟩, .string ⟨#[]⟩, .string ⟨#[]⟩, .int .i64 0, .string ⟨#[]⟩, .int .i64 0, .int .i64 0, .bool false, .int .i64 x1, .string x2, .int .i64 x3]) (t := 112) (fr := (0, 0)) (heap_alloc_new w3 (.cells #[.string p, .int .i64 0, .string ⟨#[]⟩, .string ⟨#[]⟩, .string ⟨#[]⟩, .string ⟨#[]⟩, .string ⟨#[]⟩, .string ⟨#[]⟩, .int .i64 0, .string ⟨#[]⟩, .int .i64 0, .int .i64 0, .bool false, .int .i64 x1, .string x2, .int .i64 x3] 112)))
          go_wp2_with (at_builtin; refine wpList_append_own _ rfl (.tmp 41) (.tmp 49) _ rfl W.heap.size 112 i112 _ 16 200 Tryz.underlying98 HJ.out.1 HJ.out.2.1 HJ.out.2.2.1 HJ.out.2.2.2 rfl (by omega) _ _ _ rfl HO.out.o ⟨w3.heap.size, 0, none⟩ 1 1 (rlB (p, x1, x2, x3)) rfl rfl HRD.out (by intro u hu; have := List.all_eq_true.1 HON2.out u hu; simpa using this) (by unfold maxLen; omega) (by omega) (by simp; omega) ?_; intro v2 w2 hown hgrow hnil; have HA := Lib.hid (HO.out.app HGW.out (p, x1, x2, x3) hown hgrow); clear hown hgrow hnil)
          have HX2 : Hid (RaS w0 A cp st G b W ⟨K, id, au, aq, is, me, ca, a, cu, dd, cg, ff⟩ (delB sd id (st.bad.take (k + 1))) v2 w2) := Lib.hid (by rw [HT.out]; exact HA.out)
          exact ⟨⟨k + 1, by omega, by go_num, HX2⟩, by simp [intOf]; omega⟩
    · obtain rfl : k = st.bad.length := by omega
      have kI : ¬ (st.bad.length : Int) < (st.bad.length : Int) := by omega
      have HO6 := Lib.hid HW.out
      rw [List.take_length] at HO6
      obtain ⟨Bd, bc, hu6, -, -⟩ := own_form HO6.out.o
      obtain ⟨q1, q2⟩ := HO6.out.i.setB (W1 := wr) (delB sd id st.bad) u6 (own_base HO6.out.o HWZ.out) (World.grownBy.refl wr _) (fun k hk => .inr (fun hg => by
        have h1 := (HO6.out.o.lt k hk).1
        have h2 := HGW.out k hg
        omega))
      have HI5 := Lib.hid q1
      have HK5 : Hid (KeptE G W (wr.setCell ⟨b.x, 3, none⟩ u6)) := Lib.hid ((KeptE.of_below (F := G) HO6.out.be).trans q2 (fun _ q => .inl q))
      have HUB : Hid (∀ j, u6.ownBlock = some j → W.heap.size ≤ j) := Lib.hid (fun j hj => (HO6.out.o.lt j hj).1)
      have hb5 := HO6.out.i.xlt
      have hbW := HGW.out _ HO6.out.i.fx
      have HR5 : Hid ((wr.setCell ⟨b.x, 3, none⟩ u6).heap[W.heap.size]? = some (.cells #[.int .i64 K, .string id, .string au, .string aq, .string is, .string me, .string ca, .int .i64 a, .string cu, .int .i64 dd, .int .i64 cg, .bool ff] 57)) := Lib.hid ((Below.heap_setCell _ _ _ _ (by simp; omega)).trans HO6.out.k)
      have c3 := HC.out wr _ _ HW.out
      have f3 : wr.frozen? ⟨b.x, 3, none⟩ = false := cell_f HO6.out.i.x 3
      subst hu6
      clear q1 q2 HW HO6 k1
      go_wp2_with fail
      generalize wr.setCell ⟨b.x, 3, none⟩ (.slice Bd (delB sd id st.bad).length bc) = w5 at *
      clear c3 f3
      have hb5 := HI5.out.xlt
      have c2 : w5.cell? ⟨b.x, 2, none⟩ = some (.slice Ag st.good.length cg') := by
        have h8 := HI5.out.c2
        rw [HGV.out] at h8
        exact h8
      have hbk : W.heap.size < w5.heap.size := (Array.getElem?_eq_some_iff.1 HR5.out).1
      have k0 : w5.cell? ⟨W.heap.size, 0, none⟩ = some (.int .i64 K) := cell_c HR5.out 0
      have k1 : w5.cell? ⟨W.heap.size, 1, none⟩ = some (.string id) := cell_c HR5.out 1
      have k2 : w5.cell? ⟨W.heap.size, 2, none⟩ = some (.string au) := cell_c HR5.out 2
      have k3 : w5.cell? ⟨W.heap.size, 3, none⟩ = some (.string aq) := cell_c HR5.out 3
      have k4 : w5.cell? ⟨W.heap.size, 4, none⟩ = some (.string is) := cell_c HR5.out 4
      have k5 : w5.cell? ⟨W.heap.size, 5, none⟩ = some (.string me) := cell_c HR5.out 5
      have k6 : w5.cell? ⟨W.heap.size, 6, none⟩ = some (.string ca) := cell_c HR5.out 6
      have k7 : w5.cell? ⟨W.heap.size, 7, none⟩ = some (.int .i64 a) := cell_c HR5.out 7
      have k8 : w5.cell? ⟨W.heap.size, 8, none⟩ = some (.string cu) := cell_c HR5.out 8
      have k9 : w5.cell? ⟨W.heap.size, 9, none⟩ = some (.int .i64 dd) := cell_c HR5.out 9
      have k10 : w5.cell? ⟨W.heap.size, 10, none⟩ = some (.int .i64 cg) := cell_c HR5.out 10
      have k11 : w5.cell? ⟨W.heap.size, 11, none⟩ = some (.bool ff) := cell_c HR5.out 11
      have c2a := fun X => (World.cell?_alloc_lt w5 X ⟨b.x, 2, none⟩ hb5).trans c2
      have HWA := Lib.hid ((HI5.out.below (bx w5 (.cells #[.string sd, .int .i64 K, .string id, .string au, .string aq, .string is, .string me, .string ca, .int .i64 a, .string cu, .int .i64 dd, .int .i64 cg, .bool ff, .int .i64 0, .string ⟨#[]⟩, .int .i64 0] 112))).below ((Below.refl _ _).drew))
      have HKA : Hid (KeptE G W ((w5.alloc (.cells #[.string sd, .int .i64 K, .string id, .string au, .string aq, .string is, .string me, .string ca, .int .i64 a, .string cu, .int .i64 dd, .int .i64 cg, .bool ff, .int .i64 0, .string ⟨#[]⟩, .int .i64 0] 112)).drew)) := Lib.hid (HK5.out.trans (KeptE.of_below (F := G) ((bx w5 (.cells #[.string sd, .int .i64 K, .string id, .string au, .string aq, .string is, .string me, .string ca, .int .i64 a, .string cu, .int .i64 dd, .int .i64 cg, .bool ff, .int .i64 0, .string ⟨#[]⟩, .int .i64 0] 112)).drew)) (fun _ q => .inl q))
      have HOG := Lib.hid HWA.out.rg
      rw [show (RiB.mk b.x b.lv b.gv (.slice Bd (delB sd id st.bad).length bc)).gv = b.gv from rfl, HGV.out] at HOG
      have HRD : Hid (Reads ((w5.alloc (.cells #[.string sd, .int .i64 K, .string id, .string au, .string aq, .string is, .string me, .string ca, .int .i64 a, .string cu, .int .i64 dd, .int .i64 cg, .bool ff, .int .i64 0, .string ⟨#[]⟩, .int .i64 0] 112)).drew) (w5.heap.size + 1) 16 (some ⟨w5.heap.size, 0, none⟩) 1 (rlG (sd, ⟨K, id, au, aq, is, me, ca, a, cu, dd, cg, ff⟩))) := Lib.hid
        ⟨rfl, fun _ => ⟨⟨w5.heap.size, 0, none⟩, rfl, Nat.lt_succ_self _, World.news_of_block (cs := #[.string sd, .int .i64 K, .string id, .string au, .string aq, .string is, .string me, .string ca, .int .i64 a, .string cu, .int .i64 dd, .int .i64 cg, .bool ff, .int .i64 0, .string ⟨#[]⟩, .int .i64 0]) (t := 112) (fr := (0, 0)) (heap_alloc_new w5 _)⟩⟩
      have HON2 : Hid ((rlG (sd, ⟨K, id, au, aq, is, me, ca, a, cu, dd, cg, ff⟩)).all (·.oneCell') = true) := Lib.hid (by simp [rlG, recF, rejF, Value.oneCell'])
      have HB0 := Lib.hid HWA.out.be.size
      have HCX := Lib.hid HWA.out.x
      go_wp2_with fail
      go_region_law
        (refine step_append_any _ rfl (.tmp 59) (.tmp 63) 98 rfl w0.heap.size 112 i112 _ 16 200 Tryz.underlying98 HJ.out.1 HJ.out.2.1 HJ.out.2.2.1 HJ.out.2.2.2 rfl (by omega) (.slice Ag st.good.length cg') st.good.length _ rfl HOG.out _ (some ⟨w5.heap.size, 0, none⟩) 1 1 (rlG (sd, ⟨K, id, au, aq, is, me, ca, a, cu, dd, cg, ff⟩)) rfl HRD.out (by intro u hu; have := List.all_eq_true.1 HON2.out u hu; simpa using this) (by unfold maxLen; omega) (by omega) HB0.out ?_
         intro u w8 hown hgrow hwh
         obtain ⟨uA, uc, rfl, -, -⟩ := own_form hown
         have HG := Lib.hid hgrow
         have HWH := Lib.hid hwh
         obtain ⟨q1, q2⟩ := HWA.out.setG (W1 := w8) (sd, ⟨K, id, au, aq, is, me, ca, a, cu, dd, cg, ff⟩) (.slice uA (st.good.length + 1) uc) hown (by rw [show (RiB.mk b.x b.lv b.gv (.slice Bd (delB sd id st.bad).length bc)).gv = b.gv from rfl, HGV.out]; exact HG.out) (by rw [show (RiB.mk b.x b.lv b.gv (.slice Bd (delB sd id st.bad).length bc)).gv = b.gv from rfl, HGV.out]; exact HWH.out)
         have HFIN : Hid (RmPost w0 A cp ⟨st.sds, st.fs, st.good ++ [(sd, ⟨K, id, au, aq, is, me, ca, a, cu, dd, cg, ff⟩)], delB sd id st.bad⟩ G b W (.returned (.tuple #[])) (w8.setCell ⟨b.x, 2, none⟩ (.slice uA (st.good.length + 1) uc))) := Lib.hid ⟨rfl, _, _, q1, rfl, (fun k q => by
           rcases q with (q | q) | q
           · exact .inl q
           · exact .inr (HUB.out k q)
           · rcases HWH.out with q3 | q3
             · rw [q] at q3
               exact .inl (HI5.out.fg k (by rw [show (RiB.mk b.x b.lv b.gv (.slice Bd (delB sd id st.bad).length bc)).gv = b.gv from rfl, HGV.out]; exact q3.symm) |>.elim (fun q => q) (fun q4 => absurd q4 (HI5.out.od k (by rw [show (RiB.mk b.x b.lv b.gv (.slice Bd (delB sd id st.bad).length bc)).gv = b.gv from rfl, HGV.out]; exact q3.symm))))
             · rw [q] at q3
               injection q3 with q3
               exact .inr (by rw [q3]; exact HKA.out.size)), (fun k q => .inl (.inl q)), HKA.out.trans q2 (fun j hj => by
           rcases hj with hj | hj
           · exact .inl hj
           · exact .inr (HUB.out j hj))⟩
         have c28 : w8.cell? ⟨b.x, 2, none⟩ = some (.slice Ag st.good.length cg') := by
           have h8 := cell_c (grown_lt (B := 0) hgrow HCX.out (fun e => own_nx HOG.out HCX.out (by decide) e.symm)) 2
           rw [show ((RiB.mk b.x b.lv b.gv (.slice Bd (delB sd id st.bad).length bc)).cells A st.sds.length cp)[2]? = some b.gv from rfl, HGV.out] at h8
           exact h8
         have f28 : w8.frozen? ⟨b.x, 2, none⟩ = false := cell_f (grown_lt (B := 0) hgrow HCX.out (fun e => own_nx HOG.out HCX.out (by decide) e.symm)) 2
         clear hown hgrow hwh q1 q2)
      all_goals
        go_wp2_with fail
        exact bodyPost_ret (results_none (by kernel_rfl) _ _ _) rfl HFIN.out
end
end Go.Proofs.YthflmdgfenojcaaGreatDoor
