/- Part of the proof over this seat. -/
import Derived.Test.YthflmdgfenojcaaGreatDoorQIKm
namespace Go.Proofs.YthflmdgfenojcaaGreatDoor
set_option linter.unusedVariables false
open Go.RowKit Go.Sort Go.Maps
def zR : Rec := ⟨0, noS, noS, noS, noS, noS, noS, 0, noS, 0, 0, false⟩
def rlG (x : ByteArray × Rec) : List Value := Value.string x.1 :: (recF x.2 ++ rejF (0, noS, 0))
def rlB (x : ByteArray × Rej) : List Value := Value.string x.1 :: (recF zR ++ rejF x.2)
structure RiB where
  x : Nat
  lv : Value
  gv : Value
  bv : Value
def RiB.cells (b : RiB) (A : Option Addr) (n cp : Nat) : Array Value := #[.slice A n cp, b.lv, b.gv, b.bv]
structure InR (w0 : World) (A : Option Addr) (cp : Nat) (st : InS) (G : Nat → Prop) (b : RiB) (W : World) : Prop where
  be : Below w0.heap.size w0 W
  fp : ∀ k, G k → w0.heap.size ≤ k ∧ k < W.heap.size
  fx : G b.x
  fl : ∀ g, b.lv.ownBlock = some g → G g
  fg : ∀ g, b.gv.ownBlock = some g → G g
  fb : ∀ g, b.bv.ownBlock = some g → G g
  x : W.heap[b.x]? = some (.cells (b.cells A st.sds.length cp) 100)
  rl : W.ownsRow w0.heap.size 107 2 b.lv st.fs.length (st.fs.flatMap fileF)
  rg : W.ownsRow w0.heap.size 112 16 b.gv st.good.length (st.good.flatMap rlG)
  rb : W.ownsRow w0.heap.size 112 16 b.bv st.bad.length (st.bad.flatMap rlB)
  od : ∀ k, b.gv.ownBlock = some k → b.bv.ownBlock ≠ some k
section
variable {w0 : World} {A : Option Addr} {cp : Nat} {st : InS} {G : Nat → Prop} {b : RiB} {W W' : World}
theorem InR.same (h : InR w0 A cp st G b W) (hbe : Below w0.heap.size w0 W') (hsz : W.heap.size ≤ W'.heap.size) (hs : ∀ k, G k → W'.heap[k]? = W.heap[k]?) : InR w0 A cp st G b W' :=
  ⟨hbe, fun k hk => ⟨(h.fp k hk).1, Nat.lt_of_lt_of_le (h.fp k hk).2 hsz⟩, h.fx, h.fl, h.fg, h.fb, (hs _ h.fx).trans h.x, own_same h.rl (fun g hg => hs g (h.fl g hg)), own_same h.rg (fun g hg => hs g (h.fg g hg)), own_same h.rb (fun g hg => hs g (h.fb g hg)), h.od⟩
theorem InR.below (h : InR w0 A cp st G b W) (hb : Below W.heap.size W W') : InR w0 A cp st G b W' :=
  h.same (h.be.trans (hb.mono h.be.size)) hb.size (fun k hk => hb.block k (h.fp k hk).2)
theorem InR.drewN (h : InR w0 A cp st G b W) (n : Nat) : InR w0 A cp st G b (W.drewN n) := h.below (below_drewN W n)
theorem InR.keptE {F : Nat → Prop} (h : InR w0 A cp st G b W) (hk : KeptE F W W') (hd : ∀ k, G k → ¬ F k) (hF : ∀ k, F k → w0.heap.size ≤ k) : InR w0 A cp st G b W' :=
  h.same (h.be.trans (hk.below h.be.size hF)) hk.size (fun k hk' => hk.block k (h.fp k hk').2 (hd k hk'))
theorem InR.grow {o : Option Nat} (h : InR w0 A cp st G b W) (hg : W.grownBy W' o) (ho : ∀ g, o = some g → G g) : Below w0.heap.size w0 W' := h.be.grown hg h.be.size (fun g e => (h.fp g (ho g e)).1)
theorem InR.c0 (h : InR w0 A cp st G b W) : W.cell? ⟨b.x, 0, none⟩ = some (.slice A st.sds.length cp) := cell_c h.x 0
theorem InR.c1 (h : InR w0 A cp st G b W) : W.cell? ⟨b.x, 1, none⟩ = some b.lv := cell_c h.x 1
theorem InR.c2 (h : InR w0 A cp st G b W) : W.cell? ⟨b.x, 2, none⟩ = some b.gv := cell_c h.x 2
theorem InR.c3 (h : InR w0 A cp st G b W) : W.cell? ⟨b.x, 3, none⟩ = some b.bv := cell_c h.x 3
theorem InR.xlt (h : InR w0 A cp st G b W) : b.x < W.heap.size := (h.fp _ h.fx).2
theorem own_nx {B e size n x : Nat} {v : Value} {xs : List Value} {C : Array Value} (ho : W.ownsRow B e size v n xs) (hx : W.heap[x]? = some (.cells C 100)) (he : e ≠ 100) : v.ownBlock ≠ some x := fun q => by
  obtain ⟨cur, hc⟩ := own_obj ho q
  rw [hx] at hc
  injection hc with hc
  injection hc with _ hc
  exact he hc.symm
theorem grown_set (W : World) (B f : Nat) (u : Value) : W.grownBy (W.setCell ⟨B, f, none⟩ u) (some B) := ⟨rfl, rfl, rfl, by simp [World.setCell], fun j _ hj => Below.heap_setCell _ _ _ _ (fun e => hj (by rw [e]))⟩
/-- A file is laid behind the others. -/
theorem InR.setL (h : InR w0 A cp st G b W) {W1 : World} (x : ByteArray × ByteArray) (u : Value)
    (hu : W1.ownsRow w0.heap.size 107 2 u (st.fs.length + 1) (st.fs.flatMap fileF ++ fileF x)) (hg1 : W.grownBy W1 b.lv.ownBlock) :
    InR w0 A cp ⟨st.sds, st.fs ++ [x], st.good, st.bad⟩ (fun k => G k ∨ u.ownBlock = some k) ⟨b.x, u, b.gv, b.bv⟩ (W1.setCell ⟨b.x, 1, none⟩ u) ∧ KeptE G W (W1.setCell ⟨b.x, 1, none⟩ u) := by
  have hg := grown_set W1 b.x 1 u
  have hx1 : W1.heap[b.x]? = some (.cells (b.cells A st.sds.length cp) 100) := (hg1.block _ (h.fp _ h.fx).2 (fun e => own_nx h.rl h.x (by decide) e.symm)).trans h.x
  have hs : ∀ k, G k → k ≠ b.x → some k ≠ b.lv.ownBlock → (W1.setCell ⟨b.x, 1, none⟩ u).heap[k]? = W.heap[k]? := fun k hk hne hne2 =>
    (hg.block k (Nat.lt_of_lt_of_le (h.fp k hk).2 hg1.size) (fun e => hne (by injection e))).trans (hg1.block k (h.fp k hk).2 hne2)
  have hk1 : ∀ {v : Value} {n : Nat} {xs : List Value}, W.ownsRow w0.heap.size 112 16 v n xs → (∀ g, v.ownBlock = some g → G g) → (W1.setCell ⟨b.x, 1, none⟩ u).ownsRow w0.heap.size 112 16 v n xs := fun ho hG =>
    own_same ho (fun g hg' => hs g (hG g hg') (fun e => own_nx ho h.x (by decide) (by rw [hg', e])) (fun e => by
      rcases own_ne h.rl ho (by decide) with k | k
      · rw [k] at hg'; cases hg'
      · exact k (by rw [hg', e])))
  refine ⟨⟨?_, fun k hk => ?_, .inl h.fx, fun g hg' => .inr hg', fun g hg' => .inl (h.fg g hg'), fun g hg' => .inl (h.fb g hg'), ?_, ?_, hk1 h.rg h.fg, hk1 h.rb h.fb, h.od⟩, ?_⟩
  · exact (h.grow hg1 h.fl).grown hg (Nat.le_trans h.be.size hg1.size) (fun g e => by injection e with e; rw [← e]; exact (h.fp _ h.fx).1)
  · rcases hk with hk | hk
    · exact ⟨(h.fp k hk).1, Nat.lt_of_lt_of_le (h.fp k hk).2 (Nat.le_trans hg1.size hg.size)⟩
    · have := own_lt hu hk
      exact ⟨this.1, Nat.lt_of_lt_of_le this.2 hg.size⟩
  · show (W1.setCell ⟨b.x, 1, none⟩ u).heap[b.x]? = _
    rw [heap_set1 hx1 1 u]; rfl
  · rw [List.length_append, List.flatMap_append]
    have h5 := hu.kept hg (.inr (own_nx hu hx1 (by decide)))
    simpa using h5
  · exact (KeptE.of_grown' hg1 h.fl).trans (KeptE.of_grown (F := G) hg h.fx) (fun j hj => .inl hj)
/-- A record is laid behind the accepted ones. -/
theorem InR.setG (h : InR w0 A cp st G b W) {W1 : World} (x : ByteArray × Rec) (u : Value)
    (hu : W1.ownsRow w0.heap.size 112 16 u (st.good.length + 1) (st.good.flatMap rlG ++ rlG x)) (hg1 : W.grownBy W1 b.gv.ownBlock) (hub : u.ownBlock = b.gv.ownBlock ∨ u.ownBlock = some W.heap.size) :
    InR w0 A cp ⟨st.sds, st.fs, st.good ++ [x], st.bad⟩ (fun k => G k ∨ u.ownBlock = some k) ⟨b.x, b.lv, u, b.bv⟩ (W1.setCell ⟨b.x, 2, none⟩ u) ∧ KeptE G W (W1.setCell ⟨b.x, 2, none⟩ u) := by
  have hg := grown_set W1 b.x 2 u
  have hx1 : W1.heap[b.x]? = some (.cells (b.cells A st.sds.length cp) 100) := (hg1.block _ (h.fp _ h.fx).2 (fun e => own_nx h.rg h.x (by decide) e.symm)).trans h.x
  have hs : ∀ k, G k → k ≠ b.x → some k ≠ b.gv.ownBlock → (W1.setCell ⟨b.x, 2, none⟩ u).heap[k]? = W.heap[k]? := fun k hk hne hne2 =>
    (hg.block k (Nat.lt_of_lt_of_le (h.fp k hk).2 hg1.size) (fun e => hne (by injection e))).trans (hg1.block k (h.fp k hk).2 hne2)
  refine ⟨⟨?_, fun k hk => ?_, .inl h.fx, fun g hg' => .inl (h.fl g hg'), fun g hg' => .inr hg', fun g hg' => .inl (h.fb g hg'), ?_, ?_, ?_, ?_, fun k hk => ?_⟩, ?_⟩
  · exact (h.grow hg1 h.fg).grown hg (Nat.le_trans h.be.size hg1.size) (fun g e => by injection e with e; rw [← e]; exact (h.fp _ h.fx).1)
  · rcases hk with hk | hk
    · exact ⟨(h.fp k hk).1, Nat.lt_of_lt_of_le (h.fp k hk).2 (Nat.le_trans hg1.size hg.size)⟩
    · have := own_lt hu hk
      exact ⟨this.1, Nat.lt_of_lt_of_le this.2 hg.size⟩
  · show (W1.setCell ⟨b.x, 2, none⟩ u).heap[b.x]? = _
    rw [heap_set1 hx1 2 u]; rfl
  · exact own_same h.rl (fun g hg' => hs g (h.fl g hg') (fun e => own_nx h.rl h.x (by decide) (by rw [hg', e])) (fun e => by
      rcases own_ne h.rg h.rl (by decide) with k | k
      · rw [k] at hg'; cases hg'
      · exact k (by rw [hg', e])))
  · rw [List.length_append, List.flatMap_append]
    have h5 := hu.kept hg (.inr (own_nx hu hx1 (by decide)))
    simpa using h5
  · exact own_same h.rb (fun g hg' => hs g (h.fb g hg') (fun e => own_nx h.rb h.x (by decide) (by rw [hg', e])) (fun e => h.od g e.symm hg'))
  · intro e
    rcases hub with q | q
    · exact h.od k (by rw [← q]; exact hk) e
    · have hk' : u.ownBlock = some k := hk
      rw [q] at hk'
      injection hk' with hk'
      have := (h.fp k (h.fb k e)).2
      omega
  · exact (KeptE.of_grown' hg1 h.fg).trans (KeptE.of_grown (F := G) hg h.fx) (fun j hj => .inl hj)
/-- The open rejects are a row of their own from now on. -/
theorem InR.setB (h : InR w0 A cp st G b W) {W1 : World} (bad' : List (ByteArray × Rej)) (u : Value)
    (hu : W1.ownsRow w0.heap.size 112 16 u bad'.length (bad'.flatMap rlB)) (hg1 : W.grownBy W1 b.bv.ownBlock) (hub : ∀ k, u.ownBlock = some k → b.bv.ownBlock = some k ∨ ¬ G k) :
    InR w0 A cp ⟨st.sds, st.fs, st.good, bad'⟩ (fun k => G k ∨ u.ownBlock = some k) ⟨b.x, b.lv, b.gv, u⟩ (W1.setCell ⟨b.x, 3, none⟩ u) ∧ KeptE G W (W1.setCell ⟨b.x, 3, none⟩ u) := by
  have hg := grown_set W1 b.x 3 u
  have hx1 : W1.heap[b.x]? = some (.cells (b.cells A st.sds.length cp) 100) := (hg1.block _ (h.fp _ h.fx).2 (fun e => own_nx h.rb h.x (by decide) e.symm)).trans h.x
  have hs : ∀ k, G k → k ≠ b.x → some k ≠ b.bv.ownBlock → (W1.setCell ⟨b.x, 3, none⟩ u).heap[k]? = W.heap[k]? := fun k hk hne hne2 =>
    (hg.block k (Nat.lt_of_lt_of_le (h.fp k hk).2 hg1.size) (fun e => hne (by injection e))).trans (hg1.block k (h.fp k hk).2 hne2)
  refine ⟨⟨?_, fun k hk => ?_, .inl h.fx, fun g hg' => .inl (h.fl g hg'), fun g hg' => .inl (h.fg g hg'), fun g hg' => .inr hg', ?_, ?_, ?_, ?_, fun k hk => ?_⟩, ?_⟩
  · exact (h.grow hg1 h.fb).grown hg (Nat.le_trans h.be.size hg1.size) (fun g e => by injection e with e; rw [← e]; exact (h.fp _ h.fx).1)
  · rcases hk with hk | hk
    · exact ⟨(h.fp k hk).1, Nat.lt_of_lt_of_le (h.fp k hk).2 (Nat.le_trans hg1.size hg.size)⟩
    · have := own_lt hu hk
      exact ⟨this.1, Nat.lt_of_lt_of_le this.2 hg.size⟩
  · show (W1.setCell ⟨b.x, 3, none⟩ u).heap[b.x]? = _
    rw [heap_set1 hx1 3 u]; rfl
  · exact own_same h.rl (fun g hg' => hs g (h.fl g hg') (fun e => own_nx h.rl h.x (by decide) (by rw [hg', e])) (fun e => by
      rcases own_ne h.rb h.rl (by decide) with k | k
      · rw [k] at hg'; cases hg'
      · exact k (by rw [hg', e])))
  · exact own_same h.rg (fun g hg' => hs g (h.fg g hg') (fun e => own_nx h.rg h.x (by decide) (by rw [hg', e])) (fun e => h.od g hg' e.symm))
  · exact hu.kept hg (.inr (own_nx hu hx1 (by decide)))
  · intro e
    have hk' : b.gv.ownBlock = some k := hk
    rcases hub k e with q | q
    · exact h.od k hk' q
    · exact q (h.fg k hk')
  · exact (KeptE.of_grown' hg1 h.fb).trans (KeptE.of_grown (F := G) hg h.fx) (fun j hj => .inl hj)
/-- One open reject is laid anew in its place. -/
theorem InR.replB (h : InR w0 A cp st G b W) (bad' : List (ByteArray × Rej)) (hu : W'.ownsRow w0.heap.size 112 16 b.bv bad'.length (bad'.flatMap rlB)) (hg1 : W.grownBy W' b.bv.ownBlock) :
    InR w0 A cp ⟨st.sds, st.fs, st.good, bad'⟩ G b W' ∧ KeptE G W W' := by
  have hs : ∀ k, G k → some k ≠ b.bv.ownBlock → W'.heap[k]? = W.heap[k]? := fun k hk hne2 => hg1.block k (h.fp k hk).2 hne2
  refine ⟨⟨h.grow hg1 h.fb, fun k hk => ⟨(h.fp k hk).1, Nat.lt_of_lt_of_le (h.fp k hk).2 hg1.size⟩, h.fx, h.fl, h.fg, h.fb, ?_, ?_, ?_, hu, h.od⟩, KeptE.of_grown' hg1 h.fb⟩
  · exact (hs _ h.fx (fun e => own_nx h.rb h.x (by decide) e.symm)).trans h.x
  · exact own_same h.rl (fun g hg' => hs g (h.fl g hg') (fun e => by
      rcases own_ne h.rb h.rl (by decide) with k | k
      · rw [k] at hg'; cases hg'
      · exact k (by rw [hg', e])))
  · exact own_same h.rg (fun g hg' => hs g (h.fg g hg') (fun e => h.od g hg' e.symm))
end
end Go.Proofs.YthflmdgfenojcaaGreatDoor
namespace Go.Proofs.YthflmdgfenojcaaGreatDoor
set_option linter.unusedVariables false
open Go.RowKit Go.Sort Go.Maps
theorem in_no {l : List ByteArray} {s : ByteArray} (h : ∀ j, j < l.length → stA l j ≠ s) : decide (s ∈ l) = false := decide_eq_false (fun hm => by
  obtain ⟨j, hj, e⟩ := List.getElem_of_mem hm
  exact h j hj (by rw [stA_get l j hj]; exact e))
theorem in_yes {l : List ByteArray} {s : ByteArray} {k : Nat} (hk : k < l.length) (h : stA l k = s) : decide (s ∈ l) = true := decide_eq_true (by rw [← h, stA_get l k hk]; exact List.getElem_mem hk)
set_option maxRecDepth 1000000 in
set_option maxHeartbeats 3200000 in
theorem rin58_any (A : Option Addr) (cp : Nat) (l : List ByteArray) (s : ByteArray) (w : World) (hr : IsRow w A (l.map Value.string)) (hm : l.length ≤ maxLen) : Calls Tryz.prog 58 #[.slice A l.length cp, .string s] w fun e w' => e = .returned (.bool (decide (s ∈ l))) ∧ w = w' := by
  have HR := Lib.hid hr
  have HNO := Lib.hid (in_no (l := l) (s := s))
  have HYE := Lib.hid (fun k hk h => in_yes (l := l) (s := s) (k := k) hk h)
  unfold maxLen at hm
  clear hr
  generalize decide (s ∈ l) = B at *
  go_enter Tryz.func58, Tryz.ntmps58
  go_wp2_with fail
  go_loop [5] (fun i => ∃ k : Nat, k ≤ l.length ∧ i = .int .i64 k ∧ Hid (∀ j, j < k → stA l j ≠ s)) (fun i => l.length - (intOf i).toNat)
  case atStart => exact ⟨0, Nat.zero_le _, rfl, Lib.hid (fun j hj => absurd hj (Nat.not_lt_zero _))⟩
  case round =>
    obtain ⟨k, hk, rfl, HW⟩ := hrel
    by_cases hlt : k < l.length
    · obtain ⟨b, off, rfl, hcell⟩ := row_st HR.out k hlt
      have c1 := hcell k hlt
      have kI : (k : Int) < (l.length : Int) := by omega
      have k0 : (0 : Int) ≤ (k : Int) := by omega
      have HY0 := Lib.hid (HYE.out k hlt)
      have HST := Lib.hid (fun (h : stA l k ≠ s) j (hj : j < k + 1) => show stA l j ≠ s from by
        rcases Nat.lt_or_ge j k with c | c
        · exact HW.out j c
        · obtain rfl : j = k := by omega
          exact h)
      clear hcell
      generalize stA l k = p at *
      by_cases hp : p = s
      · have HE := Lib.hid (HY0.out hp)
        obtain ⟨t1, -⟩ := str_eq hp
        clear hp HY0 HST
        go_wp2_with fail
        go_ret
        exact ⟨by rw [HE.out]; rfl, rfl⟩
      · have HW2 := Lib.hid (HST.out hp)
        obtain ⟨t1, -⟩ := str_ne hp
        clear hp HY0 HST
        go_wp2_with fail
        exact ⟨⟨k + 1, by omega, by go_num, HW2⟩, by simp [intOf]; omega⟩
    · obtain rfl : k = l.length := by omega
      have kI : ¬ (l.length : Int) < (l.length : Int) := by omega
      have HE := Lib.hid (HNO.out HW.out)
      go_wp2_with fail
      go_ret
      exact ⟨by rw [HE.out]; rfl, rfl⟩
def gAt (l : List (ByteArray × Rec)) (k : Nat) : ByteArray × Rec := l.getD k (noS, zR)
theorem gAt_get (l : List (ByteArray × Rec)) (k : Nat) (h : k < l.length) : gAt l k = l[k] := by unfold gAt; simp [h]
theorem gAt_mem {l : List (ByteArray × Rec)} {k : Nat} (h : k < l.length) : gAt l k ∈ l := by rw [gAt_get l k h]; exact List.getElem_mem h
def oAt (l : List (ByteArray × Rej)) (k : Nat) : ByteArray × Rej := l.getD k (noS, 0, noS, 0)
theorem oAt_get (l : List (ByteArray × Rej)) (k : Nat) (h : k < l.length) : oAt l k = l[k] := by unfold oAt; simp [h]
theorem row_lg {w : World} {A : Option Addr} {l : List (ByteArray × Rec)} (hr : IsRow w A (l.flatMap rlG)) (j : Nat) (h : j < l.length) :
    ∃ b off, A = some ⟨b, off, none⟩ ∧ ∀ k, k < l.length → ∀ i v, (rlG (gAt l k))[i]? = some v → w.cell? ⟨b, off + k * 16 + i, none⟩ = some v := by
  obtain ⟨b, off, rfl, hc⟩ := row_flat rlG 16 (by decide) (fun _ => rfl) hr j h
  exact ⟨b, off, rfl, fun k hk i v hv => hc k hk i v (by rw [← gAt_get l k hk]; exact hv)⟩
theorem row_lb {w : World} {A : Option Addr} {l : List (ByteArray × Rej)} (hr : IsRow w A (l.flatMap rlB)) (j : Nat) (h : j < l.length) :
    ∃ b off, A = some ⟨b, off, none⟩ ∧ ∀ k, k < l.length → ∀ i v, (rlB (oAt l k))[i]? = some v → w.cell? ⟨b, off + k * 16 + i, none⟩ = some v := by
  obtain ⟨b, off, rfl, hc⟩ := row_flat rlB 16 (by decide) (fun _ => rfl) hr j h
  exact ⟨b, off, rfl, fun k hk i v hv => hc k hk i v (by rw [← oAt_get l k hk]; exact hv)⟩
theorem seen_no {l : List (ByteArray × Rec)} {sd id : ByteArray} (h : ∀ j, j < l.length → ¬ ((gAt l j).1 = sd ∧ (gAt l j).2.id = id)) : seenB l sd id = false := by
  unfold seenB
  rw [List.any_eq_false]
  intro x hx
  obtain ⟨j, hj, rfl⟩ := List.getElem_of_mem hx
  have := h j hj
  rw [gAt_get l j hj] at this
  simp only [Bool.and_eq_true, decide_eq_true_eq]
  exact this
theorem seen_yes {l : List (ByteArray × Rec)} {sd id : ByteArray} {k : Nat} (hk : k < l.length) (h1 : (gAt l k).1 = sd) (h2 : (gAt l k).2.id = id) : seenB l sd id = true := seenB_of (gAt_mem hk) h1 h2
section
variable {w0 : World} {A : Option Addr} {cp : Nat} {st : InS} {G : Nat → Prop} {b : RiB} {W W' : World}
set_option maxRecDepth 1000000 in
set_option maxHeartbeats 3200000 in
theorem rseen_any (h : InR w0 A cp st G b W) (hn : st.good.length ≤ 1000000) (sd id : ByteArray) : Calls Tryz.prog 29 #[.pointer (some ⟨b.x, 0, none⟩), .string sd, .string id] W fun e w' => e = .returned (.bool (seenB st.good sd id)) ∧ W = w' := by
  have c2 := h.c2
  have hx := h.xlt
  obtain ⟨Ag, cg, hgv, hr, hcg⟩ := own_form h.rg
  rw [hgv] at c2
  have HR := Lib.hid hr
  have HNO := Lib.hid (seen_no (l := st.good) (sd := sd) (id := id))
  have HYE := Lib.hid (fun k hk h1 h2 => seen_yes (l := st.good) (sd := sd) (id := id) (k := k) hk h1 h2)
  generalize seenB st.good sd id = B at *
  generalize st.good = l at *
  clear h hr hgv
  go_enter Tryz.func29, Tryz.ntmps29
  go_wp2_with fail
  go_loop [7] (fun i => ∃ k : Nat, k ≤ l.length ∧ i = .int .i64 k ∧ Hid (∀ j, j < k → ¬ ((gAt l j).1 = sd ∧ (gAt l j).2.id = id))) (fun i => l.length - (intOf i).toNat)
  case atStart => exact ⟨0, Nat.zero_le _, rfl, Lib.hid (fun j hj => absurd hj (Nat.not_lt_zero _))⟩
  case round =>
    obtain ⟨k, hk, rfl, HW⟩ := hrel
    by_cases hlt : k < l.length
    · obtain ⟨bb, off, rfl, hcell⟩ := row_lg HR.out k hlt
      have d0 := hcell k hlt 0 _ rfl
      have d2 := hcell k hlt 2 _ rfl
      rw [Nat.add_zero] at d0
      have kI : (k : Int) < (l.length : Int) := by omega
      have k0 : (0 : Int) ≤ (k : Int) := by omega
      have HY0 := Lib.hid (HYE.out k hlt)
      have HST := Lib.hid (fun (h : ¬ ((gAt l k).1 = sd ∧ (gAt l k).2.id = id)) j (hj : j < k + 1) => show ¬ ((gAt l j).1 = sd ∧ (gAt l j).2.id = id) from by
        rcases Nat.lt_or_ge j k with c | c
        · exact HW.out j c
        · obtain rfl : j = k := by omega
          exact h)
      clear hcell
      generalize gAt l k = x at *
      obtain ⟨p, r⟩ := x
      obtain ⟨K, rid, au, aq, is, me, ca, a, cu, dd, cg', ff⟩ := r
      dsimp only at d0 d2 HY0 HST
      by_cases hp : p = sd
      · by_cases hq : rid = id
        · have HE := Lib.hid (HY0.out hp hq)
          obtain ⟨t1, -⟩ := str_eq hp
          obtain ⟨t2, -⟩ := str_eq hq
          clear hp hq HY0 HST
          go_wp2_with fail
          go_ret
          exact ⟨by rw [HE.out]; rfl, rfl⟩
        · have HW2 := Lib.hid (HST.out (fun q => hq q.2))
          obtain ⟨t1, -⟩ := str_eq hp
          obtain ⟨t2, -⟩ := str_ne hq
          clear hp hq HY0 HST
          go_wp2_with fail
          exact ⟨⟨k + 1, by omega, by go_num, HW2⟩, by simp [intOf]; omega⟩
      · have HW2 := Lib.hid (HST.out (fun q => hp q.1))
        obtain ⟨t1, -⟩ := str_ne hp
        clear hp HY0 HST
        go_wp2_with fail
        exact ⟨⟨k + 1, by omega, by go_num, HW2⟩, by simp [intOf]; omega⟩
    · obtain rfl : k = l.length := by omega
      have kI : ¬ (l.length : Int) < (l.length : Int) := by omega
      have HE := Lib.hid (HNO.out HW.out)
      go_wp2_with fail
      go_ret
      exact ⟨by rw [HE.out]; rfl, rfl⟩
set_option maxRecDepth 1000000 in
set_option maxHeartbeats 3200000 in
theorem rfiles_any (h : InR w0 A cp st G b W) (hn : st.fs.length ≤ 1000000) : Calls Tryz.prog 23 #[.pointer (some ⟨b.x, 0, none⟩)] W (RowPost 9 1 st.fs.length (st.fs.map fun x => .string x.2) W) := by
  have hx := h.xlt
  obtain ⟨Al, cl, hlv, hr, hcl⟩ := own_form h.rl
  have HC : Hid (∀ X, Below W.heap.size W X → X.cell? ⟨b.x, 1, none⟩ = some (.slice Al st.fs.length cl)) := Lib.hid (fun X hb => by
    have := h.c1
    rw [hlv] at this
    exact cell_later hb this)
  have HR := Lib.hid hr
  obtain ⟨i9, HI⟩ := info_parts info9
  have HI := Lib.hid HI
  have HS0 : Hid (FilS st.fs 0 W W (.slice none 0 0)) := Lib.hid ⟨World.ownsRow_nil _ _ _ _, Below.refl _ _⟩
  generalize st.fs = l at *
  clear h hr hlv
  have hcx := HC.out W (Below.refl _ _)
  go_enter Tryz.func23, Tryz.ntmps23
  go_wp2_with fail
  clear hcx
  go_loopw [3, 4] (fun v i wr => ∃ k : Nat, k ≤ l.length ∧ i = .int .i64 k ∧ Hid (FilS l k W wr v)) (fun _ i _ => l.length - (intOf i).toNat)
  case atStart => exact ⟨0, Nat.zero_le _, rfl, HS0⟩
  case round =>
    clear HS0
    obtain ⟨k, hk, rfl, HW⟩ := hrel
    have cx := HC.out wr HW.out.b
    have hxw : b.x < wr.heap.size := Nat.lt_of_lt_of_le hx HW.out.b.size
    by_cases hlt : k < l.length
    · have kI : (k : Int) < (l.length : Int) := by omega
      have k0 : (0 : Int) ≤ (k : Int) := by omega
      obtain ⟨bb, off, rfl, hcell⟩ := row_file HR.out k hlt
      obtain ⟨d0, d1⟩ := hcell k hlt
      have d0 := cell_later HW.out.b d0
      have d1 := cell_later HW.out.b d1
      have HT : Hid ((l.take (k + 1)).map (fun x => Value.string x.2) = (l.take k).map (fun x => Value.string x.2) ++ [.string (fAt l k).2]) := Lib.hid (by rw [List.take_succ_eq_append_getElem hlt, List.map_append, fAt_get l k hlt]; rfl)
      obtain ⟨⟨p, q⟩, hp⟩ : ∃ x, fAt l k = x := ⟨_, rfl⟩
      rw [hp] at d0 d1 HT
      clear hcell hp
      dsimp only at d0 d1 HT
      have HO := Lib.hid (HW.out.o.alloc (.cells #[.string q] 9))
      have HBw := Lib.hid (HW.out.b.trans ((bx wr (.cells #[.string q] 9)).mono HW.out.b.size))
      have hsz := HW.out.b.size
      go_wp2_with (at_builtin; refine wpList_append_own _ rfl (.tmp 18) (.tmp 27) _ rfl W.heap.size 9 i9 _ 1 16 Tryz.underlying22 HI.out.1 HI.out.2.1 HI.out.2.2.1 HI.out.2.2.2 rfl (by omega) _ _ _ rfl HO.out ⟨wr.heap.size, 0, none⟩ 1 1 [.string q] rfl rfl (World.news_of_block (cs := #[.string q]) (t := 9) (fr := (0, 0)) (heap_alloc_new wr _)) (by simp [Value.oneCell']) (by unfold maxLen; omega) (by omega) (by simp; omega) ?_; intro v2 w2 hown hgrow hnil; have HA := Lib.hid hown; have HG := Lib.hid hgrow; clear hown hgrow hnil)
      have HW2 : Hid (FilS l (k + 1) W w2 v2) := Lib.hid ⟨by rw [HT.out]; exact HA.out, HBw.out.grown HG.out HBw.out.size (fun j hj => (HO.out.lt j hj).1)⟩
      exact ⟨⟨k + 1, by omega, by go_num, HW2⟩, by simp [intOf]; omega⟩
    · obtain rfl : k = l.length := by omega
      have kI : ¬ (l.length : Int) < (l.length : Int) := by omega
      go_wp2_with fail
      go_ret
      exact ⟨_, rfl, by have := HW.out.o; rwa [List.take_length] at this, HW.out.b⟩
end
end Go.Proofs.YthflmdgfenojcaaGreatDoor
namespace Go.Proofs.YthflmdgfenojcaaGreatDoor
set_option linter.unusedVariables false
open Go.RowKit Go.Sort Go.Maps
theorem open_yes {l : List (ByteArray × Rej)} {sd : ByteArray} {k : Nat} (hk : k < l.length) (h : (oAt l k).1 = sd) : openOf (l.take (k + 1)) sd = openOf (l.take k) sd ++ [(oAt l k).2] := by
  unfold openOf
  rw [oAt_get l k hk] at h ⊢
  rw [List.take_succ_eq_append_getElem hk, List.filter_append, List.map_append]
  simp [h]
theorem open_no {l : List (ByteArray × Rej)} {sd : ByteArray} {k : Nat} (hk : k < l.length) (h : (oAt l k).1 ≠ sd) : openOf (l.take (k + 1)) sd = openOf (l.take k) sd := by
  unfold openOf
  rw [oAt_get l k hk] at h
  rw [List.take_succ_eq_append_getElem hk, List.filter_append, List.map_append]
  simp [h]
theorem open_le (l : List (ByteArray × Rej)) (sd : ByteArray) (k : Nat) : (openOf (l.take k) sd).length ≤ k := by
  unfold openOf
  rw [List.length_map]
  refine Nat.le_trans (List.length_filter_le _ _) ?_
  rw [List.length_take]; omega
structure OpnS (rs : List Rej) (w W : World) (v : Value) : Prop where
  o : W.ownsRow w.heap.size 65 3 v rs.length (rs.flatMap rejF)
  b : Below w.heap.size w W
theorem OpnS.app {rs : List Rej} {w W W' : World} {v u : Value} (h : OpnS rs w W v) (r : Rej) (ho : W'.ownsRow w.heap.size 65 3 u (rs.length + 1) (rs.flatMap rejF ++ rejF r)) (hg : W.grownBy W' v.ownBlock) : OpnS (rs ++ [r]) w W' u :=
  ⟨by rw [List.length_append, List.flatMap_append]; simpa using ho, h.b.grown hg h.b.size (fun j hj => (h.o.lt j hj).1)⟩
theorem OpnS.below {rs : List Rej} {w W W' : World} {v : Value} (h : OpnS rs w W v) (hb : Below W.heap.size W W') : OpnS rs w W' v := ⟨own_later h.o hb, h.b.trans (hb.mono h.b.size)⟩
section
variable {w0 : World} {A : Option Addr} {cp : Nat} {st : InS} {G : Nat → Prop} {b : RiB} {W W' : World}
set_option maxRecDepth 1000000 in
set_option maxHeartbeats 3200000 in
theorem ropen_any (h : InR w0 A cp st G b W) (hn : st.bad.length ≤ 1000000) (sd : ByteArray) : Calls Tryz.prog 25 #[.pointer (some ⟨b.x, 0, none⟩), .string sd] W (RowPost 65 3 (openOf st.bad sd).length ((openOf st.bad sd).flatMap rejF) W) := by
  have hx := h.xlt
  obtain ⟨Al, cl, hlv, hr, hcl⟩ := own_form h.rb
  have HC : Hid (∀ X, Below W.heap.size W X → X.cell? ⟨b.x, 3, none⟩ = some (.slice Al st.bad.length cl)) := Lib.hid (fun X hb => by
    have := h.c3
    rw [hlv] at this
    exact cell_later hb this)
  have HR := Lib.hid hr
  obtain ⟨i65, HI⟩ := info_parts mk65
  have HI := Lib.hid HI
  have HS0 : Hid (OpnS (openOf (st.bad.take 0) sd) W W (.slice none 0 0)) := Lib.hid ⟨World.ownsRow_nil _ _ _ _, Below.refl _ _⟩
  generalize st.bad = l at *
  clear h hr hlv
  have hcx := HC.out W (Below.refl _ _)
  go_enter Tryz.func25, Tryz.ntmps25
  go_wp2_with fail
  clear hcx
  go_loopw [5, 6] (fun v i wr => ∃ k : Nat, k ≤ l.length ∧ i = .int .i64 k ∧ Hid (OpnS (openOf (l.take k) sd) W wr v)) (fun _ i _ => l.length - (intOf i).toNat)
  case atStart => exact ⟨0, Nat.zero_le _, rfl, HS0⟩
  case round =>
    clear HS0
    obtain ⟨k, hk, rfl, HW⟩ := hrel
    have cx := HC.out wr HW.out.b
    have hxw : b.x < wr.heap.size := Nat.lt_of_lt_of_le hx HW.out.b.size
    by_cases hlt : k < l.length
    · have kI : (k : Int) < (l.length : Int) := by omega
      have k0 : (0 : Int) ≤ (k : Int) := by omega
      obtain ⟨bb, off, rfl, hcell⟩ := row_lb HR.out k hlt
      have d0 := cell_later HW.out.b (hcell k hlt 0 _ rfl)
      have d1 := cell_later HW.out.b (hcell k hlt 13 _ rfl)
      have d2 := cell_later HW.out.b (hcell k hlt 14 _ rfl)
      have d3 := cell_later HW.out.b (hcell k hlt 15 _ rfl)
      rw [Nat.add_zero] at d0
      have HTY := Lib.hid (open_yes (sd := sd) hlt)
      have HTN := Lib.hid (open_no (sd := sd) hlt)
      have hln := open_le l sd k
      clear hcell
      generalize oAt l k = x at *
      generalize openOf (l.take k) sd = rs at *
      obtain ⟨p, x1, x2, x3⟩ := x
      dsimp only at d0 d1 d2 d3 HTY HTN
      by_cases hp : p = sd
      · obtain ⟨t1, -⟩ := str_eq hp
        have HT := Lib.hid (HTY.out hp)
        have HO := Lib.hid (HW.out.below (bx wr (.cells #[.int .i64 x1, .string x2, .int .i64 x3] 65)))
        have hsz := HW.out.b.size
        clear hp HTY HTN
        go_wp2_with (at_builtin; refine wpList_append_own _ rfl (.tmp 30) (.tmp 39) _ rfl W.heap.size 65 i65 _ 3 32 Tryz.underlying35 HI.out.1 HI.out.2.1 HI.out.2.2.1 HI.out.2.2.2 rfl (by omega) _ _ _ rfl HO.out.o ⟨wr.heap.size, 0, none⟩ 1 1 [.int .i64 x1, .string x2, .int .i64 x3] rfl rfl (World.news_of_block (cs := #[.int .i64 x1, .string x2, .int .i64 x3]) (t := 65) (fr := (0, 0)) (heap_alloc_new wr _)) (by simp [Value.oneCell']) (by unfold maxLen; omega) (by omega) (by simp; omega) ?_; intro v2 w2 hown hgrow hnil; have HA := Lib.hid (HO.out.app (x1, x2, x3) hown hgrow); clear hown hgrow hnil)
        have HW2 : Hid (OpnS (openOf (l.take (k + 1)) sd) W w2 v2) := Lib.hid (by rw [HT.out]; exact HA.out)
        exact ⟨⟨k + 1, by omega, by go_num, HW2⟩, by simp [intOf]; omega⟩
      · obtain ⟨t1, -⟩ := str_ne hp
        have HT := Lib.hid (HTN.out hp)
        have HW2 : Hid (OpnS (openOf (l.take (k + 1)) sd) W wr u5) := Lib.hid (by rw [HT.out]; exact HW.out)
        clear hp HTY HTN
        go_wp2_with fail
        exact ⟨⟨k + 1, by omega, by go_num, HW2⟩, by simp [intOf]; omega⟩
    · obtain rfl : k = l.length := by omega
      have kI : ¬ (l.length : Int) < (l.length : Int) := by omega
      have HE := Lib.hid HW.out
      rw [List.take_length] at HE
      go_wp2_with fail
      go_ret
      exact ⟨_, rfl, HE.out.o, HE.out.b⟩
end
end Go.Proofs.YthflmdgfenojcaaGreatDoor
