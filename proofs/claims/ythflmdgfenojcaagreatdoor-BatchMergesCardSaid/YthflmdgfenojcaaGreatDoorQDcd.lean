/- Part of the proof over this seat. -/
import Derived.Test.YthflmdgfenojcaaGreatDoorQExm
namespace Go.Proofs.YthflmdgfenojcaaGreatDoor
set_option linter.unusedVariables false
open Go.RowKit Go.Sort Go.Maps
theorem mk65 : (Tryz.prog.info? 65).map (fun i => (i.zero, i.size, i.bytes)) = some (some (.agg #[.int .i64 0, .string ⟨#[]⟩, .int .i64 0]), 3, 32) := by kernel_rfl
def rejF (x : Nat × ByteArray × Int) : List Value := [.int .i64 (x.1 : Int), .string x.2.1, .int .i64 x.2.2]
theorem own_ne {B1 B2 e1 e2 s1 s2 n1 n2 : Nat} {v1 v2 : Value} {xs1 xs2 : List Value} {w : World} (h1 : w.ownsRow B1 e1 s1 v1 n1 xs1) (h2 : w.ownsRow B2 e2 s2 v2 n2 xs2) (he : e1 ≠ e2) : v2.ownBlock = none ∨ v2.ownBlock ≠ v1.ownBlock := by
  rcases h1.2 with ⟨rfl, -⟩ | ⟨g, c, cur, rfl, -, hg, -⟩
  · rcases h2.2 with ⟨rfl, -⟩ | ⟨g2, c2, cur2, rfl, -, hg2, -⟩
    · exact .inl rfl
    · exact .inr (by simp [Value.ownBlock])
  · rcases h2.2 with ⟨rfl, -⟩ | ⟨g2, c2, cur2, rfl, -, hg2, -⟩
    · exact .inl rfl
    · refine .inr (fun q => ?_)
      have q : g2 = g := by simpa [Value.ownBlock] using q
      rw [q] at hg2
      rw [hg] at hg2
      injection hg2 with hg2
      injection hg2 with _ hg2
      exact he hg2
theorem own_base {B B' e size n : Nat} {v : Value} {xs : List Value} {w : World} (h : w.ownsRow B e size v n xs) (hB : B' ≤ B) : w.ownsRow B' e size v n xs := by
  refine ⟨h.1, ?_⟩
  rcases h.2 with q | ⟨g, cap, cur, q1, q2, q3⟩
  · exact .inl q
  · exact .inr ⟨g, cap, cur, q1, by omega, q3⟩
theorem own_later {B e size n : Nat} {v : Value} {xs : List Value} {w w' : World} (h : w.ownsRow B e size v n xs) (hb : Below w.heap.size w w') : w'.ownsRow B e size v n xs :=
  h.kept (row := none) ⟨hb.os, hb.tape, hb.output, hb.size, fun k hk _ => hb.block k hk⟩ (Classical.em _)
theorem grown_lt {w w' : World} {b : Option Nat} {B : Nat} (hg : w.grownBy w' b) {o : Obj} {k : Nat} (hk : w.heap[k]? = some o) (hne : some k ≠ b) : w'.heap[k]? = some o := by
  rw [hg.block k (Array.getElem?_eq_some_iff.1 hk).1 hne]; exact hk
/-- The state of Decode's loop: the file so far, the names so far, the records and the rejects. -/
structure DcS (X : World) (id sd : ByteArray) (dt : Int) (v8 v9 : Value) (st : RdS) (W : World) : Prop where
  bb : W.heap[X.heap.size]? = some (.cells #[.string id, .string sd, .int .i64 dt, v8] 61)
  ms : SSet W (X.heap.size + 1) (idsOf st.rs)
  o8 : W.ownsRow (X.heap.size + 2) 57 12 v8 st.rs.length (st.rs.flatMap recF)
  o9 : W.ownsRow (X.heap.size + 2) 65 3 v9 st.bad.length (st.bad.flatMap rejF)
  be : Below X.heap.size X W
section
variable {X W W' : World} {id sd : ByteArray} {dt : Int} {v8 v9 u : Value} {st : RdS}
theorem DcS.start (X : World) (id sd : ByteArray) (dt : Int) : DcS X id sd dt (.slice none 0 0) (.slice none 0 0) ⟨[], []⟩ ((X.alloc (.cells #[.string id, .string sd, .int .i64 dt, .slice none 0 0] 61)).alloc (.map #[] 0)) := by
  have e : (X.alloc (.cells #[.string id, .string sd, .int .i64 dt, .slice none 0 0] 61)).heap.size = X.heap.size + 1 := Array.size_push _
  refine ⟨blk_later (heap_alloc_new X _) (bx _ _), ?_, World.ownsRow_nil _ _ _ _, World.ownsRow_nil _ _ _ _, (bx X _).trans ((bx _ _).mono (by omega))⟩
  rw [← e]; exact SSet.made _
theorem DcS.below (h : DcS X id sd dt v8 v9 st W) (hb : Below W.heap.size W W') : DcS X id sd dt v8 v9 st W' :=
  ⟨blk_later h.bb hb, h.ms.below hb, own_later h.o8 hb, own_later h.o9 hb, h.be.trans (hb.mono h.be.size)⟩
theorem own_far {B e size n : Nat} {v : Value} {xs : List Value} (h : W.ownsRow B e size v n xs) {k : Nat} (hk : k < B) : some k ≠ v.ownBlock := fun e => by have := (h.lt k e.symm).1; omega
theorem own_far' {B e size n : Nat} {v : Value} {xs : List Value} (h : W.ownsRow B e size v n xs) {k : Nat} (hk : k < B) : v.ownBlock = none ∨ v.ownBlock ≠ some k := .inr (fun e => own_far h hk e.symm)
/-- One more reject. -/
theorem DcS.bad (h : DcS X id sd dt v8 v9 st W) (x : Nat × ByteArray × Int) (h9 : W'.ownsRow (X.heap.size + 2) 65 3 u (st.bad.length + 1) (st.bad.flatMap rejF ++ rejF x)) (hg : W.grownBy W' v9.ownBlock) : DcS X id sd dt v8 u ⟨st.rs, st.bad ++ [x]⟩ W' :=
  ⟨grown_lt (B := 0) hg h.bb (own_far h.o9 (by omega)), h.ms.kept hg (own_far h.o9 (by omega)), h.o8.kept hg (own_ne h.o9 h.o8 (by decide)), by
    show W'.ownsRow _ 65 3 u (st.bad ++ [x]).length _
    rw [List.length_append, List.flatMap_append]; simpa using h9, h.be.grown hg h.be.size (fun j hj => by have := (h.o9.lt j hj).1; omega)⟩
/-- The name is laid into the map. -/
theorem DcS.name (h : DcS X id sd dt v8 v9 st W) (d : ByteArray) (hs : SSet W' (X.heap.size + 1) (idsOf st.rs ++ [d])) (hg : W.grownBy W' (some (X.heap.size + 1))) :
    W'.heap[X.heap.size]? = some (.cells #[.string id, .string sd, .int .i64 dt, v8] 61) ∧ SSet W' (X.heap.size + 1) (idsOf st.rs ++ [d]) ∧ W'.ownsRow (X.heap.size + 2) 57 12 v8 st.rs.length (st.rs.flatMap recF) ∧ W'.ownsRow (X.heap.size + 2) 65 3 v9 st.bad.length (st.bad.flatMap rejF) ∧ Below X.heap.size X W' :=
  ⟨grown_lt (B := 0) hg h.bb (by simp), hs, h.o8.kept hg (own_far' h.o8 (by omega)), h.o9.kept hg (own_far' h.o9 (by omega)), h.be.grown hg h.be.size (fun j hj => by cases hj; omega)⟩
end
structure DcN (X : World) (id sd : ByteArray) (dt : Int) (v8 v9 : Value) (st : RdS) (d : ByteArray) (W : World) : Prop where
  bb : W.heap[X.heap.size]? = some (.cells #[.string id, .string sd, .int .i64 dt, v8] 61)
  ms : SSet W (X.heap.size + 1) (idsOf st.rs ++ [d])
  o8 : W.ownsRow (X.heap.size + 2) 57 12 v8 st.rs.length (st.rs.flatMap recF)
  o9 : W.ownsRow (X.heap.size + 2) 65 3 v9 st.bad.length (st.bad.flatMap rejF)
  be : Below X.heap.size X W
section
variable {X W W' : World} {id sd d : ByteArray} {dt : Int} {v8 v9 u : Value} {st : RdS}
theorem DcN.below (h : DcN X id sd dt v8 v9 st d W) (hb : Below W.heap.size W W') : DcN X id sd dt v8 v9 st d W' :=
  ⟨blk_later h.bb hb, h.ms.below hb, own_later h.o8 hb, own_later h.o9 hb, h.be.trans (hb.mono h.be.size)⟩
/-- The record is appended, and the file's list of records is stored. -/
theorem DcN.good (h : DcN X id sd dt v8 v9 st d W) (r : Rec) (hr : r.id = d) (h8 : W'.ownsRow (X.heap.size + 2) 57 12 u (st.rs.length + 1) (st.rs.flatMap recF ++ recF r)) (hg : W.grownBy W' v8.ownBlock) :
    DcS X id sd dt u v9 ⟨st.rs ++ [r], st.bad⟩ (W'.setCell ⟨X.heap.size, 3, none⟩ u) := by
  have hbb := grown_lt (B := 0) hg h.bb (own_far h.o8 (by omega))
  have hms := h.ms.kept hg (own_far h.o8 (by omega))
  have ho9 := h.o9.kept hg (own_ne h.o8 h.o9 (by decide))
  have hbe := h.be.grown hg h.be.size (fun j hj => by have := (h.o8.lt j hj).1; omega)
  have hset : W'.grownBy (W'.setCell ⟨X.heap.size, 3, none⟩ u) (some X.heap.size) := ⟨rfl, rfl, rfl, by simp [World.setCell], fun k _ hk => Below.heap_setCell _ _ _ _ (fun e => hk (by rw [e]))⟩
  refine ⟨by rw [heap_set1 hbb 3 u]; rfl, ?_, ?_, ho9.kept hset (own_far' ho9 (by omega)), hbe.setCell (p := ⟨X.heap.size, 3, none⟩) (Nat.le_refl _) u⟩
  · have : idsOf (st.rs ++ [r]) = idsOf st.rs ++ [d] := by unfold idsOf; rw [List.map_append, ← hr]; rfl
    show SSet _ _ (idsOf (st.rs ++ [r]))
    rw [this]
    exact hms.kept hset (by simp)
  · show World.ownsRow _ _ 57 12 u (st.rs ++ [r]).length ((st.rs ++ [r]).flatMap recF)
    rw [List.length_append, List.flatMap_append]
    have := h8.kept hset (own_far' h8 (by omega))
    simpa using this
end
theorem rd_len (s : ByteArray) : ∀ k, (rdK s k).rs.length + (rdK s k).bad.length = k
  | 0 => rfl
  | k + 1 => by
    have ih := rd_len s k
    rw [rdK_succ]
    unfold rdStep
    split
    · simp; omega
    · simp; omega
theorem results_row_tmp2 {P : Program} {fn : Func} {p u u2 : Tmp} {ty : TypeId} (h : fn.results = #[.cell p ty, .tmp u, .tmp u2]) (tmps : Array Value) (w : World) (g : Nat) (t : TypeId) (cs : Array Value) (fr : Nat × Nat) (d : TypeDesc) (v v2 : Value)
    (hp : tmps.getD p undef = .pointer (some ⟨g, 0, none⟩)) (hv : tmps.getD u undef = v) (hv2 : tmps.getD u2 undef = v2) (hg : w.heap[g]? = some (.cells cs t fr))
    (hu : P.underlying ty = some d) (hd : (match d with | .struct _ | .array _ _ => true | _ => false) = true) (hi : (P.info? ty).map (·.size) = some cs.size) :
    (results fn tmps).run P w = .ok (.tuple #[.agg cs, v, v2]) w := by
  have hp' : tmps[p]?.getD undef = .pointer (some ⟨g, 0, none⟩) := by simpa using hp
  have hv' : tmps[u]?.getD undef = v := by simpa using hv
  have hv2' : tmps[u2]?.getD undef = v2 := by simpa using hv2
  simp [results, h, hp', hv', hv2', asAddr, run_loadVar_row w g t ty cs fr d hg hu hd hi]
def btC (id sd : ByteArray) (dt : Int) (v : Value) : Array Value := #[.string id, .string sd, .int .i64 dt, v]
theorem info61 (id sd : ByteArray) (dt : Int) (v : Value) : (Tryz.prog.info? 61).map (·.size) = some (btC id sd dt v).size := by kernel_rfl
def zbt : Array Value := btC ⟨#[]⟩ ⟨#[]⟩ 0 (.slice none 0 0)
theorem zbt_one : zbt.all (·.oneCell') = true := by unfold zbt btC; simp [Value.oneCell']
def BdcPost (s : ByteArray) (w : World) (e : Ending) (w' : World) : Prop :=
  ∃ v8 v9, e = .returned (.tuple #[.agg (btC (fileV s).id (fileV s).sd (fileV s).dt v8), v9, .int .i64 (fileE s)]) ∧ w'.ownsRow w.heap.size 57 12 v8 (fileV s).rs.length ((fileV s).rs.flatMap recF) ∧ w'.ownsRow w.heap.size 65 3 v9 (fileB s).length ((fileB s).flatMap rejF) ∧ Below w.heap.size w w'
theorem bdc_bad {s : ByteArray} (h : fileE s ≠ 0) {w W : World} (hb : Below w.heap.size w W) : BdcPost s w (.returned (.tuple #[.agg zbt, .slice none 0 0, .int .i64 (fileE s)])) W := by
  refine ⟨.slice none 0 0, .slice none 0 0, ?_, ?_, ?_, hb⟩
  · unfold fileV; rw [if_neg h]; rfl
  · unfold fileV; rw [if_neg h]; exact World.ownsRow_nil _ _ _ _
  · unfold fileB; rw [if_neg h]; exact World.ownsRow_nil _ _ _ _
end Go.Proofs.YthflmdgfenojcaaGreatDoor
