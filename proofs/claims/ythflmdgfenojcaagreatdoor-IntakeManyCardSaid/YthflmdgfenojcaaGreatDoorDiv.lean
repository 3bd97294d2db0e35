/- Divided files: what divide makes; CutPrefix. -/
import Derived.Test.YthflmdgfenojcaaGreatDoorDs1
import Derived.Test.YthflmdgfenojcaaGreatDoorBnm
import Derived.Test.YthflmdgfenojcaaGreatDoorClm
import Derived.Test.YthflmdgfenojcaaGreatDoorPrt2
import Derived.Deep.RegionHeld3
import Derived.Outline
namespace Go.Proofs.YthflmdgfenojcaaGreatDoor
set_option linter.unusedVariables false
open Go.RowKit Go.Sort

/-- A divided file. -/
structure Frm where
  id : ByteArray
  sd : ByteArray
  dt : Int
  A : Option Addr
  n : Nat
  c : Nat
  t : Nat → Int
  ck : ByteArray
  cv : ByteArray
def Frm.cells (f : Frm) : Array Value := #[.string f.id, .string f.sd, .int .i64 f.dt, .slice f.A f.n f.c, .int .i64 (f.t 0), .int .i64 (f.t 1), .int .i64 (f.t 2), .int .i64 (f.t 3), .string f.ck, .string f.cv]
def Frm.val (f : Frm) : Value := .agg f.cells
def zfrm : Frm := ⟨⟨#[]⟩, ⟨#[]⟩, 0, none, 0, 0, fun _ => 0, ⟨#[]⟩, ⟨#[]⟩⟩
theorem info147 (f : Frm) : (Tryz.prog.info? 147).map (·.size) = some f.cells.size := by kernel_rfl
theorem frm_one (f : Frm) : f.cells.all (·.oneCell') = true := by unfold Frm.cells; simp [Value.oneCell']
structure DvS (L : List ByteArray) (w : World) (G FB : Nat) (F : Frm) (W : World) : Prop where
  k : W.heap[w.heap.size]? = some (.cells zfrm.cells 147)
  l : W.heap[G]? = some (.cells (L.map Value.string).toArray 9)
  f : W.heap[FB]? = some (.cells F.cells 147)
  be : Below w.heap.size w W
  n1 : w.heap.size < G
  n2 : G < FB
section
variable {L : List ByteArray} {w W W' : World} {G FB : Nat} {F F' : Frm}
theorem DvS.below (h : DvS L w G FB F W) (hb : Below W.heap.size W W') : DvS L w G FB F W' :=
  ⟨blk_later h.k hb, blk_later h.l hb, blk_later h.f hb, h.be.trans (hb.mono h.be.size), h.n1, h.n2⟩
theorem DvS.set (h : DvS L w G FB F W) (o : Nat) (v : Value) (he : F.cells.setIfInBounds o v = F'.cells) : DvS L w G FB F' (W.setCell ⟨FB, o, none⟩ v) :=
  ⟨(Below.heap_setCell _ _ _ _ (by have := h.n1; have := h.n2; simp; omega)).trans h.k, (Below.heap_setCell _ _ _ _ (by have := h.n2; simp; omega)).trans h.l, by rw [← he]; exact heap_set1 h.f o v, h.be.setCell (p := ⟨FB, o, none⟩) (by have := h.n1; have := h.n2; show w.heap.size ≤ FB; omega) v, h.n1, h.n2⟩
end
theorem divE_1 {s : ByteArray} (h : Lib.countB s lfS < 3) : divE s = 1 := by unfold divE; rw [if_pos h]
theorem divE_2 {s : ByteArray} (h : ¬ Lib.countB s lfS < 3) (h2 : ¬ (Lib.hasSuffix s.data.toList [10] = true ∧ FormF s)) : divE s = 2 := by unfold divE; rw [if_neg h, if_neg h2]
theorem divE_0 {s : ByteArray} (h : ¬ Lib.countB s lfS < 3) (h2 : Lib.hasSuffix s.data.toList [10] = true) (h3 : FormF s) : divE s = 0 := by unfold divE; rw [if_neg h, if_pos ⟨h2, h3⟩]
/-- What divide makes of a text. -/
def frmOf (s : ByteArray) (g c : Nat) : Frm := ⟨hdP s 1, hdP s 2, numV (hdP s 3), some ⟨g, 1, none⟩, nRc s, c, fun j => numV (trP s (j + 1)), ckD s, cov s⟩
def DivPost (s : ByteArray) (w : World) (e : Ending) (w' : World) : Prop :=
  Below w.heap.size w w' ∧ ((divE s ≠ 0 ∧ e = .returned (.tuple #[zfrm.val, .int .i64 (divE s)])) ∨
    (divE s = 0 ∧ ∃ g c, e = .returned (.tuple #[(frmOf s g c).val, .int .i64 0]) ∧ nRc s ≤ c ∧ IsRow w' (some ⟨g, 1, none⟩) ((recLs s).map Value.string)))
theorem prt_le {l : List ByteArray} {M : Nat} (h : ∀ x ∈ l, x.size ≤ M) (j : Nat) : (prt l j).size ≤ M := by
  unfold prt
  rcases Nat.lt_or_ge j l.length with c | c
  · rw [List.getD_eq_getElem?_getD, List.getElem?_eq_getElem c]; exact h _ (List.getElem_mem c)
  · rw [List.getD_eq_getElem?_getD, List.getElem?_eq_none c]; exact Nat.zero_le _
theorem lnAt_size (s : ByteArray) (k : Nat) : (lnAt s k).size ≤ s.size := by
  unfold lnAt
  refine prt_le (fun x hx => Nat.le_trans (lnS_size _ x hx) ?_) k
  unfold bodyOf
  rw [ByteArray.size_extract]; omega
def CpPost (s : ByteArray) (w : World) (e : Ending) (w' : World) : Prop := (Lib.hasPrefix s.data.toList [67, 124] = true ∧ e = .returned (.tuple #[.string (s.extract 2 s.size), .bool true]) ∧ w = w') ∨ (Lib.hasPrefix s.data.toList [67, 124] = false ∧ e = .returned (.tuple #[.string s, .bool false]) ∧ w = w')
theorem pref_size {s : ByteArray} (h : Lib.hasPrefix s.data.toList [67, 124] = true) : 2 ≤ s.size := by
  unfold Lib.hasPrefix at h
  obtain ⟨p, hp⟩ := List.isPrefixOf_iff_prefix.1 h
  rw [Lib.size_eq, ← hp]; simp
theorem icutp_any (s : ByteArray) (w : World) (hs : s.size ≤ maxLen) : Calls Tryz.prog 177 #[.string s, .string ⟨#[67, 124]⟩] w (CpPost s w) := by
  have HH := Lib.hid (Tryz.stringslite_HasPrefix s ⟨#[67, 124]⟩ w)
  have HP := Lib.hid (pref_size (s := s))
  rw [show (⟨#[67, 124]⟩ : ByteArray).data.toList = [67, 124] from rfl] at HH
  unfold CpPost
  unfold maxLen at hs
  generalize Lib.hasPrefix s.data.toList [67, 124] = B at *
  cases B with
  | false =>
    go_enter Tryz.func177, Tryz.ntmps177
    go_wp2_with fail
    refine HH.out.mono ?_
    rintro e w1 ⟨rfl, rfl⟩
    go_wp2_with fail
    go_ret2
    exact .inr ⟨by trivial, rfl, rfl⟩
  | true =>
    have h2 := HP.out rfl
    go_enter Tryz.func177, Tryz.ntmps177
    go_wp2_with fail
    refine HH.out.mono ?_
    rintro e w1 ⟨rfl, rfl⟩
    go_wp2_with fail
    go_ret2
    exact .inl ⟨by trivial, rfl, rfl⟩
theorem cutp_any (s : ByteArray) (w : World) (hs : s.size ≤ maxLen) : Calls Tryz.prog 148 #[.string s, .string ⟨#[67, 124]⟩] w (CpPost s w) := by
  have HH := Lib.hid (icutp_any s w hs)
  unfold CpPost at *
  clear hs
  go_enter Tryz.func148, Tryz.ntmps148
  go_wp2_with fail
  refine HH.out.mono ?_
  rintro e w1 (⟨h1, rfl, rfl⟩ | ⟨h1, rfl, rfl⟩)
  · have H1 := Lib.hid h1
    clear h1
    go_wp2_with fail
    go_ret2
    exact .inl ⟨H1.out, rfl, rfl⟩
  · have H1 := Lib.hid h1
    clear h1
    go_wp2_with fail
    go_ret2
    exact .inr ⟨H1.out, rfl, rfl⟩
theorem recLs_at {s : ByteArray} {j : Nat} {v : Value} (h : ((recLs s).map Value.string)[j]? = some v) : j < nRc s ∧ v = .string (rcL s j) := by
  unfold recLs at h
  rw [List.getElem?_map, List.getElem?_map] at h
  rcases Nat.lt_or_ge j (nRc s) with c | c
  · rw [List.getElem?_range c] at h
    exact ⟨c, by injection h with h; exact h.symm⟩
  · rw [List.getElem?_eq_none (by simpa using c)] at h; cases h
theorem setRow_other (W : World) {g k : Nat} (h : k ≠ g) (cs : Array Value) : (W.setRow g cs).heap[k]? = W.heap[k]? := by
  simp [World.setRow, Array.getElem?_modify, Ne.symm h]
theorem div_fail {s : ByteArray} {w W : World} (hE : divE s = 2) (hb : Below w.heap.size w W) : DivPost s w (.returned (.tuple #[zfrm.val, .int .i64 2])) (W.setRow w.heap.size zfrm.cells) :=
  ⟨below_setRow hb (Nat.le_refl _) _, .inl ⟨by rw [hE]; decide, by rw [hE]⟩⟩
theorem DvS.cellF {L : List ByteArray} {w W : World} {G FB : Nat} {F : Frm} (h : DvS L w G FB F W) (o : Nat) : W.cell? ⟨FB, o, none⟩ = F.cells[o]? ∧ W.frozen? ⟨FB, o, none⟩ = false := ⟨cell_c h.f o, cell_f h.f o⟩
def trF (tp : List ByteArray) (k : Nat) : Nat → Int := fun j => if j < k then numV (prt tp (j + 1)) else 0
theorem set_trF (f : Frm) (tp : List ByteArray) (k : Nat) (hk : k < 4) : (Frm.cells { f with t := trF tp k }).setIfInBounds (4 + k) (.int .i64 (numV (prt tp (k + 1)))) = Frm.cells { f with t := trF tp (k + 1) } := by
  match k, hk with
  | 0, _ => rfl
  | 1, _ => rfl
  | 2, _ => rfl
  | 3, _ => rfl
end Go.Proofs.YthflmdgfenojcaaGreatDoor
