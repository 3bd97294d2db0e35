/- The walk of Missing. -/
import Derived.Test.YtoiddojmlhknlaaDoorMiss
namespace Go.Proofs.YtoiddojmlhknlaaDoor
set_option linter.unusedVariables false
open Go.RowKit Go.Maps

def ksOf (l : List Itm) : List ByteArray := l.map (·.k)
theorem ks_take (l : List Itm) (k : Nat) (h : k < l.length) : (ksOf l).take (k + 1) = (ksOf l).take k ++ [l[k].k] := by
  unfold ksOf
  rw [List.take_succ_eq_append_getElem (by simpa using h)]; simp
theorem needs_take (l : List ByteArray) (k : Nat) (h : k < l.length) : l.take (k + 1) = l.take k ++ [l[k]] := List.take_succ_eq_append_getElem h
theorem strs_at {w : World} {b off : Nat} {l : List ByteArray} (h : ∀ j v, (strsOf l)[j]? = some v → w.cell? ⟨b, off + j, none⟩ = some v) (k : Nat) (hk : k < l.length) : w.cell? ⟨b, off + k, none⟩ = some (.string l[k]) :=
  h k _ (by simp [strsOf, hk])
/-- The result of Missing: the texts that it lists, in new memory. -/
def StrsPost (xs : List ByteArray) (w : World) (e : Ending) (w' : World) : Prop := ∃ A c, e = .returned (.slice A xs.length c) ∧ IsRow w' A (strsOf xs) ∧ xs.length ≤ c ∧ Below w.heap.size w w'
def Rel1 (w wr : World) (l : List Itm) (k : Nat) : Prop := SSet wr w.heap.size ((ksOf l).take k) ∧ Below w.heap.size w wr
def Rel2 (w wr : World) (l : List Itm) (needs : List ByteArray) (k : Nat) (v : Value) : Prop :=
  SSet wr w.heap.size (ksOf l ++ missL (ksOf l) (needs.take k)) ∧ Below w.heap.size w wr ∧ wr.ownsRow (w.heap.size + 1) 9 1 v (missL (ksOf l) (needs.take k)).length (strsOf (missL (ksOf l) (needs.take k)))
theorem info9 : (Tryd.prog.info? 9).map (fun i => (i.zero, i.size, i.bytes)) = some (some (.string ⟨#[]⟩), 1, 16) := by kernel_rfl
theorem SSet.alloc {w : World} {b : Nat} {l : List ByteArray} (h : SSet w b l) (o : Obj) : SSet (w.alloc o) b l := h.kept (World.grownBy_alloc w o none) (by simp)
theorem rel2_step (w wr : World) (l : List Itm) (needs : List ByteArray) (k : Nat) (v : Value) (hk : k < needs.length) (h : Rel2 w wr l needs k v) :
    (hasB (ksOf l ++ missL (ksOf l) (needs.take k)) needs[k] = true → Rel2 w wr l needs (k + 1) v) ∧
    (hasB (ksOf l ++ missL (ksOf l) (needs.take k)) needs[k] = false → ∀ w2, SSet w2 w.heap.size (ksOf l ++ missL (ksOf l) (needs.take k) ++ [needs[k]]) → wr.grownBy w2 (some w.heap.size) → ∀ (v' : Value) (w3 : World) (o : Obj),
      w3.ownsRow (w.heap.size + 1) 9 1 v' ((missL (ksOf l) (needs.take k)).length + 1) (strsOf (missL (ksOf l) (needs.take k)) ++ [.string needs[k]]) → (w2.alloc o).grownBy w3 v.ownBlock → Rel2 w w3 l needs (k + 1) v') := by
  obtain ⟨h1, h2, h3⟩ := h
  have e : missL (ksOf l) (needs.take (k + 1)) = missStep (ksOf l) (missL (ksOf l) (needs.take k)) needs[k] := by
    rw [needs_take needs k hk, missL_snoc]
  constructor
  · intro hb
    rw [hasB_append] at hb
    have e2 : missL (ksOf l) (needs.take (k + 1)) = missL (ksOf l) (needs.take k) := by rw [e]; unfold missStep; rw [if_pos hb]
    unfold Rel2
    rw [e2]
    exact ⟨h1, h2, h3⟩
  · intro hb w2 hs hg v' w3 o ho hgrow
    rw [hasB_append] at hb
    have e2 : missL (ksOf l) (needs.take (k + 1)) = missL (ksOf l) (needs.take k) ++ [needs[k]] := by rw [e]; unfold missStep; rw [if_neg (by simp [hb])]
    unfold Rel2
    rw [e2, ← List.append_assoc]
    have hlt : ∀ g, v.ownBlock = some g → w.heap.size + 1 ≤ g := fun g hg' => (h3.lt g hg').1
    refine ⟨(hs.alloc o).kept hgrow (by intro c; have := hlt _ c.symm; omega), ?_, ?_⟩
    · have hz := h2.size
      have hb2 := h2.grown hg hz (fun x hx => by cases hx; exact Nat.le_refl _)
      exact (hb2.alloc hb2.size o).grown hgrow (by have := hb2.size; simp; omega) (fun x hx => by have := hlt _ hx; omega)
    · have : strsOf (missL (ksOf l) (needs.take k) ++ [needs[k]]) = strsOf (missL (ksOf l) (needs.take k)) ++ [.string needs[k]] := by simp [strsOf]
      rw [this, List.length_append]; exact ho
set_option maxHeartbeats 3200000 in
theorem missing_any (B bf : Nat) (ob : Option Nat) (l : List Itm) (needs : List ByteArray) (A : Option Addr) (c : Nat) (w : World) (hf : FolderW w B bf ob l) (hl : l.length ≤ 1000) (hks : ∀ i ∈ l, i.k.size ≤ maxLen)
    (hr : IsRow w A (strsOf needs)) (hn : needs.length ≤ 1000) (hns : ∀ s ∈ needs, s.size ≤ maxLen) :
    Calls Tryd.prog 18 #[.pointer (some ⟨bf, 0, none⟩), .slice A needs.length c] w (StrsPost (missL (ksOf l) needs) w) := by
  obtain ⟨i0, hi0, hz0, hz1, hz2⟩ := info_parts info9
  have HI := Lib.hid hi0
  have HZ := Lib.hid hz0
  have HZ1 := Lib.hid hz1
  have HZ2 := Lib.hid hz2
  have hmm := @run_makeMap Tryd.prog
  obtain ⟨A1, c1, hblk, hob, hrow, hlc, hown⟩ := hf.open_
  have HROW := Lib.hid hrow
  have HR := Lib.hid hr
  have HKS := Lib.hid hks
  have HNS := Lib.hid hns
  have c0 := (cell_blk hblk).1
  have hlt := hf.lt
  have c0' : (w.alloc (.map #[] 0)).cell? ⟨bf, 0, none⟩ = some (.slice A1 l.length c1) := (World.cell?_alloc_lt w _ ⟨bf, 0, none⟩ hlt).trans c0
  clear hblk hob hrow hr hown hf hks hns hi0 hz0 hz1 hz2 c0
  go_enter Tryd.func18, Tryd.ntmps18
  go_wp2_with fail
  go_loopw [19] (fun i wr => ∃ k : Nat, k ≤ l.length ∧ i = .int .i64 k ∧ Rel1 w wr l k) (fun i _ => l.length - (intOf i).toNat)
  case atStart => exact ⟨0, Nat.zero_le _, rfl, SSet.made w, (Below.refl _ _).alloc (Nat.le_refl _) _⟩
  case round =>
    obtain ⟨k, hk, rfl, hrel⟩ := hrel
    by_cases hlt2 : k < l.length
    · rcases HROW.out.below hrel.2 with h0 | ⟨b, off, ha, hc⟩
      · rw [cellsOf_length] at h0; omega
      obtain ⟨d0, d1, d2⟩ := row_item hc k hlt2
      have hst := Lib.hid (ks_take l k hlt2)
      have hsz := Lib.hid (HKS.out l[k] (List.getElem_mem hlt2))
      obtain ⟨w2, hrun, hs2, hg2⟩ := (hrel.1.alloc (.cells #[.string l[k].k, .int .i64 l[k].n, .int .u64 l[k].h] 35)).put (by rw [List.length_take]; omega) l[k].k hsz.out
      have HN : Hid (Rel1 w w2 l (k + 1)) := Lib.hid ⟨by rw [hst.out]; exact hs2, (hrel.2.alloc hrel.2.size _).grown hg2 (by have := hrel.2.size; simp; omega) (fun x hx => by cases hx; exact Nat.le_refl _)⟩
      clear hs2 hg2 hc hst hrel hsz
      subst ha
      generalize l[k] = x at *
      go_wp2_with fail
      go_roundw
      case rel => exact ⟨k + 1, by omega, by go_num, HN.out⟩
      case measure => simp [intOf]; omega
    · obtain rfl : k = l.length := by omega
      have HS : Hid (Rel2 w wr l needs 0 (.slice none 0 0)) := Lib.hid ⟨by
        have := hrel.1
        rw [show (ksOf l).take l.length = ksOf l by rw [List.take_of_length_le]; simp [ksOf]] at this
        simpa [missL] using this, hrel.2, World.ownsRow_nil _ _ _ _⟩
      clear hrel c0'
      obtain ⟨wo, hwo⟩ : ∃ wo : World, wo = wr := ⟨_, rfl⟩
      subst hwo
      go_wp2_with fail
      go_loopw [8, 29] (fun v i wr => ∃ k : Nat, k ≤ needs.length ∧ i = .int .i64 k ∧ Rel2 w wr l needs k v) (fun _ i _ => needs.length - (intOf i).toNat)
      case atStart => exact ⟨0, Nat.zero_le _, rfl, HS.out⟩
      case round =>
        obtain ⟨k, hk2, rfl, hrel⟩ := hrel
        by_cases hlt3 : k < needs.length
        · rcases HR.out.below hrel.2.1 with h0 | ⟨b, off, ha, hc⟩
          · rw [strsOf_length] at h0; omega
          have d0 := strs_at hc k hlt3
          have hsz := Lib.hid (HNS.out needs[k] (List.getElem_mem hlt3))
          have hst := Lib.hid (rel2_step w wr l needs k u8 hlt3 hrel)
          have hlen := missL_len (ksOf l) (needs.take k)
          have hlen2 : (needs.take k).length ≤ 1000 := by rw [List.length_take]; omega
          have hkl : (ksOf l).length = l.length := by simp [ksOf]
          have hlook := hrel.1.look needs[k] hsz.out
          have hown := Lib.hid hrel.2.2
          have hsz2 := hrel.2.1.size
          cases hb : hasB (ksOf l ++ missL (ksOf l) (needs.take k)) needs[k]
          case true =>
            have HN := Lib.hid (hst.out.1 hb)
            rw [hb] at hlook
            clear hst hb hc hrel hsz hkl hlen hlen2
            subst ha
            generalize needs[k] = x at *
            go_wp2_with fail
            go_roundw
            case rel => exact ⟨k + 1, by omega, by go_num, HN.out⟩
            case measure => simp [intOf]; omega
          case false =>
            rw [hb] at hlook
            obtain ⟨w2, hrun, hs2, hg2⟩ := hrel.1.put (by rw [List.length_append]; omega) needs[k] hsz.out
            have hgl := hg2.size
            have ho2 : Hid (w2.ownsRow (w.heap.size + 1) 9 1 u8 (missL (ksOf l) (needs.take k)).length (strsOf (missL (ksOf l) (needs.take k)))) := Lib.hid (hown.out.kept hg2 (by
              cases hv : u8.ownBlock with
              | none => exact .inl rfl
              | some g => exact .inr (by intro e; have := (hown.out.lt g hv).1; injection e with e; omega)))
            have HST := Lib.hid (fun v' w3 h1 h2 h3 => hst.out.2 hb w2 hs2 hg2 v' w3 h1 h2 h3)
            have hml : (missL (ksOf l) (needs.take k)).length ≤ 1000 := by omega
            clear hst hb hc hrel hsz hkl hlen hlen2 hs2 hg2
            subst ha
            generalize needs[k] = x at *
            generalize missL (ksOf l) (needs.take k) = ms at *
            go_wp2_with (at_builtin; refine wpList_append_own _ rfl (.tmp 39) (.tmp 41) _ rfl (w.heap.size + 1) 9 i0 _ 1 16 Tryd.underlying23 HI.out HZ.out HZ1.out HZ2.out rfl (by omega) u8 ms.length (strsOf ms) rfl (ho2.out.alloc _) ⟨w2.heap.size, 0, none⟩ 1 1 [.string x] rfl rfl (World.news_of_block (cs := #[.string x]) (t := 9) (fr := (0, 0)) (heap_alloc_new w2 _)) (by simp [Value.oneCell']) (by unfold maxLen; omega) (by omega) (by simp; omega) ?_; intro v' w3 hown' hgrow hnil)
            have HN := Lib.hid (HST.out v' w3 _ hown' hgrow)
            clear HST hown' hgrow hnil
            go_wp2_with fail
            go_roundw
            case rel => exact ⟨k + 1, by omega, by go_num, HN.out⟩
            case measure => simp [intOf]; omega
        · obtain rfl : k = needs.length := by omega
          obtain ⟨A', c', hv, hrow', hc'⟩ := own_form hrel.2.2
          have hfin : needs.take needs.length = needs := by simp
          rw [hfin] at hv hrow' hc'
          have HROW' := Lib.hid hrow'
          have HB' := Lib.hid hrel.2.1
          clear hrel hrow' hfin
          subst hv
          go_wp2_with fail
          go_ret
          exact ⟨A', c', rfl, HROW'.out, hc', HB'.out⟩
end Go.Proofs.YtoiddojmlhknlaaDoor
