/- The walk of EvidenceFolders. -/
import Derived.Test.YtoiddojmlhknlaaDoorRef4
namespace Go.Proofs.YtoiddojmlhknlaaDoor
set_option linter.unusedVariables false
open Go.RowKit Go.Maps
attribute [local go_sem ↓] Go.wp_at_zero Go.wp_at_succ

def addAll (l : List Itm) : List Itm := l.foldl addL []
theorem addAll_snoc (l : List Itm) (x : Itm) : addAll (l ++ [x]) = addL (addAll l) x := by simp [addAll]
theorem addL_len (l : List Itm) (x : Itm) (h : l.length ≤ 16) : (addL l x).length ≤ 16 := by
  unfold addL
  split
  · rename_i he
    unfold addE at he
    split at he
    · omega
    · split at he
      · omega
      · simp; omega
  · exact h
theorem addL_mem (l : List Itm) (x y : Itm) (h : y ∈ addL l x) : y ∈ l ∨ y = x := by
  unfold addL at h
  split at h
  · simpa using h
  · exact .inl h
theorem addAll_inv (l : List Itm) : (addAll l).length ≤ 16 ∧ ∀ y ∈ addAll l, y ∈ l := by
  have key : ∀ (m r : List Itm), r.length ≤ 16 → (m.foldl addL r).length ≤ 16 ∧ ∀ y ∈ m.foldl addL r, y ∈ r ∨ y ∈ m := by
    intro m
    induction m with
    | nil => intro r h; exact ⟨h, fun y hy => .inl hy⟩
    | cons x m ih =>
      intro r h
      obtain ⟨a, b⟩ := ih (addL r x) (addL_len r x h)
      refine ⟨a, fun y hy => ?_⟩
      rcases b y hy with h1 | h1
      · rcases addL_mem r x y h1 with h2 | h2
        · exact .inl h2
        · exact .inr (by simp [h2])
      · exact .inr (by simp [h1])
  obtain ⟨a, b⟩ := key l [] (by simp)
  exact ⟨a, fun y hy => by rcases b y hy with h | h; simp at h; exact h⟩
theorem items_take (l : List Itm) (k : Nat) (h : k < l.length) : l.take (k + 1) = l.take k ++ [l[k]] := List.take_succ_eq_append_getElem h
theorem RFolderW.mono {w : World} {B B' bf : Nat} {ob : Option Nat} {l : List Itm} (h : RFolderW w B bf ob l) (hB : B' ≤ B) : RFolderW w B' bf ob l := by
  obtain ⟨v, h0, hv, h1, h2, h3⟩ := h
  refine ⟨v, by omega, hv, h1, h2, ?_⟩
  rcases h3 with h3 | ⟨g, cap, cur, a, b, r⟩
  · exact .inl h3
  · exact .inr ⟨g, cap, cur, a, by omega, r⟩
/-- A folder and a folder of the reference, in memory of their own. -/
def St (w : World) (B ba bb : Nat) (oa ob : Option Nat) (la lb : List Itm) : Prop := FolderW w B ba oa la ∧ RFolderW w B bb ob lb ∧ ∀ g, oa = some g → ob ≠ some g
theorem St.below {w w' : World} {B ba bb : Nat} {oa ob : Option Nat} {la lb : List Itm} (h : St w B ba bb oa ob la lb) (hb : Below w.heap.size w w') : St w' B ba bb oa ob la lb :=
  ⟨h.1.below hb, h.2.1.below hb, h.2.2⟩
theorem St.le {w : World} {B ba bb : Nat} {oa ob : Option Nat} {la lb : List Itm} (h : St w B ba bb oa ob la lb) : B ≤ w.heap.size := Nat.le_trans h.1.ge.1 (Nat.le_of_lt h.1.lt)
theorem blk_ne {w : World} {g g' : Nat} {t t' : TypeId} {cs cs' : Array Value} (h : w.heap[g]? = some (.cells cs t (0, 0))) (h' : w.heap[g']? = some (.cells cs' t' (0, 0))) (hne : t ≠ t') : g ≠ g' := by
  rintro rfl
  rw [h] at h'
  injection h' with h'
  injection h' with _ ht
  exact hne ht
theorem St.apart {w : World} {B ba bb : Nat} {oa ob : Option Nat} {la lb : List Itm} (h : St w B ba bb oa ob la lb) : ba ≠ bb ∧ oa ≠ some bb ∧ ob ≠ some ba := by
  obtain ⟨⟨v, _, rfl, h1, h2⟩, ⟨v', _, rfl, h1', h2'⟩, _⟩ := h
  exact ⟨blk_ne h1 h1' (by decide), own_blk_ne h2 h1' (by decide), own_blk_ne h2' h1 (by decide)⟩
theorem St.add1 {w w' : World} {B ba bb : Nat} {oa ob : Option Nat} {la lb : List Itm} {x : Itm} {e : Ending} (h : St w B ba bb oa ob la lb) (hp : AddPost B ba oa la x w e w') :
    ∃ oa', St w' B ba bb oa' ob (addL la x) lb ∧ Below B w w' := by
  obtain ⟨n1, n2, n3⟩ := h.apart
  have hle := h.le
  obtain ⟨hf, hg, hd⟩ := h
  obtain ⟨_, hO, oa', hf', hor⟩ := hp
  refine ⟨oa', ⟨hf', hg.only hO ?_ ?_, ?_⟩, hO.below B hle ?_⟩
  · rintro (c | c)
    · exact n1 c.symm
    · exact n2 c
  · rintro g hgo (c | c)
    · exact n3 (by rw [hgo, c])
    · exact hd g c hgo
  · intro g hg1 hg2
    rcases hor with c | ⟨g', c, hle'⟩
    · exact hd g (by rw [← c]; exact hg1) hg2
    · rw [c] at hg1; injection hg1 with hg1
      have := (hg.ge.2 g hg2).2.1
      omega
  · rintro k hk (c | c)
    · have := hf.ge.1; omega
    · have := (hf.ge.2 k c).1; omega
theorem St.add2 {w w' : World} {B ba bb : Nat} {oa ob : Option Nat} {la lb : List Itm} {x : Itm} {e : Ending} (h : St w B ba bb oa ob la lb) (hp : RAddPost B bb ob lb x w e w') :
    ∃ ob', St w' B ba bb oa ob' la (addL lb x) ∧ Below B w w' := by
  obtain ⟨n1, n2, n3⟩ := h.apart
  have hle := h.le
  obtain ⟨hf, hg, hd⟩ := h
  obtain ⟨_, hO, ob', hg', hor⟩ := hp
  refine ⟨ob', ⟨hf.only hO ?_ ?_, hg', ?_⟩, hO.below B hle ?_⟩
  · rintro (c | c)
    · exact n1 c
    · exact n3 c
  · rintro g hgo (c | c)
    · exact n2 (by rw [hgo, c])
    · exact hd g hgo c
  · intro g hg1 hg2
    rcases hor with c | ⟨g', c, hle'⟩
    · exact hd g hg1 (by rw [← c]; exact hg2)
    · rw [c] at hg2; injection hg2 with hg2
      have := (hf.ge.2 g hg1).2.1
      omega
  · rintro k hk (c | c)
    · have := hg.ge.1; omega
    · have := (hg.ge.2 k c).1; omega
def FRel (w wr : World) (ba bb : Nat) (l : List Itm) (k : Nat) : Prop := (∃ oa ob, St wr w.heap.size ba bb oa ob (addAll (l.take k)) (addAll (l.take k))) ∧ Below w.heap.size w wr
theorem keepF {w w' : World} {b o : Nat} {u0 u1 u2 : Value} (h : Below w.heap.size w w') (hb : b < w.heap.size)
    (a0 : w.cell? ⟨b, o, none⟩ = some u0) (a1 : w.cell? ⟨b, o + 1, none⟩ = some u1) (a2 : w.cell? ⟨b, o + 2, none⟩ = some u2) :
    Below w.heap.size w w' ∧ w'.cell? ⟨b, o, none⟩ = some u0 ∧ w'.cell? ⟨b, o + 1, none⟩ = some u1 ∧ w'.cell? ⟨b, o + 2, none⟩ = some u2 :=
  ⟨h, (h.cell (p := ⟨b, o, none⟩) hb).trans a0, (h.cell (p := ⟨b, o + 1, none⟩) hb).trans a1, (h.cell (p := ⟨b, o + 2, none⟩) hb).trans a2⟩
set_option maxRecDepth 100000 in
set_option maxHeartbeats 12800000 in
theorem folders_go (w : World) (ht : TabW w) (A : Option Addr) (c : Nat) (l : List Itm) (hr : IsRow w A (cellsOf l)) (hs : ∀ x ∈ l, okI x) (hl : l.length ≤ maxLen)
    (A2 : Option Addr) (c2 : Nat) (needs : List ByteArray) (hr2 : IsRow w A2 (strsOf needs)) (hs2 : ∀ x ∈ needs, x.size ≤ maxLen) (hn : needs.length ≤ maxLen) (h1 : fewB l = true) (h2 : shortB needs = true) (s : ByteArray) (hsz : s.size ≤ 5000) :
    Calls Tryd.prog 3 #[.slice A l.length c, .slice A2 needs.length c2, .string s] w fun e w' => e = .returned (.bool true) ∧ Below w.heap.size w w' := by
  have hfew := Lib.hid (few_any A c l w hr hl (fun x hx => by have := (hs x hx).1; unfold maxLen; omega))
  have hsh := Lib.hid (shorts_any A2 c2 needs w hr2 hn hs2)
  have HR := Lib.hid hr
  have HR2 := Lib.hid hr2
  have HS := Lib.hid hs
  have HS2 := Lib.hid hs2
  have HT := Lib.hid ht
  have hl40 := (of_decide_eq_true h1).1
  have hn40 := (of_decide_eq_true h2).1
  have H1 := Lib.hid h1
  have H2 := Lib.hid h2
  clear hr hr2 hs hs2 h1 h2 ht
  unfold maxLen at hl hn
  go_enter Tryd.func3, Tryd.ntmps3
  go_wp2_with fail
  refine hfew.out.mono ?_
  rintro e w' ⟨rfl, rfl⟩
  rw [H1.out]
  go_wp2_with fail
  refine hsh.out.mono ?_
  rintro e w' ⟨rfl, rfl⟩
  rw [H2.out]
  go_wp2_with fail
  refine (new_any _).mono ?_
  rintro e w1 ⟨rfl, hf1, hb1⟩
  have HF1 := Lib.hid hf1
  have HB1 := Lib.hid hb1
  clear hf1 hb1
  go_wp2_with fail
  refine (rnew_any _).mono ?_
  rintro e w2 ⟨rfl, hf2, hb2⟩
  have HC0 : Hid (FRel w w2 w.heap.size w1.heap.size l 0) := Lib.hid ⟨⟨none, none, by
    refine ⟨?_, ?_, fun g hg => by cases hg⟩
    · simpa [addAll] using HF1.out.below hb2
    · simpa [addAll] using hf2.mono HB1.out.size⟩, HB1.out.trans (hb2.mono HB1.out.size)⟩
  clear hf2 hb2
  generalize w1.heap.size = bb at *
  go_wp2_with fail
  go_loopw [9] (fun i wr => ∃ k : Nat, k ≤ l.length ∧ i = .int .i64 k ∧ FRel w wr w.heap.size bb l k) (fun i _ => l.length - (intOf i).toNat)
  case atStart => exact ⟨0, Nat.zero_le _, rfl, HC0.out⟩
  case round =>
    obtain ⟨k, hk, rfl, ⟨oa, ob, hst⟩, hb⟩ := hrel
    by_cases hlt : k < l.length
    · rcases HR.out with h0 | ⟨b, off, ha, hc⟩
      · rw [cellsOf_length] at h0; omega
      subst ha
      obtain ⟨d0, d1, d2⟩ := row_item hc k hlt
      have hbl : b < w.heap.size := World.block_lt_of_cell? w ⟨b, off + k * 3, none⟩ d0
      have HBk := Lib.hid hb
      have HST := Lib.hid hst
      have hxo := Lib.hid (HS.out l[k] (List.getElem_mem hlt))
      have hinv := addAll_inv (l.take k)
      have htk := Lib.hid (show addAll (l.take (k + 1)) = addL (addAll (l.take k)) l[k] by rw [items_take l k hlt, addAll_snoc])
      have hinv2 := addAll_inv (l.take (k + 1))
      have HOK2 : Hid (∀ y ∈ addL (addAll (l.take k)) l[k], okI y) := Lib.hid (fun y hy => HS.out y (List.mem_of_mem_take (hinv2.2 y (by rw [htk.out]; exact hy))))
      have hlen2 : (addL (addAll (l.take k)) l[k]).length ≤ 16 := by rw [← htk.out]; exact hinv2.1
      have hlen1 := hinv.1
      have HKS2 : Hid (∀ y ∈ addL (addAll (l.take k)) l[k], y.k.size ≤ maxLen) := Lib.hid (fun y hy => by have := (HOK2.out y hy).1; unfold maxLen; omega)
      have g1 : (0 : Int) ≤ (k : Int) := by omega
      have g2 : (k : Int) < (l.length : Int) := by omega
      clear hc hst hinv hinv2 hb HC0
      generalize l[k] = x at *
      generalize hL : addAll (l.take k) = L at *
      have HL := Lib.hid hL
      clear hL
      have hxk : x.k.size ≤ maxLen := by have := hxo.out.1; unfold maxLen; omega
      have HXK := Lib.hid hxk
      clear hxk
      have hadd := Lib.hid (fun W (h : St W w.heap.size w.heap.size bb oa ob L L) => add_any w.heap.size w.heap.size oa L x W h.1 h.le HXK.out hlen1)
      have hradd := Lib.hid (fun W (oa' : Option Nat) (h : St W w.heap.size w.heap.size bb oa' ob (addL L x) L) => radd_any w.heap.size bb ob L x W h.2.1 h.le HXK.out hlen1)
      unfold Itm.val at hadd hradd
      have HSL := Lib.hid (show s.size ≤ maxLen by unfold maxLen; omega)
      have hml : (missL (ksOf (addL L x)) needs).length ≤ 1000 := Nat.le_trans (missL_len _ _) (by omega)
      go_wp2_with fail
      go_region_held3 (fun w' => Below w.heap.size w w' ∧ w'.cell? ⟨b, off + k * 3, none⟩ = some (.string x.k) ∧ w'.cell? ⟨b, off + k * 3 + 1, none⟩ = some (.int .i64 x.n) ∧ w'.cell? ⟨b, off + k * 3 + 2, none⟩ = some (.int .u64 x.h))
        (first
          | exact keepF HBW.out hbl d0 d1 d2
          | exact keepF HBk.out.drew hbl d0 d1 d2)
        (first
          | (go_at_call 10; refine (hadd.out _ (HST.out.below (Below.drew (Below.refl _ _)))).mono ?_; rintro e w' hp; obtain ⟨oa', hstA, hbb⟩ := (HST.out.below (Below.drew (Below.refl _ _))).add1 hp; have HSTA := Lib.hid hstA; have HBW := Lib.hid (HBk.out.drew.trans hbb); obtain ⟨rfl, _⟩ := hp; clear hstA)
          | (go_at_call 11; refine (hradd.out _ oa' HSTA.out).mono ?_; rintro e w' hp; obtain ⟨ob', hstB, hbb⟩ := HSTA.out.add2 hp; have HSB := Lib.hid hstB; have HBW := Lib.hid (HBW.out.trans hbb); obtain ⟨rfl, _⟩ := hp; clear hstB)
          | (go_at_call 13; refine (items_any w.heap.size w.heap.size oa' (addL L x) _ HSB.out.1 (by omega)).mono ?_; rintro e w' ⟨A3, c3, rfl, hr3, hc3, hb⟩; have hbb := hb.mono HSB.out.le; have HBW := Lib.hid (HBW.out.trans hbb); have HSB := Lib.hid (HSB.out.below hb); have HR3 := Lib.hid hr3; clear hr3)
          | (go_at_call 14; refine (ritems_any w.heap.size bb ob' (addL L x) _ HSB.out.2.1 (by omega)).mono ?_; rintro e w' ⟨A4, c4, rfl, hr4, hc4, hb⟩; have hbb := hb.mono HSB.out.le; have HBW := Lib.hid (HBW.out.trans hbb); have HSB := Lib.hid (HSB.out.below hb); have HR3 := Lib.hid (HR3.out.below hb); have HR4 := Lib.hid hr4; clear hr4)
          | (go_at_call 12; refine (rsame_any A3 A4 c3 c4 (addL L x) _ HR3.out HR4.out (by omega)).mono ?_; rintro e w' ⟨rfl, hb⟩; have hbb := hb.mono HSB.out.le; have HBW := Lib.hid (HBW.out.trans hbb); have HSB := Lib.hid (HSB.out.below hb))
          | (go_at_call 15; refine (digest_any w.heap.size w.heap.size oa' (addL L x) _ HSB.out.1 (by omega) HOK2.out (HT.out.below HBW.out)).mono ?_; rintro e w' ⟨rfl, hb⟩; have hbb := hb.mono HSB.out.le; have HBW := Lib.hid (HBW.out.trans hbb); have HSB := Lib.hid (HSB.out.below hb))
          | (go_at_call 16; refine (rdigest_any w.heap.size bb ob' (addL L x) _ HSB.out.2.1 (by omega) HOK2.out (HT.out.below HBW.out)).mono ?_; rintro e w' ⟨rfl, hb⟩; have hbb := hb.mono HSB.out.le; have HBW := Lib.hid (HBW.out.trans hbb); have HSB := Lib.hid (HSB.out.below hb))
          | (go_at_call 18; refine (missing_any w.heap.size w.heap.size oa' (addL L x) needs A2 c2 _ HSB.out.1 (by omega) HKS2.out (HR2.out.below HBW.out) (by omega) HS2.out).mono ?_; rintro e w' ⟨A5, c5, rfl, hr5, hc5, hb⟩; have hbb := hb.mono HSB.out.le; have HBW := Lib.hid (HBW.out.trans hbb); have HSB := Lib.hid (HSB.out.below hb); have HR5 := Lib.hid hr5; clear hr5)
          | (go_at_call 19; refine (rmissing_any w.heap.size bb ob' (addL L x) needs A2 c2 _ HSB.out.2.1 (by omega) (HR2.out.below HBW.out) (by omega)).mono ?_; rintro e w' ⟨A6, c6, rfl, hr6, hc6, hb⟩; have hbb := hb.mono HSB.out.le; have HBW := Lib.hid (HBW.out.trans hbb); have HSB := Lib.hid (HSB.out.below hb); have HR5 := Lib.hid (HR5.out.below hb); have HR6 := Lib.hid hr6; clear hr6)
          | (go_at_call 17; refine (same_any A5 A6 c5 c6 (missL (ksOf (addL L x)) needs) _ HR5.out HR6.out hml).mono ?_; rintro e w' ⟨rfl, hb⟩; have hbb := hb.mono HSB.out.le; have HBW := Lib.hid (HBW.out.trans hbb); have HSB := Lib.hid (HSB.out.below hb))
          | (go_at_call 20; refine (verify_any w.heap.size w.heap.size oa' (addL L x) x.k s _ HSB.out.1 (by omega) HXK.out HSL.out).mono ?_; rintro e w' ⟨rfl, hb⟩; have hbb := hb.mono HSB.out.le; have HBW := Lib.hid (HBW.out.trans hbb); have HSB := Lib.hid (HSB.out.below hb))
          | (go_at_call 21; refine (rverify_any w.heap.size bb ob' (addL L x) x.k s _ HSB.out.2.1 (by omega) HXK.out HSL.out).mono ?_; rintro e w' ⟨rfl, hb⟩; have hbb := hb.mono HSB.out.le; have HBW := Lib.hid (HBW.out.trans hbb); have HSB := Lib.hid (HSB.out.below hb)))
      all_goals
        have HFIN : Hid (FRel w w' w.heap.size bb l (k + 1)) := Lib.hid ⟨⟨oa', ob', by rw [htk.out]; exact HSB.out⟩, HBW.out⟩
        go_wp2_with fail
        go_roundw
        case rel => exact ⟨k + 1, by omega, by go_num, HFIN.out⟩
        case measure => simp [intOf]; omega
    · obtain rfl : k = l.length := by omega
      have HB := Lib.hid hb
      clear hst hb HC0
      go_wp2_with fail
      refine (awake_any _).mono ?_
      rintro e w6 ⟨rfl, hb6⟩
      have HB6 := Lib.hid (HB.out.trans (hb6.mono HB.out.size))
      clear hb6
      go_wp2_with fail
      go_ret
      exact ⟨rfl, HB6.out⟩
end Go.Proofs.YtoiddojmlhknlaaDoor
