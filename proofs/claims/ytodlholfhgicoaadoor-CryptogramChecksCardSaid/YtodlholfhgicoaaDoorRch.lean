/- The reference's Check: plain facts. -/
import Derived.Test.YtodlholfhgicoaaDoorRus
namespace Go.Proofs.YtodlholfhgicoaaDoor
set_option linter.unusedVariables false
open Go.RowKit Go.Sort Go.Maps

theorem addR_set : ∀ (rs : RSt) (t : ByteArray) (c : Int) (k : Nat) (h : k < rs.length), (∀ j, j < k → (h' : j < rs.length) → rs[j].1 ≠ t) → rs[k].1 = t → addR rs t c = rs.set k (rs[k].1, rs[k].2 ++ [c])
  | [], t, c, k, h, _, _ => by simp at h
  | x :: rs, t, c, 0, h, _, he => by
    have he' : x.1 = t := he
    unfold addR
    rw [if_pos he']; rfl
  | x :: rs, t, c, k + 1, h, hall, he => by
    have h0 : x.1 ≠ t := hall 0 (by omega) (by simp)
    have ih := addR_set rs t c k (by simpa using h) (fun j hj h' => hall (j + 1) (by omega) (by simpa using h')) he
    unfold addR
    rw [if_neg h0, ih]; rfl
theorem addR_new : ∀ (rs : RSt) (t : ByteArray) (c : Int), (∀ j, (h' : j < rs.length) → rs[j].1 ≠ t) → addR rs t c = rs ++ [(t, [c])]
  | [], t, c, _ => rfl
  | x :: rs, t, c, hall => by
    have h0 : x.1 ≠ t := hall 0 (by simp)
    have ih := addR_new rs t c (fun j h' => hall (j + 1) (by simpa using h'))
    unfold addR
    rw [if_neg h0, ih]; rfl
theorem cntO_none : ∀ (rs : RSt) (t : ByteArray), (∀ j, (h' : j < rs.length) → rs[j].1 ≠ t) → cntO rs t = none
  | [], t, _ => rfl
  | x :: rs, t, hall => by
    have h0 : x.1 ≠ t := hall 0 (by simp)
    rw [cntO, if_neg h0]
    exact cntO_none rs t (fun j h' => hall (j + 1) (by simpa using h'))
theorem cntO_some : ∀ (rs : RSt) (t : ByteArray) (k : Nat) (h : k < rs.length), rs[k].1 = t → (cntO rs t).isSome = true
  | [], t, k, h, _ => by simp at h
  | x :: rs, t, 0, h, he => by
    have he' : x.1 = t := he
    rw [cntO, if_pos he']; rfl
  | x :: rs, t, k + 1, h, he => by
    rw [cntO]
    split
    · rfl
    · exact cntO_some rs t k (by simpa using h) he
theorem own_blk {w : World} {B e size n : Nat} {v : Value} {xs : List Value} {g : Nat} (h : w.ownsRow B e size v n xs) (hg : v.ownBlock = some g) : ∃ cur, w.heap[g]? = some (.cells cur e) := by
  rcases h.2 with ⟨rfl, _⟩ | ⟨g', cap, cur, rfl, hb, hgg, rest⟩
  · simp [Value.ownBlock] at hg
  · simp [Value.ownBlock] at hg; subst hg; exact ⟨cur, hgg⟩
theorem own_ne {w : World} {B e size n : Nat} {v : Value} {xs : List Value} {g : Nat} {cur : Array Value} {e' : TypeId} (h : w.ownsRow B e size v n xs) (hg : w.heap[g]? = some (.cells cur e')) (hne : e ≠ e') : v.ownBlock ≠ some g := by
  intro q
  obtain ⟨c2, h2⟩ := own_blk h q
  rw [hg] at h2
  injection h2 with h2
  injection h2 with _ h2
  exact hne h2.symm
theorem grown_set2 (w : World) (b o : Nat) (v : Value) : w.grownBy (w.setCell ⟨b, o, none⟩ v) (some b) :=
  ⟨rfl, rfl, rfl, by simp [World.setCell], fun k hk hne => by rw [heap_setCell_other _ _ _ _ (fun e => hne (by rw [e]))]⟩
/-- What is kept: every block but a checker's and a row of rows. -/
def KeepO (w w' : World) : Prop := ∀ (b : Nat) (o : Obj), w.heap[b]? = some o → (∀ cs fr, o ≠ .cells cs 68 fr) → (∀ cs fr, o ≠ .cells cs 75 fr) → w'.heap[b]? = some o
theorem keepO_below {w w' : World} (hb : Below w.heap.size w w') : KeepO w w' := fun b o h _ _ => blk_later h hb
/-- A counter put behind those of token k. -/
theorem ref_set {w w2 : World} {B br key : Nat} {win : Int} {rs : RSt} {t : ByteArray} {c : Int} {k g cap : Nat} {tv v' : Value} {vs : List Value} (hB : B ≤ br) (h2 : w.heap[br]? = some (.cells #[.int .u64 key, .int .i64 win, tv, .slice (some ⟨g, 0, none⟩) rs.length cap] 68))
    (h3 : w.ownsRow B 9 1 tv rs.length (rs.map (fun x => Value.string x.1))) (h4 : w.ownsRow B 75 1 (.slice (some ⟨g, 0, none⟩) rs.length cap) rs.length vs)
    (h5 : ∀ i, (h : i < rs.length) → ∃ v, vs[i]? = some v ∧ w.ownsRow B 3 1 v rs[i].2.length (nums rs[i].2)) (hk : k < rs.length) (hall : ∀ j, j < k → (h' : j < rs.length) → rs[j].1 ≠ t) (he : rs[k].1 = t)
    (hb : Below w.heap.size w w2) (hv : w2.ownsRow w.heap.size 3 1 v' (rs[k].2.length + 1) (nums (rs[k].2 ++ [c]))) :
    RefW (w2.setCell ⟨g, k, none⟩ v') B br key win (addR rs t c) ∧ Below B w (w2.setCell ⟨g, k, none⟩ v') ∧ KeepO w (w2.setCell ⟨g, k, none⟩ v') := by
  have hbr : br < w.heap.size := (Array.getElem?_eq_some_iff.1 h2).1
  obtain ⟨g', cap', cur, hv4, hgB, hgg, r1, r2, r3, r4⟩ := h4.2.resolve_left (fun q => by cases q.1)
  injection hv4 with e1 e2 e3
  injection e1 with e1
  injection e1 with e1
  subst e1
  subst e3
  have hglt : g < w.heap.size := (Array.getElem?_eq_some_iff.1 hgg).1
  have hgb : g ≠ br := fun e => by rw [e, h2] at hgg; injection hgg with q; injection q with _ q; exact absurd q (by decide)
  have hgg2 := blk_later hgg hb
  have hgr := grown_set2 w2 g k v'
  have hset : (w2.setCell ⟨g, k, none⟩ v').heap[g]? = some (.cells (cur.setIfInBounds k v') 75) := heap_setCell_same _ _ _ _ _ _ hgg2
  refine ⟨?_, ?_, ?_⟩
  · rw [addR_set rs t c k hk hall he]
    have hl : (rs.set k (rs[k].1, rs[k].2 ++ [c])).length = rs.length := List.length_set
    refine ⟨tv, .slice (some ⟨g, 0, none⟩) rs.length cap, vs.set k v', hB, ?_, ?_, ?_, ?_⟩
    · rw [heap_setCell_other _ _ _ _ (Ne.symm hgb)]; exact blk_later h2 hb
    · rw [hl]
      have hm : (rs.set k (rs[k].1, rs[k].2 ++ [c])).map (fun x => Value.string x.1) = rs.map (fun x => Value.string x.1) := by
        apply List.ext_getElem?
        intro i
        rw [List.getElem?_map, List.getElem?_map, List.getElem?_set]
        by_cases q : k = i
        · subst q; rw [if_pos rfl, if_pos hk]; simp [hk]
        · rw [if_neg q]
      rw [hm]
      exact (own_keep h3 (keepC_below hb)).kept hgr (.inr (own_ne (own_keep h3 (keepC_below hb)) hgg2 (by decide)))
    · rw [hl]
      refine ⟨by rw [List.length_set]; exact h4.1, .inr ⟨g, cap, cur.setIfInBounds k v', rfl, hgB, hset, r1, r2, by rw [Array.size_setIfInBounds]; exact r3, ?_⟩⟩
      rw [Array.toList_setIfInBounds, List.take_set, r4]
    · intro i hi
      rw [hl] at hi
      by_cases q : k = i
      · subst q
        refine ⟨v', by rw [List.getElem?_set, if_pos rfl, if_pos (by rw [h4.1]; omega)], ?_⟩
        simp only [List.getElem_set_self]
        have hv2 : w2.ownsRow B 3 1 v' (rs[k].2.length + 1) (nums (rs[k].2 ++ [c])) := by
          refine ⟨hv.1, ?_⟩
          rcases hv.2 with hn | ⟨g2, c2, cu2, q1, q2, q3⟩
          · exact .inl hn
          · exact .inr ⟨g2, c2, cu2, q1, by omega, q3⟩
        have := hv2.kept hgr (.inr (own_ne hv2 hgg2 (by decide)))
        rw [List.length_append]
        exact this
      · obtain ⟨v, q1, q2⟩ := h5 i hi
        refine ⟨v, by rw [List.getElem?_set, if_neg q]; exact q1, ?_⟩
        have q3 := own_keep q2 (keepC_below hb)
        simp only [List.getElem_set_ne q]
        exact q3.kept hgr (.inr (own_ne q3 hgg2 (by decide)))
  · exact (hb.mono (by omega)).trans ((Below.refl B w2).setCell (p := ⟨g, k, none⟩) hgB v')
  · intro b o ho n1 n2
    rw [heap_setCell_other _ _ _ _ (fun e => ?_)]
    · exact blk_later ho hb
    · have e' : b = g := e
      rw [e', hgg] at ho
      exact n2 cur (0, 0) (Option.some.inj ho).symm
end Go.Proofs.YtodlholfhgicoaaDoor
