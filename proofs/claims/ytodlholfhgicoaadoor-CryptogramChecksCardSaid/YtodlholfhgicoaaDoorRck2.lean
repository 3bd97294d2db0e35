/- The walk of the reference's Check. -/
import Derived.Test.YtodlholfhgicoaaDoorRch
import Derived.Deep.RegionHeldLaw
import Derived.Deep.RegionLaw
import Derived.Deep.RegionHeld3
import Derived.Outline
namespace Go.Proofs.YtodlholfhgicoaaDoor
set_option linter.unusedVariables false
open Go.RowKit Go.Sort Go.Maps

def rckE (key : Nat) (win : Int) (rs : RSt) (token : ByteArray) (c a : Int) (cur nonce code : ByteArray) : Int :=
  if mkE token c a cur nonce ≠ 0 then mkE token c a cur nonce else if code ≠ mkV key token c a cur nonce then 19 else if usedR rs token c win = true then 15 else if (cntO rs token).isSome = false ∧ 64 ≤ rs.length then 12 else 0
def RckPost (B br key : Nat) (win : Int) (rs : RSt) (token : ByteArray) (c : Int) (E : Int) (w : World) (e : Ending) (w' : World) : Prop :=
  e = .returned (.int .i64 E) ∧ RefW w' B br key win (if E = 0 then addR rs token c else rs) ∧ Below B w w' ∧ KeepO w w'
theorem rck_same {w w' : World} {B br key : Nat} {win : Int} {rs : RSt} {token : ByteArray} {c E : Int} (h : RefW w B br key win rs) (hb : Below w.heap.size w w') (hE : E ≠ 0) : RckPost B br key win rs token c E w (.returned (.int .i64 E)) w' := by
  refine ⟨rfl, by rw [if_neg hE]; exact h.below hb, hb.mono ?_, keepO_below hb⟩
  obtain ⟨tv, cv, vs, h1, h2, -⟩ := h
  have := (Array.getElem?_eq_some_iff.1 h2).1
  omega
theorem keep15 {W w' : World} {bb bc : Nat} {ds : Array Value} {u t : TypeId} {key : Nat} {a : Int} {cur : ByteArray} (hb : Below W.heap.size W w') (h1 : W.heap[bb]? = some (.cells #[.int .i64 a, .string cur] t)) (h2 : W.heap[bc]? = some (.cells ds u)) (h3 : ds[0]? = some (.int .u64 key)) :
    Below W.heap.size W w' ∧ w'.cell? ⟨bb, 0, none⟩ = some (.int .i64 a) ∧ w'.cell? ⟨bb, 1, none⟩ = some (.string cur) ∧ w'.cell? ⟨bc, 0, none⟩ = some (.int .u64 key) :=
  ⟨hb, cell_c (blk_later h1 hb) 0, cell_c (blk_later h1 hb) 1, (cell_c (blk_later h2 hb) 0).trans h3⟩
theorem mkE_rng {t : ByteArray} {c a : Int} {cur nonce : ByteArray} (h : mkE t c a cur nonce = 0) : 1 ≤ c ∧ c ≤ 999999 := mkE_range h
theorem info3 : (Tryd.prog.info? 3).map (fun i => (i.zero, i.size, i.bytes)) = some (some (.int .i64 0), 1, 8) := by kernel_rfl
theorem info9 : (Tryd.prog.info? 9).map (fun i => (i.zero, i.size, i.bytes)) = some (some (.string ByteArray.empty), 1, 16) := by kernel_rfl
theorem info75 : (Tryd.prog.info? 75).map (fun i => (i.zero, i.size, i.bytes)) = some (some (.slice none 0 0), 1, 24) := by kernel_rfl
theorem cntO_first : ∀ (rs : RSt) (t : ByteArray) (k : Nat) (h : k < rs.length), (∀ j, j < k → (h' : j < rs.length) → rs[j].1 ≠ t) → rs[k].1 = t → cntO rs t = some rs[k].2
  | [], t, k, h, _, _ => by simp at h
  | x :: rs, t, 0, h, _, he => by
    have he' : x.1 = t := he
    rw [cntO, if_pos he']; rfl
  | x :: rs, t, k + 1, h, hall, he => by
    have h0 : x.1 ≠ t := hall 0 (by omega) (by simp)
    rw [cntO, if_neg h0]
    exact cntO_first rs t k (by simpa using h) (fun j hj h' => hall (j + 1) (by omega) (by simpa using h')) he
theorem rck_put {w w3 w' : World} {B br key : Nat} {win : Int} {rs : RSt} {token : ByteArray} {c : Int} (h : RefW w B br key win rs) (hb : Below w.heap.size w w3) (hp : RefW w' B br key win (addR rs token c) ∧ Below B w3 w' ∧ KeepO w3 w') : RckPost B br key win rs token c 0 w (.returned (.int .i64 0)) w' := by
  obtain ⟨tv, cv, vs, h1, h2, -⟩ := h
  have := (Array.getElem?_eq_some_iff.1 h2).1
  refine ⟨rfl, by rw [if_pos rfl]; exact hp.1, (hb.mono (by omega)).trans hp.2.1, fun b o ho n1 n2 => hp.2.2 b o (blk_later ho hb) n1 n2⟩
/-- A new token. -/
theorem ref_new {w w' : World} {B br key : Nat} {win : Int} {rs : RSt} {t : ByteArray} {c : Int} {tv' cv' vr : Value} {vs : List Value} (hB : B ≤ br) (hvs : vs.length = rs.length) (hall : ∀ j, (h' : j < rs.length) → rs[j].1 ≠ t)
    (h2 : w'.heap[br]? = some (.cells #[.int .u64 key, .int .i64 win, tv', cv'] 68)) (h3 : w'.ownsRow B 9 1 tv' (rs.length + 1) (rs.map (fun x => Value.string x.1) ++ [.string t])) (h4 : w'.ownsRow B 75 1 cv' (rs.length + 1) (vs ++ [vr]))
    (h5 : ∀ i, (h : i < rs.length) → ∃ v, vs[i]? = some v ∧ w'.ownsRow B 3 1 v rs[i].2.length (nums rs[i].2)) (hr : w'.ownsRow B 3 1 vr 1 [.int .i64 c]) : RefW w' B br key win (addR rs t c) := by
  rw [addR_new rs t c hall]
  refine ⟨tv', cv', vs ++ [vr], hB, h2, by rw [List.map_append, List.length_append]; exact h3, by rw [List.length_append]; exact h4, fun i hi => ?_⟩
  by_cases q : i < rs.length
  · obtain ⟨v, e1, e2⟩ := h5 i q
    refine ⟨v, by rw [List.getElem?_append_left (by omega)]; exact e1, ?_⟩
    simp only [List.getElem_append_left q]
    exact e2
  · have hi' : i = rs.length := by simp at hi; omega
    subst hi'
    refine ⟨vr, by rw [List.getElem?_append_right (by omega), hvs, Nat.sub_self]; rfl, ?_⟩
    simp only [List.getElem_append_right (Nat.le_refl _), Nat.sub_self, List.getElem_cons_zero]
    exact hr
theorem strs_one (rs : RSt) : ∀ u ∈ rs.map (fun x => Value.string x.1), u.oneCell' = true := by
  intro u hu
  obtain ⟨x, -, rfl⟩ := List.mem_map.1 hu
  rfl
/-- After the token row's store: what stands. -/
def New6 (w3 w6 : World) (B br key : Nat) (win : Int) (rs : RSt) (v2 cv : Value) (CA : Option Addr) (vs xs : List Value) : Prop :=
  w6.heap[br]? = some (.cells #[.int .u64 key, .int .i64 win, v2, cv] 68) ∧ w6.ownsRow B 9 1 v2 (rs.length + 1) xs ∧ Reads w6 w6.heap.size 1 CA rs.length vs ∧
  (∀ i, (h : i < rs.length) → ∃ v, vs[i]? = some v ∧ w6.ownsRow B 3 1 v rs[i].2.length (nums rs[i].2)) ∧ Below B w3 w6 ∧ KeepO w3 w6
theorem own_base {w : World} {B B' e size n : Nat} {v : Value} {xs : List Value} (h : w.ownsRow B' e size v n xs) (hB : B ≤ B') : w.ownsRow B e size v n xs := by
  refine ⟨h.1, ?_⟩
  rcases h.2 with hn | ⟨g2, c2, cu2, q1, q2, q3⟩
  · exact .inl hn
  · exact .inr ⟨g2, c2, cu2, q1, Nat.le_trans hB q2, q3⟩
theorem new6 {w3 w5 : World} {B br key : Nat} {win : Int} {rs : RSt} {v2 tv : Value} {CA : Option Addr} {cc : Nat} {vs xs : List Value} (hB : B ≤ br) (h2 : w3.heap[br]? = some (.cells #[.int .u64 key, .int .i64 win, tv, .slice CA rs.length cc] 68)) (h4 : w3.ownsRow B 75 1 (.slice CA rs.length cc) rs.length vs)
    (h5 : ∀ i, (h : i < rs.length) → ∃ v, vs[i]? = some v ∧ w3.ownsRow B 3 1 v rs[i].2.length (nums rs[i].2)) (hb : Below w3.heap.size w3 w5) (hv : w5.ownsRow w3.heap.size 9 1 v2 (rs.length + 1) xs) :
    New6 w3 (w5.setCell ⟨br, 2, none⟩ v2) B br key win rs v2 (.slice CA rs.length cc) CA vs xs := by
  have hbr : br < w3.heap.size := (Array.getElem?_eq_some_iff.1 h2).1
  have hgr := grown_set2 w5 br 2 v2
  have hset := heap_setCell_same w5 br 2 _ _ v2 (blk_later h2 hb)
  have b5 := blk_later h2 hb
  have ho : ∀ {e n : Nat} {v : Value} {ys : List Value}, w3.ownsRow B e 1 v n ys → e ≠ 68 → (w5.setCell ⟨br, 2, none⟩ v2).ownsRow B e 1 v n ys := by
    intro e n v ys h hne
    have h' := own_keep h (keepC_below hb)
    exact h'.kept hgr (.inr (own_ne h' b5 hne))
  refine ⟨hset, ?_, Reads.of_own (ho h4 (by decide)), fun i hi => ?_, (hb.mono (by omega)).trans ((Below.refl B w5).setCell (p := ⟨br, 2, none⟩) hB v2), ?_⟩
  · have hv' := own_base hv (B := B) (by omega)
    exact hv'.kept hgr (.inr (own_ne hv' b5 (by decide)))
  · obtain ⟨v, q1, q2⟩ := h5 i hi
    exact ⟨v, q1, ho q2 (by decide)⟩
  · intro b o ho n1 n2
    rw [heap_setCell_other _ _ _ _ (fun e => ?_)]
    · exact blk_later ho hb
    · have e' : b = br := e
      rw [e', h2] at ho
      exact n1 _ (0, 0) (Option.some.inj ho).symm
theorem new9 {w3 w6 w8 : World} {B br key : Nat} {win : Int} {rs : RSt} {t : ByteArray} {c : Int} {v2 v4 vr cv : Value} {CA : Option Addr} {vs : List Value} (hB : B ≤ br) (hvs : vs.length = rs.length) (hall : ∀ j, (h' : j < rs.length) → rs[j].1 ≠ t)
    (h : New6 w3 w6 B br key win rs v2 cv CA vs (rs.map (fun x => Value.string x.1) ++ [.string t])) (hb : Below w6.heap.size w6 w8) (hv : w8.ownsRow w6.heap.size 75 1 v4 (rs.length + 1) (vs ++ [vr])) (hr : w8.ownsRow w6.heap.size 3 1 vr 1 [.int .i64 c]) :
    RefW (w8.setCell ⟨br, 3, none⟩ v4) B br key win (addR rs t c) ∧ Below B w3 (w8.setCell ⟨br, 3, none⟩ v4) ∧ KeepO w3 (w8.setCell ⟨br, 3, none⟩ v4) := by
  obtain ⟨g1, g2, g3, g4, g5, g6⟩ := h
  have hbr : br < w6.heap.size := (Array.getElem?_eq_some_iff.1 g1).1
  have hgr := grown_set2 w8 br 3 v4
  have hset := heap_setCell_same w8 br 3 _ _ v4 (blk_later g1 hb)
  have b8 := blk_later g1 hb
  have hk : ∀ {e n : Nat} {v : Value} {ys : List Value}, w8.ownsRow B e 1 v n ys → e ≠ 68 → (w8.setCell ⟨br, 3, none⟩ v4).ownsRow B e 1 v n ys := fun h hne => h.kept hgr (.inr (own_ne h b8 hne))
  refine ⟨ref_new (w := w8) hB hvs hall hset (hk (own_keep g2 (keepC_below hb)) (by decide)) (hk (own_base hv (by omega)) (by decide)) (fun i hi => ?_) (hk (own_base hr (by omega)) (by decide)), (g5.trans (hb.mono (by omega))).trans ((Below.refl B w8).setCell (p := ⟨br, 3, none⟩) hB v4), ?_⟩
  · obtain ⟨v, q1, q2⟩ := g4 i hi
    exact ⟨v, q1, hk (own_keep q2 (keepC_below hb)) (by decide)⟩
  · intro b o ho n1 n2
    rw [heap_setCell_other _ _ _ _ (fun e => ?_)]
    · exact blk_later (g6 b o ho n1 n2) hb
    · have e' : b = br := e
      have q := g6 b o ho n1 n2
      rw [e', g1] at q
      exact n1 _ (0, 0) (Option.some.inj q).symm
theorem made6 {w6 : World} {n : Nat} (h : w6.heap.size = n) : (w6.alloc (.cells #[] 75)).ownsRow w6.heap.size 75 1 (.slice (some ⟨n, 0, none⟩) 0 0) 0 [] := by
  subst h
  exact World.ownsRow_made w6 #[] 0 (Nat.le_refl _) (by decide) rfl
theorem made_one {w7 w8 : World} {B n : Nat} {c : Int} {v3 : Value} {xs : List Value} {Y : Obj} (hB : B ≤ w7.heap.size) (h3 : w7.ownsRow B 75 1 v3 n xs) (hg : ((w7.alloc (.cells #[.int .i64 c] 3)).alloc Y).grownBy w8 v3.ownBlock) : w8.ownsRow B 3 1 (.slice (some ⟨w7.heap.size, 0, none⟩) 1 1) 1 [.int .i64 c] := by
  have h : (w7.alloc (.cells #[.int .i64 c] 3)).ownsRow B 3 1 (.slice (some ⟨w7.heap.size, 0, none⟩) 1 1) 1 [.int .i64 c] :=
    ⟨rfl, .inr ⟨w7.heap.size, 1, #[.int .i64 c], rfl, hB, heap_alloc_new w7 _, Nat.le_refl _, by decide, rfl, rfl⟩⟩
  refine (h.alloc Y).kept hg (.inr (fun q => ?_))
  have := (h3.lt w7.heap.size q.symm).2
  omega
theorem made1 (w3 : World) (X : Obj) : (((w3.alloc X).alloc (.cells #[] 3)).drew).ownsRow w3.heap.size 3 1 (.slice (some ⟨w3.heap.size + 1, 0, none⟩) 0 0) 0 [] := by
  have e : (w3.alloc X).heap.size = w3.heap.size + 1 := by simp
  have h := World.ownsRow_made (w3.alloc X) (base := w3.heap.size) (e := 3) (size := 1) #[] 0 (by omega) (by decide) rfl
  rw [e] at h
  exact h.drew
theorem cellA {w : World} {b o : Nat} {v : Value} {X : Obj} (hb : b < w.heap.size) (h : w.cell? ⟨b, o, none⟩ = some v) : ((w.alloc X).drew).cell? ⟨b, o, none⟩ = some v := (World.cell?_alloc_lt w X ⟨b, o, none⟩ hb).trans h
theorem cellAA {w : World} {b o : Nat} {v : Value} {X Y : Obj} (hb : b < w.heap.size) (h : w.cell? ⟨b, o, none⟩ = some v) : (((w.alloc X).alloc Y).drew).cell? ⟨b, o, none⟩ = some v := (World.cell?_alloc_lt (w.alloc X) Y ⟨b, o, none⟩ (by simp; omega)).trans ((World.cell?_alloc_lt w X ⟨b, o, none⟩ hb).trans h)
theorem cellA4 {B : Nat} {w w4 : World} {b o : Nat} {v : Value} (hB : Below B w w4) (hb : b < B) (h : w.cell? ⟨b, o, none⟩ = some v) : w4.cell? ⟨b, o, none⟩ = some v := (hB.cell (p := ⟨b, o, none⟩) hb).trans h
theorem frozA4 {B : Nat} {w w4 : World} {b o : Nat} {v : Bool} (hB : Below B w w4) (hb : b < B) (h : w.frozen? ⟨b, o, none⟩ = v) : w4.frozen? ⟨b, o, none⟩ = v := (hB.frozen (p := ⟨b, o, none⟩) hb).trans h
theorem grownA {w w1 : World} {row : Option Nat} {b : Nat} {o : Obj} (hg : w.grownBy w1 row) (h : w.heap[b]? = some o) (_ : True) (hne : some b ≠ row) : w1.heap[b]? = some o := (hg.block b (Array.getElem?_eq_some_iff.1 h).1 hne).trans h
theorem reads_one {w : World} {b : Nat} {v : Value} {t : TypeId} (h : w.heap[b]? = some (.cells #[v] t)) : Reads w (b + 1) 1 (some ⟨b, 0, none⟩) 1 [v] :=
  ⟨rfl, fun _ => ⟨⟨b, 0, none⟩, rfl, Nat.lt_succ_self b, fun j u hj => by
    cases j with
    | zero => have := cell_c h 0; simp at hj; subst hj; exact this
    | succ j => simp at hj⟩⟩
set_option maxRecDepth 100000 in
set_option maxHeartbeats 12800000 in
theorem rcheck_any (B br key : Nat) (win : Int) (rs : RSt) (token : ByteArray) (c a : Int) (cur nonce code : ByteArray) (w : World) (hrf : RefW w B br key win rs) (hn : rs.length ≤ 100) (hl : ∀ t, (cntR rs t).length ≤ 100) (hx : ∀ t, ∀ x ∈ cntR rs t, x ≤ 1000000) (hw : KW w) (hk : key < M64)
    (w0 : 0 ≤ win) (w1 : win ≤ 63) (h1 : token.size ≤ maxLen) (h2 : cur.size ≤ maxLen) (h3 : nonce.size ≤ maxLen) (h4 : code.size ≤ maxLen) :
    Calls Tryd.prog 15 #[.pointer (some ⟨br, 0, none⟩), .string token, .int .i64 c, .agg #[.int .i64 a, .string cur], .string nonce, .string code] w (RckPost B br key win rs token c (rckE key win rs token c a cur nonce code) w) := by
  have HMK := Lib.hid (fun W hW => rmake_any key token c a cur nonce W hW hk h1 h2 h3)
  have HE : Hid (rckE key win rs token c a cur nonce code = if mkE token c a cur nonce ≠ 0 then mkE token c a cur nonce else if code ≠ mkV key token c a cur nonce then 19 else if usedR rs token c win = true then 15 else if (cntO rs token).isSome = false ∧ 64 ≤ rs.length then 12 else 0) := Lib.hid rfl
  have HCE := Lib.hid (fun h => mkE_rng (t := token) (c := c) (a := a) (cur := cur) (nonce := nonce) h)
  have HUS := Lib.hid (fun W (h : RefW W B br key win rs) => rused_any B br key win rs token c W h (by omega) (by have := hl token; omega) (hx token) w0 w1)
  unfold MkPost at HMK
  unfold UsedPost at HUS
  have HRF := Lib.hid hrf
  have HKW := Lib.hid hw
  have HN := Lib.hid hn
  obtain ⟨tv, cv, vs, b1, b2, b3, b4, b5⟩ := hrf
  have HB1 := Lib.hid (alloc_lt w (.cells #[.int .i64 a, .string cur] 24))
  have K1 := Lib.hid (heap_alloc_new w (.cells #[.int .i64 a, .string cur] 24))
  have K2 := Lib.hid (blk_later b2 HB1.out)
  have a0 := cell_c K1.out 0
  have a1 := cell_c K1.out 1
  have a2 := cell_c K2.out 0
  clear hw b1 b2 b3 b4 b5
  generalize mkE token c a cur nonce = E at *
  generalize mkV key token c a cur nonce = V at *
  generalize rckE key win rs token c a cur nonce code = RE at *
  generalize hW : w.alloc (.cells #[.int .i64 a, .string cur] 24) = W at *
  go_enter Tryd.func15, Tryd.ntmps15
  go_wp2_with fail
  have HBW : Hid (Below W.heap.size W W.drew) := Lib.hid ((Below.refl _ _).drew)
  go_region_held3 (fun w' => Below W.heap.size W w' ∧ w'.cell? ⟨w.heap.size, 0, none⟩ = some (.int .i64 a) ∧ w'.cell? ⟨w.heap.size, 1, none⟩ = some (.string cur) ∧ w'.cell? ⟨br, 0, none⟩ = some (.int .u64 key))
    (exact keep15 HBW.out K1.out K2.out rfl)
    ((go_at_call 11; refine (HMK.out _ (HKW.out.below (HB1.out.trans (HBW.out.mono HB1.out.size)))).mono ?_; rintro e w' ⟨rfl, hb⟩; have HBW := Lib.hid (HBW.out.trans (hb.mono HBW.out.size)); clear hb))
  rename_i w2 _
  have HB2 := Lib.hid (HB1.out.trans (HBW.out.mono HB1.out.size))
  have HRF2 := Lib.hid (HRF.out.below HB2.out)
  clear a0 a1 a2
  by_cases hE : E = 0
  · subst hE
    obtain ⟨c1, c2⟩ := HCE.out rfl
    by_cases hV : code = V
    · subst hV
      have hq := ba_same code code rfl
      have HE2 : Hid (RE = if usedR rs token c win = true then 15 else if (cntO rs token).isSome = false ∧ 64 ≤ rs.length then 12 else 0) := Lib.hid (by rw [HE.out, if_neg (by simp), if_neg (by simp)])
      clear HE
      cases hU : usedR rs token c win
      · rw [hU] at HUS
        have HE3 : Hid (RE = if (cntO rs token).isSome = false ∧ 64 ≤ rs.length then 12 else 0) := Lib.hid (by rw [HE2.out, hU, if_neg (by simp)])
        clear hU HE2
        go_wp2_with fail
        refine (HUS.out _ HRF2.out).mono ?_
        rintro e w3 ⟨rfl, nu, hw3⟩
        have HB3 := Lib.hid (show Below w.heap.size w w3 by rw [hw3]; exact dNb HB2.out _)
        have HRF3 := Lib.hid (HRF.out.below HB3.out)
        clear hw3
        obtain ⟨tv, cv, vs, b1, b2, b3, b4, b5⟩ := HRF3.out
        obtain ⟨TA, tc, rfl, hT, htc⟩ := own_form b3
        obtain ⟨CA, cc, rfl, hC, hcc⟩ := own_form b4
        have HT := Lib.hid hT
        have HC := Lib.hid hC
        have HBB := Lib.hid (And.intro b1 (And.intro b2 (And.intro b3 b4)))
        have H5 := Lib.hid b5
        have r2 := cell_c b2 2
        have r3 := cell_c b2 3
        have HWB := Lib.hid (show w3.heap.size ≤ w3.heap.size from Nat.le_refl _)
        clear b1 b2 b3 b4 b5 hT hC
        go_wp2_with fail
        go_loop [15] (fun i => ∃ k : Nat, k ≤ rs.length ∧ i = .int .i64 k ∧ Hid (∀ j, j < k → (h' : j < rs.length) → rs[j].1 ≠ token)) (fun i => rs.length - (intOf i).toNat)
        case atStart => exact ⟨0, Nat.zero_le _, rfl, Lib.hid (fun j h => by omega)⟩
        case round =>
          obtain ⟨k, hk, rfl, hall⟩ := hrel
          by_cases hlt : k < rs.length
          · obtain ⟨tb, toff, rfl, ct⟩ := row_at HT.out k (.string rs[k].1) (by simp [hlt])
            have k0 : (0 : Int) ≤ (k : Int) := by omega
            have kI : (k : Int) < (rs.length : Int) := by omega
            by_cases he : rs[k].1 = token
            · have q := ba_same _ _ he
              have q2 : rs[k].1.toList = token.toList := by rw [he]
              obtain ⟨vk, hv1, hv2⟩ := H5.out k hlt
              obtain ⟨VA, vc, rfl, hV, hvc⟩ := own_form hv2
              obtain ⟨g, goff, hCA, cc'⟩ := row_at HC.out k _ hv1
              have hg0 : goff = 0 := by
                obtain ⟨g', cap', cur', hv4, -⟩ := HBB.out.2.2.2.2.resolve_left (fun q => by have := q.2; omega)
                injection hv4 with e1
                rw [hCA] at e1
                injection e1 with e1
                injection e1
              subst hg0
              subst hCA
              rw [Nat.zero_add] at cc'
              obtain ⟨gcur, hgg⟩ : ∃ cur, w3.heap[g]? = some (.cells cur 75) := by
                obtain ⟨g', cap', cur', hv4, -, hgg, -⟩ := HBB.out.2.2.2.2.resolve_left (fun q => by have := q.2; omega)
                injection hv4 with e1
                injection e1 with e1
                injection e1 with e1
                subst e1
                exact ⟨cur', hgg⟩
              have HRD := Lib.hid (Reads.of_own (A := VA) (c := vc) hv2)
              have HGL := Lib.hid (Array.getElem?_eq_some_iff.1 hgg).1
              have HBL := Lib.hid (Array.getElem?_eq_some_iff.1 HBB.out.2.1).1
              have hfz := cell_f hgg k
              have HGB : Hid (br ≠ g) := Lib.hid (fun e => by rw [← e, HBB.out.2.1] at hgg; injection hgg with q; injection q with _ q; exact absurd q (by decide))
              have HX := Lib.hid hv1
              obtain ⟨i0, hi0, hz0, hz1, hz2⟩ := info_parts info3
              have HI := Lib.hid (And.intro hi0 (And.intro hz0 (And.intro hz1 hz2)))
              have HLL := Lib.hid (show rs[k].2.length ≤ 100 by have := hl token; unfold cntR at this; rw [cntO_first rs token k hlt hall.out he] at this; exact this)
              have HE0 := Lib.hid (show RE = 0 by rw [HE3.out, if_neg (by rw [cntO_some rs token k hlt he]; simp)])
              have HHE := Lib.hid he
              have HALL := Lib.hid hall.out
              clear hgg hv1 hv2 hV hvc hi0 hz0 hz1 hz2 hall he
              obtain ⟨l, hLE⟩ : ∃ l, rs[k].2 = l := ⟨_, rfl⟩
              rw [hLE] at cc' HRD HLL
              have HLE := Lib.hid hLE
              have hgb : ¬ g = br := fun e => HGB.out e.symm
              have hgb2 : ¬ br = g := HGB.out
              have ca1 := fun X => cellA (X := X) HGL.out cc'
              have ca2 := fun X Y => cellAA (X := X) (Y := Y) HGL.out cc'
              have cb1 := fun X => cellA (X := X) HBL.out r3
              have cb2 := fun X Y => cellAA (X := X) (Y := Y) HBL.out r3
              clear hLE
              go_wp2_with fail
              go_region_law
                (first
                  | (refine step_append_any _ rfl (.tmp 64) (.tmp 71) 75 rfl w3.heap.size 3 i0 _ 1 8 Tryd.underlying75 HI.out.1 HI.out.2.1 HI.out.2.2.1 HI.out.2.2.2 rfl (by omega) (.slice (some ⟨w3.heap.size, 0, none⟩) 0 0) 0 [] rfl (by first | exact (World.ownsRow_made w3 #[] 0 (Nat.le_refl _) (by decide) rfl).drew | exact ((World.ownsRow_made w3 #[] 0 (Nat.le_refl _) (by decide) rfl).alloc _).drew | exact made1 w3 _) w3.heap.size VA l.length vc (nums l) rfl (by first | exact (HRD.out.alloc (Nat.le_refl _) _).drew | exact ((HRD.out.alloc (Nat.le_refl _) _).alloc (by simp) _).drew) (by simp [nums, Value.oneCell']) (by have := HLL.out; unfold maxLen; omega) (by have := HLL.out; omega) (by first | exact Nat.le_refl _ | (simp; done) | (simp; omega)) ?_
                     intro v1 w4 hown1 hg1 hat1
                     simp only [Nat.zero_add, List.nil_append] at hown1
                     have HB4 : Hid (Below w3.heap.size w3 w4) := Lib.hid (by first | exact ((alloc_lt w3 _).drew).grown hg1 (by first | (simp; done) | (simp; omega)) (fun kk q => by simp [Value.ownBlock] at q; omega) | exact (((alloc_lt w3 _).alloc (by simp) _).drew).grown hg1 (by first | (simp; done) | (simp; omega)) (fun kk q => by simp [Value.ownBlock] at q; omega))
                     have c4 := cellA4 HB4.out HBL.out r3
                     have cb4 := fun X => (World.cell?_alloc_lt w4 X ⟨br, 3, none⟩ (Nat.lt_of_lt_of_le HBL.out HB4.out.size)).trans (cellA4 HB4.out HBL.out r3)
                     have cb6 := fun X => (World.cell?_alloc_lt w4 X ⟨g, k, none⟩ (Nat.lt_of_lt_of_le HGL.out HB4.out.size)).trans (cellA4 HB4.out HGL.out cc')
                     have g4 := cellA4 HB4.out HGL.out cc'
                     have f4 := frozA4 HB4.out HGL.out hfz
                     have HO1 := Lib.hid hown1
                     have HG1 := Lib.hid hg1
                     clear hown1 hg1 hat1)
                  | (refine step_append_any _ rfl (.tmp 64) (.tmp 71) 75 rfl w3.heap.size 3 i0 _ 1 8 Tryd.underlying75 HI.out.1 HI.out.2.1 HI.out.2.2.1 HI.out.2.2.2 rfl (by omega) (.slice (some ⟨w3.heap.size + 1, 0, none⟩) 0 0) 0 [] rfl (by first | exact (World.ownsRow_made w3 #[] 0 (Nat.le_refl _) (by decide) rfl).drew | exact ((World.ownsRow_made w3 #[] 0 (Nat.le_refl _) (by decide) rfl).alloc _).drew | exact made1 w3 _) w3.heap.size VA l.length vc (nums l) rfl (by first | exact (HRD.out.alloc (Nat.le_refl _) _).drew | exact ((HRD.out.alloc (Nat.le_refl _) _).alloc (by simp) _).drew) (by simp [nums, Value.oneCell']) (by have := HLL.out; unfold maxLen; omega) (by have := HLL.out; omega) (by first | exact Nat.le_refl _ | (simp; done) | (simp; omega)) ?_
                     intro v1 w4 hown1 hg1 hat1
                     simp only [Nat.zero_add, List.nil_append] at hown1
                     have HB4 : Hid (Below w3.heap.size w3 w4) := Lib.hid (by first | exact ((alloc_lt w3 _).drew).grown hg1 (by first | (simp; done) | (simp; omega)) (fun kk q => by simp [Value.ownBlock] at q; omega) | exact (((alloc_lt w3 _).alloc (by simp) _).drew).grown hg1 (by first | (simp; done) | (simp; omega)) (fun kk q => by simp [Value.ownBlock] at q; omega))
                     have c4 := cellA4 HB4.out HBL.out r3
                     have cb4 := fun X => (World.cell?_alloc_lt w4 X ⟨br, 3, none⟩ (Nat.lt_of_lt_of_le HBL.out HB4.out.size)).trans (cellA4 HB4.out HBL.out r3)
                     have cb6 := fun X => (World.cell?_alloc_lt w4 X ⟨g, k, none⟩ (Nat.lt_of_lt_of_le HGL.out HB4.out.size)).trans (cellA4 HB4.out HGL.out cc')
                     have g4 := cellA4 HB4.out HGL.out cc'
                     have f4 := frozA4 HB4.out HGL.out hfz
                     have HO1 := Lib.hid hown1
                     have HG1 := Lib.hid hg1
                     clear hown1 hg1 hat1)
                  | (refine step_append_any _ rfl (.tmp 72) (.tmp 74) 75 rfl w3.heap.size 3 i0 _ 1 8 Tryd.underlying75 HI.out.1 HI.out.2.1 HI.out.2.2.1 HI.out.2.2.2 rfl (by omega) _ l.length (nums l) rfl (by first | exact HO1.out | exact HO1.out.alloc _) _ _ 1 1 [.int .i64 c] rfl (by first | exact reads_one (heap_alloc_new w4 _) | exact reads_one (grownA HG1.out (heap_alloc2_new w3 _ _) (by simp) (by simp [Value.ownBlock])) | exact reads_one (grownA HG1.out (heap_alloc2_old w3 _ _) (by simp) (by simp [Value.ownBlock]))) (by simp [Value.oneCell']) (by have := HLL.out; unfold maxLen; omega) (by have := HLL.out; omega) (by have := HB4.out.size; first | exact this | (simp; omega)) ?_
                     intro v2 w5 hown2 hg2 hat2
                     obtain ⟨g2, cp2, rfl, hge2, hlt2⟩ := hown2.form (by omega)
                     have HB5 : Hid (Below w3.heap.size w3 w5) := Lib.hid (by first | exact HB4.out.grown hg2 HB4.out.size (fun kk q => (HO1.out.lt kk q).1) | exact (HB4.out.alloc HB4.out.size _).grown hg2 (by have := HB4.out.size; simp; omega) (fun kk q => (HO1.out.lt kk q).1))
                     have c5 := cellA4 HB5.out HBL.out r3
                     have g5 := cellA4 HB5.out HGL.out cc'
                     have f5 := frozA4 HB5.out HGL.out hfz
                     have HO2 := Lib.hid hown2
                     clear hown2 hg2 hat2 hge2 hlt2))
              all_goals
                go_wp2_with fail
                go_ret
                rw [HE0.out]
                exact rck_put HRF.out HB3.out (ref_set HBB.out.1 HBB.out.2.1 HBB.out.2.2.1 HBB.out.2.2.2 H5.out hlt HALL.out HHE.out HB5.out (by rw [HLE.out]; simpa [nums] using HO2.out))
            · have q := ba_diff _ _ he
              have q2 : ¬ rs[k].1.toList = token.toList := by simpa using q
              have HN2 := Lib.hid (fun j (h : j < k + 1) (h' : j < rs.length) => show rs[j].1 ≠ token from by
                rcases Nat.lt_or_ge j k with z | z
                · exact hall.out j z h'
                · obtain rfl : j = k := by omega
                  exact he)
              clear he hall
              generalize rs[k].1 = X at *
              go_wp2_with fail
              go_round
              case rel => exact ⟨k + 1, by omega, by go_num, HN2⟩
              case measure => simp [intOf]; omega
          · obtain rfl : k = rs.length := by omega
            have HALL := Lib.hid (fun j (h' : j < rs.length) => hall.out j h' h')
            have HNO := Lib.hid (cntO_none rs token HALL.out)
            clear hall
            by_cases h64 : 64 ≤ rs.length
            · have h64I : (64 : Int) ≤ (rs.length : Int) := by omega
              have HE0 := Lib.hid (show RE = 12 by rw [HE3.out, if_pos ⟨by rw [HNO.out]; rfl, h64⟩])
              go_wp2_with fail
              go_ret
              rw [HE0.out]
              exact rck_same HRF.out HB3.out (by decide)
            · have h64I : ¬ (64 : Int) ≤ (rs.length : Int) := by omega
              have HE0 := Lib.hid (show RE = 0 by rw [HE3.out, if_neg (fun q => h64 q.2)])
              obtain ⟨i9, hi0, hz0, hz1, hz2⟩ := info_parts info9
              have HI9 := Lib.hid (And.intro hi0 (And.intro hz0 (And.intro hz1 hz2)))
              clear hi0 hz0 hz1 hz2
              obtain ⟨i75, hi0, hz0, hz1, hz2⟩ := info_parts info75
              have HI75 := Lib.hid (And.intro hi0 (And.intro hz0 (And.intro hz1 hz2)))
              clear hi0 hz0 hz1 hz2
              have HRT := Lib.hid (Reads.of_own HBB.out.2.2.1)
              have HRC := Lib.hid (Reads.of_own HBB.out.2.2.2)
              have HBL := Lib.hid (Array.getElem?_eq_some_iff.1 HBB.out.2.1).1
              have HF2 := Lib.hid (cell_f HBB.out.2.1 2)
              have HF3 := Lib.hid (cell_f HBB.out.2.1 3)
              have HR2 := Lib.hid r2
              have HR3 := Lib.hid r3
              have HN64 := Lib.hid (show rs.length < 64 by omega)
              have HV1 := Lib.hid (show ∀ u ∈ vs, u.oneCell' = true from by
                intro u hu
                obtain ⟨i, hi, rfl⟩ := List.getElem_of_mem hu
                have hvl := HBB.out.2.2.2.1
                obtain ⟨v, e1, e2⟩ := H5.out i (by omega)
                have : vs[i] = v := by simpa [hi] using e1
                rw [this]
                obtain ⟨A, cc2, rfl, -, -⟩ := own_form e2
                rfl)
              clear h64
              have ca2 := fun X => (World.cell?_alloc_lt w3 X ⟨br, 2, none⟩ HBL.out).trans r2
              have ca3 := fun X => (World.cell?_alloc_lt w3 X ⟨br, 3, none⟩ HBL.out).trans r3
              go_wp2_with (first
                | (at_builtin
                   refine wpList_append_any _ rfl (.tmp 84) (.tmp 88) _ rfl w3.heap.size 9 i9 _ 1 16 Tryd.underlying65 HI9.out.1 HI9.out.2.1 HI9.out.2.2.1 HI9.out.2.2.2 rfl (by omega) (.slice (some ⟨w3.heap.size, 0, none⟩) 0 0) 0 [] rfl (World.ownsRow_made w3 #[] 0 (Nat.le_refl _) (by decide) rfl) w3.heap.size TA rs.length tc (rs.map (fun x => Value.string x.1)) rfl (HRT.out.alloc (Nat.le_refl _) _) (strs_one rs) (by have := HN64.out; unfold maxLen; omega) (by have := HN64.out; omega) (by simp) ?_
                   intro v1 w4 hown1 hg1 hat1
                   simp only [Nat.zero_add, List.nil_append] at hown1
                   have HB4 : Hid (Below w3.heap.size w3 w4) := Lib.hid ((alloc_lt w3 _).grown hg1 (by simp) (fun kk q => by simp [Value.ownBlock] at q; omega))
                   have HO1 := Lib.hid hown1
                   clear hown1 hg1 hat1)
                | (at_builtin
                   refine wpList_append_any _ rfl (.tmp 89) (.tmp 91) _ rfl w3.heap.size 9 i9 _ 1 16 Tryd.underlying65 HI9.out.1 HI9.out.2.1 HI9.out.2.2.1 HI9.out.2.2.2 rfl (by omega) _ rs.length (rs.map (fun x => Value.string x.1)) rfl (HO1.out.alloc _) _ _ 1 1 [.string token] rfl (reads_one (heap_alloc_new w4 _)) (by simp [Value.oneCell']) (by have := HN64.out; unfold maxLen; omega) (by have := HN64.out; omega) (by have := HB4.out.size; simp; omega) ?_
                   intro v2 w5 hown2 hg2 hat2
                   obtain ⟨g2, cp2, rfl, hge2, hlt2⟩ := hown2.form (by omega)
                   have HB5 : Hid (Below w3.heap.size w3 w5) := Lib.hid ((HB4.out.alloc HB4.out.size _).grown hg2 (by have := HB4.out.size; simp; omega) (fun kk q => (HO1.out.lt kk q).1))
                   have c52 := cellA4 HB5.out HBL.out HR2.out
                   have f52 := frozA4 HB5.out HBL.out HF2.out
                   have HW6 := Lib.hid (new6 HBB.out.1 HBB.out.2.1 HBB.out.2.2.2 H5.out HB5.out hown2)
                   have c63 := fun X => (World.cell?_alloc_lt _ X ⟨br, 3, none⟩ (Array.getElem?_eq_some_iff.1 HW6.out.1).1).trans (cell_c HW6.out.1 3)
                   clear hown2 hg2 hat2 hge2 hlt2)
                | (at_builtin
                   refine wpList_append_any _ rfl (.tmp 96) (.tmp 100) _ rfl (w5.setCell ⟨br, 2, none⟩ _).heap.size 75 i75 _ 1 24 Tryd.underlying66 HI75.out.1 HI75.out.2.1 HI75.out.2.2.1 HI75.out.2.2.2 rfl (by omega) (.slice (some ⟨w5.heap.size, 0, none⟩) 0 0) 0 [] rfl (made6 (by simp)) _ CA rs.length cc vs rfl (HW6.out.2.2.1.alloc (Nat.le_refl _) _) HV1.out (by have := HN64.out; unfold maxLen; omega) (by have := HN64.out; omega) (by simp) ?_
                   intro v3 w7 hown3 hg3 hat3
                   simp only [Nat.zero_add, List.nil_append] at hown3
                   have HB7 := Lib.hid ((alloc_lt (w5.setCell ⟨br, 2, none⟩ (.slice (some ⟨g2, 0, none⟩) (rs.length + 1) cp2)) _).grown hg3 (by simp) (fun kk q => by simp [Value.ownBlock] at q; simp; omega))
                   have HO3 := Lib.hid hown3
                   clear hown3 hg3 hat3)
                | (at_builtin
                   refine wpList_append_any _ rfl (.tmp 101) (.tmp 104) _ rfl (w5.setCell ⟨br, 2, none⟩ _).heap.size 75 i75 _ 1 24 Tryd.underlying66 HI75.out.1 HI75.out.2.1 HI75.out.2.2.1 HI75.out.2.2.2 rfl (by omega) _ rs.length vs rfl ((HO3.out.alloc _).alloc _) _ _ 1 1 [.slice (some ⟨w7.heap.size, 0, none⟩) 1 1] rfl (reads_one (heap_alloc2_new w7 _ _)) (by simp [Value.oneCell']) (by have := HN64.out; unfold maxLen; omega) (by have := HN64.out; omega) (by have := HB7.out.size; simp at this ⊢; omega) ?_
                   intro v4 w8 hown4 hg4 hat4
                   obtain ⟨g4, cp4, rfl, hge4, hlt4⟩ := hown4.form (by omega)
                   have HB8 := Lib.hid (((HB7.out.alloc HB7.out.size _).alloc (by have := HB7.out.size; simp at this ⊢; omega) _).grown hg4 (by have := HB7.out.size; simp at this ⊢; omega) (fun kk q => (HO3.out.lt kk q).1))
                   have c83 := (HB8.out.cell (p := ⟨br, 3, none⟩) (Array.getElem?_eq_some_iff.1 HW6.out.1).1).trans (cell_c HW6.out.1 3)
                   have f83 := (HB8.out.frozen (p := ⟨br, 3, none⟩) (Array.getElem?_eq_some_iff.1 HW6.out.1).1).trans (cell_f HW6.out.1 3)
                   have HO4 := Lib.hid hown4
                   have HG4 := Lib.hid hg4
                   clear hown4 hg4 hat4 hge4 hlt4))
              go_ret
              rw [HE0.out]
              exact rck_put HRF.out HB3.out (new9 HBB.out.1 (by have := HBB.out.2.2.2.1; simpa using this) HALL.out HW6.out HB8.out HO4.out (made_one HB7.out.size HO3.out HG4.out))
      · rw [hU] at HUS
        have HE3 : Hid (RE = 15) := Lib.hid (by rw [HE2.out, hU, if_pos rfl])
        clear hU HE2
        go_wp2_with fail
        refine (HUS.out _ HRF2.out).mono ?_
        rintro e w3 ⟨rfl, nu, hw3⟩
        have HB3 := Lib.hid (show Below w.heap.size w w3 by rw [hw3]; exact dNb HB2.out _)
        clear hw3
        go_wp2_with fail
        go_ret
        rw [HE3.out]
        exact rck_same HRF.out HB3.out (by decide)
    · have hq := ba_diff code V hV
      have hq2 : ¬ code.toList = V.toList := by simpa using hq
      have HE3 : Hid (RE = 19) := Lib.hid (by rw [HE.out, if_neg (by simp), if_pos hV])
      clear HE hV
      go_wp2_with fail
      go_ret
      rw [HE3.out]
      exact rck_same HRF.out HB2.out (by decide)
  · have hz : (E != 0) = true := by simpa using hE
    have HE3 : Hid (RE = E) := Lib.hid (by rw [HE.out, if_pos hE])
    have HNE := Lib.hid hE
    clear HE hE
    go_wp2_with fail
    go_ret
    rw [HE3.out]
    exact rck_same HRF.out HB2.out HNE.out
end Go.Proofs.YtodlholfhgicoaaDoor
