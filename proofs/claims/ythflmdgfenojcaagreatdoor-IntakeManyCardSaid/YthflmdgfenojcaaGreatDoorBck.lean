/- The walk of batch.Check. -/
import Derived.Test.YthflmdgfenojcaaGreatDoorSst
import Derived.Test.YthflmdgfenojcaaGreatDoorBnm
import Derived.Test.YthflmdgfenojcaaGreatDoorSum
import Derived.Test.YthflmdgfenojcaaGreatDoorSml
import Derived.Outline
namespace Go.Proofs.YthflmdgfenojcaaGreatDoor
set_option linter.unusedVariables false
open Go.RowKit Go.Maps

def batV (b : Bat) (A : Option Addr) (cp : Nat) : Value := .agg #[.string b.id, .string b.sd, .int .i64 b.dt, .slice A b.rs.length cp]
structure BatOk (b : Bat) : Prop where
  i : b.id.size ≤ maxLen
  s : b.sd.size ≤ maxLen
  r : ∀ x ∈ b.rs, x.Fit
theorem headE_5 {id sd : ByteArray} {dt : Int} (h : ¬ (idB id = true ∧ nameB sd.data.toList = true)) : headE id sd dt = 5 := by unfold headE; rw [if_neg h]
theorem headE_14 {id sd : ByteArray} {dt : Int} (h : idB id = true) (h2 : nameB sd.data.toList = true) (h3 : ¬ (0 ≤ dt ∧ dt ≤ 99999)) : headE id sd dt = 14 := by unfold headE; rw [if_pos ⟨h, h2⟩, if_neg h3]
theorem headE_0 {id sd : ByteArray} {dt : Int} (h : idB id = true) (h2 : nameB sd.data.toList = true) (h3 : 0 ≤ dt ∧ dt ≤ 99999) : headE id sd dt = 0 := by unfold headE; rw [if_pos ⟨h, h2⟩, if_pos h3]
theorem chkB_head {b : Bat} {E : Int} (h : headE b.id b.sd b.dt = E) (hE : E ≠ 0) : chkB b = E := by unfold chkB; rw [if_pos (by rw [h]; exact hE), h]
theorem chkB_3 {b : Bat} (h : headE b.id b.sd b.dt = 0) (h2 : 200 < b.rs.length) : chkB b = 3 := by unfold chkB; rw [if_neg (by simp [h]), if_pos h2]
theorem chkB_at {b : Bat} (h : headE b.id b.sd b.dt = 0) (h2 : b.rs.length ≤ 200) (k : Nat) (hk : k < b.rs.length) (h3 : ∀ j, j < k → ptL b.sd b.rs j = 0) (h4 : ptL b.sd b.rs k ≠ 0) : chkB b = ptL b.sd b.rs k := by
  unfold chkB; rw [if_neg (by simp [h]), if_neg (by omega), firstE_at _ k _ hk h3 h4]
theorem rcAt_fit {l : List Rec} (h : ∀ x ∈ l, x.Fit) (k : Nat) (hk : k < l.length) : (rcAt l k).Fit := by rw [rcAt_get l k hk]; exact h _ (List.getElem_mem hk)
/-- The state of Check's loop behind k records: the boxed file, the names so far. -/
structure CkS (b : Bat) (A : Option Addr) (cp k : Nat) (w W : World) : Prop where
  t : W.heap[w.heap.size]? = some (.cells #[.string b.id, .string b.sd, .int .i64 b.dt, .slice A b.rs.length cp] 61)
  s : SSet W (w.heap.size + 1) (idsOf (b.rs.take k))
  be : Below w.heap.size w W
  z : ∀ j, j < k → ptL b.sd b.rs j = 0
theorem CkS.start (b : Bat) (A : Option Addr) (cp : Nat) (w : World) : CkS b A cp 0 w ((w.alloc (.cells #[.string b.id, .string b.sd, .int .i64 b.dt, .slice A b.rs.length cp] 61)).alloc (.map #[] 0)) := by
  have e : (w.alloc (.cells #[.string b.id, .string b.sd, .int .i64 b.dt, .slice A b.rs.length cp] 61)).heap.size = w.heap.size + 1 := Array.size_push _
  refine ⟨blk_later (heap_alloc_new w _) (bx _ _), ?_, (bx w _).trans ((bx _ _).mono (by simp)), fun j hj => absurd hj (Nat.not_lt_zero _)⟩
  rw [← e]; exact SSet.made _
theorem CkS.below {b : Bat} {A : Option Addr} {cp k : Nat} {w W W' : World} (h : CkS b A cp k w W) (hb : Below W.heap.size W W') : CkS b A cp k w W' :=
  ⟨blk_later h.t hb, h.s.below hb, h.be.trans (hb.mono h.be.size), h.z⟩
theorem CkS.next {b : Bat} {A : Option Addr} {cp k : Nat} {w W W' : World} (h : CkS b A cp k w W) (hk : k < b.rs.length) (hs : SSet W' (w.heap.size + 1) (idsOf (b.rs.take k) ++ [(rcAt b.rs k).id])) (hg : W.grownBy W' (some (w.heap.size + 1))) (hz : ptL b.sd b.rs k = 0) : CkS b A cp (k + 1) w W' := by
  refine ⟨?_, by rw [idsOf_succ _ _ hk]; exact hs, h.be.grown hg h.be.size (fun x hx => by cases hx; omega), fun j hj => ?_⟩
  · rw [hg.block _ (Array.getElem?_eq_some_iff.1 h.t).1 (by simp)]; exact h.t
  · rcases Nat.lt_or_ge j k with c | c
    · exact h.z j c
    · obtain rfl : j = k := by omega
      exact hz
set_option maxRecDepth 1000000 in
set_option maxHeartbeats 12800000 in
theorem bcheck_any (A : Option Addr) (cp : Nat) (b : Bat) (w : World) (hr : IsRow w A (b.rs.flatMap recF)) (hok : BatOk b) (hc : b.rs.length ≤ cp) (hm : b.rs.length ≤ 100000) : Calls Tryz.prog 47 #[batV b A cp] w (PtPost (chkB b) w) := by
  have HR := Lib.hid hr
  have HOK := Lib.hid hok.r
  have HI := Lib.hid (fun W => bident_any b.id W hok.i)
  have HN := Lib.hid (fun W => lname_any b.sd W hok.s)
  have H5 := Lib.hid (fun h => chkB_head (b := b) (headE_5 h) (by decide))
  have H14 := Lib.hid (fun h1 h2 h3 => chkB_head (b := b) (headE_14 h1 h2 h3) (by decide))
  have H0 := Lib.hid (fun h1 h2 h3 => headE_0 (id := b.id) (sd := b.sd) (dt := b.dt) h1 h2 h3)
  have H3 := Lib.hid (chkB_3 (b := b))
  have HA := Lib.hid (fun h h2 k hk h3 h4 => chkB_at (b := b) h h2 k hk h3 h4)
  have HZ := Lib.hid (chkB_ok (b := b))
  have HS0 := CkS.start b A cp w
  clear hr hok
  unfold PtPost
  generalize chkB b = CB at *
  obtain ⟨id, sd, dt, rs⟩ := b
  unfold batV
  dsimp only at *
  have HS0 := Lib.hid HS0
  cases qi : idB id with
  | false =>
    have he := Lib.hid (H5.out (fun h => by rw [qi] at h; exact absurd h.1 (by decide)))
    rw [qi] at HI
    clear H5 H14 H0 H3 HA HZ HS0 qi
    go_enter Tryz.func47, Tryz.ntmps47
    go_wp2_with fail
    refine (HI.out _).mono ?_
    rintro e w1 ⟨rfl, rfl⟩
    go_wp2_with fail
    go_ret
    exact ⟨by rw [he.out]; rfl, bx _ _⟩
  | true =>
  cases qn : nameB sd.data.toList with
  | false =>
    have he := Lib.hid (H5.out (fun h => by rw [qn] at h; exact absurd h.2 (by decide)))
    rw [qi] at HI
    rw [qn] at HN
    clear H5 H14 H0 H3 HA HZ HS0 qi qn
    go_enter Tryz.func47, Tryz.ntmps47
    go_wp2_with fail
    refine (HI.out _).mono ?_
    rintro e w1 ⟨rfl, rfl⟩
    go_wp2_with fail
    refine (HN.out _).mono ?_
    rintro e w1 ⟨rfl, rfl⟩
    go_wp2_with fail
    go_ret
    exact ⟨by rw [he.out]; rfl, bx _ _⟩
  | true =>
  have hd : dt < 0 ∨ (¬ dt < 0 ∧ 99999 < dt) ∨ (¬ dt < 0 ∧ ¬ 99999 < dt) := by omega
  have H14 := Lib.hid (H14.out qi qn)
  have H0 := Lib.hid (H0.out qi qn)
  rw [qi] at HI
  rw [qn] at HN
  clear H5 qi qn
  rcases hd with q | ⟨q, q'⟩ | ⟨q, q'⟩
  iterate 2
    · have he := Lib.hid (H14.out (by omega))
      clear H14 H0 H3 HA HZ HS0
      go_enter Tryz.func47, Tryz.ntmps47
      go_wp2_with fail
      refine (HI.out _).mono ?_
      rintro e w1 ⟨rfl, rfl⟩
      go_wp2_with fail
      refine (HN.out _).mono ?_
      rintro e w1 ⟨rfl, rfl⟩
      go_wp2_with fail
      go_ret
      exact ⟨by rw [he.out]; rfl, bx _ _⟩
  have h0 := Lib.hid (H0.out (by omega))
  have hl : 200 < rs.length ∨ rs.length ≤ 200 := by omega
  rcases hl with q2 | q2
  · have he := Lib.hid (H3.out h0.out q2)
    have q3 : (200 : Int) < (rs.length : Int) := by omega
    clear H14 H0 H3 HA HZ HS0
    go_enter Tryz.func47, Tryz.ntmps47
    go_wp2_with fail
    refine (HI.out _).mono ?_
    rintro e w1 ⟨rfl, rfl⟩
    go_wp2_with fail
    refine (HN.out _).mono ?_
    rintro e w1 ⟨rfl, rfl⟩
    go_wp2_with fail
    go_ret
    exact ⟨by rw [he.out]; rfl, bx _ _⟩
  · have q3 : ¬ (200 : Int) < (rs.length : Int) := by omega
    have HA := Lib.hid (HA.out h0.out q2)
    have HZ := Lib.hid (HZ.out h0.out q2)
    have hmm := @run_makeMap Tryz.prog
    clear H14 H0 H3
    go_enter Tryz.func47, Tryz.ntmps47
    go_wp2_with fail
    refine (HI.out _).mono ?_
    rintro e w1 ⟨rfl, rfl⟩
    go_wp2_with fail
    refine (HN.out _).mono ?_
    rintro e w1 ⟨rfl, rfl⟩
    go_wp2_with fail
    clear HI HN
    go_loopw [33] (fun i wr => ∃ k : Nat, k ≤ rs.length ∧ i = .int .i64 k ∧ Hid (CkS ⟨id, sd, dt, rs⟩ A cp k w wr)) (fun i _ => rs.length - (intOf i).toNat)
    case atStart => exact ⟨0, Nat.zero_le _, rfl, HS0⟩
    case round =>
      clear HS0
      obtain ⟨k, hk, rfl, HW⟩ := hrel
      by_cases hlt : k < rs.length
      · rcases row_rc HR.out k hlt with ⟨b, off, rfl, hcell⟩
        have HC := Lib.hid ((hcell k hlt).later HW.out.be)
        have HFT := Lib.hid (rcAt_fit HOK.out k hlt)
        have HP0 := Lib.hid (HA.out k hlt HW.out.z)
        have HP1 := Lib.hid (fun h => ptL_chk (sd := sd) (rs := rs) (k := k) h)
        have HP2 := Lib.hid (fun h h2 => ptL_aq (sd := sd) (rs := rs) (k := k) h h2)
        have HP3 := Lib.hid (fun h h2 h3 => ptL_id (sd := sd) (rs := rs) (k := k) h h2 h3)
        have HP4 := Lib.hid (fun h h2 h3 => ptL_ok (sd := sd) (rs := rs) (k := k) h h2 h3)
        have HNX := Lib.hid (fun W' W hs hg hz => (fun h : CkS ⟨id, sd, dt, rs⟩ (some ⟨b, off, none⟩) cp k w W => h.next (W' := W') hlt hs hg hz))
        dsimp only at HNX
        obtain ⟨r, hrk⟩ : ∃ r, rcAt rs k = r := ⟨_, rfl⟩
        rw [hrk] at HC HFT HP1 HP2 HP3 HP4 HNX
        have HCH := Lib.hid (fun W => chk_any r HFT.out W)
        unfold PtPost at HCH
        obtain ⟨E, hE⟩ : ∃ E, chkE r = E := ⟨_, rfl⟩
        obtain ⟨L, hL⟩ : ∃ L, idsOf (rs.take k) = L := ⟨_, rfl⟩
        have HLL : Hid (L.length < 1000000) := Lib.hid (by rw [← hL]; unfold idsOf; simp; omega)
        have HSL : Hid (∀ W, CkS ⟨id, sd, dt, rs⟩ (some ⟨b, off, none⟩) cp k w W → SSet W (w.heap.size + 1) L) := Lib.hid (fun W h => by rw [← hL]; exact h.s)
        rw [hE] at HCH HP1 HP2 HP3 HP4
        rw [hL] at HP3 HP4 HNX
        clear hE hL hrk hcell HR HA HZ
        obtain ⟨K, rid, au, aq, is, me, ca, a, cu, d, c, f⟩ := r
        have c0 := HC.out.c0
        have c1 := HC.out.c1
        have c2 := HC.out.c2
        have c3 := HC.out.c3
        have c4 := HC.out.c4
        have c5 := HC.out.c5
        have c6 := HC.out.c6
        have c7 := HC.out.c7
        have c8 := HC.out.c8
        have c9 := HC.out.c9
        have c10 := HC.out.c10
        have c11 := HC.out.c11
        unfold Rec.val Rec.cells at HCH
        dsimp only at *
        have hsz : rid.size ≤ maxLen := HFT.out.1
        have kI : (k : Int) < (rs.length : Int) := by omega
        have k0 : (0 : Int) ≤ (k : Int) := by omega
        have hwl : w.heap.size < wr.heap.size := (Array.getElem?_eq_some_iff.1 HW.out.t).1
        by_cases h0 : E = 0
        · subst h0
          by_cases haq : aq = sd
          · subst haq
            have hq := str_eq (a := aq) (b := aq) rfl
            by_cases hin : rid ∈ L
            · have hdc := decide_eq_true hin
              have HP := Lib.hid ((HP0.out (by rw [HP3.out rfl rfl hin]; decide)).trans (HP3.out rfl rfl hin))
              clear hin HP0 HP1 HP2 HP3 HP4 HNX
              go_wp2_with fail
              refine (HCH.out _).mono ?_
              rintro e w1 ⟨rfl, hb⟩
              obtain ⟨kR, hz, hb1⟩ := box1 hb
              have HW1 := Lib.hid (HW.out.below hb1)
              have a1 := cell_c kR 1
              have a3 := cell_c kR 3
              have t1 := cell_c HW1.out.t 1
              have hlk := (HSL.out _ HW1.out).look rid hsz
              rw [hdc] at hlk
              clear kR hb hb1 hdc
              simp at a1 a3 t1
              go_wp2_with fail
              go_ret
              exact ⟨by rw [HP.out]; rfl, HW1.out.be⟩
            · have hdc := decide_eq_false hin
              have HP := Lib.hid (HP4.out rfl rfl hin)
              clear hin HP0 HP1 HP2 HP3 HP4
              go_wp2_with fail
              refine (HCH.out _).mono ?_
              rintro e w1 ⟨rfl, hb⟩
              obtain ⟨kR, hz, hb1⟩ := box1 hb
              have HW1 := Lib.hid (HW.out.below hb1)
              have a1 := cell_c kR 1
              have a3 := cell_c kR 3
              have t1 := cell_c HW1.out.t 1
              have hlk := (HSL.out _ HW1.out).look rid hsz
              rw [hdc] at hlk
              obtain ⟨w2, hrun, hs2, hg2⟩ := (HSL.out _ HW1.out).put HLL.out rid hsz
              have HW2 := Lib.hid (HNX.out w2 w1 hs2 hg2 HP.out HW1.out)
              clear kR hb hb1 hdc hs2 hg2
              simp at a1 a3 t1
              go_wp2_with fail
              go_roundw
              case rel => exact ⟨k + 1, by omega, by go_num, HW2⟩
              case measure => simp [intOf]; omega
          · have hq := str_ne (a := aq) (b := sd) haq
            have HP := Lib.hid ((HP0.out (by rw [HP2.out rfl haq]; decide)).trans (HP2.out rfl haq))
            clear haq HP0 HP1 HP2 HP3 HP4 HNX
            go_wp2_with fail
            refine (HCH.out _).mono ?_
            rintro e w1 ⟨rfl, hb⟩
            obtain ⟨kR, hz, hb1⟩ := box1 hb
            have HW1 := Lib.hid (HW.out.below hb1)
            have a3 := cell_c kR 3
            have t1 := cell_c HW1.out.t 1
            clear kR hb hb1
            simp at a3 t1
            go_wp2_with fail
            go_ret
            exact ⟨by rw [HP.out]; rfl, HW1.out.be⟩
        · have heb : (E != 0) = true := by simpa using h0
          have HP := Lib.hid ((HP0.out (by rw [HP1.out h0]; exact h0)).trans (HP1.out h0))
          clear h0 HP0 HP1 HP2 HP3 HP4 HNX
          go_wp2_with fail
          refine (HCH.out _).mono ?_
          rintro e w1 ⟨rfl, hb⟩
          obtain ⟨kR, hz, hb1⟩ := box1 hb
          have HW1 := Lib.hid (HW.out.below hb1)
          clear kR hb hb1
          go_wp2_with fail
          go_ret
          exact ⟨by rw [HP.out]; rfl, HW1.out.be⟩
      · obtain rfl : k = rs.length := by omega
        have HP := Lib.hid (HZ.out HW.out.z)
        have kI : ¬ (rs.length : Int) < (rs.length : Int) := by omega
        go_wp2_with fail
        go_ret
        exact ⟨by rw [HP.out]; rfl, HW.out.be⟩
end Go.Proofs.YthflmdgfenojcaaGreatDoor
