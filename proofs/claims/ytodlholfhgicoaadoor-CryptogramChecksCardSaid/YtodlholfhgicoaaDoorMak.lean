/- The walks of Make and New, of the program and of the reference. -/
import Derived.Test.YtodlholfhgicoaaDoorNum2
import Derived.Test.YtodlholfhgicoaaDoorMon
import Derived.Deep.RegionHeld3
import Derived.Lib.SmallJoins
namespace Go.Proofs.YtodlholfhgicoaaDoor
set_option linter.unusedVariables false
open Go.RowKit Go.Sort

theorem box1 {w w1 : World} {C1 : Array Value} {T1 : TypeId} (hb : Below (w.alloc (.cells C1 T1)).heap.size (w.alloc (.cells C1 T1)) w1) :
    w1.heap[w.heap.size]? = some (.cells C1 T1) ∧ w.heap.size < w1.heap.size ∧ Below w.heap.size w w1 := by
  have hz := hb.size
  simp only [World.alloc, Array.size_push] at hz
  refine ⟨?_, by omega, ((Below.refl _ _).alloc (Nat.le_refl _) _).trans (hb.mono (by simp))⟩
  rw [hb.block _ (by simp)]; exact (MapKept.heap_alloc w _).1
theorem blk_later {w w1 : World} {b : Nat} {o : Obj} (h : w.heap[b]? = some o) (hb : Below w.heap.size w w1) : w1.heap[b]? = some o := by
  rw [hb.block _ (by rcases Nat.lt_or_ge b w.heap.size with q | q; exact q; rw [Array.getElem?_eq_none (by omega)] at h; cases h)]; exact h
theorem cell_c {w : World} {b : Nat} {C : Array Value} {T : TypeId} (h : w.heap[b]? = some (.cells C T)) (o : Nat) : w.cell? ⟨b, o, none⟩ = C[o]? := by simp [World.cell?, h]
theorem cell_f {w : World} {b : Nat} {C : Array Value} {T : TypeId} (h : w.heap[b]? = some (.cells C T)) (o : Nat) : w.frozen? ⟨b, o, none⟩ = false := by simp [World.frozen?, h]
theorem alloc_lt (w : World) (o : Obj) : Below w.heap.size w (w.alloc o) := (Below.refl _ _).alloc (Nat.le_refl _) _
theorem itoaS_pos (n : Int) (h : 0 ≤ n) : itoaS n = ⟨(Lib.decDigits n.toNat).toArray⟩ := by unfold itoaS Lib.itoa; rw [if_neg (by omega)]
theorem itoaS_neg (n : Int) (h : n < 0) : itoaS n = ⟨#[45]⟩ ++ ⟨(Lib.decDigits n.natAbs).toArray⟩ := by
  unfold itoaS Lib.itoa
  rw [if_pos h]
  apply ByteArray.ext; apply Array.ext'
  simp
theorem itoaS_size (n : Int) (h0 : -9223372036854775807 ≤ n) (h1 : n ≤ 9223372036854775807) : (itoaS n).size ≤ 21 := by
  have key : ∀ u : Nat, u < 18446744073709551616 → (Lib.decDigits u).length ≤ 20 := fun u hu => by rw [Lib.decDigits_length]; exact nd20 u hu
  show (Lib.itoa n).toArray.size ≤ 21
  rw [List.size_toArray]
  unfold Lib.itoa
  split
  · have := key n.natAbs (by omega); simp; omega
  · have := key n.toNat (by omega); omega
set_option maxHeartbeats 800000 in
theorem rdecimal_any (n : Int) (w : World) (h0 : -9223372036854775807 ≤ n) (h1 : n ≤ 9223372036854775807) : Calls Tryd.prog 57 #[.int .i64 n] w fun e w' => e = .returned (.string (itoaS n)) ∧ w = w' := by
  by_cases hn : n < 0
  · have hd := fun W => rdec_any n.natAbs W (by omega)
    have hv := itoaS_neg n hn
    have hc : ((n.natAbs : Nat) : Int) = -n := by omega
    have hsz : (Lib.decDigits n.natAbs).length ≤ 20 := by rw [Lib.decDigits_length]; exact nd20 _ (by omega)
    obtain ⟨D, hD⟩ : ∃ D : ByteArray, (⟨(Lib.decDigits n.natAbs).toArray⟩ : ByteArray) = D := ⟨_, rfl⟩
    have hDz : D.size ≤ 20 := by rw [← hD]; show (Lib.decDigits n.natAbs).toArray.size ≤ 20; rw [List.size_toArray]; exact hsz
    rw [hD] at hv
    rw [hc] at hd
    simp only [hD] at hd
    have HD := Lib.hid hd
    have HV := Lib.hid hv
    clear hd hv hc hD hsz
    go_enter Tryd.func57, Tryd.ntmps57
    go_wp2_with fail
    refine (HD.out _).mono ?_
    rintro e w1 ⟨rfl, rfl⟩
    go_wp2_with fail
    go_ret
    exact ⟨by rw [HV.out]; rfl, rfl⟩
  · have hd := fun W => rdec_any n.toNat W (by omega)
    have hv := itoaS_pos n (by omega)
    have hc : ((n.toNat : Nat) : Int) = n := by omega
    rw [hc] at hd
    rw [← hv] at hd
    have HD := Lib.hid hd
    clear hd hv hc
    go_enter Tryd.func57, Tryd.ntmps57
    go_wp2_with fail
    refine (HD.out _).mono ?_
    rintro e w1 ⟨rfl, rfl⟩
    go_wp2_with fail
    go_ret
    exact ⟨rfl, rfl⟩
def nonC (b : UInt8) : Bool := decide (33 ≤ b.toNat) && decide (b.toNat ≤ 126)
def nonB (s : ByteArray) : Bool := decide (s.size ≤ 8) && s.data.toList.all nonC
theorem non_no {s : ByteArray} (k : Nat) (h : k < s.size) (hl : nonC s[k] = false) : nonB s = false := by
  unfold nonB
  rw [Bool.and_eq_false_iff]
  right
  rw [List.all_eq_false]
  exact ⟨s[k], Array.getElem_mem_toList h, by rw [hl]; simp⟩
theorem non_yes {s : ByteArray} (h8 : s.size ≤ 8) (hw : ∀ j, (h : j < s.size) → nonC s[j] = true) : nonB s = true := by
  unfold nonB
  rw [decide_eq_true h8, Bool.true_and, List.all_eq_true]
  intro b hb
  obtain ⟨i, hi, rfl⟩ := List.mem_iff_getElem.1 hb
  exact hw i (by simpa using hi)
theorem non_long {s : ByteArray} (h : 8 < s.size) : nonB s = false := by unfold nonB; rw [decide_eq_false (by omega)]; rfl
set_option maxHeartbeats 1600000 in
theorem nonce_any (s : ByteArray) (w : World) (hs : s.size ≤ maxLen) : Calls Tryd.prog 25 #[.string s] w fun e w' => e = .returned (.bool (nonB s)) ∧ w = w' := by
  unfold maxLen at hs
  by_cases h8 : s.size ≤ 8
  · have HNO := Lib.hid (fun k (h : k < s.size) hl => non_no (s := s) k h hl)
    have HYES := Lib.hid (fun h => non_yes (s := s) h8 h)
    go_enter Tryd.func25, Tryd.ntmps25
    go_wp2_with fail
    go_loop [9, 3] (fun i _ => ∃ k : Nat, k ≤ s.size ∧ i = .int .i64 k ∧ Hid (∀ j, (h : j < k) → (h' : j < s.size) → nonC (s[j]) = true)) (fun i _ => s.size - (intOf i).toNat)
    case atStart => exact ⟨0, Nat.zero_le _, rfl, Lib.hid (fun j h _ => by omega)⟩
    case round =>
      obtain ⟨k, hk, rfl, hall⟩ := hrel
      by_cases hlt : k < s.size
      · obtain ⟨c, hc⟩ : ∃ c, (s[k]).toNat = c := ⟨_, rfl⟩
        have hc8 : c < 256 := by rw [← hc]; exact UInt8.toNat_lt _
        have HC := Lib.hid hc
        by_cases h1 : c < 33
        · have HF := Lib.hid (HNO.out k hlt (by unfold nonC; rw [hc, decide_eq_false (by omega)]; rfl))
          have h1' : (c : Int) < 33 := by omega
          go_wp2_with fail
          go_ret
          exact ⟨by rw [HF.out]; rfl, rfl⟩
        · by_cases h2 : 126 < c
          · have HF := Lib.hid (HNO.out k hlt (by unfold nonC; rw [hc, decide_eq_false (show ¬ c ≤ 126 by omega), Bool.and_false]))
            have h1' : ¬ (c : Int) < 33 := by omega
            have h2' : (126 : Int) < (c : Int) := by omega
            go_wp2_with fail
            go_ret
            exact ⟨by rw [HF.out]; rfl, rfl⟩
          · have hN := Lib.hid (show ∀ j, (h : j < k + 1) → (h' : j < s.size) → nonC (s[j]) = true from fun j hj hj' => by
              rcases Nat.lt_or_ge j k with q | q
              · exact hall.out j q hj'
              · obtain rfl : j = k := by omega
                unfold nonC; rw [hc, decide_eq_true (by omega), decide_eq_true (by omega)]; rfl)
            have h1' : ¬ (c : Int) < 33 := by omega
            have h2' : ¬ (126 : Int) < (c : Int) := by omega
            go_wp2_with fail
            go_round
            case rel => exact ⟨k + 1, by omega, by go_num, hN⟩
            case measure => simp [intOf]; omega
      · obtain rfl : k = s.size := by omega
        have HT := Lib.hid (HYES.out (fun j h => hall.out j h h))
        go_wp2_with fail
        go_ret
        exact ⟨by rw [HT.out]; rfl, rfl⟩
  · have HF := Lib.hid (non_long (s := s) (by omega))
    have h8' : (8 : Int) < (s.size : Int) := by omega
    go_enter Tryd.func25, Tryd.ntmps25
    go_wp2_with fail
    go_ret
    exact ⟨by rw [HF.out]; rfl, rfl⟩
def sl : ByteArray := ⟨#[47]⟩
def dataS (c a : Int) (cur nonce : ByteArray) : ByteArray := itoaS c ++ sl ++ itoaS a ++ sl ++ cur ++ sl ++ nonce
def mkE (token : ByteArray) (c a : Int) (cur nonce : ByteArray) : Int := if panE token ≠ 0 then 17 else if c < 1 ∨ 999999 < c then 4 else if monE a cur ≠ 0 then monE a cur else if nonB nonce = false then 2 else 0
def mkS (k : Nat) (token : ByteArray) (c a : Int) (cur nonce : ByteArray) : ByteArray := textS (macOf (macOf k (lab ++ token).data.toList) (dataS c a cur nonce).data.toList)
def mkV (k : Nat) (token : ByteArray) (c a : Int) (cur nonce : ByteArray) : ByteArray := if mkE token c a cur nonce = 0 then mkS k token c a cur nonce else ⟨#[]⟩
def MkPost (k : Nat) (token : ByteArray) (c a : Int) (cur nonce : ByteArray) (w : World) (e : Ending) (w' : World) : Prop := e = .returned (.tuple #[.string (mkV k token c a cur nonce), .int .i64 (mkE token c a cur nonce)]) ∧ Below w.heap.size w w'
theorem curB_sz {s : ByteArray} (h : curB s = true) : s.size = 3 := by
  unfold curB at h
  rw [Bool.and_eq_true, decide_eq_true_eq] at h
  exact h.1
theorem monE_ok {a : Int} {s : ByteArray} (h : monE a s = 0) : curB s = true ∧ -4503599627370496 ≤ a ∧ a ≤ 4503599627370496 := by
  unfold monE at h
  cases hc : curB s <;> cases ht : inT a <;> simp_all
  unfold inT at ht
  simpa using ht
theorem panE_size {s : ByteArray} (h : panE s = 0) : s.size ≤ 19 := by
  unfold panE at h
  split at h
  · cases h
  · split at h
    · cases h
    · omega
theorem keepM {W w' : World} {b : Nat} {C : Array Value} {T : TypeId} (h : Below W.heap.size W w') (k : W.heap[b]? = some (.cells C T)) : Below W.heap.size W w' ∧ w'.cell? ⟨b, 0, none⟩ = C[0]? ∧ w'.cell? ⟨b, 1, none⟩ = C[1]? :=
  ⟨h, cell_c (blk_later k h) 0, cell_c (blk_later k h) 1⟩
set_option maxRecDepth 100000 in
set_option maxHeartbeats 12800000 in
theorem make_any (k : Nat) (token : ByteArray) (c a : Int) (cur nonce : ByteArray) (w : World) (hw : KW w) (hk : k < M64) (h1 : token.size ≤ maxLen) (h2 : cur.size ≤ maxLen) (h3 : nonce.size ≤ maxLen) :
    Calls Tryd.prog 10 #[.int .u64 k, .string token, .int .i64 c, .agg #[.int .i64 a, .string cur], .string nonce] w (MkPost k token c a cur nonce w) := by
  have HP := Lib.hid (fun W => pan_any token W h1)
  have HM := Lib.hid (fun W => mon_any a cur W h2)
  have HW := Lib.hid hw
  have HE : Hid (mkE token c a cur nonce = if panE token ≠ 0 then 17 else if c < 1 ∨ 999999 < c then 4 else if monE a cur ≠ 0 then monE a cur else if nonB nonce = false then 2 else 0) := Lib.hid rfl
  have HV : Hid (mkV k token c a cur nonce = if mkE token c a cur nonce = 0 then mkS k token c a cur nonce else ⟨#[]⟩) := Lib.hid rfl
  have HN := Lib.hid (fun W => nonce_any nonce W h3)
  clear hw
  by_cases hp : panE token = 0
  · rw [hp] at HP
    by_cases hc : c < 1 ∨ 999999 < c
    · have HE4 : Hid (mkE token c a cur nonce = 4) := Lib.hid (by rw [HE.out, if_neg (by rw [hp]; simp), if_pos hc])
      have HV4 : Hid (mkV k token c a cur nonce = ⟨#[]⟩) := Lib.hid (by rw [HV.out, HE4.out]; rfl)
      have hcc : c < 1 ∨ (¬ c < 1 ∧ 999999 < c) := by omega
      clear hp hc h1 h2 h3
      rcases hcc with q | ⟨q, q2⟩
      all_goals
        go_enter Tryd.func10, Tryd.ntmps10
        go_wp2_with fail
        refine (HP.out _).mono ?_
        rintro e w1 ⟨rfl, hb⟩
        have HB1 := Lib.hid (box1 hb).2.2
        clear hb
        go_wp2_with fail
        go_ret2
        exact ⟨by rw [HE4.out, HV4.out]; rfl, HB1.out⟩
    · have c1 : ¬ c < 1 := by omega
      have c2 : ¬ 999999 < c := by omega
      by_cases hm : monE a cur = 0
      · rw [hm] at HM
        obtain ⟨m1, m2, m3⟩ := monE_ok hm
        have hcz := curB_sz m1
        have htz := panE_size hp
        cases hn : nonB nonce
        · rw [hn] at HN
          have HE4 : Hid (mkE token c a cur nonce = 2) := Lib.hid (by rw [HE.out, if_neg (by rw [hp]; simp), if_neg hc, if_neg (by rw [hm]; simp), if_pos hn])
          have HV4 : Hid (mkV k token c a cur nonce = ⟨#[]⟩) := Lib.hid (by rw [HV.out, HE4.out]; rfl)
          clear hp hc hm hn h1 h2 h3 m1 m2 m3
          go_enter Tryd.func10, Tryd.ntmps10
          go_wp2_with fail
          refine (HP.out _).mono ?_
          rintro e w1 ⟨rfl, hb⟩
          obtain ⟨kk, z1, hb1⟩ := box1 hb
          have a0 := cell_c kk 0
          have a1 := cell_c kk 1
          have KK := Lib.hid kk
          have HB1 := Lib.hid hb1
          clear hb hb1 kk
          go_wp2_with fail
          refine (HM.out _).mono ?_
          rintro e w2 ⟨rfl, hb⟩
          have HB2 := Lib.hid (HB1.out.trans (hb.mono HB1.out.size))
          have KK := Lib.hid (blk_later KK.out hb)
          clear a0 a1 hb
          go_wp2_with fail
          refine (HN.out _).mono ?_
          rintro e w3 ⟨rfl, rfl⟩
          go_wp2_with fail
          go_ret2
          exact ⟨by rw [HE4.out, HV4.out]; rfl, HB2.out⟩
        · rw [hn] at HN
          have HE4 : Hid (mkE token c a cur nonce = 0) := Lib.hid (by rw [HE.out, if_neg (by rw [hp]; simp), if_neg hc, if_neg (by rw [hm]; simp), if_neg (by rw [hn]; simp)])
          have HV4 : Hid (mkV k token c a cur nonce = mkS k token c a cur nonce) := Lib.hid (by rw [HV.out, HE4.out]; rfl)
          have hz1 := itoaS_size c (by omega) (by omega)
          have hz2 := itoaS_size a (by omega) (by omega)
          have HI := Lib.hid (fun W hW => itoa_any c W hW (by omega) (by omega))
          have HF := Lib.hid (fun W hW => fint_any a W hW (by omega) (by omega))
          have hnz : nonce.size ≤ 8 := by unfold nonB at hn; rw [Bool.and_eq_true, decide_eq_true_eq] at hn; exact hn.1
          have HDS : Hid (dataS c a cur nonce = itoaS c ++ (ByteArray.mk #[47]) ++ itoaS a ++ (ByteArray.mk #[47]) ++ cur ++ (ByteArray.mk #[47]) ++ nonce) := Lib.hid rfl
          have HMS : Hid (mkS k token c a cur nonce = textS (macOf (macOf k (lab ++ token).data.toList) (dataS c a cur nonce).data.toList)) := Lib.hid rfl
          have HDE := Lib.hid (fun W => derive_any k token W hk (by omega))
          generalize itoaS c = S1 at *
          generalize itoaS a = S2 at *
          have cat1 := fun W => run_string_add_sum (P := Tryd.prog) (w := W) S1 (ByteArray.mk #[47]) (by show _ + 1 ≤ _; omega)
          obtain ⟨T1, hT1⟩ : ∃ T, S1 ++ (ByteArray.mk #[47]) = T := ⟨_, rfl⟩
          have hT1z : T1.size ≤ 22 := by rw [← hT1, ByteArray.size_append]; show _ + 1 ≤ _; omega
          rw [hT1] at cat1 HDS
          have cat2 := fun W => run_string_add_sum (P := Tryd.prog) (w := W) T1 S2 (by omega)
          obtain ⟨T2, hT2⟩ : ∃ T, T1 ++ S2 = T := ⟨_, rfl⟩
          have hT2z : T2.size ≤ 43 := by rw [← hT2, ByteArray.size_append]; omega
          rw [hT2] at cat2 HDS
          have cat3 := fun W => run_string_add_sum (P := Tryd.prog) (w := W) T2 (ByteArray.mk #[47]) (by show _ + 1 ≤ _; omega)
          obtain ⟨T3, hT3⟩ : ∃ T, T2 ++ (ByteArray.mk #[47]) = T := ⟨_, rfl⟩
          have hT3z : T3.size ≤ 44 := by rw [← hT3, ByteArray.size_append]; show _ + 1 ≤ _; omega
          rw [hT3] at cat3 HDS
          have cat4 := fun W => run_string_add_sum (P := Tryd.prog) (w := W) T3 cur (by omega)
          obtain ⟨T4, hT4⟩ : ∃ T, T3 ++ cur = T := ⟨_, rfl⟩
          have hT4z : T4.size ≤ 47 := by rw [← hT4, ByteArray.size_append]; omega
          rw [hT4] at cat4 HDS
          have cat5 := fun W => run_string_add_sum (P := Tryd.prog) (w := W) T4 (ByteArray.mk #[47]) (by show _ + 1 ≤ _; omega)
          obtain ⟨T5, hT5⟩ : ∃ T, T4 ++ (ByteArray.mk #[47]) = T := ⟨_, rfl⟩
          have hT5z : T5.size ≤ 48 := by rw [← hT5, ByteArray.size_append]; show _ + 1 ≤ _; omega
          rw [hT5] at cat5 HDS
          have cat6 := fun W => run_string_add_sum (P := Tryd.prog) (w := W) T5 nonce (by omega)
          obtain ⟨T6, hT6⟩ : ∃ T, T5 ++ nonce = T := ⟨_, rfl⟩
          have hT6z : T6.size ≤ 56 := by rw [← hT6, ByteArray.size_append]; omega
          rw [hT6] at cat6 HDS
          rw [HDS.out] at HMS
          have HMA := Lib.hid (fun W => mac_any (macOf k (lab ++ token).data.toList) T6 W (macOf_lt _ _) (by omega))
          have HTX := Lib.hid (fun W hW => text_any (macOf (macOf k (lab ++ token).data.toList) T6.data.toList) W hW (macOf_lt _ _))
          generalize macOf k (lab ++ token).data.toList = K2 at *
          generalize macOf K2 T6.data.toList = K3 at *
          clear hT1 hT2 hT3 hT4 hT5 hT6 hz1 hz2 hnz hcz htz hp hc hm m1 m2 m3 hn h1 h2 h3 hk
          go_enter Tryd.func10, Tryd.ntmps10
          go_wp2_with fail
          refine (HP.out _).mono ?_
          rintro e w1 ⟨rfl, hb⟩
          obtain ⟨kk, z1, hb1⟩ := box1 hb
          have a0 := cell_c kk 0
          have a1 := cell_c kk 1
          have KK := Lib.hid kk
          have HB1 := Lib.hid hb1
          clear hb hb1 kk
          go_wp2_with fail
          refine (HM.out _).mono ?_
          rintro e w2 ⟨rfl, hb⟩
          have HB2 := Lib.hid (HB1.out.trans (hb.mono HB1.out.size))
          have KK := Lib.hid (blk_later KK.out hb)
          clear a0 a1 hb
          go_wp2_with fail
          refine (HN.out _).mono ?_
          rintro e w3 ⟨rfl, rfl⟩
          go_wp2_with fail
          have HBW : Hid (Below w2.heap.size w2 w2.drew) := Lib.hid ((Below.refl _ _).drew)
          go_region_held3 (fun w' => Below w2.heap.size w2 w' ∧ w'.cell? ⟨w.heap.size, 0, none⟩ = some (.int .i64 a) ∧ w'.cell? ⟨w.heap.size, 1, none⟩ = some (.string cur))
            (exact keepM HBW.out KK.out)
            (first
              | (go_at_call 26; refine (HI.out _ (HW.out.below (HB2.out.trans (HBW.out.mono HB2.out.size))).1).mono ?_; rintro e w' ⟨rfl, hb⟩; have HBW := Lib.hid (HBW.out.trans (hb.mono HBW.out.size)); clear hb)
              | (go_at_call 27; refine (HF.out _ (HW.out.below (HB2.out.trans (HBW.out.mono HB2.out.size))).1).mono ?_; rintro e w' ⟨rfl, hb⟩; have HBW := Lib.hid (HBW.out.trans (hb.mono HBW.out.size)); clear hb))
          all_goals
            have HB5 := Lib.hid (HB2.out.trans (HBW.out.mono HB2.out.size))
            go_wp2_with fail
            refine (HDE.out _).mono ?_
            rintro e w6 ⟨rfl, hb⟩
            have HB6 := Lib.hid (HB5.out.trans (hb.mono HB5.out.size))
            clear hb
            go_wp2_with fail
            refine (HMA.out _).mono ?_
            rintro e w7 ⟨rfl, hb⟩
            have HB7 := Lib.hid (HB6.out.trans (hb.mono HB6.out.size))
            clear hb
            go_wp2_with fail
            refine (HTX.out _ (HW.out.below HB7.out)).mono ?_
            rintro e w8 ⟨rfl, hb⟩
            have HB8 := Lib.hid (HB7.out.trans (hb.mono HB7.out.size))
            clear hb
            go_wp2_with fail
            go_ret2
            exact ⟨by rw [HE4.out, HV4.out, HMS.out]; rfl, HB8.out⟩
      · have HE4 : Hid (mkE token c a cur nonce = monE a cur) := Lib.hid (by rw [HE.out, if_neg (by rw [hp]; simp), if_neg hc, if_pos hm])
        have HV4 : Hid (mkV k token c a cur nonce = ⟨#[]⟩) := Lib.hid (by rw [HV.out, HE4.out, if_neg hm])
        have hm' : (monE a cur != 0) = true := bne_iff_ne.2 hm
        generalize monE a cur = ME at *
        clear hp hc hm h1 h2 h3
        go_enter Tryd.func10, Tryd.ntmps10
        go_wp2_with fail
        refine (HP.out _).mono ?_
        rintro e w1 ⟨rfl, hb⟩
        obtain ⟨kk, z1, hb1⟩ := box1 hb
        have a0 := cell_c kk 0
        have a1 := cell_c kk 1
        have KK := Lib.hid kk
        have HB1 := Lib.hid hb1
        clear hb hb1 kk
        go_wp2_with fail
        refine (HM.out _).mono ?_
        rintro e w2 ⟨rfl, hb⟩
        have HB2 := Lib.hid (HB1.out.trans (hb.mono HB1.out.size))
        clear a0 a1
        have a0 := cell_c (blk_later KK.out hb) 0
        have a1 := cell_c (blk_later KK.out hb) 1
        clear hb
        go_wp2_with fail
        go_ret2
        exact ⟨by rw [HE4.out, HV4.out]; rfl, HB2.out⟩
  · have HE4 : Hid (mkE token c a cur nonce = 17) := Lib.hid (by rw [HE.out, if_pos hp])
    have HV4 : Hid (mkV k token c a cur nonce = ⟨#[]⟩) := Lib.hid (by rw [HV.out, HE4.out]; rfl)
    have hp' : (panE token != 0) = true := bne_iff_ne.2 hp
    generalize panE token = PE at *
    clear hp h1 h2 h3
    go_enter Tryd.func10, Tryd.ntmps10
    go_wp2_with fail
    refine (HP.out _).mono ?_
    rintro e w1 ⟨rfl, hb⟩
    have HB1 := Lib.hid (box1 hb).2.2
    clear hb
    go_wp2_with fail
    go_ret2
    exact ⟨by rw [HE4.out, HV4.out]; rfl, HB1.out⟩
end Go.Proofs.YtodlholfhgicoaaDoor
