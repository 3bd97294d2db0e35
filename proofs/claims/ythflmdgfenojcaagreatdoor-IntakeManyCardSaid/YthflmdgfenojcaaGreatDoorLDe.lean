/- The law BatchDetects, walked. -/
import Derived.Test.YthflmdgfenojcaaGreatDoorAwb
namespace Go.Proofs.YthflmdgfenojcaaGreatDoor
set_option linter.unusedVariables false
open Go.RowKit Go.Sort Go.Maps

/-! ### sizes of a file's text -/
theorem bodyK_lenM {b : Bat} {M : Nat} (hM : 20 ≤ M) (hi : b.id.size ≤ M) (hs : b.sd.size ≤ M) (hd : -9223372036854775808 ≤ b.dt ∧ b.dt ≤ 9223372036854775807) (hr : ∀ j, j < b.rs.length → (encS (rcAt b.rs j)).size ≤ M) : ∀ k, k ≤ b.rs.length → (bodyK b k).length ≤ (4 * (M + 1) + 1) + k * (2 * (M + 1) + 1)
  | 0, _ => by
    unfold bodyK hdrL
    have := lineL_len [⟨#[72]⟩, b.id, b.sd, itoS b.dt] M (hsz4 (by show 1 ≤ M; omega) hi hs (Nat.le_trans (itoS_size _ hd) hM))
    simp only [List.take_zero, List.flatMap_nil, List.append_nil]
    exact Nat.le_trans this (by simp)
  | k + 1, h => by
    have ih := bodyK_lenM hM hi hs hd hr k (by omega)
    rw [bodyK_succ b k (by omega), List.length_append]
    have := lineL_len [⟨#[82]⟩, encS (rcAt b.rs k)] M (hsz2 (by show 1 ≤ M; omega) (hr k (by omega)))
    unfold recL'
    have e : ([⟨#[82]⟩, encS (rcAt b.rs k)] : List ByteArray).length = 2 := rfl
    rw [e] at this
    have e2 : (k + 1) * (2 * (M + 1) + 1) = k * (2 * (M + 1) + 1) + (2 * (M + 1) + 1) := Nat.succ_mul _ _
    rw [e2]
    generalize k * (2 * (M + 1) + 1) = X at *
    omega
theorem boB_parts {b : Bat} (h : boB b = true) : b.id.size ≤ 500 ∧ b.sd.size ≤ 500 ∧ b.rs.length ≤ 240 ∧ ∀ x ∈ b.rs, szR x ≤ 500 := by
  unfold boB at h
  simp only [Bool.and_eq_true, decide_eq_true_eq] at h
  have := few_all h.2.2
  exact ⟨h.1, h.2.1, this.1, this.2⟩
theorem chkL_len (l : List UInt8) : (chkL l).length = 11 := by rw [chkL_form]; simp [text8_len]
theorem text_le {b : Bat} (h : chkB b = 0) (hb : boB b = true) : (encB b).size ≤ 1000000 := by
  obtain ⟨z1, z2, z3⟩ := chkB_zero h
  obtain ⟨i1, i2, i3, i4⟩ := headE_zero z1
  obtain ⟨p1, p2, p3, p4⟩ := boB_parts hb
  have hB := bodyK_lenM (b := b) (M := 1000) (by omega) (by omega) (by omega) (by omega) (fun j hj => by
    have h1 := encS_size' (ptL_zero (z3 j hj)).1
    have h2 := p4 (rcAt b.rs j) (by rw [rcAt_get _ _ hj]; exact List.getElem_mem hj)
    omega) b.rs.length (Nat.le_refl _)
  have hd := deb_lt z2
  have ht := C7.totB_lt (cardsOf b.rs)
  have hT := lineL_len [⟨#[84]⟩, itoS b.rs.length, itoS (debS b.rs b.rs.length), itoS (creS b.rs b.rs.length), itoS (C7.totB (cardsOf b.rs))] 1000 (hsz5 (by decide) (Nat.le_trans (itoS_size _ (by omega)) (by omega)) (Nat.le_trans (itoS_size _ (by omega)) (by omega)) (Nat.le_trans (itoS_size _ (by omega)) (by omega)) (Nat.le_trans (itoS_size _ (by omega)) (by omega)))
  have e5 : ([⟨#[84]⟩, itoS b.rs.length, itoS (debS b.rs b.rs.length), itoS (creS b.rs b.rs.length), itoS (C7.totB (cardsOf b.rs))] : List ByteArray).length = 5 := rfl
  rw [e5] at hT
  rw [Lib.size_eq, enc_data h, textL, List.length_append, chkL_len]
  unfold bodyL
  rw [List.length_append]
  unfold trlL
  have hm : b.rs.length * (2 * (1000 + 1) + 1) ≤ 200 * (2 * (1000 + 1) + 1) := Nat.mul_le_mul_right _ z2
  omega
theorem joinK_ge (ps : List ByteArray) : ∀ k, 0 < k → k ≤ ps.length → k + (strAt ps 0).size ≤ (joinK ps k).length + 1
  | 1, _, h => by rw [joinK_one ps (by omega)]; show _ ≤ (strAt ps 0).data.toList.length + 1; rw [← Lib.size_eq]; omega
  | k + 2, _, h => by
    have ih := joinK_ge ps (k + 1) (by omega) (by omega)
    rw [joinK_succ ps (k + 1) (by omega) (by omega)]
    simp only [List.length_append, List.length_singleton]
    omega
theorem text_ge {b : Bat} (h : chkB b = 0) : 20 ≤ (encB b).size := by
  rw [Lib.size_eq, enc_data h, textL, List.length_append, chkL_len]
  unfold bodyL bodyK hdrL trlL lineL
  simp only [List.length_append]
  have h1 := joinK_ge [⟨#[72]⟩, b.id, b.sd, itoS b.dt] 4 (by omega) (by simp)
  have h2 := joinK_ge [⟨#[84]⟩, itoS b.rs.length, itoS (debS b.rs b.rs.length), itoS (creS b.rs b.rs.length), itoS (C7.totB (cardsOf b.rs))] 5 (by omega) (by simp)
  have e1 : (strAt [⟨#[72]⟩, b.id, b.sd, itoS b.dt] 0).size = 1 := rfl
  have e2 : (strAt [⟨#[84]⟩, itoS b.rs.length, itoS (debS b.rs b.rs.length), itoS (creS b.rs b.rs.length), itoS (C7.totB (cardsOf b.rs))] 0).size = 1 := rfl
  have e3 : ([⟨#[72]⟩, b.id, b.sd, itoS b.dt] : List ByteArray).length = 4 := rfl
  have e4 : ([⟨#[84]⟩, itoS b.rs.length, itoS (debS b.rs b.rs.length), itoS (creS b.rs b.rs.length), itoS (C7.totB (cardsOf b.rs))] : List ByteArray).length = 5 := rfl
  rw [e3, e4]
  simp only [List.length_cons, List.length_nil]
  omega
theorem det_dec {b : Bat} (h : chkB b = 0) (i : Nat) (hi : i < (encB b).size) (x : UInt8) (hx : x ≠ (encB b).data.toList.getD i 0) : fileE ⟨((encB b).data.toList.set i x).toArray⟩ ≠ 0 := by
  have hi' : i < (encB b).data.toList.length := by rw [← Lib.size_eq]; exact hi
  rw [List.getD_eq_getElem?_getD, List.getElem?_eq_getElem hi', Option.getD_some] at hx
  have he := enc_data h
  generalize (encB b).data.toList = l at *
  subst he
  exact det_plain (bodyL b) i x hi' hx
/-! ### bytes -/
def BytesAt (w : World) (b : Nat) (l : List UInt8) : Prop := ∀ j, j < l.length → w.cell? ⟨b, j, none⟩ = some (.int .u8 ((l.getD j 0).toNat : Int)) ∧ w.frozen? ⟨b, j, none⟩ = false
theorem BytesAt.set {w : World} {b : Nat} {l : List UInt8} (h : BytesAt w b l) (i : Nat) (hi : i < l.length) (x : UInt8) : BytesAt (w.setCell ⟨b, i, none⟩ (.int .u8 (x.toNat : Int))) b (l.set i x) := by
  intro j hj
  have hj' : j < l.length := by simpa using hj
  obtain ⟨h1, h2⟩ := h j hj'
  refine ⟨?_, by rw [World.frozen?_setCell]; exact h2⟩
  by_cases hij : i = j
  · subst hij
    rw [World.cell?_setCell_same _ _ _ h1]
    simp [List.getD, hi]
  · rw [World.cell?_setCell_other _ _ _ _ (fun e => hij (congrArg Addr.off e)), h1]
    simp [List.getD, hij]
theorem conv_ex (w : World) (s : ByteArray) : ∃ wN cap, (convert 9 80 (.string s)).run Tryz.prog w = .ok (.slice (some ⟨w.heap.size, 0, none⟩) s.size cap) wN ∧ BytesAt wN w.heap.size s.data.toList ∧ Below w.heap.size w wN ∧ w.heap.size < wN.heap.size := by
  refine ⟨_, _, run_bytes_of_string (P := Tryz.prog) w 9 80 5 s Tryz.underlying9 Tryz.underlying80 Tryz.underlying5, ?_, ((Below.refl _ _).drew).alloc (Nat.le_refl _) _, by simp⟩
  intro j hj
  have hj' : j < s.data.size := by simpa using hj
  have hsz : j < (bytesRow s (grownCap w s.size 0 5)).size := (Array.getElem?_eq_some_iff.1 (bytesRow_at s (grownCap w s.size 0 5) j hj')).1
  constructor
  · have := World.cell?_alloc_mark w.drew (bytesRow s (grownCap w s.size 0 5)) 5 ((bytesRow s (grownCap w s.size 0 5)).size, (bytesRow s (grownCap w s.size 0 5)).size + 1) j
    rw [bytesRow_at s _ j hj'] at this
    simp only [List.getD, Array.getElem?_toList, Array.getElem?_eq_getElem hj', Option.getD_some]
    exact this
  · have := World.frozen?_alloc_mark w.drew (bytesRow s (grownCap w s.size 0 5)) 5 (bytesRow s (grownCap w s.size 0 5)).size ((bytesRow s (grownCap w s.size 0 5)).size + 1) j
    refine this.trans ?_
    simp; omega
theorem conv_back (w : World) (b : Nat) (l : List UInt8) (cap : Nat) (h : BytesAt w b l) : (convert 80 9 (.slice (some ⟨b, 0, none⟩) l.length cap)).run Tryz.prog w = .ok (.string ⟨l.toArray⟩) w := by
  refine run_convert_bytes_back w 80 9 5 ⟨b, 0, none⟩ cap l Tryz.underlying80 Tryz.underlying5 Tryz.underlying9 ?_
  intro j hj
  have hplain : (⟨b, 0, none⟩ : Addr).add j = ⟨b, j, none⟩ := by unfold Addr.add; split <;> simp_all
  rw [hplain, (h j hj).1]
  simp [List.getD, hj]
theorem xor_byte (x : UInt8) (t : Nat) (ht : t < 256) : (UInt8.ofNat (x.toNat ^^^ t)).toNat = x.toNat ^^^ t :=
  UInt8.toNat_ofNat_of_lt' (Nat.xor_lt_two_pow (n := 8) (UInt8.toNat_lt _) ht)
theorem xor_ne (x : UInt8) (t : Nat) (ht : t < 256) (h0 : t ≠ 0) : UInt8.ofNat (x.toNat ^^^ t) ≠ x := fun e => by
  have h1 := congrArg UInt8.toNat e
  rw [xor_byte x t ht] at h1
  have h2 : x.toNat ^^^ (x.toNat ^^^ t) = x.toNat ^^^ x.toNat := by rw [h1]
  rw [← Nat.xor_assoc, Nat.xor_self, Nat.zero_xor] at h2
  exact h0 h2
def DbaP (w : World) (e : Ending) (w' : World) : Prop := ∃ A c A' c' E, E ≠ 0 ∧ e = .returned (.tuple #[.agg #[.string ⟨#[]⟩, .string ⟨#[]⟩, .int .i64 0, .slice A 0 c], .slice A' 0 c', .int .i64 E]) ∧ Below w.heap.size w w'
theorem dba_any (s : ByteArray) (w : World) (hw : BW w) (hs : s.size ≤ 1000000) (h : fileE s ≠ 0) : Calls Tryz.prog 49 #[.string s] w (DbaP w) := by
  refine (bdc_any s w hw hs).mono ?_
  rintro e w' ⟨v8, v9, rfl, o8, o9, hb⟩
  have h1 : fileV s = ⟨⟨#[]⟩, ⟨#[]⟩, 0, []⟩ := by unfold fileV; rw [if_neg h]
  have h2 : fileB s = [] := by unfold fileB; rw [if_neg h]
  rw [h1] at o8
  rw [h2] at o9
  obtain ⟨A, c, rfl, hr, hc⟩ := own_form o8
  obtain ⟨A', c', rfl, hr', hc'⟩ := own_form o9
  exact ⟨A, c, A', c', fileE s, h, by rw [h1]; rfl, hb⟩
set_option maxRecDepth 100000 in
set_option maxHeartbeats 12800000 in
theorem detects_any (A : Option Addr) (cp : Nat) (b : Bat) (at_ : Int) (ch : Nat) (w : World) (hw : BW w) (hr : IsRow w A (b.rs.flatMap recF)) (hok : BatRch b) (hc : b.rs.length ≤ cp) (hm : b.rs.length ≤ maxLen) (hat : at_ ≤ 9223372036854775807) (hch : ch < 256) :
    Calls Tryz.prog 8 #[batV b A cp, .int .i64 at_, .int .u8 ch] w fun e w' => e = .returned (.bool true) ∧ Below w.heap.size w w' := by
  have HKW := Lib.hid hw
  have HR := Lib.hid hr
  have HAW := Lib.hid (fun W hW => awb_any W hW)
  have HBO := Lib.hid (fun W h => bo_any A cp b W h hok hm)
  have HBX := Lib.hid (heap_alloc_new w (.cells #[.string b.id, .string b.sd, .int .i64 b.dt, .slice A b.rs.length cp] 61))
  unfold BPost batV at HBO
  unfold batV
  clear hw hr
  cases qb : boB b with
  | false =>
    rw [qb] at HBO
    clear qb HBX
    go_enter Tryz.func8, Tryz.ntmps8
    go_wp2_with fail
    refine (HBO.out _ (HR.out.below (bx _ _))).mono ?_
    rintro e w1 ⟨rfl, hb⟩
    have HB := Lib.hid ((bx w (.cells #[.string b.id, .string b.sd, .int .i64 b.dt, .slice A b.rs.length cp] 61)).trans (hb.mono (bx w _).size))
    clear hb
    go_wp2_with fail
    refine (HAW.out _ (HKW.out.below HB.out)).mono ?_
    rintro e w2 ⟨rfl, hb⟩
    have HB2 := Lib.hid (HB.out.trans (hb.mono HB.out.size))
    clear hb
    go_wp2_with fail
    go_ret
    exact ⟨rfl, HB2.out⟩
  | true =>
  have HQB := Lib.hid qb
  rw [qb] at HBO
  clear qb
  by_cases h0 : at_ < 0
  · clear HBX
    go_enter Tryz.func8, Tryz.ntmps8
    go_wp2_with fail
    refine (HBO.out _ (HR.out.below (bx _ _))).mono ?_
    rintro e w1 ⟨rfl, hb⟩
    have HB := Lib.hid ((bx w (.cells #[.string b.id, .string b.sd, .int .i64 b.dt, .slice A b.rs.length cp] 61)).trans (hb.mono (bx w _).size))
    clear hb
    go_wp2_with fail
    refine (HAW.out _ (HKW.out.below HB.out)).mono ?_
    rintro e w2 ⟨rfl, hb⟩
    have HB2 := Lib.hid (HB.out.trans (hb.mono HB.out.size))
    clear hb
    go_wp2_with fail
    go_ret
    exact ⟨rfl, HB2.out⟩
  obtain ⟨a, rfl⟩ : ∃ a : Nat, at_ = a := ⟨at_.toNat, by omega⟩
  by_cases hz : ch = 0
  · subst hz
    clear HBX
    go_enter Tryz.func8, Tryz.ntmps8
    go_wp2_with fail
    refine (HBO.out _ (HR.out.below (bx _ _))).mono ?_
    rintro e w1 ⟨rfl, hb⟩
    have HB := Lib.hid ((bx w (.cells #[.string b.id, .string b.sd, .int .i64 b.dt, .slice A b.rs.length cp] 61)).trans (hb.mono (bx w _).size))
    clear hb
    go_wp2_with fail
    refine (HAW.out _ (HKW.out.below HB.out)).mono ?_
    rintro e w2 ⟨rfl, hb⟩
    have HB2 := Lib.hid (HB.out.trans (hb.mono HB.out.size))
    clear hb
    go_wp2_with fail
    go_ret
    exact ⟨rfl, HB2.out⟩
  have e1 : ((ch : Int) == 0) = false := beq_eq_false_iff_ne.2 (by omega)
  obtain ⟨p1, p2, p3, p4⟩ := boB_parts HQB.out
  have HEN := Lib.hid (fun W hW h => benc_any A cp b W hW h hok.ok (fun x hx => by have := p4 x hx; omega) (by omega) (by omega) hc (by omega))
  unfold BenPost batV at HEN
  clear p1 p2 p3 p4
  by_cases hE : chkB b = 0
  case neg =>
    have hEV : encB b = ⟨#[]⟩ := by unfold encB; rw [if_neg hE]
    have heb : (chkB b != 0) = true := by simpa using hE
    rw [hEV] at HEN
    generalize chkB b = E at *
    clear hEV hE
    go_enter Tryz.func8, Tryz.ntmps8
    go_wp2_with fail
    refine (HBO.out _ (HR.out.below (bx _ _))).mono ?_
    rintro e w1 ⟨rfl, hb⟩
    have HB := Lib.hid ((bx w (.cells #[.string b.id, .string b.sd, .int .i64 b.dt, .slice A b.rs.length cp] 61)).trans (hb.mono (bx w _).size))
    have hk := blk_later HBX.out hb
    have k0 := cell_c hk 0
    have k1 := cell_c hk 1
    have k2 := cell_c hk 2
    have k3 := cell_c hk 3
    clear hb hk
    simp at k0 k1 k2 k3
    go_wp2_with fail
    refine (HEN.out _ (HKW.out.below HB.out) (HR.out.below HB.out)).mono ?_
    rintro e w2 ⟨rfl, hb⟩
    have HB2 := Lib.hid (HB.out.trans (hb.mono HB.out.size))
    clear hb k0 k1 k2 k3
    go_wp2_with fail
    refine (HAW.out _ (HKW.out.below HB2.out)).mono ?_
    rintro e w3 ⟨rfl, hb⟩
    have HB3 := Lib.hid (HB2.out.trans (hb.mono HB2.out.size))
    clear hb
    go_wp2_with fail
    go_ret
    exact ⟨rfl, HB3.out⟩
  case pos =>
  have hlo := text_ge hE
  have hhi := text_le hE HQB.out
  have HDE := Lib.hid (det_dec hE)
  rw [hE] at HEN
  clear hE
  generalize encB b = S at *
  go_enter Tryz.func8, Tryz.ntmps8
  go_wp2_with fail
  refine (HBO.out _ (HR.out.below (bx _ _))).mono ?_
  rintro e w1 ⟨rfl, hb⟩
  have HB := Lib.hid ((bx w (.cells #[.string b.id, .string b.sd, .int .i64 b.dt, .slice A b.rs.length cp] 61)).trans (hb.mono (bx w _).size))
  have hk := blk_later HBX.out hb
  have k0 := cell_c hk 0
  have k1 := cell_c hk 1
  have k2 := cell_c hk 2
  have k3 := cell_c hk 3
  clear hb hk
  simp at k0 k1 k2 k3
  go_wp2_with fail
  refine (HEN.out _ (HKW.out.below HB.out) (HR.out.below HB.out)).mono ?_
  rintro e w4 ⟨rfl, hb⟩
  have HB2 := Lib.hid (HB.out.trans (hb.mono HB.out.size))
  clear hb k0 k1 k2 k3
  obtain ⟨wN, cap, hcv, hBy, hbel, hsz⟩ := conv_ex w4 S
  have hml : a % S.size < S.size := Nat.mod_lt _ (by omega)
  have hm' : (a : Int) % (S.size : Int) = ((a % S.size : Nat) : Int) := by push_cast; rfl
  generalize a % S.size = m at hm' hml
  have hmt : m < S.data.toList.length := by rw [← Lib.size_eq]; exact hml
  obtain ⟨hcl, hfr⟩ := hBy m hmt
  have hxt := u8_xor_nat (S.data.toList.getD m 0).toNat ch (UInt8.toNat_lt _) (by omega)
  have hvv := xor_byte (S.data.toList.getD m 0) ch hch
  have HB0 := Lib.hid (HDE.out m hml _ (xor_ne (S.data.toList.getD m 0) ch hch hz))
  have hback := conv_back _ w4.heap.size _ cap (BytesAt.set hBy m hmt (UInt8.ofNat ((S.data.toList.getD m 0).toNat ^^^ ch)))
  rw [hvv, List.length_set, ← Lib.size_eq] at hback
  have hsl : (ByteArray.mk (S.data.toList.set m (UInt8.ofNat ((S.data.toList.getD m 0).toNat ^^^ ch))).toArray).size ≤ 1000000 := by
    show (S.data.toList.set m _).toArray.size ≤ _
    rw [List.size_toArray, List.length_set, ← Lib.size_eq]; exact hhi
  clear hBy hvv
  generalize S.data.toList.set m (UInt8.ofNat ((S.data.toList.getD m 0).toNat ^^^ ch)) = l at hback HB0 hsl
  generalize (S.data.toList.getD m 0) = x at hcl hback hxt
  have HBN := Lib.hid ((HB2.out.trans (hbel.mono HB2.out.size)).setCell (p := ⟨w4.heap.size, m, none⟩) HB2.out.size (.int .u8 ((x.toNat ^^^ ch : Nat) : Int)))
  have HDB := Lib.hid (fun W hW => dba_any ⟨l.toArray⟩ W hW hsl HB0.out)
  unfold DbaP at HDB
  have hls : ¬ (S.size : Int) < 20 := by omega
  clear hbel
  go_wp2_with fail
  refine (HDB.out _ (HKW.out.below HBN.out)).mono ?_
  rintro e w5 ⟨C, c, C', c', E, hE, rfl, hb⟩
  have heb : (E != 0) = true := by simpa using hE
  have HB5 := Lib.hid (HBN.out.trans (hb.mono HBN.out.size))
  clear hb hE hcv hback hcl hfr hxt
  go_wp2_with fail
  refine (HAW.out _ (HKW.out.below (HB5.out.trans ((bx w5 _).mono HB5.out.size)))).mono ?_
  rintro e w6 ⟨rfl, hb⟩
  have HB6 := Lib.hid ((HB5.out.trans ((bx w5 _).mono HB5.out.size)).trans (hb.mono (HB5.out.trans ((bx w5 _).mono HB5.out.size)).size))
  clear hb
  go_wp2_with fail
  go_ret
  exact ⟨rfl, HB6.out⟩
end Go.Proofs.YthflmdgfenojcaaGreatDoor
