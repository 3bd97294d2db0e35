/- The walk of ChecksumAdds. -/
import Derived.Test.YtimjohcflclpmaaBytes
import Derived.Test.YtimjohcflclpmaaLaws
import Derived.Maps.AppendAt
import Derived.BigQuiet
import Derived.Deep.DeepMust
import Derived.Deep.RegionWith
import Derived.Deep.RegionHeld3
namespace Go.Proofs.Ytimjohcflclpmaa
set_option linter.unusedVariables false
open Go.RowKit Go.ChangeShapes Go.WideShapes Go.ChangeAt

theorem strs_open' {H : Type} {enc : TypeId × Value → H} {P : Program} {W : World} {t e : TypeId} (ht : P.underlying t = some (.slice e)) (he : P.underlying e = some .string) (hc : P.cellsOf e = 1)
    {a : Option Addr} {len cap : Nat} {d : DataW H} {p : List MemPlace} (h : DataW.Trod enc P W 0 (fun _ => true) true t (.slice a len cap) d p) : len ≤ cap ∧ (a = none → cap = 0) ∧ cap ≤ maxLen := by
  obtain ⟨fuel, hf⟩ := h
  rcases Go.ChangeShapes.open_strings ht he hc hf with ⟨hcs, _⟩ | ⟨x, l, c, ss, hcs, _, hl, hm, hz, _, hcell, hwz⟩
  · simp [Value.cells] at hcs
    obtain ⟨rfl, rfl, rfl⟩ := hcs
    simp
  · simp [Value.cells] at hcs
    obtain ⟨rfl, rfl, rfl⟩ := hcs
    exact ⟨hl, by simp, hm⟩
theorem IsStrs.below {w w' : World} {a : Option Addr} {l : List ByteArray} (h : IsStrs w a l) (hb : Below w.heap.size w w') : IsStrs w' a l := by
  rcases h with h | ⟨b, off, h1, h2⟩
  · exact .inl h
  · exact .inr ⟨b, off, h1, fun i hi => by
      have := h2 i hi
      rw [hb.cell (p := ⟨b, off + i, none⟩) (World.block_lt_of_cell? w _ this)]; exact this⟩
theorem IsStrs.take {w : World} {a : Option Addr} {l : List ByteArray} (h : IsStrs w a l) (n : Nat) : IsStrs w a (l.take n) := by
  rcases h with h | ⟨b, off, h1, h2⟩
  · left; simp [h]
  · refine .inr ⟨b, off, h1, fun i hi => ?_⟩
    have hi' : i < n ∧ i < l.length := by simp at hi; omega
    rw [h2 i hi'.2]; simp [List.getD, hi'.1]
theorem IsStrs.drop {w : World} {b off : Nat} {l : List ByteArray} (h : ∀ i, i < l.length → w.cell? ⟨b, off + i, none⟩ = some (.string (l.getD i ByteArray.empty))) (n : Nat) : IsStrs w (some ⟨b, off + n, none⟩) (l.drop n) := by
  refine .inr ⟨b, off + n, rfl, fun i hi => ?_⟩
  have hi' : n + i < l.length := by simp at hi; omega
  rw [Nat.add_assoc, h _ hi']; simp [List.getD]
theorem owns_strs {w : World} {B : Nat} {v : Value} {n : Nat} {L : List ByteArray} (h : w.ownsRow B 9 1 v n (L.map Value.string)) (hn : L.length = n) : ∃ a cap, v = .slice a n cap ∧ IsStrs w a L := by
  rcases h.2 with ⟨rfl, rfl⟩ | ⟨g, cap, cur, rfl, h1, h2, h3, h4, h5, h6⟩
  · exact ⟨_, _, rfl, .inl hn⟩
  · refine ⟨_, _, rfl, .inr ⟨g, 0, rfl, fun i hi => ?_⟩⟩
    have := World.ownsRow.cells h (g := g) rfl i (.string (L.getD i ByteArray.empty)) (by simp [List.getD, hi])
    have hplain : (⟨g, 0, none⟩ : Addr).add i = ⟨g, 0 + i, none⟩ := by unfold Addr.add; split <;> simp_all
    rw [hplain] at this; exact this
theorem rev_step (l : List ByteArray) (q : Nat) (h0 : 0 < q) (h : q ≤ l.length) : (l.drop (q - 1)).reverse = (l.drop q).reverse ++ [l.getD (q - 1) ByteArray.empty] := by
  have h1 : q - 1 < l.length := by omega
  rw [List.drop_eq_getElem_cons h1, List.reverse_cons, show q - 1 + 1 = q from by omega]
  simp [List.getD, h1]
theorem info9 : (Try.prog.info? 9).map (fun i => (i.zero, i.size, i.bytes)) = some (some (.string ByteArray.empty), 1, 16) := by kernel_rfl

theorem conv8 (wx w' : World) (x0 x1 x2 x3 x4 x5 x6 x7 : Int)
    (hb : Below (wx.heap.size + 1) (wx.alloc (.cells #[.int .u8 x0, .int .u8 x1, .int .u8 x2, .int .u8 x3, .int .u8 x4, .int .u8 x5, .int .u8 x6, .int .u8 x7] 5)) w') :
    (convert 33 9 (.slice (some ⟨wx.heap.size, 0, none⟩) 8 8)).run Try.prog w' = .ok (.string (strOfNums [x0, x1, x2, x3, x4, x5, x6, x7])) w' := by
  refine run_convert_bytes_arg _ 33 5 Try.underlying33 Try.underlying5 _ 0 8 8 [x0, x1, x2, x3, x4, x5, x6, x7] rfl ?_ 9 Try.underlying9
  intro i hi
  rw [hb.cell (p := ⟨wx.heap.size, 0 + i, none⟩) (Nat.lt_succ_self _), World.cell?_alloc_mark]
  match i, hi with
  | 0, _ => rfl
  | 1, _ => rfl
  | 2, _ => rfl
  | 3, _ => rfl
  | 4, _ => rfl
  | 5, _ => rfl
  | 6, _ => rfl
  | 7, _ => rfl
theorem hash_be8 (h : Nat) (s : ByteArray) (hs : s.size ≤ 100) (W : World) : Calls Try.prog 19 #[.string (strOfNums (be8i h) ++ s)] W fun e w' => e = .returned (.int .u64 (chainOf h s.data.toList)) ∧ W = w' :=
  (hash_any (strOfNums (be8i h) ++ s) W (by rw [ByteArray.size_append, strOfNums_size]; unfold maxLen; simp [be8i]; omega)).mono fun e w' ⟨h1, h2⟩ => ⟨by rw [h1, rchain_fin], h2⟩
/-- The block of the eight bytes. -/
def be8O (h : Nat) : Obj := .cells #[.int .u8 ((h : Int) / 72057594037927936 % 256), .int .u8 ((h : Int) / 281474976710656 % 256), .int .u8 ((h : Int) / 1099511627776 % 256), .int .u8 ((h : Int) / 4294967296 % 256), .int .u8 ((h : Int) / 16777216 % 256), .int .u8 ((h : Int) / 65536 % 256), .int .u8 ((h : Int) / 256 % 256), .int .u8 ((h : Int) % 256)] 5
theorem keepS (h : Nat) (wr w' : World) (b o : Nat) (s : ByteArray) (hc : wr.cell? ⟨b, o, none⟩ = some (.string s)) (hw : Below (wr.heap.size + 1) (wr.alloc (be8O h)) w') :
    w'.cell? ⟨b, o, none⟩ = some (.string s) ∧ (convert 33 9 (.slice (some ⟨wr.heap.size, 0, none⟩) 8 8)).run Try.prog w' = .ok (.string (strOfNums (be8i h))) w' ∧ Below (wr.heap.size + 1) (wr.alloc (be8O h)) w' := by
  have hb : b < wr.heap.size := World.block_lt_of_cell? wr _ hc
  refine ⟨?_, conv8 wr w' _ _ _ _ _ _ _ _ hw, hw⟩
  rw [hw.cell (p := ⟨b, o, none⟩) (Nat.lt_succ_of_lt hb), ← hc]
  exact ((Below.refl wr.heap.size wr).alloc (Nat.le_refl _) (be8O h)).cell (p := ⟨b, o, none⟩) hb
theorem keepB {h : Nat} {wr W w1 : World} {b o : Nat} {s : ByteArray} (hb : Below W.heap.size W w1)
    (hS : W.cell? ⟨b, o, none⟩ = some (.string s) ∧ (convert 33 9 (.slice (some ⟨wr.heap.size, 0, none⟩) 8 8)).run Try.prog W = .ok (.string (strOfNums (be8i h))) W ∧ Below (wr.heap.size + 1) (wr.alloc (be8O h)) W) :
    Below (wr.heap.size + 1) (wr.alloc (be8O h)) w1 := hS.2.2.trans (hb.mono (by have := hS.2.2.size; simpa using this))
theorem endB {h : Nat} {w wr w1 : World} {b o : Nat} {s : ByteArray} (hb : Below w.heap.size w wr)
    (hS : w1.cell? ⟨b, o, none⟩ = some (.string s) ∧ (convert 33 9 (.slice (some ⟨wr.heap.size, 0, none⟩) 8 8)).run Try.prog w1 = .ok (.string (strOfNums (be8i h))) w1 ∧ Below (wr.heap.size + 1) (wr.alloc (be8O h)) w1) :
    Below w.heap.size w w1 := (hb.alloc hb.size (be8O h)).trans (hS.2.2.mono (by have := hb.size; omega))
theorem quiet_left {P : Program} {f : FuncId} {args : Array Value} {w : World} {n : Nat} {v : Value}
    (h : Calls P f args (w.drewN n) fun e w' => e = .returned v ∧ w.drewN n = w') : Calls P f args (w.drewN n) fun e w'' => e = .returned v ∧ ∃ m, w'' = w.drewN m :=
  h.mono fun _ _ ⟨he, hm⟩ => ⟨he, n, hm.symm⟩
set_option maxHeartbeats 1600000 in
theorem checksumAdds_walk (w : World) (a : Option Addr) (cap : Nat) (l : List ByteArray) (hr : IsStrs w a l) (hl : l.length ≤ maxLen) (hb : ∀ j, j < l.length → (l.getD j ByteArray.empty).size ≤ maxLen) (hcap : l.length ≤ cap ∧ (a = none → cap = 0) ∧ cap ≤ maxLen)
    (ct : Int) (hct : (Lit.int .u8 ct).wf = true) (p : Int) (hp : (Lit.int .u64 p).wf = true) :
    Calls Try.prog 8 #[.slice a l.length cap, .int .u8 ct, .int .u64 p] w fun e w' => e = .returned (.bool true) ∧ Below w.heap.size w w' := by
  obtain ⟨pv, rfl, hh⟩ : ∃ pv : Nat, p = (pv : Int) ∧ pv < M64 := by
    have hb := bounds_u64 hp
    refine ⟨p.toNat, by omega, ?_⟩
    unfold M64; omega
  have hc8 := bounds_u8 hct
  obtain ⟨c, rfl⟩ : ∃ c : Nat, ct = (c : Int) := ⟨ct.toNat, by omega⟩
  clear hp hct
  have hF := Lib.hid (few_any a cap l w hl hr hb)
  cases hfb : fewB l
  · have hFF := Lib.hid hfb
    clear hfb hcap hr hb hl hh hc8
    go_enter Try.func8, Try.ntmps8
    go_wp2_with fail
    refine hF.out.mono ?_
    rintro e w' ⟨rfl, rfl⟩
    rw [hFF.out]
    go_wp2_with fail
    refine (awake_any _).mono ?_
    rintro e w' ⟨rfl, hb⟩
    go_wp2_with fail
    go_ret
    exact ⟨rfl, hb⟩
  · have hFF := Lib.hid hfb
    have hfew : l.length ≤ 100 ∧ ∀ i, i < l.length → (l.getD i ByteArray.empty).size ≤ 100 := of_decide_eq_true hfb
    clear hfb
    obtain ⟨hl100, hs100⟩ := hfew
    have HS := Lib.hid hs100
    have HB := Lib.hid hb
    have HC := Lib.hid hcap.2
    have hlc := hcap.1
    unfold maxLen at hcap
    have hcm := hcap.2.2
    clear hs100 hb hcap hl
    rcases hr with h0 | ⟨b, off, rfl, hcell⟩
    · obtain rfl : l = [] := List.length_eq_zero_iff.1 h0
      have hTN : ∀ (W : World) a3 c3, Calls Try.prog 11 #[.slice a3 0 c3] W fun e w' => e = .returned (.int .i64 0) ∧ W = w' :=
        fun W a3 c3 => total_any a3 c3 [] W (by simp) (.inl rfl) (by simp)
      have HTN := Lib.hid hTN
      have hm : (c : Int) % (0 + 1) = 0 := by omega
      have hm1 : (c : Int) % 1 = 0 := by omega
      have hcn := HC.out.1
      clear hTN HS HB HC
      rcases a with _ | x
      · obtain rfl : cap = 0 := hcn rfl
        clear hcn
        go_enter Try.func8, Try.ntmps8
        go_wp2_with fail
        refine hF.out.mono ?_
        rintro e w' ⟨rfl, rfl⟩
        rw [hFF.out]
        go_wp2_with fail
        refine wp_loop_rounds 1 ?_
        rw [rounds_succ]
        go_wp2_with fail
        refine (HTN.out _ _ _).mono ?_
        rintro e w' ⟨rfl, rfl⟩
        go_wp2_with fail
        go_quiet ((go_at_call 11; exact quiet_left (HTN.out _ _ _)))
        go_wp2_with fail
        refine wp_loop_rounds 1 ?_
        rw [rounds_succ]
        go_wp2_with fail
        refine (awake_any _).mono ?_
        rintro e w' ⟨rfl, hb⟩
        go_wp2_with fail
        go_ret
        exact ⟨rfl, (below_drewN (Below.refl _ _) _).trans hb⟩
      · clear hcn
        go_enter Try.func8, Try.ntmps8
        go_wp2_with fail
        refine hF.out.mono ?_
        rintro e w' ⟨rfl, rfl⟩
        rw [hFF.out]
        go_wp2_with fail
        refine wp_loop_rounds 1 ?_
        rw [rounds_succ]
        go_wp2_with fail
        refine (HTN.out _ _ _).mono ?_
        rintro e w' ⟨rfl, rfl⟩
        go_wp2_with fail
        go_quiet ((go_at_call 11; exact quiet_left (HTN.out _ _ _)))
        go_wp2_with fail
        all_goals
          refine wp_loop_rounds 1 ?_
          rw [rounds_succ]
          go_wp2_with fail
          refine (awake_any _).mono ?_
          rintro e w' ⟨rfl, hb⟩
          go_wp2_with fail
          go_ret
          exact ⟨rfl, (below_drewN (Below.refl _ _) _).trans hb⟩
    · have HR : Hid (IsStrs w (some ⟨b, off, none⟩) l) := Lib.hid (.inr ⟨b, off, rfl, hcell⟩)
      have HCE := Lib.hid hcell
      clear hcell
      obtain ⟨i0, hi, hz0, hz1, hz2⟩ := info_parts info9
      go_enter Try.func8, Try.ntmps8
      go_wp2_with fail
      refine hF.out.mono ?_
      rintro e w' ⟨rfl, rfl⟩
      rw [hFF.out]
      go_wp2_with fail
      go_loopw [7, 8] (fun v i wr => ∃ q : Nat, q ≤ l.length ∧ i = .int .i64 ((q : Int) - 1) ∧ wr.ownsRow w.heap.size 9 1 v (l.length - q) ((l.drop q).reverse.map Value.string) ∧ Below w.heap.size w wr) (fun _ i _ => (intOf i + 1).toNat)
      case atStart => exact ⟨l.length, Nat.le_refl _, rfl, by simp; exact World.ownsRow_nil _ _ _ _, Below.refl _ _⟩
      case round =>
        obtain ⟨q, hq, rfl, hown, hbel⟩ := hrel
        by_cases hq0 : 0 < q
        · have hce := HCE.out (q - 1) (by omega)
          have hce' : wr.cell? ⟨b, off + (q - 1), none⟩ = some (.string (l.getD (q - 1) ByteArray.empty)) := by
            rw [hbel.cell (p := ⟨b, off + (q - 1), none⟩) (World.block_lt_of_cell? w _ hce)]; exact hce
          clear hce
          have HST := Lib.hid (rev_step l q hq0 hq)
          have HSZ := Lib.hid hbel.size
          generalize l.getD (q - 1) ByteArray.empty = s at hce' HST
          go_wp2_with (at_builtin; refine wpList_append_own _ rfl _ _ 22 rfl w.heap.size 9 i0 (.string ByteArray.empty) 1 16 Try.underlying22 hi hz0 hz1 hz2 rfl (by decide) _ _ _ rfl (hown.alloc _) ⟨wr.heap.size, 0, none⟩ 1 1 [.string s] rfl rfl (cell_one_new _ _ _) (fun x hx => by simp at hx; subst hx; rfl) (by unfold maxLen; omega) (by omega) (by have := HSZ.out; simp; omega) ?_; intro v' w1 hown' hgrow _)
          exact ⟨⟨q - 1, by omega, i64_eq (by omega), by rw [show l.length - (q - 1) = l.length - q + 1 from by omega, HST.out, List.map_append]; exact hown', (hbel.alloc HSZ.out _).grown hgrow (by have := HSZ.out; simp; omega) (fun k hk => (hown.lt k hk).1)⟩, by simp [intOf]; omega⟩
        · obtain rfl : q = 0 := by omega
          have hown2 : wr.ownsRow w.heap.size 9 1 u7 l.length (l.reverse.map Value.string) := by simpa using hown
          obtain ⟨a', cap', hv, hI⟩ := owns_strs hown2 (by simp)
          subst hv
          clear hown hown2
          have hIw : IsStrs wr (some ⟨b, off, none⟩) l := HR.out.below hbel
          have hrs : ∀ i, i < l.reverse.length → (l.reverse.getD i ByteArray.empty).size ≤ maxLen := by
            intro i hi
            have hi' : i < l.length := by simpa using hi
            have := HB.out (l.length - 1 - i) (by omega)
            simpa [List.getD, List.getElem?_reverse hi'] using this
          have hT0 := Lib.hid (total_any (some ⟨b, off, none⟩) cap l wr (by unfold maxLen; omega) hIw HB.out)
          have hT1 : ∀ n, Calls Try.prog 11 #[.slice a' l.length cap'] (wr.drewN n) fun e w' => e = .returned (.int .i64 (totB l)) ∧ wr.drewN n = w' := by
            intro n
            have := total_any a' cap' l.reverse (wr.drewN n) (by unfold maxLen; simp; omega) hI hrs
            rwa [List.length_reverse, totB_reverse] at this
          have HT1 := Lib.hid hT1
          clear hT1 hrs
          have hm : (c : Int) % ((l.length : Int) + 1) = ((c % (l.length + 1) : Nat) : Int) := by push_cast; rfl
          have hml : c % (l.length + 1) ≤ l.length := by have := Nat.mod_lt c (show 0 < l.length + 1 by omega); omega
          generalize c % (l.length + 1) = n at hm hml
          have hT2 : ∀ k, Calls Try.prog 11 #[.slice (some ⟨b, off, none⟩) n cap] (wr.drewN k) fun e w' => e = .returned (.int .i64 (totB (l.take n))) ∧ wr.drewN k = w' := by
            intro k
            have := total_any (some ⟨b, off, none⟩) cap (l.take n) (wr.drewN k) (by unfold maxLen; simp; omega) (hIw.take n) (by
              intro i hi
              have hi' : i < n ∧ i < l.length := by simp at hi; omega
              have := HB.out i hi'.2
              simpa [List.getD, hi'.1] using this)
            rwa [List.length_take, Nat.min_eq_left hml] at this
          have HT2 := Lib.hid hT2
          clear hT2
          have hT3 : ∀ k a3 c3, IsStrs wr a3 (l.drop n) → Calls Try.prog 11 #[.slice a3 (l.length - n) c3] (wr.drewN k) fun e w' => e = .returned (.int .i64 (totB (l.drop n))) ∧ wr.drewN k = w' := by
            intro k a3 c3 h3
            have := total_any a3 c3 (l.drop n) (wr.drewN k) (by unfold maxLen; simp; omega) h3 (by
              intro i hi
              have hi' : n + i < l.length := by simp at hi; omega
              have := HB.out (n + i) hi'
              simpa [List.getD] using this)
            rwa [List.length_drop] at this
          have HT3 := Lib.hid hT3
          have HI3 : Hid (IsStrs wr (if cap = n then some ⟨b, off, none⟩ else some ⟨b, off + n, none⟩) (l.drop n)) := by
            refine Lib.hid ?_
            split
            · left; simp; omega
            · exact IsStrs.drop (fun i hi => by
                have h1 := HCE.out i hi
                rw [hbel.cell (p := ⟨b, off + i, none⟩) (World.block_lt_of_cell? w _ h1)]; exact h1) n
          clear hT3
          have hsum : ((totB (l.take n) : Int) + (totB (l.drop n) : Int)) % 100000000 = (totB l : Int) := by
            have := totB_cut l n
            omega
          have hd1 : decide ((totB l : Int) < 0) = false := by simp
          have hd2 : decide (100000000 ≤ (totB l : Int)) = false := by have := totB_lt l; simp; omega
          have hd3 := totB_lt l
          have hd4 := totB_lt (l.take n)
          have hd5 := totB_lt (l.drop n)
          generalize totB l = T at hT0 HT1 hsum hd1 hd2 hd3
          generalize totB (l.take n) = T1 at HT2 hsum hd4
          generalize totB (l.drop n) = T2 at HT3 hsum hd5
          clear hF hFF
          go_wp2_with fail
          refine hT0.out.mono ?_
          rintro e w' ⟨rfl, rfl⟩
          go_wp2_with fail
          go_quiet ((go_at_call 11; first | (with_reducible exact quiet_left (HT1.out _)) | (with_reducible exact quiet_left (HT2.out _)) | (with_reducible exact quiet_left (HT3.out _ _ _ HI3.out))))
          go_wp2_with fail
          all_goals
            clear HT1 HT2 HT3 hT0 HI3
            go_loopw [11] (fun i wz => ∃ k : Nat, k ≤ l.length ∧ i = .int .i64 k ∧ Below w.heap.size w wz) (fun i _ => l.length - (intOf i).toNat)
            case atStart => exact ⟨0, Nat.zero_le _, rfl, below_drewN hbel _⟩
            case round =>
              obtain ⟨k, hk, rfl, hbz⟩ := hrel
              by_cases hkl : k < l.length
              · have hce := HCE.out k hkl
                have hce' : wr.cell? ⟨b, off + k, none⟩ = some (.string (l.getD k ByteArray.empty)) := by
                  rw [hbz.cell (p := ⟨b, off + k, none⟩) (World.block_lt_of_cell? w _ hce)]; exact hce
                clear hce
                have hsz := HS.out k hkl
                have HBZ := Lib.hid hbz
                have HHB := Lib.hid (fun s hs W => hash_be8 pv s hs W)
                have HCH := Lib.hid (fun s hs W => chain_any pv s W hs hh)
                generalize l.getD k ByteArray.empty = s at hce' hsz
                have hblt : b < wr.heap.size := World.block_lt_of_cell? wr _ hce'
                have hss := strOfNums_size
                have HCE2 := Lib.hid hce'
                have KEEP := Lib.hid (fun w' hw' => keepS pv wr w' b (off + k) s HCE2.out hw')
                clear hce'
                have HBL := Lib.hid hblt
                clear hblt
                have hce3 := HCE2.out
                have hb8 : (be8i pv).length = 8 := rfl
                have hft : ¬ 9223372036854775807 < 8 + s.size := by omega
                go_wp2_with fail
                go_region_held3 (fun w' => w'.cell? ⟨b, off + k, none⟩ = some (.string s) ∧ (convert 33 9 (.slice (some ⟨wr.heap.size, 0, none⟩) 8 8)).run Try.prog w' = .ok (.string (strOfNums (be8i pv))) w' ∧ Below (wr.heap.size + 1) (wr.alloc (be8O pv)) w') (first | exact KEEP.out _ ((Below.refl _ _).drew) | exact KEEP.out _ (by assumption)) (first | (go_at_call 21; refine (HCH.out s (by omega) _).mono ?_; rintro e w1 ⟨rfl, hb1⟩; have hb2 := keepB hb1 (by assumption); clear hb1) | (go_at_call 19; refine (HHB.out s hsz _).mono ?_; rintro e w2 ⟨rfl, rfl⟩))
                all_goals
                  go_wp2_with fail
                  exact ⟨⟨k + 1, by omega, by go_num, endB HBZ.out (by assumption)⟩, by simp [intOf]; omega⟩
              · obtain rfl : k = l.length := by omega
                have HBZ := Lib.hid hbz
                clear hbz
                go_wp2_with fail
                refine (awake_any _).mono ?_
                rintro e w' ⟨rfl, hb⟩
                go_wp2_with fail
                go_ret
                exact ⟨rfl, below2 HBZ.out hb⟩
end Go.Proofs.Ytimjohcflclpmaa
