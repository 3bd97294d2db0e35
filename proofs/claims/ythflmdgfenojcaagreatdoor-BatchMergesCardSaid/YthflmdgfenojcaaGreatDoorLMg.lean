/- The law BatchMerges: plain, walked. -/
import Derived.Test.YthflmdgfenojcaaGreatDoorLCd
import Derived.Deep.RegionLaw
namespace Go.Proofs.YthflmdgfenojcaaGreatDoor
set_option linter.unusedVariables false
open Go.RowKit

def zeroB : Bat := ⟨ByteArray.empty, ByteArray.empty, 0, []⟩
def bargAt (l : List BArg) (k : Nat) : BArg := l.getD k ⟨zeroB, none, 0⟩
def batAt (l : List BArg) (k : Nat) : Bat := (bargAt l k).b
theorem bargAt_get (l : List BArg) (k : Nat) (h : k < l.length) : bargAt l k = l[k] := by unfold bargAt; rw [List.getD_eq_getElem?_getD, List.getElem?_eq_getElem h]; rfl
theorem bargAt_mem (l : List BArg) (k : Nat) (h : k < l.length) : bargAt l k ∈ l := by rw [bargAt_get l k h]; exact List.getElem_mem h
def recsK (l : List BArg) (k : Nat) : List Rec := (l.take k).flatMap fun x => x.b.rs
theorem recsK_succ (l : List BArg) (k : Nat) (h : k < l.length) : recsK l (k + 1) = recsK l k ++ (bargAt l k).b.rs := by
  unfold recsK
  rw [List.take_succ_eq_append_getElem h, List.flatMap_append, bargAt_get l k h]
  simp
def ptM (l : List BArg) (k : Nat) : Int :=
  if chkB (batAt l k) ≠ 0 then chkB (batAt l k) else if (batAt l k).sd ≠ (batAt l 0).sd then 5 else if (batAt l k).dt ≠ (batAt l 0).dt then 14 else 0
def wholeM (id : ByteArray) (l : List BArg) : Bat := ⟨id, (batAt l 0).sd, (batAt l 0).dt, recsK l l.length⟩
def mrgE (id : ByteArray) (l : List BArg) : Int := if l.length = 0 then 1 else if firstE (ptM l) l.length ≠ 0 then firstE (ptM l) l.length else chkB (wholeM id l)
def mrgV (id : ByteArray) (l : List BArg) : Bat := if mrgE id l = 0 then wholeM id l else zeroB
/-- What Merge answers: the whole, or the zero file and why. -/
def MrgPost (id : ByteArray) (l : List BArg) (w : World) (e : Ending) (w' : World) : Prop :=
  ∃ A cp, e = .returned (.tuple #[batV (mrgV id l) A cp, .int .i64 (mrgE id l)]) ∧ IsRow w' A ((mrgV id l).rs.flatMap recF) ∧ (mrgV id l).rs.length ≤ cp ∧ Below w.heap.size w w'
theorem mrg_bad {id : ByteArray} {l : List BArg} {E : Int} {w W : World} (h : mrgE id l = E) (h0 : E ≠ 0) (hb : Below w.heap.size w W) : MrgPost id l w (.returned (.tuple #[.agg zbt, .int .i64 E])) W := by
  have hv : mrgV id l = zeroB := by unfold mrgV; rw [h, if_neg h0]
  exact ⟨none, 0, by rw [hv, h]; rfl, by rw [hv]; exact .inl rfl, by rw [hv]; exact Nat.le_refl _, hb⟩

/-! ### the files in their row -/
structure BtAt (w : World) (b o : Nat) (x : BArg) : Prop where
  c0 : w.cell? ⟨b, o, none⟩ = some (.string x.b.id)
  c1 : w.cell? ⟨b, o + 1, none⟩ = some (.string x.b.sd)
  c2 : w.cell? ⟨b, o + 2, none⟩ = some (.int .i64 x.b.dt)
  c3 : w.cell? ⟨b, o + 3, none⟩ = some (.slice x.A x.b.rs.length x.cp)
theorem BtAt.later {w W : World} {b o : Nat} {x : BArg} (h : BtAt w b o x) (hb : Below w.heap.size w W) : BtAt W b o x :=
  ⟨cell_later hb h.c0, cell_later hb h.c1, cell_later hb h.c2, cell_later hb h.c3⟩
theorem bat_cells : ∀ (l : List BArg) (k : Nat) (h : k < l.length) (j : Nat), j < 4 → (l.flatMap BArg.cells)[k * 4 + j]? = (l[k].cells)[j]?
  | x :: l, 0, _, j, hj => by
    rw [List.flatMap_cons, List.getElem?_append_left (by show _ < 4; omega)]
    simp
  | x :: l, k + 1, h, j, hj => by
    rw [List.flatMap_cons, List.getElem?_append_right (by show 4 ≤ _; omega)]
    have e : (k + 1) * 4 + j - x.cells.length = k * 4 + j := by show (k + 1) * 4 + j - 4 = _; omega
    rw [e, bat_cells l k (by simpa using h) j hj]
    simp
theorem row_bt {w : World} {A : Option Addr} {l : List BArg} (hr : IsRow w A (l.flatMap BArg.cells)) (j : Nat) (h : j < l.length) :
    ∃ b off, A = some ⟨b, off, none⟩ ∧ ∀ k, k < l.length → BtAt w b (off + k * 4) (bargAt l k) := by
  rcases hr with hr | ⟨b, off, rfl, hr⟩
  · have := bat_cells l j h 0 (by omega)
    rw [List.getElem?_eq_none (by omega)] at this
    simp [BArg.cells] at this
  · refine ⟨b, off, rfl, fun k hk => ?_⟩
    rw [bargAt_get l k hk]
    have hc := fun j hj => bat_cells l k hk j hj
    constructor <;> first | exact hr _ _ (hc 0 (by omega)) | (rw [Nat.add_assoc]; first | exact hr _ _ (hc 1 (by omega)) | exact hr _ _ (hc 2 (by omega)) | exact hr _ _ (hc 3 (by omega)))
end Go.Proofs.YthflmdgfenojcaaGreatDoor

namespace Go.Proofs.YthflmdgfenojcaaGreatDoor
set_option linter.unusedVariables false
open Go.RowKit Go.Sort Go.Maps

/-- What the law hands Merge. -/
structure MgOk (w : World) (l : List BArg) : Prop where
  n : l.length ≤ 6
  k : ∀ x ∈ l, BOk w x ∧ x.b.rs.length ≤ 240
/-- The result's cell, and the whole so far. -/
structure MgS (id sd : ByteArray) (dt : Int) (rs : List Rec) (v : Value) (w W : World) : Prop where
  z : W.heap[w.heap.size]? = some (.cells zbt 61)
  t : W.heap[w.heap.size + 1]? = some (.cells #[.string id, .string sd, .int .i64 dt, v] 61)
  o : W.ownsRow (w.heap.size + 2) 57 12 v rs.length (rs.flatMap recF)
  b : Below w.heap.size w W
section
variable {id sd : ByteArray} {dt : Int} {rs : List Rec} {v u : Value} {w W W' : World}
theorem MgS.below (h : MgS id sd dt rs v w W) (hb : Below W.heap.size W W') : MgS id sd dt rs v w W' :=
  ⟨blk_later h.z hb, blk_later h.t hb, own_later h.o hb, h.b.trans (hb.mono h.b.size)⟩
theorem MgS.app (h : MgS id sd dt rs v w W) (x : List Rec) (h8 : W'.ownsRow (w.heap.size + 2) 57 12 u (rs.length + x.length) (rs.flatMap recF ++ x.flatMap recF)) (hg : W.grownBy W' v.ownBlock) :
    MgS id sd dt (rs ++ x) u w (W'.setCell ⟨w.heap.size + 1, 3, none⟩ u) := by
  have hz := grown_lt (B := 0) hg h.z (own_far h.o (by omega))
  have ht := grown_lt (B := 0) hg h.t (own_far h.o (by omega))
  have hbe := h.b.grown hg h.b.size (fun j hj => by have := (h.o.lt j hj).1; omega)
  have hset : W'.grownBy (W'.setCell ⟨w.heap.size + 1, 3, none⟩ u) (some (w.heap.size + 1)) := ⟨rfl, rfl, rfl, by simp [World.setCell], fun k _ hk => Below.heap_setCell _ _ _ _ (fun e => hk (by rw [e]))⟩
  refine ⟨grown_lt (B := 0) hset hz (by simp), by rw [heap_set1 ht 3 u]; rfl, ?_, hbe.setCell (p := ⟨w.heap.size + 1, 3, none⟩) (Nat.le_succ _) u⟩
  rw [List.length_append, List.flatMap_append]
  exact h8.kept hset (own_far' h8 (by omega))
theorem MgS.start (id sd : ByteArray) (dt : Int) (w : World) : MgS id sd dt [] (.slice none 0 0) w ((w.alloc (.cells zbt 61)).alloc (.cells #[.string id, .string sd, .int .i64 dt, .slice none 0 0] 61)) := by
  have e : (w.alloc (.cells zbt 61)).heap.size = w.heap.size + 1 := Array.size_push _
  refine ⟨blk_later (heap_alloc_new w _) (bx _ _), ?_, World.ownsRow_nil _ _ _ _, (bx w _).trans ((bx _ _).mono (by omega))⟩
  rw [← e]; exact heap_alloc_new _ _
end
set_option maxRecDepth 1000000 in
theorem mg_nil (id : ByteArray) (a : Option Addr) (cp : Nat) (w : World) : Calls Tryz.prog 52 #[.string id, .slice a 0 cp] w (MrgPost id [] w) := by
  have HK := Lib.hid (heap_alloc_new w (.cells zbt 61))
  have HB := Lib.hid (mrg_bad (id := id) (l := []) (E := 1) (w := w) (W := (w.alloc (.cells zbt 61)).setRow w.heap.size zbt) rfl (by decide) (below_setRow (bx w _) (Nat.le_refl _) _))
  unfold zbt btC at HK
  go_enter Tryz.func52, Tryz.ntmps52
  go_wp2_with (refine wpList_store_row rfl 61 _ _ rfl w.heap.size zbt rfl rfl 61 _ HK.out (info61 ⟨#[]⟩ ⟨#[]⟩ 0 (.slice none 0 0)) rfl zbt_one ?_)
  refine bodyPost_ret (v := .tuple #[.agg zbt, .int .i64 1]) ?_ rfl ?_
  · exact results_row_tmp (show Tryz.f52.results = #[.cell 4 61, .tmp 5] by kernel_rfl) _ _ w.heap.size 61 zbt (0, 0) _ _ rfl rfl (setRow_heap _ _ _ _ _ _ HK.out) Tryz.underlying61 rfl (info61 ⟨#[]⟩ ⟨#[]⟩ 0 (.slice none 0 0))
  · exact HB.out
theorem ptM_chk {l : List BArg} {k : Nat} (h : chkB (batAt l k) ≠ 0) : ptM l k = chkB (batAt l k) := by unfold ptM; rw [if_pos h]
theorem ptM_sd {l : List BArg} {k : Nat} (h : chkB (batAt l k) = 0) (h2 : (batAt l k).sd ≠ (batAt l 0).sd) : ptM l k = 5 := by unfold ptM; rw [if_neg (by simp [h]), if_pos h2]
theorem ptM_dt {l : List BArg} {k : Nat} (h : chkB (batAt l k) = 0) (h2 : (batAt l k).sd = (batAt l 0).sd) (h3 : (batAt l k).dt ≠ (batAt l 0).dt) : ptM l k = 14 := by unfold ptM; rw [if_neg (by simp [h]), if_neg (by simp [h2]), if_pos h3]
theorem ptM_ok {l : List BArg} {k : Nat} (h : chkB (batAt l k) = 0) (h2 : (batAt l k).sd = (batAt l 0).sd) (h3 : (batAt l k).dt = (batAt l 0).dt) : ptM l k = 0 := by unfold ptM; rw [if_neg (by simp [h]), if_neg (by simp [h2]), if_neg (by simp [h3])]
theorem mrgE_at (id : ByteArray) {l : List BArg} {k : Nat} (hk : k < l.length) (h0 : ∀ j, j < k → ptM l j = 0) (h : ptM l k ≠ 0) : mrgE id l = ptM l k := by
  unfold mrgE
  have := firstE_at (ptM l) k l.length hk h0 h
  rw [if_neg (by omega), this, if_pos h]
theorem mrgE_end (id : ByteArray) {l : List BArg} (hn : l.length ≠ 0) (h0 : ∀ j, j < l.length → ptM l j = 0) : mrgE id l = chkB (wholeM id l) := by
  unfold mrgE
  rw [if_neg hn, firstE_zero _ _ h0, if_neg (by simp)]
theorem recsK_len {l : List BArg} (h : ∀ x ∈ l, x.b.rs.length ≤ 240) : ∀ k, k ≤ l.length → (recsK l k).length ≤ 240 * k
  | 0, _ => by simp [recsK]
  | k + 1, hk => by
    have ih := recsK_len h k (by omega)
    rw [recsK_succ l k (by omega), List.length_append]
    have := h _ (bargAt_mem l k (by omega))
    omega
theorem recsK_fit {l : List BArg} (h : ∀ x ∈ l, BatOk x.b) (k : Nat) : ∀ r ∈ recsK l k, r.Fit := fun r hr => by
  unfold recsK at hr
  obtain ⟨x, hx, hr⟩ := List.mem_flatMap.1 hr
  exact (h x (List.mem_of_mem_take hx)).r r hr
theorem mrg_good {id : ByteArray} {l : List BArg} {w W : World} {A : Option Addr} {c : Nat} (h : mrgE id l = 0) (hr : IsRow W A ((wholeM id l).rs.flatMap recF)) (hc : (wholeM id l).rs.length ≤ c) (hb : Below w.heap.size w W) :
    MrgPost id l w (.returned (.tuple #[.agg #[.string id, .string (batAt l 0).sd, .int .i64 (batAt l 0).dt, .slice A (wholeM id l).rs.length c], .int .i64 0])) W := by
  have hv : mrgV id l = wholeM id l := by unfold mrgV; rw [if_pos h]
  exact ⟨A, c, by rw [hv, h]; rfl, by rw [hv]; exact hr, by rw [hv]; exact hc, hb⟩
theorem own_same {B e size n : Nat} {v : Value} {xs : List Value} {w w' : World} (h : w.ownsRow B e size v n xs) (hs : ∀ g, v.ownBlock = some g → w'.heap[g]? = w.heap[g]?) : w'.ownsRow B e size v n xs := by
  refine ⟨h.1, ?_⟩
  rcases h.2 with q | ⟨g, cap, cur, q1, q2, q3, q4⟩
  · exact .inl q
  · exact .inr ⟨g, cap, cur, q1, q2, (hs g (by rw [q1]; rfl)).trans q3, q4⟩
theorem own_lt {B e size n : Nat} {v : Value} {xs : List Value} {w : World} (h : w.ownsRow B e size v n xs) {g : Nat} (hg : v.ownBlock = some g) : B ≤ g ∧ g < w.heap.size := h.lt g hg
theorem isrow_set {w : World} {A : Option Addr} {n c : Nat} {xs : List Value} {B e size g : Nat} (h : w.ownsRow B e size (.slice A n c) n xs) (hg : g < B) (cs : Array Value) : IsRow (w.setRow g cs) A xs :=
  IsRow.of_own (c := c) (own_same h (fun j hj => setRow_other w (by have := (own_lt h hj).1; omega) cs))
set_option maxRecDepth 1000000 in
set_option maxHeartbeats 25600000 in
theorem mrg_any (id : ByteArray) (a : Option Addr) (cp : Nat) (l : List BArg) (w : World) (hr : IsRow w a (l.flatMap BArg.cells)) (hok : MgOk w l) (hc : l.length ≤ cp) (hi : id.size ≤ 500) (hsz : (bargAt l 0).b.sd.size ≤ 500) : Calls Tryz.prog 52 #[.string id, .slice a l.length cp] w (MrgPost id l w) := by
  by_cases hn : l.length = 0
  · obtain rfl := List.eq_nil_of_length_eq_zero hn
    exact mg_nil id a cp w
  obtain ⟨bb, off, rfl, hcell⟩ := row_bt hr 0 (by omega)
  have HROW := Lib.hid hcell
  have hf := hcell 0 (by omega)
  rw [Nat.zero_mul, Nat.add_zero] at hf
  have HF := Lib.hid hf
  have HS := Lib.hid ((MgS.start id (bargAt l 0).b.sd (bargAt l 0).b.dt w).below ((Below.refl _ _).drew))
  have HL := Lib.hid hok
  have hn6 := hok.n
  have HBAD := Lib.hid (fun E W h1 h2 h3 => mrg_bad (id := id) (l := l) (E := E) (w := w) (W := W) h1 h2 h3)
  have HP1 := Lib.hid (fun k h => ptM_chk (l := l) (k := k) h)
  have HP2 := Lib.hid (fun k h h2 => ptM_sd (l := l) (k := k) h h2)
  have HP3 := Lib.hid (fun k h h2 h3 => ptM_dt (l := l) (k := k) h h2 h3)
  have HP4 := Lib.hid (fun k h h2 h3 => ptM_ok (l := l) (k := k) h h2 h3)
  have HAT := Lib.hid (fun k hk h0 h => mrgE_at id (l := l) (k := k) hk h0 h)
  have HWH := Lib.hid (fun A c W h1 h2 h3 h4 => mrg_good (id := id) (l := l) (w := w) (W := W) (A := A) (c := c) h1 h2 h3 h4)
  unfold batAt at HP1 HP2 HP3 HP4 HWH
  have HWD : Hid (wholeM id l = ⟨id, (bargAt l 0).b.sd, (bargAt l 0).b.dt, recsK l l.length⟩) := Lib.hid rfl
  generalize hsd : (bargAt l 0).b.sd = sd at *
  generalize hdt : (bargAt l 0).b.dt = dt at *
  have c1 := HF.out.c1
  have c2 := HF.out.c2
  rw [hsd] at c1
  rw [hdt] at c2
  have HSD : Hid (sd.size ≤ 500) := Lib.hid hsz
  have hbl : bb < w.heap.size := World.block_lt_of_cell? w _ c1
  have d1 := cell_later (bx w (.cells zbt 61)) c1
  have d2 := cell_later (bx w (.cells zbt 61)) c2
  obtain ⟨i57, hi57, hz0, hz1, hz2⟩ := info_parts mkrec
  have HI := Lib.hid (And.intro hi57 (And.intro hz0 (And.intro hz1 hz2)))
  clear hsd hdt hcell hr hf hok hsz hi57 hz0 hz1 hz2
  unfold zbt btC at d1 d2 HS HBAD
  have l0 : ¬ (l.length : Int) = 0 := by omega
  have l1 : (0 : Int) < (l.length : Int) := by omega
  have lb : ((l.length : Int) == 0) = false := by simpa using l0
  go_enter Tryz.func52, Tryz.ntmps52
  go_wp2_with fail
  go_region
  go_wp2_with fail
  clear c1 c2 d1 d2
  go_loopw [27] (fun i wr => ∃ (k : Nat) (v : Value), k ≤ l.length ∧ i = .int .i64 k ∧ Hid (MgS id sd dt (recsK l k) v w wr) ∧ Hid (∀ j, j < k → ptM l j = 0)) (fun i _ => l.length - (intOf i).toNat)
  case atStart => exact ⟨0, _, Nat.zero_le _, rfl, HS, Lib.hid (fun j hj => absurd hj (Nat.not_lt_zero _))⟩
  case round =>
    clear HS
    obtain ⟨k, v, hk, rfl, HW, HZ⟩ := hrel
    by_cases hlt : k < l.length
    · have kI : (k : Int) < (l.length : Int) := by omega
      have k0 : (0 : Int) ≤ (k : Int) := by omega
      have HC := Lib.hid ((HROW.out k hlt).later HW.out.b)
      have HX := Lib.hid (HL.out.k _ (bargAt_mem l k hlt))
      have HRS := Lib.hid (recsK_succ l k hlt)
      have HRL := Lib.hid (recsK_len (fun x hx => (HL.out.k x hx).2) k hk)
      have HQ1 := Lib.hid (HP1.out k)
      have HQ2 := Lib.hid (HP2.out k)
      have HQ3 := Lib.hid (HP3.out k)
      have HQ4 := Lib.hid (HP4.out k)
      have HA1 := Lib.hid (HAT.out k hlt HZ.out)
      have HCK := Lib.hid (fun W hb => bcheck_any (bargAt l k).A (bargAt l k).cp (bargAt l k).b W (HX.out.1.r.below hb) HX.out.1.k.ok HX.out.1.c (Nat.le_trans HX.out.2 (by decide)))
      unfold PtPost batV at HCK
      obtain ⟨PT, hPT⟩ : ∃ PT, ptM l k = PT := ⟨_, rfl⟩
      have HPT := Lib.hid hPT
      rw [hPT] at HQ1 HQ2 HQ3 HQ4 HA1
      clear hPT
      obtain ⟨x, hx⟩ : ∃ x, bargAt l k = x := ⟨_, rfl⟩
      rw [hx] at HC HX HRS HQ1 HQ2 HQ3 HQ4 HCK
      clear hx
      generalize chkB x.b = E at *
      obtain ⟨⟨xi, xs, xd, xr⟩, xA, xc⟩ := x
      have c0 := HC.out.c0
      have c1 := HC.out.c1
      have c2 := HC.out.c2
      have c3 := HC.out.c3
      dsimp only at c0 c1 c2 c3 HX HRS HQ1 HQ2 HQ3 HQ4 HCK
      have HW1 := Lib.hid (HW.out.below (bx wr (.cells #[.string xi, .string xs, .int .i64 xd, .slice xA xr.length xc] 61)))
      have HK1 := Lib.hid (heap_alloc_new wr (.cells #[.string xi, .string xs, .int .i64 xd, .slice xA xr.length xc] 61))
      go_wp2_with fail
      refine (HCK.out _ HW1.out.b).mono ?_
      rintro e w2 ⟨rfl, hb⟩
      have HW2 := Lib.hid (HW1.out.below hb)
      have HK2 := Lib.hid (blk_later HK1.out hb)
      clear hb c0 c1 c2 c3
      have t1 : w2.cell? ⟨w.heap.size + 1, 1, none⟩ = some (.string sd) := cell_c HW2.out.t 1
      have t2 : w2.cell? ⟨w.heap.size + 1, 2, none⟩ = some (.int .i64 dt) := cell_c HW2.out.t 2
      have t3 : w2.cell? ⟨w.heap.size + 1, 3, none⟩ = some v := cell_c HW2.out.t 3
      have x1 : w2.cell? ⟨wr.heap.size, 1, none⟩ = some (.string xs) := cell_c HK2.out 1
      have x2 : w2.cell? ⟨wr.heap.size, 2, none⟩ = some (.int .i64 xd) := cell_c HK2.out 2
      have x3 : w2.cell? ⟨wr.heap.size, 3, none⟩ = some (.slice xA xr.length xc) := cell_c HK2.out 3
      by_cases hE : E = 0
      case neg =>
        have heb : (E != 0) = true := by simpa using hE
        have HE := Lib.hid (HA1.out (by rw [HQ1.out hE]; exact hE) |>.trans (HQ1.out hE))
        have HEN := Lib.hid hE
        clear hE t1 t2 t3 x1 x2 x3
        go_wp2_with (refine wpList_store_row rfl 61 _ _ rfl w.heap.size zbt rfl rfl 61 _ HW2.out.z (info61 ⟨#[]⟩ ⟨#[]⟩ 0 (.slice none 0 0)) rfl zbt_one ?_)
        refine bodyPost_ret (v := .tuple #[.agg zbt, .int .i64 E]) ?_ rfl ?_
        · exact results_row_tmp (show Tryz.f52.results = #[.cell 4 61, .tmp 5] by kernel_rfl) _ _ w.heap.size 61 zbt (0, 0) _ _ rfl rfl (setRow_heap _ _ _ _ _ _ HW2.out.z) Tryz.underlying61 rfl (info61 ⟨#[]⟩ ⟨#[]⟩ 0 (.slice none 0 0))
        · exact HBAD.out E _ HE.out HEN.out (below_setRow HW2.out.b (Nat.le_refl _) _)
      case pos =>
      subst hE
      by_cases hs : xs = sd
      case neg =>
        obtain ⟨q9, n9⟩ := str_ne hs
        have HE := Lib.hid (HA1.out (by rw [HQ2.out rfl hs]; decide) |>.trans (HQ2.out rfl hs))
        clear hs t2 t3 x2 x3
        go_wp2_with (refine wpList_store_row rfl 61 _ _ rfl w.heap.size zbt rfl rfl 61 _ HW2.out.z (info61 ⟨#[]⟩ ⟨#[]⟩ 0 (.slice none 0 0)) rfl zbt_one ?_)
        refine bodyPost_ret (v := .tuple #[.agg zbt, .int .i64 5]) ?_ rfl ?_
        · exact results_row_tmp (show Tryz.f52.results = #[.cell 4 61, .tmp 5] by kernel_rfl) _ _ w.heap.size 61 zbt (0, 0) _ _ rfl rfl (setRow_heap _ _ _ _ _ _ HW2.out.z) Tryz.underlying61 rfl (info61 ⟨#[]⟩ ⟨#[]⟩ 0 (.slice none 0 0))
        · exact HBAD.out 5 _ HE.out (by decide) (below_setRow HW2.out.b (Nat.le_refl _) _)
      case pos =>
      subst hs
      obtain ⟨q9, -⟩ := str_eq (rfl : xs = xs)
      by_cases hd : xd = dt
      case neg =>
        have hdb : (xd != dt) = true := by simpa using hd
        have HE := Lib.hid (HA1.out (by rw [HQ3.out rfl rfl hd]; decide) |>.trans (HQ3.out rfl rfl hd))
        clear hd t3 x3
        go_wp2_with (refine wpList_store_row rfl 61 _ _ rfl w.heap.size zbt rfl rfl 61 _ HW2.out.z (info61 ⟨#[]⟩ ⟨#[]⟩ 0 (.slice none 0 0)) rfl zbt_one ?_)
        refine bodyPost_ret (v := .tuple #[.agg zbt, .int .i64 14]) ?_ rfl ?_
        · exact results_row_tmp (show Tryz.f52.results = #[.cell 4 61, .tmp 5] by kernel_rfl) _ _ w.heap.size 61 zbt (0, 0) _ _ rfl rfl (setRow_heap _ _ _ _ _ _ HW2.out.z) Tryz.underlying61 rfl (info61 ⟨#[]⟩ ⟨#[]⟩ 0 (.slice none 0 0))
        · exact HBAD.out 14 _ HE.out (by decide) (below_setRow HW2.out.b (Nat.le_refl _) _)
      case pos =>
      subst hd
      have hdb : (xd != xd) = false := by simp
      have HZ1 : Hid (∀ j, j < k + 1 → ptM l j = 0) := Lib.hid (fun j hj => by
        rcases Nat.lt_or_ge j k with q | q
        · exact HZ.out j q
        · obtain rfl : j = k := by omega
          rw [HPT.out]; exact HQ4.out rfl rfl rfl)
      have HRD := Lib.hid (reads_row (HX.out.1.r.below HW2.out.b))
      have HON := Lib.hid (rows_one xr)
      have hxl : xr.length ≤ 240 := HX.out.2
      have hrl : (recsK l k).length ≤ 1440 := by have := HRL.out; omega
      have hw2 : w.heap.size + 1 < w2.heap.size := (Array.getElem?_eq_some_iff.1 HW2.out.t).1
      generalize recsK l k = rk at *
      go_wp2_with (at_builtin; refine wpList_append_any _ rfl (.tmp 50) (.tmp 52) _ rfl (w.heap.size + 2) 57 i57 _ 12 152 Tryz.underlying34 HI.out.1 HI.out.2.1 HI.out.2.2.1 HI.out.2.2.2 rfl (by omega) _ rk.length _ rfl HW2.out.o _ xA xr.length xc (xr.flatMap recF) rfl HRD.out HON.out (by unfold maxLen; omega) (by omega) (by omega) ?_; intro v7 w8 hown hgrow hwh; obtain ⟨A7, c7, rfl, hA7, hA8⟩ := own_form hown; clear hA7 hA8; have HA := Lib.hid hown; have HG := Lib.hid hgrow; have g1 := grown_lt (B := 0) hgrow HW2.out.t (own_far HW2.out.o (by omega)); have d3 := cell_c g1 3; have p3 := cell_f g1 3; clear hown hgrow hwh g1; simp at d3)
      have HW3 := Lib.hid (HW2.out.app xr HA.out HG.out)
      rw [← HRS.out] at HW3
      exact ⟨⟨k + 1, _, by omega, by go_num, HW3, HZ1⟩, by simp [intOf]; omega⟩
    · obtain rfl : k = l.length := by omega
      have kI : ¬ (l.length : Int) < (l.length : Int) := by omega
      have HEND := Lib.hid (mrgE_end id hn HZ.out)
      rw [HWD.out] at HEND HWH
      have HBO : Hid (BatOk ⟨id, sd, dt, recsK l l.length⟩) := Lib.hid ⟨Nat.le_trans hi (by decide), Nat.le_trans HSD.out (by decide), recsK_fit (fun x hx => (HL.out.k x hx).1.k.ok) l.length⟩
      have hrl := recsK_len (fun x hx => (HL.out.k x hx).2) l.length (Nat.le_refl _)
      obtain ⟨A, c, rfl, hA, hc2⟩ := own_form HW.out.o
      have HCK := Lib.hid (bcheck_any A c ⟨id, sd, dt, recsK l l.length⟩ wr hA HBO.out hc2 (by show (recsK l l.length).length ≤ 100000; omega))
      have HA := Lib.hid hA
      have HC := Lib.hid hc2
      unfold PtPost batV at HCK
      dsimp only at HCK HWH
      generalize chkB ⟨id, sd, dt, recsK l l.length⟩ = E at *
      generalize recsK l l.length = rk at *
      clear hA hc2 hrl
      go_wp2_with (refine wpList_load_row rfl 61 _ rfl (w.heap.size + 1) rfl 61 _ _ _ HW.out.t Tryz.underlying61 rfl (info61 id sd dt (.slice A rk.length c)) ?_)
      refine (HCK.out).mono ?_
      rintro e w2 ⟨rfl, hb⟩
      have HW2 := Lib.hid (HW.out.below hb)
      have HA2 := Lib.hid (HA.out.below hb)
      clear hb
      by_cases hE : E = 0
      case neg =>
        have heb : (E != 0) = true := by simpa using hE
        have HEN := Lib.hid hE
        clear hE
        go_wp2_with (refine wpList_store_row rfl 61 _ _ rfl w.heap.size zbt rfl rfl 61 _ HW2.out.z (info61 ⟨#[]⟩ ⟨#[]⟩ 0 (.slice none 0 0)) rfl zbt_one ?_)
        refine bodyPost_ret (v := .tuple #[.agg zbt, .int .i64 E]) ?_ rfl ?_
        · exact results_row_tmp (show Tryz.f52.results = #[.cell 4 61, .tmp 5] by kernel_rfl) _ _ w.heap.size 61 zbt (0, 0) _ _ rfl rfl (setRow_heap _ _ _ _ _ _ HW2.out.z) Tryz.underlying61 rfl (info61 ⟨#[]⟩ ⟨#[]⟩ 0 (.slice none 0 0))
        · exact HBAD.out E _ HEND.out HEN.out (below_setRow HW2.out.b (Nat.le_refl _) _)
      case pos =>
      subst hE
      go_wp2_with (first | (refine wpList_load_row rfl 61 _ rfl (w.heap.size + 1) rfl 61 _ _ _ HW2.out.t Tryz.underlying61 rfl (info61 id sd dt (.slice A rk.length c)) ?_) | (refine wpList_store_row rfl 61 _ _ rfl w.heap.size (btC id sd dt (.slice A rk.length c)) rfl rfl 61 _ HW2.out.z (info61 _ _ _ _) rfl (bt_one HW2.out.o) ?_))
      refine bodyPost_ret (v := .tuple #[.agg (btC id sd dt (.slice A rk.length c)), .int .i64 0]) ?_ rfl ?_
      · exact results_row_tmp (show Tryz.f52.results = #[.cell 4 61, .tmp 5] by kernel_rfl) _ _ w.heap.size 61 (btC id sd dt (.slice A rk.length c)) (0, 0) _ _ rfl rfl (setRow_heap _ _ _ _ _ _ HW2.out.z) Tryz.underlying61 rfl (info61 _ _ _ _)
      · exact HWH.out A c _ HEND.out (isrow_set HW2.out.o (by omega) _) HC.out (below_setRow HW2.out.b (Nat.le_refl _) _)
end Go.Proofs.YthflmdgfenojcaaGreatDoor

namespace Go.Proofs.YthflmdgfenojcaaGreatDoor
set_option linter.unusedVariables false
open Go.RowKit Go.Sort Go.Maps

set_option maxRecDepth 1000000 in
theorem rmg_nil (id : ByteArray) (a : Option Addr) (cp : Nat) (w : World) : Calls Tryz.prog 53 #[.string id, .slice a 0 cp] w (MrgPost id [] w) := by
  have HK := Lib.hid (heap_alloc_new w (.cells zbt 61))
  have HB := Lib.hid (mrg_bad (id := id) (l := []) (E := 1) (w := w) (W := (w.alloc (.cells zbt 61)).setRow w.heap.size zbt) rfl (by decide) (below_setRow (bx w _) (Nat.le_refl _) _))
  unfold zbt btC at HK
  go_enter Tryz.func53, Tryz.ntmps53
  go_wp2_with (refine wpList_store_row rfl 61 _ _ rfl w.heap.size zbt rfl rfl 61 _ HK.out (info61 ⟨#[]⟩ ⟨#[]⟩ 0 (.slice none 0 0)) rfl zbt_one ?_)
  refine bodyPost_ret (v := .tuple #[.agg zbt, .int .i64 1]) ?_ rfl ?_
  · exact results_row_tmp (show Tryz.f53.results = #[.cell 4 61, .tmp 5] by kernel_rfl) _ _ w.heap.size 61 zbt (0, 0) _ _ rfl rfl (setRow_heap _ _ _ _ _ _ HK.out) Tryz.underlying61 rfl (info61 ⟨#[]⟩ ⟨#[]⟩ 0 (.slice none 0 0))
  · exact HB.out
set_option maxRecDepth 1000000 in
set_option maxHeartbeats 25600000 in
theorem rmrg_any (id : ByteArray) (a : Option Addr) (cp : Nat) (l : List BArg) (w : World) (hr : IsRow w a (l.flatMap BArg.cells)) (hok : MgOk w l) (hc : l.length ≤ cp) (hi : id.size ≤ 500) (hsz : (bargAt l 0).b.sd.size ≤ 500) : Calls Tryz.prog 53 #[.string id, .slice a l.length cp] w (MrgPost id l w) := by
  by_cases hn : l.length = 0
  · obtain rfl := List.eq_nil_of_length_eq_zero hn
    exact rmg_nil id a cp w
  obtain ⟨bb, off, rfl, hcell⟩ := row_bt hr 0 (by omega)
  have HROW := Lib.hid hcell
  have hf := hcell 0 (by omega)
  rw [Nat.zero_mul, Nat.add_zero] at hf
  have HF := Lib.hid hf
  have HS := Lib.hid ((MgS.start id (bargAt l 0).b.sd (bargAt l 0).b.dt w).below ((Below.refl _ _).drew))
  have HL := Lib.hid hok
  have hn6 := hok.n
  have HBAD := Lib.hid (fun E W h1 h2 h3 => mrg_bad (id := id) (l := l) (E := E) (w := w) (W := W) h1 h2 h3)
  have HP1 := Lib.hid (fun k h => ptM_chk (l := l) (k := k) h)
  have HP2 := Lib.hid (fun k h h2 => ptM_sd (l := l) (k := k) h h2)
  have HP3 := Lib.hid (fun k h h2 h3 => ptM_dt (l := l) (k := k) h h2 h3)
  have HP4 := Lib.hid (fun k h h2 h3 => ptM_ok (l := l) (k := k) h h2 h3)
  have HAT := Lib.hid (fun k hk h0 h => mrgE_at id (l := l) (k := k) hk h0 h)
  have HWH := Lib.hid (fun A c W h1 h2 h3 h4 => mrg_good (id := id) (l := l) (w := w) (W := W) (A := A) (c := c) h1 h2 h3 h4)
  unfold batAt at HP1 HP2 HP3 HP4 HWH
  have HWD : Hid (wholeM id l = ⟨id, (bargAt l 0).b.sd, (bargAt l 0).b.dt, recsK l l.length⟩) := Lib.hid rfl
  generalize hsd : (bargAt l 0).b.sd = sd at *
  generalize hdt : (bargAt l 0).b.dt = dt at *
  have c1 := HF.out.c1
  have c2 := HF.out.c2
  rw [hsd] at c1
  rw [hdt] at c2
  have HSD : Hid (sd.size ≤ 500) := Lib.hid hsz
  have hbl : bb < w.heap.size := World.block_lt_of_cell? w _ c1
  have d1 := cell_later (bx w (.cells zbt 61)) c1
  have d2 := cell_later (bx w (.cells zbt 61)) c2
  obtain ⟨i57, hi57, hz0, hz1, hz2⟩ := info_parts mkrec
  have HI := Lib.hid (And.intro hi57 (And.intro hz0 (And.intro hz1 hz2)))
  clear hsd hdt hcell hr hf hok hsz hi57 hz0 hz1 hz2
  unfold zbt btC at d1 d2 HS HBAD
  have l0 : ¬ (l.length : Int) = 0 := by omega
  have l1 : (0 : Int) < (l.length : Int) := by omega
  have lb : ((l.length : Int) == 0) = false := by simpa using l0
  go_enter Tryz.func53, Tryz.ntmps53
  go_wp2_with fail
  go_region
  go_wp2_with fail
  clear c1 c2 d1 d2
  go_loopw [7] (fun i wr => ∃ (k : Nat) (v : Value), k ≤ l.length ∧ i = .int .i64 k ∧ Hid (MgS id sd dt (recsK l k) v w wr) ∧ Hid (∀ j, j < k → ptM l j = 0)) (fun i _ => l.length - (intOf i).toNat)
  case atStart => exact ⟨0, _, Nat.zero_le _, rfl, HS, Lib.hid (fun j hj => absurd hj (Nat.not_lt_zero _))⟩
  case round =>
    clear HS
    obtain ⟨k, v, hk, rfl, HW, HZ⟩ := hrel
    by_cases hlt : k < l.length
    · have kI : (k : Int) < (l.length : Int) := by omega
      have k0 : (0 : Int) ≤ (k : Int) := by omega
      have HC := Lib.hid ((HROW.out k hlt).later HW.out.b)
      have HX := Lib.hid (HL.out.k _ (bargAt_mem l k hlt))
      have HRS := Lib.hid (recsK_succ l k hlt)
      have HRL := Lib.hid (recsK_len (fun x hx => (HL.out.k x hx).2) k hk)
      have HQ1 := Lib.hid (HP1.out k)
      have HQ2 := Lib.hid (HP2.out k)
      have HQ3 := Lib.hid (HP3.out k)
      have HQ4 := Lib.hid (HP4.out k)
      have HA1 := Lib.hid (HAT.out k hlt HZ.out)
      have HCK := Lib.hid (fun W hb => rcheck_any (bargAt l k).A (bargAt l k).cp (bargAt l k).b W (HX.out.1.r.below hb) HX.out.1.k.ok HX.out.1.c (Nat.le_trans HX.out.2 (by decide)))
      unfold PtPost batV at HCK
      obtain ⟨PT, hPT⟩ : ∃ PT, ptM l k = PT := ⟨_, rfl⟩
      have HPT := Lib.hid hPT
      rw [hPT] at HQ1 HQ2 HQ3 HQ4 HA1
      clear hPT
      obtain ⟨x, hx⟩ : ∃ x, bargAt l k = x := ⟨_, rfl⟩
      rw [hx] at HC HX HRS HQ1 HQ2 HQ3 HQ4 HCK
      clear hx
      generalize chkB x.b = E at *
      obtain ⟨⟨xi, xs, xd, xr⟩, xA, xc⟩ := x
      have c0 := HC.out.c0
      have c1 := HC.out.c1
      have c2 := HC.out.c2
      have c3 := HC.out.c3
      dsimp only at c0 c1 c2 c3 HX HRS HQ1 HQ2 HQ3 HQ4 HCK
      go_wp2_with fail
      refine (HCK.out _ HW.out.b).mono ?_
      rintro e w2 ⟨rfl, hb⟩
      have HW2 := Lib.hid (HW.out.below hb)
      have HC2 := Lib.hid (HC.out.later hb)
      clear hb c0 c1 c2 c3
      have t1 : w2.cell? ⟨w.heap.size + 1, 1, none⟩ = some (.string sd) := cell_c HW2.out.t 1
      have t2 : w2.cell? ⟨w.heap.size + 1, 2, none⟩ = some (.int .i64 dt) := cell_c HW2.out.t 2
      have t3 : w2.cell? ⟨w.heap.size + 1, 3, none⟩ = some v := cell_c HW2.out.t 3
      have x1 := HC2.out.c1
      have x2 := HC2.out.c2
      have x3 := HC2.out.c3
      dsimp only at x1 x2 x3
      by_cases hE : E = 0
      case neg =>
        have heb : (E != 0) = true := by simpa using hE
        have HE := Lib.hid (HA1.out (by rw [HQ1.out hE]; exact hE) |>.trans (HQ1.out hE))
        have HEN := Lib.hid hE
        clear hE t1 t2 t3 x1 x2 x3
        go_wp2_with (refine wpList_store_row rfl 61 _ _ rfl w.heap.size zbt rfl rfl 61 _ HW2.out.z (info61 ⟨#[]⟩ ⟨#[]⟩ 0 (.slice none 0 0)) rfl zbt_one ?_)
        refine bodyPost_ret (v := .tuple #[.agg zbt, .int .i64 E]) ?_ rfl ?_
        · exact results_row_tmp (show Tryz.f53.results = #[.cell 4 61, .tmp 5] by kernel_rfl) _ _ w.heap.size 61 zbt (0, 0) _ _ rfl rfl (setRow_heap _ _ _ _ _ _ HW2.out.z) Tryz.underlying61 rfl (info61 ⟨#[]⟩ ⟨#[]⟩ 0 (.slice none 0 0))
        · exact HBAD.out E _ HE.out HEN.out (below_setRow HW2.out.b (Nat.le_refl _) _)
      case pos =>
      subst hE
      by_cases hs : xs = sd
      case neg =>
        obtain ⟨q9, n9⟩ := str_ne hs
        have HE := Lib.hid (HA1.out (by rw [HQ2.out rfl hs]; decide) |>.trans (HQ2.out rfl hs))
        clear hs t2 t3 x2 x3
        go_wp2_with fail
        go_quiet (fail)
        rename Nat => nq
        have HW3 := Lib.hid (HW2.out.below (below_drewN w2 nq))
        have HC3 := Lib.hid (HC2.out.later (below_drewN w2 nq))
        generalize w2.drewN nq = w3 at *
        go_wp2_with (refine wpList_store_row rfl 61 _ _ rfl w.heap.size zbt rfl rfl 61 _ HW3.out.z (info61 ⟨#[]⟩ ⟨#[]⟩ 0 (.slice none 0 0)) rfl zbt_one ?_)
        refine bodyPost_ret (v := .tuple #[.agg zbt, .int .i64 5]) ?_ rfl ?_
        · exact results_row_tmp (show Tryz.f53.results = #[.cell 4 61, .tmp 5] by kernel_rfl) _ _ w.heap.size 61 zbt (0, 0) _ _ rfl rfl (setRow_heap _ _ _ _ _ _ HW3.out.z) Tryz.underlying61 rfl (info61 ⟨#[]⟩ ⟨#[]⟩ 0 (.slice none 0 0))
        · exact HBAD.out 5 _ HE.out (by decide) (below_setRow HW3.out.b (Nat.le_refl _) _)
      case pos =>
      subst hs
      obtain ⟨q9, -⟩ := str_eq (rfl : xs = xs)
      have HR3 := Lib.hid (fun h => HQ3.out rfl rfl h)
      have HR4 := Lib.hid (fun h => HQ4.out rfl rfl h)
      clear t2 t3 x2 x3 HQ1 HQ2 HQ3 HQ4
      go_wp2_with fail
      go_quiet (fail)
      rename Nat => nq
      have HW3 := Lib.hid (HW2.out.below (below_drewN w2 nq))
      have HC3 := Lib.hid (HC2.out.later (below_drewN w2 nq))
      generalize w2.drewN nq = w3 at *
      clear t1 x1
      have t2 : w3.cell? ⟨w.heap.size + 1, 2, none⟩ = some (.int .i64 dt) := cell_c HW3.out.t 2
      have x2 := HC3.out.c2
      dsimp only at x2
      by_cases hd : xd = dt
      case neg =>
        have hdb : (xd != dt) = true := by simpa using hd
        have HE := Lib.hid (HA1.out (by rw [HR3.out hd]; decide) |>.trans (HR3.out hd))
        clear hd
        go_wp2_with fail
        go_quiet (fail)
        rename Nat => nq
        have HW4 := Lib.hid (HW3.out.below (below_drewN w3 nq))
        have HC4 := Lib.hid (HC3.out.later (below_drewN w3 nq))
        generalize w3.drewN nq = w4 at *
        go_wp2_with (refine wpList_store_row rfl 61 _ _ rfl w.heap.size zbt rfl rfl 61 _ HW4.out.z (info61 ⟨#[]⟩ ⟨#[]⟩ 0 (.slice none 0 0)) rfl zbt_one ?_)
        refine bodyPost_ret (v := .tuple #[.agg zbt, .int .i64 14]) ?_ rfl ?_
        · exact results_row_tmp (show Tryz.f53.results = #[.cell 4 61, .tmp 5] by kernel_rfl) _ _ w.heap.size 61 zbt (0, 0) _ _ rfl rfl (setRow_heap _ _ _ _ _ _ HW4.out.z) Tryz.underlying61 rfl (info61 ⟨#[]⟩ ⟨#[]⟩ 0 (.slice none 0 0))
        · exact HBAD.out 14 _ HE.out (by decide) (below_setRow HW4.out.b (Nat.le_refl _) _)
      case pos =>
      subst hd
      have hdb : (xd != xd) = false := by simp
      have HZ1 : Hid (∀ j, j < k + 1 → ptM l j = 0) := Lib.hid (fun j hj => by
        rcases Nat.lt_or_ge j k with q | q
        · exact HZ.out j q
        · obtain rfl : j = k := by omega
          rw [HPT.out]; exact HR4.out rfl)
      go_wp2_with fail
      go_quiet (fail)
      rename Nat => nq
      have HW4 := Lib.hid (HW3.out.below (below_drewN w3 nq))
      have HC4 := Lib.hid (HC3.out.later (below_drewN w3 nq))
      generalize w3.drewN nq = w4 at *
      clear t2 x2
      have t3 : w4.cell? ⟨w.heap.size + 1, 3, none⟩ = some v := cell_c HW4.out.t 3
      have x3 := HC4.out.c3
      dsimp only at x3
      have HW5 := Lib.hid (HW4.out.below ((Below.refl _ _).drew))
      have HRD := Lib.hid (reads_row (HX.out.1.r.below HW5.out.b))
      have HON := Lib.hid (rows_one xr)
      have hxl : xr.length ≤ 240 := HX.out.2
      have hrl : (recsK l k).length ≤ 1440 := by have := HRL.out; omega
      have hw2 : w.heap.size + 1 < w4.heap.size := (Array.getElem?_eq_some_iff.1 HW4.out.t).1
      generalize recsK l k = rk at *
      go_wp2_with fail
      go_region_law
        (refine step_append_any _ rfl (.tmp 58) (.tmp 63) 34 rfl (w.heap.size + 2) 57 i57 _ 12 152 Tryz.underlying34 HI.out.1 HI.out.2.1 HI.out.2.2.1 HI.out.2.2.2 rfl (by omega) _ rk.length _ rfl HW5.out.o _ xA xr.length xc (xr.flatMap recF) rfl HRD.out HON.out (by unfold maxLen; omega) (by omega) (by show _ ≤ w4.heap.size; omega) ?_
         intro v7 w8 hown hgrow hwh
         obtain ⟨A7, c7, rfl, hA7, hA8⟩ := own_form hown
         clear hA7 hA8
         have HA := Lib.hid hown
         have HG := Lib.hid hgrow
         have g1 := grown_lt (B := 0) hgrow HW5.out.t (own_far HW5.out.o (by omega))
         have d3 := cell_c g1 3
         have p3 := cell_f g1 3
         clear hown hgrow hwh g1
         simp at d3)
      all_goals
        go_wp2_with fail
        have HW6 := Lib.hid (HW5.out.app xr HA.out HG.out)
        rw [← HRS.out] at HW6
        exact ⟨⟨k + 1, _, by omega, by go_num, HW6, HZ1⟩, by simp [intOf]; omega⟩
    · obtain rfl : k = l.length := by omega
      have kI : ¬ (l.length : Int) < (l.length : Int) := by omega
      have HEND := Lib.hid (mrgE_end id hn HZ.out)
      rw [HWD.out] at HEND HWH
      have HBO : Hid (BatOk ⟨id, sd, dt, recsK l l.length⟩) := Lib.hid ⟨Nat.le_trans hi (by decide), Nat.le_trans HSD.out (by decide), recsK_fit (fun x hx => (HL.out.k x hx).1.k.ok) l.length⟩
      have hrl := recsK_len (fun x hx => (HL.out.k x hx).2) l.length (Nat.le_refl _)
      obtain ⟨A, c, rfl, hA, hc2⟩ := own_form HW.out.o
      have HCK := Lib.hid (rcheck_any A c ⟨id, sd, dt, recsK l l.length⟩ wr hA HBO.out hc2 (by show (recsK l l.length).length ≤ 100000; omega))
      have HA := Lib.hid hA
      have HC := Lib.hid hc2
      unfold PtPost batV at HCK
      dsimp only at HCK HWH
      generalize chkB ⟨id, sd, dt, recsK l l.length⟩ = E at *
      generalize recsK l l.length = rk at *
      clear hA hc2 hrl
      go_wp2_with (refine wpList_load_row rfl 61 _ rfl (w.heap.size + 1) rfl 61 _ _ _ HW.out.t Tryz.underlying61 rfl (info61 id sd dt (.slice A rk.length c)) ?_)
      refine (HCK.out).mono ?_
      rintro e w2 ⟨rfl, hb⟩
      have HW2 := Lib.hid (HW.out.below hb)
      have HA2 := Lib.hid (HA.out.below hb)
      clear hb
      by_cases hE : E = 0
      case neg =>
        have heb : (E != 0) = true := by simpa using hE
        have HEN := Lib.hid hE
        clear hE
        go_wp2_with (refine wpList_store_row rfl 61 _ _ rfl w.heap.size zbt rfl rfl 61 _ HW2.out.z (info61 ⟨#[]⟩ ⟨#[]⟩ 0 (.slice none 0 0)) rfl zbt_one ?_)
        refine bodyPost_ret (v := .tuple #[.agg zbt, .int .i64 E]) ?_ rfl ?_
        · exact results_row_tmp (show Tryz.f53.results = #[.cell 4 61, .tmp 5] by kernel_rfl) _ _ w.heap.size 61 zbt (0, 0) _ _ rfl rfl (setRow_heap _ _ _ _ _ _ HW2.out.z) Tryz.underlying61 rfl (info61 ⟨#[]⟩ ⟨#[]⟩ 0 (.slice none 0 0))
        · exact HBAD.out E _ HEND.out HEN.out (below_setRow HW2.out.b (Nat.le_refl _) _)
      case pos =>
      subst hE
      go_wp2_with (first | (refine wpList_load_row rfl 61 _ rfl (w.heap.size + 1) rfl 61 _ _ _ HW2.out.t Tryz.underlying61 rfl (info61 id sd dt (.slice A rk.length c)) ?_) | (refine wpList_store_row rfl 61 _ _ rfl w.heap.size (btC id sd dt (.slice A rk.length c)) rfl rfl 61 _ HW2.out.z (info61 _ _ _ _) rfl (bt_one HW2.out.o) ?_))
      refine bodyPost_ret (v := .tuple #[.agg (btC id sd dt (.slice A rk.length c)), .int .i64 0]) ?_ rfl ?_
      · exact results_row_tmp (show Tryz.f53.results = #[.cell 4 61, .tmp 5] by kernel_rfl) _ _ w.heap.size 61 (btC id sd dt (.slice A rk.length c)) (0, 0) _ _ rfl rfl (setRow_heap _ _ _ _ _ _ HW2.out.z) Tryz.underlying61 rfl (info61 _ _ _ _)
      · exact HWH.out A c _ HEND.out (isrow_set HW2.out.o (by omega) _) HC.out (below_setRow HW2.out.b (Nat.le_refl _) _)
end Go.Proofs.YthflmdgfenojcaaGreatDoor

namespace Go.Proofs.YthflmdgfenojcaaGreatDoor
set_option linter.unusedVariables false
open Go.RowKit Go.Sort Go.Maps

theorem BOk.later {w W : World} {x : BArg} (h : BOk w x) (hb : Below w.heap.size w W) : BOk W x := ⟨h.r.below hb, h.k, h.c, h.m, h.d⟩
/-- Two files in two blocks. -/
structure Mg2 (w : World) (b1 b2 : Nat) (V : Bat) (A1 A2 : Option Addr) (c1 c2 : Nat) (W : World) : Prop where
  t1 : W.heap[b1]? = some (.cells #[.string V.id, .string V.sd, .int .i64 V.dt, .slice A1 V.rs.length c1] 61)
  t2 : W.heap[b2]? = some (.cells #[.string V.id, .string V.sd, .int .i64 V.dt, .slice A2 V.rs.length c2] 61)
  r1 : IsRow W A1 (V.rs.flatMap recF)
  r2 : IsRow W A2 (V.rs.flatMap recF)
  be : Below w.heap.size w W
section
variable {w W W' : World} {b1 b2 : Nat} {V : Bat} {A1 A2 : Option Addr} {c1 c2 : Nat}
theorem Mg2.below (h : Mg2 w b1 b2 V A1 A2 c1 c2 W) (hb : Below W.heap.size W W') : Mg2 w b1 b2 V A1 A2 c1 c2 W' :=
  ⟨blk_later h.t1 hb, blk_later h.t2 hb, h.r1.below hb, h.r2.below hb, h.be.trans (hb.mono h.be.size)⟩
theorem Mg2.row8 (h : Mg2 w b1 b2 V A1 A2 c1 c2 W) : W.cell? ⟨b1, 0, none⟩ = some (.string V.id) ∧ W.cell? ⟨b1, 1, none⟩ = some (.string V.sd) ∧ W.cell? ⟨b1, 2, none⟩ = some (.int .i64 V.dt) ∧ W.cell? ⟨b1, 3, none⟩ = some (.slice A1 V.rs.length c1) ∧
    W.cell? ⟨b2, 0, none⟩ = some (.string V.id) ∧ W.cell? ⟨b2, 1, none⟩ = some (.string V.sd) ∧ W.cell? ⟨b2, 2, none⟩ = some (.int .i64 V.dt) ∧ W.cell? ⟨b2, 3, none⟩ = some (.slice A2 V.rs.length c2) :=
  ⟨cell_c h.t1 0, cell_c h.t1 1, cell_c h.t1 2, cell_c h.t1 3, cell_c h.t2 0, cell_c h.t2 1, cell_c h.t2 2, cell_c h.t2 3⟩
end
theorem mrgV_len {id : ByteArray} {l : List BArg} (h : l.length ≤ 6) (h2 : ∀ x ∈ l, x.b.rs.length ≤ 240) : (mrgV id l).rs.length ≤ maxLen := by
  have := recsK_len h2 l.length (Nat.le_refl _)
  unfold mrgV
  split
  · show (recsK l l.length).length ≤ maxLen
    unfold maxLen; omega
  · exact Nat.zero_le _
set_option maxRecDepth 1000000 in
set_option maxHeartbeats 25600000 in
theorem merges_any (id : ByteArray) (a : Option Addr) (cp : Nat) (l : List BArg) (w : World) (hw : BW w) (hr : IsRow w a (l.flatMap BArg.cells)) (hok : ∀ x ∈ l, BOk w x) (hc : l.length ≤ cp) (hid : id.size ≤ maxLen) (hm : l.length ≤ maxLen) :
    Calls Tryz.prog 10 #[.string id, .slice a l.length cp] w fun e w' => e = .returned (.bool true) ∧ Below w.heap.size w w' := by
  have HKW := Lib.hid hw
  have HR := Lib.hid hr
  have HOK := Lib.hid hok
  have HAW := Lib.hid (fun W hW => awb_any W hW)
  unfold maxLen at hid hm
  clear hw hr hok
  by_cases h1 : 500 < id.size
  · have h1I : (500 : Int) < (id.size : Int) := by omega
    clear h1
    go_enter Tryz.func10, Tryz.ntmps10
    go_wp2_with fail
    refine (HAW.out _ HKW.out).mono ?_
    rintro e wa ⟨rfl, hb⟩
    have HB := Lib.hid hb
    clear hb
    go_wp2_with fail
    go_ret
    exact ⟨rfl, HB.out⟩
  have h1I : ¬ (500 : Int) < (id.size : Int) := by omega
  by_cases h2 : 6 < l.length
  · have h2I : (6 : Int) < (l.length : Int) := by omega
    clear h1 h2
    go_enter Tryz.func10, Tryz.ntmps10
    go_wp2_with fail
    refine (HAW.out _ HKW.out).mono ?_
    rintro e wa ⟨rfl, hb⟩
    have HB := Lib.hid hb
    clear hb
    go_wp2_with fail
    go_ret
    exact ⟨rfl, HB.out⟩
  have h2I : ¬ (6 : Int) < (l.length : Int) := by omega
  have d1 : decide ((500 : Int) < (id.size : Int)) = false := decide_eq_false h1I
  have d2 : decide ((6 : Int) < (l.length : Int)) = false := decide_eq_false h2I
  go_enter Tryz.func10, Tryz.ntmps10
  go_wp2_with fail
  go_loopw [5] (fun i wr => ∃ k : Nat, k ≤ l.length ∧ i = .int .i64 k ∧ Hid (Below w.heap.size w wr) ∧ Hid (∀ j, j < k → boB (batAt l j) = true)) (fun i _ => l.length - (intOf i).toNat)
  case atStart => exact ⟨0, Nat.zero_le _, rfl, Lib.hid (Below.refl _ _), Lib.hid (fun j hj => absurd hj (Nat.not_lt_zero _))⟩
  case round =>
    obtain ⟨k, hk, rfl, HW, HZ⟩ := hrel
    by_cases hlt : k < l.length
    · have kI : (k : Int) < (l.length : Int) := by omega
      have k0 : (0 : Int) ≤ (k : Int) := by omega
      obtain ⟨bb, off, rfl, hcell⟩ := row_bt HR.out k hlt
      have HC := Lib.hid ((hcell k hlt).later HW.out)
      have HX := Lib.hid (HOK.out _ (bargAt_mem l k hlt))
      have HBO := Lib.hid (bo_any (bargAt l k).A (bargAt l k).cp (bargAt l k).b wr (HX.out.r.below HW.out) HX.out.k (Nat.le_trans HX.out.c HX.out.m))
      have HZ1 : Hid (boB (bargAt l k).b = true → ∀ j, j < k + 1 → boB (batAt l j) = true) := Lib.hid (fun h j hj => by
        rcases Nat.lt_or_ge j k with q | q
        · exact HZ.out j q
        · obtain rfl : j = k := by omega
          exact h)
      unfold BPost batV at HBO
      obtain ⟨x, hx⟩ : ∃ x, bargAt l k = x := ⟨_, rfl⟩
      rw [hx] at HC HX HBO HZ1
      clear hx hcell
      obtain ⟨S, hS⟩ : ∃ S, boB x.b = S := ⟨_, rfl⟩
      rw [hS] at HBO HZ1
      clear hS
      obtain ⟨⟨xi, xs, xd, xr⟩, xA, xc⟩ := x
      have c0 := HC.out.c0
      have c1 := HC.out.c1
      have c2 := HC.out.c2
      have c3 := HC.out.c3
      dsimp only at c0 c1 c2 c3 HBO
      cases S with
      | false =>
        go_wp2_with fail
        refine (HBO.out).mono ?_
        rintro e w1 ⟨rfl, hb⟩
        have HB := Lib.hid (HW.out.trans (hb.mono HW.out.size))
        clear hb
        go_wp2_with fail
        refine (HAW.out _ (HKW.out.below HB.out)).mono ?_
        rintro e wa ⟨rfl, hb⟩
        have HB := Lib.hid (HB.out.trans (hb.mono HB.out.size))
        clear hb
        go_wp2_with fail
        go_ret
        exact ⟨rfl, HB.out⟩
      | true =>
        have HZ2 := Lib.hid (HZ1.out rfl)
        go_wp2_with fail
        refine (HBO.out).mono ?_
        rintro e w1 ⟨rfl, hb⟩
        have HB := Lib.hid (HW.out.trans (hb.mono HW.out.size))
        clear hb
        go_wp2_with fail
        go_roundw
        case rel => exact ⟨k + 1, by omega, by go_num, HB, HZ2⟩
        case measure => simp [intOf]; omega
    · obtain rfl : k = l.length := by omega
      have kI : ¬ (l.length : Int) < (l.length : Int) := by omega
      have HBD : Hid (∀ x ∈ l, x.b.rs.length ≤ 240 ∧ x.b.sd.size ≤ 500) := Lib.hid (fun x hx => by
        obtain ⟨j, hj, rfl⟩ := List.getElem_of_mem hx
        have := boB_parts (HZ.out j hj)
        unfold batAt at this
        rw [bargAt_get l j hj] at this
        exact ⟨this.2.2.1, this.2.1⟩)
      have HMG : Hid (∀ W, Below w.heap.size w W → MgOk W l) := Lib.hid (fun W hb => ⟨by omega, fun x hx => ⟨(HOK.out x hx).later hb, (HBD.out x hx).1⟩⟩)
      have hs0 : (bargAt l 0).b.sd.size ≤ 500 := by
        rcases Nat.eq_zero_or_pos l.length with q | q
        · obtain rfl := List.eq_nil_of_length_eq_zero q
          exact Nat.zero_le _
        · exact (HBD.out _ (bargAt_mem l 0 q)).2
      have HM1 := Lib.hid (fun W (hb : Below w.heap.size w W) => mrg_any id a cp l W (HR.out.below hb) (HMG.out W hb) hc (by omega) hs0)
      have HM2 := Lib.hid (fun W (hb : Below w.heap.size w W) => rmrg_any id a cp l W (HR.out.below hb) (HMG.out W hb) hc (by omega) hs0)
      have HVL := Lib.hid (mrgV_len (id := id) (l := l) (by omega) (fun x hx => (HBD.out x hx).1))
      unfold MrgPost at HM1 HM2
      generalize mrgV id l = V at *
      generalize mrgE id l = E at *
      have hee : (E == E) = true := by simp
      clear HZ hs0
      go_wp2_with fail
      refine (HM1.out _ HW.out).mono ?_
      rintro e w1 ⟨A1, c1, rfl, hr1, hc1, hb⟩
      have HB1 := Lib.hid (HW.out.trans (hb.mono HW.out.size))
      have HR1 := Lib.hid hr1
      clear hb hr1 hc1
      unfold batV
      have HK1 := Lib.hid (heap_alloc_new w1 (.cells #[.string V.id, .string V.sd, .int .i64 V.dt, .slice A1 V.rs.length c1] 61))
      have HBX := Lib.hid (bx w1 (.cells #[.string V.id, .string V.sd, .int .i64 V.dt, .slice A1 V.rs.length c1] 61))
      go_wp2_with fail
      refine (HM2.out _ (HB1.out.trans (HBX.out.mono HB1.out.size))).mono ?_
      rintro e w2 ⟨A2, c2, rfl, hr2, hc2, hb⟩
      unfold batV
      have HBY := Lib.hid (bx w2 (.cells #[.string V.id, .string V.sd, .int .i64 V.dt, .slice A2 V.rs.length c2] 61))
      have HB0 := Lib.hid (HB1.out.trans (HBX.out.mono HB1.out.size))
      have HB : Hid (Mg2 w w1.heap.size w2.heap.size V A1 A2 c1 c2 (w2.alloc (.cells #[.string V.id, .string V.sd, .int .i64 V.dt, .slice A2 V.rs.length c2] 61))) := Lib.hid
        ⟨blk_later (blk_later HK1.out hb) HBY.out, heap_alloc_new _ _, ((HR1.out.below HBX.out).below hb).below HBY.out, hr2.below HBY.out, (HB0.out.trans (hb.mono HB0.out.size)).trans (HBY.out.mono (HB0.out.trans (hb.mono HB0.out.size)).size)⟩
      have HSA := Lib.hid (fun W h1 h2 => same_any A1 A2 c1 c2 V W h1 h2 HVL.out)
      unfold BPost batV at HSA
      clear hb hr2 hc2
      obtain ⟨k0, k1, k2, k3, k4, k5, k6, k7⟩ := HB.out.row8
      go_wp2_with fail
      refine (HSA.out _ HB.out.r1 HB.out.r2).mono ?_
      rintro e w3 ⟨rfl, hb⟩
      have HB := Lib.hid (HB.out.below hb)
      clear hb k0 k1 k2 k3 k4 k5 k6 k7
      go_wp2_with fail
      refine (HAW.out _ (HKW.out.below HB.out.be)).mono ?_
      rintro e w4 ⟨rfl, hb⟩
      have HB := Lib.hid (HB.out.below hb)
      clear hb
      go_wp2_with fail
      go_ret
      exact ⟨rfl, HB.out.be⟩
theorem batchMerges_walk (w : World) (hw : BW w) (_ : True) (id : ByteArray) (hid : id.size ≤ maxLen) (a : Option Addr) (cp : Nat) (l : List BArg) (h : IsRow w a (l.flatMap BArg.cells) ∧ (∀ x ∈ l, BOk w x) ∧ l.length ≤ cp ∧ (a = none → cp = 0) ∧ cp ≤ maxLen) :
    Calls Tryz.prog 10 #[.string id, .slice a l.length cp] w fun e w' => e = .returned (.bool true) ∧ Below w.heap.size w w' :=
  merges_any id a cp l w hw h.1 h.2.1 h.2.2.1 hid (Nat.le_trans h.2.2.1 h.2.2.2.2)
end Go.Proofs.YthflmdgfenojcaaGreatDoor

