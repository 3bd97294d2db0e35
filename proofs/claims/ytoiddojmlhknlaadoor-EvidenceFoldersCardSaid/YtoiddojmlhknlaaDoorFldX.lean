/- The walk of EvidenceFolders, every input. -/
import Derived.Test.YtoiddojmlhknlaaDoorFld
namespace Go.Proofs.YtoiddojmlhknlaaDoor
set_option linter.unusedVariables false
open Go.RowKit Go.Maps

set_option maxHeartbeats 1600000 in
theorem evidenceFolders_walk (w : World) (ht : TabW w) (_h : True) (A : Option Addr) (c : Nat) (l : List Itm)
    (h : IsRow w A (cellsOf l) ∧ (∀ x ∈ l, x.k.size ≤ maxLen ∧ (Lit.int .i64 x.n).wf = true ∧ (Lit.int .u64 x.h).wf = true) ∧ l.length ≤ c ∧ (A = none → c = 0) ∧ c ≤ maxLen)
    (A2 : Option Addr) (c2 : Nat) (needs : List ByteArray) (h' : IsRow w A2 (strsOf needs) ∧ (∀ s ∈ needs, s.size ≤ maxLen) ∧ needs.length ≤ c2 ∧ (A2 = none → c2 = 0) ∧ c2 ≤ maxLen) (s : ByteArray) (hs5 : s.size ≤ maxLen) :
    Calls Tryd.prog 3 #[.slice A l.length c, .slice A2 needs.length c2, .string s] w fun e w' => e = .returned (.bool true) ∧ Below w.heap.size w w' := by
  obtain ⟨hr, hs0, hlc, _, hcm⟩ := h
  obtain ⟨hr2, hs2, hlc2, _, hcm2⟩ := h'
  have hs : ∀ x ∈ l, x.k.size ≤ maxLen := fun x hx => (hs0 x hx).1
  have hl : l.length ≤ maxLen := Nat.le_trans hlc hcm
  have hn : needs.length ≤ maxLen := Nat.le_trans hlc2 hcm2
  cases h1 : fewB l
  · have hfew := Lib.hid (few_any A c l w hr hl hs)
    have H1 := Lib.hid h1
    clear h1 hr hr2 hs0 hs hs2 ht
    unfold maxLen at *
    go_enter Tryd.func3, Tryd.ntmps3
    go_wp2_with fail
    refine hfew.out.mono ?_
    rintro e w' ⟨rfl, rfl⟩
    rw [H1.out]
    go_wp2_with fail
    refine (awake_any _).mono ?_
    rintro e w1 ⟨rfl, hb⟩
    go_wp2_with fail
    go_ret
    exact ⟨rfl, hb⟩
  · cases h2 : shortB needs
    · have hfew := Lib.hid (few_any A c l w hr hl hs)
      have hsh := Lib.hid (shorts_any A2 c2 needs w hr2 hn hs2)
      have H1 := Lib.hid h1
      have H2 := Lib.hid h2
      clear h1 h2 hr hr2 hs0 hs hs2 ht
      unfold maxLen at *
      go_enter Tryd.func3, Tryd.ntmps3
      go_wp2_with fail
      refine hfew.out.mono ?_
      rintro e w' ⟨rfl, rfl⟩
      rw [H1.out]
      go_wp2_with fail
      refine hsh.out.mono ?_
      rintro e w' ⟨rfl, rfl⟩
      rw [H2.out]
      go_wp2_with fail
      refine (awake_any _).mono ?_
      rintro e w1 ⟨rfl, hb⟩
      go_wp2_with fail
      go_ret
      exact ⟨rfl, hb⟩
    · by_cases hs5' : s.size ≤ 5000
      · have hok : ∀ x ∈ l, okI x := fun x hx => by
          have h100 := (of_decide_eq_true h1).2 x hx
          have hw1 := (hs0 x hx).2.1
          have hw2 := (hs0 x hx).2.2
          simp [Lit.wf] at hw1 hw2
          exact ⟨h100, hw1.1, hw1.2, hw2.1, by have h9 := hw2.2; have e9 : IntKind.u64.max = 18446744073709551615 := rfl; omega⟩
        exact folders_go w ht A c l hr hok hl A2 c2 needs hr2 hs2 hn h1 h2 s hs5'
      · have hfew := Lib.hid (few_any A c l w hr hl hs)
        have hsh := Lib.hid (shorts_any A2 c2 needs w hr2 hn hs2)
        have H1 := Lib.hid h1
        have H2 := Lib.hid h2
        clear h1 h2 hr hr2 hs0 hs hs2 ht
        unfold maxLen at *
        go_enter Tryd.func3, Tryd.ntmps3
        go_wp2_with fail
        refine hfew.out.mono ?_
        rintro e w' ⟨rfl, rfl⟩
        rw [H1.out]
        go_wp2_with fail
        refine hsh.out.mono ?_
        rintro e w' ⟨rfl, rfl⟩
        rw [H2.out]
        go_wp2_with fail
        refine (awake_any _).mono ?_
        rintro e w1 ⟨rfl, hb⟩
        go_wp2_with fail
        go_ret
        exact ⟨rfl, hb⟩
end Go.Proofs.YtoiddojmlhknlaaDoor
