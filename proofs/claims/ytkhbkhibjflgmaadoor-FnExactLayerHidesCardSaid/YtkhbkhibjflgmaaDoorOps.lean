/- The walks of OpOk, of the program and of the reference. Conditions: texts are no longer than any text can be. -/
import Derived.Test.YtkhbkhibjflgmaaDoorPathI
namespace Go.Proofs.YtkhbkhibjflgmaaDoor
open Go.RowKit
theorem isE_no {s : ByteArray} (h : s.data.toList ≠ []) : s.toList.isEmpty = false := by
  rw [Lib.toList_data]
  cases hs : s.data.toList with
  | nil => exact absurd hs h
  | cons _ _ => rfl
theorem isE_yes {s : ByteArray} (h : s.data.toList = []) : s.toList.isEmpty = true := by rw [Lib.toList_data, h]; rfl
theorem beqE_no {l : Bs} (h : l ≠ []) : (l == []) = false := by simpa using h
abbrev opV (k : Int) (p t d : ByteArray) : Value := .agg #[.int .i64 k, .string p, .string t, .string d]
abbrev opBox (k : Int) (p t d : ByteArray) : Array Value := #[.int .i64 k, .string p, .string t, .string d]
set_option maxHeartbeats 2000000 in
theorem opOk_c (k : Int) (p t d : ByteArray) (r : Bool) (hr : Hid (opOkL k p.data.toList t.data.toList d.data.toList = r)) (w : World) (hp : p.size ≤ maxLen) (ht : t.size ≤ maxLen) (hd : d.size ≤ maxLen) :
    Calls Tryd.prog 54 #[opV k p t d] w fun e w' => e = .returned (.bool r) ∧ Below w.heap.size w w' := by
  have c0 := new_cell w (opBox k p t d) 69 0 _ rfl
  have c1 := new_cell w (opBox k p t d) 69 1 _ rfl
  have c2 := new_cell w (opBox k p t d) 69 2 _ rfl
  have c3 := new_cell w (opBox k p t d) 69 3 _ rfl
  have hb := bellow_alloc w (.cells (opBox k p t d) 69)
  cases h1 : pathOkL p.data.toList with
  | false =>
    obtain rfl : r = false := by rw [← hr.out]; simp [opOkL, h1]
    have H1 := Lib.hid h1
    clear h1 hr
    go_enter Tryd.func54, Tryd.ntmps54
    go_wp2_with fail
    refine (pathOk_c p false H1 _ hp).mono ?_; rintro e W ⟨rfl, hq⟩; replace hb := chn hb hq; clear hq
    go_wp2
    go_ret
    exact ⟨rfl, hb⟩
  | true =>
  have H1 := Lib.hid h1
  by_cases k5 : k = 5
  · subst k5
    obtain ⟨b2, h2⟩ : ∃ b, pathOkL t.data.toList = b := ⟨_, rfl⟩
    have H2 := Lib.hid h2
    cases b2 with
    | false =>
      obtain rfl : r = false := by rw [← hr.out]; simp [opOkL, h1, h2]
      clear h1 h2 hr
      go_enter Tryd.func54, Tryd.ntmps54
      go_wp2_with fail
      refine (pathOk_c p true H1 _ hp).mono ?_; rintro e W ⟨rfl, hq⟩; replace hb := chn hb hq; replace c0 := keepc hq c0; replace c1 := keepc hq c1; replace c2 := keepc hq c2; replace c3 := keepc hq c3; clear hq
      go_wp2_with fail
      refine (pathOk_c t false H2 _ ht).mono ?_; rintro e W ⟨rfl, hq⟩; replace hb := chn hb hq; clear hq
      go_wp2
      go_ret
      exact ⟨rfl, hb⟩
    | true =>
      by_cases hde : d.data.toList = []
      · obtain rfl : r = true := by rw [← hr.out]; simp [opOkL, h1, h2, hde]
        have q := isE_yes hde
        clear h1 h2 hr hde
        go_enter Tryd.func54, Tryd.ntmps54
        go_wp2_with fail
        refine (pathOk_c p true H1 _ hp).mono ?_; rintro e W ⟨rfl, hq⟩; replace hb := chn hb hq; replace c0 := keepc hq c0; replace c1 := keepc hq c1; replace c2 := keepc hq c2; replace c3 := keepc hq c3; clear hq
        go_wp2_with fail
        refine (pathOk_c t true H2 _ ht).mono ?_; rintro e W ⟨rfl, hq⟩; replace hb := chn hb hq; replace c0 := keepc hq c0; replace c1 := keepc hq c1; replace c2 := keepc hq c2; replace c3 := keepc hq c3; clear hq
        go_wp2
        go_ret
        exact ⟨rfl, hb⟩
      · obtain rfl : r = false := by rw [← hr.out, opOkL, h1, h2, beqE_no hde]; rfl
        have q := isE_no hde
        clear h1 h2 hr hde
        go_enter Tryd.func54, Tryd.ntmps54
        go_wp2_with fail
        refine (pathOk_c p true H1 _ hp).mono ?_; rintro e W ⟨rfl, hq⟩; replace hb := chn hb hq; replace c0 := keepc hq c0; replace c1 := keepc hq c1; replace c2 := keepc hq c2; replace c3 := keepc hq c3; clear hq
        go_wp2_with fail
        refine (pathOk_c t true H2 _ ht).mono ?_; rintro e W ⟨rfl, hq⟩; replace hb := chn hb hq; replace c0 := keepc hq c0; replace c1 := keepc hq c1; replace c2 := keepc hq c2; replace c3 := keepc hq c3; clear hq
        go_wp2
        go_ret
        exact ⟨rfl, hb⟩
  have n5 : (k == 5) = false := by rw [beq_eq_false_iff_ne]; exact k5
  by_cases k2 : k = 2
  · subst k2
    by_cases hte : t.data.toList = []
    · have q := isE_yes hte
      obtain ⟨b2, h2⟩ : ∃ b, dataOkL d.data.toList = b := ⟨_, rfl⟩
      have H2 := Lib.hid h2
      obtain rfl : r = b2 := by rw [← hr.out]; simp [opOkL, h1, h2, hte]
      clear h1 h2 hr hte k5
      go_enter Tryd.func54, Tryd.ntmps54
      go_wp2_with fail
      refine (pathOk_c p true H1 _ hp).mono ?_; rintro e W ⟨rfl, hq⟩; replace hb := chn hb hq; replace c0 := keepc hq c0; replace c1 := keepc hq c1; replace c2 := keepc hq c2; replace c3 := keepc hq c3; clear hq
      go_wp2_with fail
      refine (dataOk_c d r H2 _ hd).mono ?_; rintro e W ⟨rfl, rfl⟩
      go_wp2
      go_ret
      exact ⟨rfl, hb⟩
    · have q := isE_no hte
      obtain rfl : r = false := by rw [← hr.out, opOkL, h1, beqE_no hte]; rfl
      clear h1 hr hte k5
      go_enter Tryd.func54, Tryd.ntmps54
      go_wp2_with fail
      refine (pathOk_c p true H1 _ hp).mono ?_; rintro e W ⟨rfl, hq⟩; replace hb := chn hb hq; replace c0 := keepc hq c0; replace c1 := keepc hq c1; replace c2 := keepc hq c2; replace c3 := keepc hq c3; clear hq
      go_wp2
      go_ret
      exact ⟨rfl, hb⟩
  have n2 : (k == 2) = false := by rw [beq_eq_false_iff_ne]; exact k2
  by_cases k134 : k = 1 ∨ k = 3 ∨ k = 4
  · have hrr : Hid (r = ((t.data.toList == []) && (d.data.toList == []))) := by rw [Hid, ← hr.out]; simp [opOkL, h1, k5, k2, k134]
    clear h1 hr k5 k2
    by_cases hte : t.data.toList = []
    · have q := isE_yes hte
      by_cases hde : d.data.toList = []
      · have q2 := isE_yes hde
        obtain rfl : r = true := by rw [hrr.out]; simp [hte, hde]
        clear hrr hte hde
        rcases k134 with rfl | rfl | rfl
        all_goals
          go_enter Tryd.func54, Tryd.ntmps54
          go_wp2_with fail
          refine (pathOk_c p true H1 _ hp).mono ?_; rintro e W ⟨rfl, hq⟩; replace hb := chn hb hq; replace c0 := keepc hq c0; replace c1 := keepc hq c1; replace c2 := keepc hq c2; replace c3 := keepc hq c3; clear hq
          go_wp2
          go_ret
          exact ⟨rfl, hb⟩
      · have q2 := isE_no hde
        obtain rfl : r = false := by rw [hrr.out, beqE_no hde, Bool.and_false]
        clear hrr hte hde
        rcases k134 with rfl | rfl | rfl
        all_goals
          go_enter Tryd.func54, Tryd.ntmps54
          go_wp2_with fail
          refine (pathOk_c p true H1 _ hp).mono ?_; rintro e W ⟨rfl, hq⟩; replace hb := chn hb hq; replace c0 := keepc hq c0; replace c1 := keepc hq c1; replace c2 := keepc hq c2; replace c3 := keepc hq c3; clear hq
          go_wp2
          go_ret
          exact ⟨rfl, hb⟩
    · have q := isE_no hte
      obtain rfl : r = false := by rw [hrr.out, beqE_no hte, Bool.false_and]
      clear hrr hte
      rcases k134 with rfl | rfl | rfl
      all_goals
        go_enter Tryd.func54, Tryd.ntmps54
        go_wp2_with fail
        refine (pathOk_c p true H1 _ hp).mono ?_; rintro e W ⟨rfl, hq⟩; replace hb := chn hb hq; replace c0 := keepc hq c0; replace c1 := keepc hq c1; replace c2 := keepc hq c2; replace c3 := keepc hq c3; clear hq
        go_wp2
        go_ret
        exact ⟨rfl, hb⟩
  · obtain rfl : r = false := by rw [← hr.out]; simp [opOkL, k5, k2, k134]
    have n1 : (k == 1) = false := by rw [beq_eq_false_iff_ne]; omega
    have n3 : (k == 3) = false := by rw [beq_eq_false_iff_ne]; omega
    have n4 : (k == 4) = false := by rw [beq_eq_false_iff_ne]; omega
    clear h1 hr k5 k2 k134
    go_enter Tryd.func54, Tryd.ntmps54
    go_wp2_with fail
    refine (pathOk_c p true H1 _ hp).mono ?_; rintro e W ⟨rfl, hq⟩; replace hb := chn hb hq; replace c0 := keepc hq c0; replace c1 := keepc hq c1; replace c2 := keepc hq c2; replace c3 := keepc hq c3; clear hq
    go_wp2
    go_ret
    exact ⟨rfl, hb⟩
set_option maxHeartbeats 2000000 in
theorem sOpOk_c (k : Int) (p t d : ByteArray) (r : Bool) (hr : Hid (opOkL k p.data.toList t.data.toList d.data.toList = r)) (w : World) (hp : p.size ≤ maxLen) (ht : t.size ≤ maxLen) (hd : d.size ≤ maxLen) :
    Calls Tryd.prog 55 #[opV k p t d] w fun e w' => e = .returned (.bool r) ∧ Below w.heap.size w w' := by
  have c0 := new_cell w (opBox k p t d) 69 0 _ rfl
  have c1 := new_cell w (opBox k p t d) 69 1 _ rfl
  have c2 := new_cell w (opBox k p t d) 69 2 _ rfl
  have c3 := new_cell w (opBox k p t d) 69 3 _ rfl
  have hb := bellow_alloc w (.cells (opBox k p t d) 69)
  by_cases klo : k < 1
  · obtain rfl : r = false := by
      have a5 : ¬ k = 5 := by omega
      have a2 : ¬ k = 2 := by omega
      have a1 : ¬ (k = 1 ∨ k = 3 ∨ k = 4) := by omega
      rw [← hr.out, opOkL, if_neg a5, if_neg a2, if_neg a1, Bool.and_false]
    clear hr
    go_enter Tryd.func55, Tryd.ntmps55
    go_wp2
    go_ret
    exact ⟨rfl, hb⟩
  by_cases khi : 5 < k
  · obtain rfl : r = false := by
      have a5 : ¬ k = 5 := by omega
      have a2 : ¬ k = 2 := by omega
      have a1 : ¬ (k = 1 ∨ k = 3 ∨ k = 4) := by omega
      rw [← hr.out, opOkL, if_neg a5, if_neg a2, if_neg a1, Bool.and_false]
    clear hr
    go_enter Tryd.func55, Tryd.ntmps55
    go_wp2
    go_ret
    exact ⟨rfl, hb⟩
  cases h1 : pathOkL p.data.toList with
  | false =>
    obtain rfl : r = false := by rw [← hr.out]; simp [opOkL, h1]
    have H1 := Lib.hid h1
    clear h1 hr
    go_enter Tryd.func55, Tryd.ntmps55
    go_wp2_with fail
    refine (sPathOk_c p false H1 _ hp).mono ?_; rintro e W ⟨rfl, hq⟩; replace hb := chn hb hq; clear hq
    go_wp2
    go_ret
    exact ⟨rfl, hb⟩
  | true =>
  have H1 := Lib.hid h1
  by_cases k5 : k = 5
  · subst k5
    obtain ⟨b2, h2⟩ : ∃ b, pathOkL t.data.toList = b := ⟨_, rfl⟩
    have H2 := Lib.hid h2
    cases b2 with
    | false =>
      obtain rfl : r = false := by rw [← hr.out]; simp [opOkL, h1, h2]
      clear h1 h2 hr
      go_enter Tryd.func55, Tryd.ntmps55
      go_wp2_with fail
      refine (sPathOk_c p true H1 _ hp).mono ?_; rintro e W ⟨rfl, hq⟩; replace hb := chn hb hq; replace c0 := keepc hq c0; replace c1 := keepc hq c1; replace c2 := keepc hq c2; replace c3 := keepc hq c3; clear hq
      go_wp2_with fail
      refine (sPathOk_c t false H2 _ ht).mono ?_; rintro e W ⟨rfl, hq⟩; replace hb := chn hb hq; clear hq
      go_wp2
      go_ret
      exact ⟨rfl, hb⟩
    | true =>
      by_cases hde : d.data.toList = []
      · obtain rfl : r = true := by rw [← hr.out]; simp [opOkL, h1, h2, hde]
        have q := isE_yes hde
        clear h1 h2 hr hde
        go_enter Tryd.func55, Tryd.ntmps55
        go_wp2_with fail
        refine (sPathOk_c p true H1 _ hp).mono ?_; rintro e W ⟨rfl, hq⟩; replace hb := chn hb hq; replace c0 := keepc hq c0; replace c1 := keepc hq c1; replace c2 := keepc hq c2; replace c3 := keepc hq c3; clear hq
        go_wp2_with fail
        refine (sPathOk_c t true H2 _ ht).mono ?_; rintro e W ⟨rfl, hq⟩; replace hb := chn hb hq; replace c0 := keepc hq c0; replace c1 := keepc hq c1; replace c2 := keepc hq c2; replace c3 := keepc hq c3; clear hq
        go_wp2
        go_ret
        exact ⟨rfl, hb⟩
      · obtain rfl : r = false := by rw [← hr.out, opOkL, h1, h2, beqE_no hde]; rfl
        have q := isE_no hde
        clear h1 h2 hr hde
        go_enter Tryd.func55, Tryd.ntmps55
        go_wp2_with fail
        refine (sPathOk_c p true H1 _ hp).mono ?_; rintro e W ⟨rfl, hq⟩; replace hb := chn hb hq; replace c0 := keepc hq c0; replace c1 := keepc hq c1; replace c2 := keepc hq c2; replace c3 := keepc hq c3; clear hq
        go_wp2_with fail
        refine (sPathOk_c t true H2 _ ht).mono ?_; rintro e W ⟨rfl, hq⟩; replace hb := chn hb hq; replace c0 := keepc hq c0; replace c1 := keepc hq c1; replace c2 := keepc hq c2; replace c3 := keepc hq c3; clear hq
        go_wp2
        go_ret
        exact ⟨rfl, hb⟩
  have n5 : (k == 5) = false := by rw [beq_eq_false_iff_ne]; exact k5
  by_cases hte : t.data.toList = []
  · have q := isE_yes hte
    obtain ⟨b2, h2⟩ : ∃ b, dataOkL d.data.toList = b := ⟨_, rfl⟩
    have H2 := Lib.hid h2
    cases b2 with
    | false =>
      have hde : d.data.toList ≠ [] := fun e => by rw [e] at h2; revert h2; decide
      obtain rfl : r = false := by
        rw [← hr.out, opOkL, h1, h2, beqE_no hde, if_neg k5]
        by_cases k2 : k = 2
        · rw [if_pos k2]; simp
        · rw [if_neg k2]; simp
      clear h1 h2 hr hte k5 hde
      go_enter Tryd.func55, Tryd.ntmps55
      go_wp2_with fail
      refine (sPathOk_c p true H1 _ hp).mono ?_; rintro e W ⟨rfl, hq⟩; replace hb := chn hb hq; replace c0 := keepc hq c0; replace c1 := keepc hq c1; replace c2 := keepc hq c2; replace c3 := keepc hq c3; clear hq
      go_wp2_with fail
      refine (l2Data_c d false H2 _ hd).mono ?_; rintro e W ⟨rfl, rfl⟩
      go_wp2
      go_ret
      exact ⟨rfl, hb⟩
    | true =>
      by_cases k2 : k = 2
      · subst k2
        obtain rfl : r = true := by rw [← hr.out]; simp [opOkL, h1, h2, hte]
        clear h1 h2 hr hte k5
        go_enter Tryd.func55, Tryd.ntmps55
        go_wp2_with fail
        refine (sPathOk_c p true H1 _ hp).mono ?_; rintro e W ⟨rfl, hq⟩; replace hb := chn hb hq; replace c0 := keepc hq c0; replace c1 := keepc hq c1; replace c2 := keepc hq c2; replace c3 := keepc hq c3; clear hq
        go_wp2_with fail
        refine (l2Data_c d true H2 _ hd).mono ?_; rintro e W ⟨rfl, rfl⟩
        go_wp2
        go_ret
        exact ⟨rfl, hb⟩
      · have n2 : (k == 2) = false := by rw [beq_eq_false_iff_ne]; exact k2
        have k134 : k = 1 ∨ k = 3 ∨ k = 4 := by omega
        by_cases hde : d.data.toList = []
        · have q2 := isE_yes hde
          obtain rfl : r = true := by rw [← hr.out]; simp [opOkL, h1, k5, k2, k134, hte, hde]
          clear h1 h2 hr hte k5 hde
          go_enter Tryd.func55, Tryd.ntmps55
          go_wp2_with fail
          refine (sPathOk_c p true H1 _ hp).mono ?_; rintro e W ⟨rfl, hq⟩; replace hb := chn hb hq; replace c0 := keepc hq c0; replace c1 := keepc hq c1; replace c2 := keepc hq c2; replace c3 := keepc hq c3; clear hq
          go_wp2_with fail
          refine (l2Data_c d true H2 _ hd).mono ?_; rintro e W ⟨rfl, rfl⟩
          go_wp2
          go_ret
          exact ⟨rfl, hb⟩
        · have q2 := isE_no hde
          obtain rfl : r = false := by rw [← hr.out, opOkL, h1, if_neg k5, if_neg k2, if_pos k134, beqE_no hde, Bool.and_false, Bool.and_false]
          clear h1 h2 hr hte k5 hde
          go_enter Tryd.func55, Tryd.ntmps55
          go_wp2_with fail
          refine (sPathOk_c p true H1 _ hp).mono ?_; rintro e W ⟨rfl, hq⟩; replace hb := chn hb hq; replace c0 := keepc hq c0; replace c1 := keepc hq c1; replace c2 := keepc hq c2; replace c3 := keepc hq c3; clear hq
          go_wp2_with fail
          refine (l2Data_c d true H2 _ hd).mono ?_; rintro e W ⟨rfl, rfl⟩
          go_wp2
          go_ret
          exact ⟨rfl, hb⟩
  · have q := isE_no hte
    obtain rfl : r = false := by
      rw [← hr.out, opOkL, h1, beqE_no hte, if_neg k5]
      by_cases k2 : k = 2
      · rw [if_pos k2]; simp
      · rw [if_neg k2]; simp
    clear h1 hr hte k5
    go_enter Tryd.func55, Tryd.ntmps55
    go_wp2_with fail
    refine (sPathOk_c p true H1 _ hp).mono ?_; rintro e W ⟨rfl, hq⟩; replace hb := chn hb hq; replace c0 := keepc hq c0; replace c1 := keepc hq c1; replace c2 := keepc hq c2; replace c3 := keepc hq c3; clear hq
    go_wp2
    go_ret
    exact ⟨rfl, hb⟩
end Go.Proofs.YtkhbkhibjflgmaaDoor
