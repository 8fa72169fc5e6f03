/- The walks of OpOk, of the program and of the reference. Plain mathematics of lists in the order of their paths: lookups, insertion, uniqueness. No program in sight. Plain mathematics of what is done to a tree: codes, results. No program in sight. The walks of the program's makeCode, putCode, rmCode, rmdirCode, moveCode, opCode: how something ends that is done to a tree. Small laws for rows of structs that the call itself makes: one more struct, a whole slice of structs. The walk of the reference's l2Put. Plain mathematics of moves in a tree. No program in sight. Plain mathematics of differences of trees. No program in sight. Plain mathematics of layers: right layers, what they hide, a layer on a tree. No program in sight. Plain mathematics of joined layers. No program in sight. Plain mathematics of layers that make one tree of another one. No program in sight. Plain laws of layers that make one tree of another one. No program in sight. Plain laws of what is done to a tree. No program in sight. The walks of the program's rmdirCode, moveCode, opCode, copyEnts. Conditions: each theorem's own. -/
import Derived.Test.YtobbodbkdcbflaaDoorB1
import Derived.Test.YtobbodbkdcbflaaDoorB3
import Derived.Test.YtobbodbkdcbflaaDoorB2
import Derived.Laws.AppendOwnNone
namespace Go.Proofs.YtobbodbkdcbflaaDoor
open Go.RowKit
theorem isE_no {s : ByteArray} (h : s.data.toList ≠ []) : s.toList.isEmpty = false := by
  rw [Lib.toList_data]
  cases hs : s.data.toList with
  | nil => exact absurd hs h
  | cons _ _ => rfl
theorem isE_yes {s : ByteArray} (h : s.data.toList = []) : s.toList.isEmpty = true := by rw [Lib.toList_data, h]; rfl
theorem beqE_no {l : Bs} (h : l ≠ []) : (l == []) = false := by simpa using h
abbrev opV (k : Int) (p t d : ByteArray) : Value := .agg #[.int .i64 k, .string p, .string t, .string d]
abbrev opBox (k : Int) (p t d : ByteArray) : Array Value := #[.int .i64 k, .string p, .string t, .string d]
set_option maxHeartbeats 2000000 in
theorem opOk_c (k : Int) (p t d : ByteArray) (r : Bool) (hr : Hid (opOkL k p.data.toList t.data.toList d.data.toList = r)) (w : World) (hp : p.size ≤ maxLen) (ht : t.size ≤ maxLen) (hd : d.size ≤ maxLen) :
    Calls Tryd.prog 29 #[opV k p t d] w fun e w' => e = .returned (.bool r) ∧ Below w.heap.size w w' := by
  have c0 := new_cell w (opBox k p t d) 49 0 _ rfl
  have c1 := new_cell w (opBox k p t d) 49 1 _ rfl
  have c2 := new_cell w (opBox k p t d) 49 2 _ rfl
  have c3 := new_cell w (opBox k p t d) 49 3 _ rfl
  have hb := bellow_alloc w (.cells (opBox k p t d) 49)
  cases h1 : pathOkL p.data.toList with
  | false =>
    obtain rfl : r = false := by rw [← hr.out]; simp [opOkL, h1]
    have H1 := Lib.hid h1
    clear h1 hr
    go_enter Tryd.func29, Tryd.ntmps29
    go_wp2_with fail
    refine (pathOk_c p false H1 _ hp).mono ?_; rintro e W ⟨rfl, hq⟩; replace hb := chn hb hq; clear hq
    go_wp2
    go_ret
    exact ⟨rfl, hb⟩
  | true =>
  have H1 := Lib.hid h1
  by_cases k5 : k = 5
  · subst k5
    obtain ⟨b2, h2⟩ : ∃ b, pathOkL t.data.toList = b := ⟨_, rfl⟩
    have H2 := Lib.hid h2
    cases b2 with
    | false =>
      obtain rfl : r = false := by rw [← hr.out]; simp [opOkL, h1, h2]
      clear h1 h2 hr
      go_enter Tryd.func29, Tryd.ntmps29
      go_wp2_with fail
      refine (pathOk_c p true H1 _ hp).mono ?_; rintro e W ⟨rfl, hq⟩; replace hb := chn hb hq; replace c0 := keepc hq c0; replace c1 := keepc hq c1; replace c2 := keepc hq c2; replace c3 := keepc hq c3; clear hq
      go_wp2_with fail
      refine (pathOk_c t false H2 _ ht).mono ?_; rintro e W ⟨rfl, hq⟩; replace hb := chn hb hq; clear hq
      go_wp2
      go_ret
      exact ⟨rfl, hb⟩
    | true =>
      by_cases hde : d.data.toList = []
      · obtain rfl : r = true := by rw [← hr.out]; simp [opOkL, h1, h2, hde]
        have q := isE_yes hde
        clear h1 h2 hr hde
        go_enter Tryd.func29, Tryd.ntmps29
        go_wp2_with fail
        refine (pathOk_c p true H1 _ hp).mono ?_; rintro e W ⟨rfl, hq⟩; replace hb := chn hb hq; replace c0 := keepc hq c0; replace c1 := keepc hq c1; replace c2 := keepc hq c2; replace c3 := keepc hq c3; clear hq
        go_wp2_with fail
        refine (pathOk_c t true H2 _ ht).mono ?_; rintro e W ⟨rfl, hq⟩; replace hb := chn hb hq; replace c0 := keepc hq c0; replace c1 := keepc hq c1; replace c2 := keepc hq c2; replace c3 := keepc hq c3; clear hq
        go_wp2
        go_ret
        exact ⟨rfl, hb⟩
      · obtain rfl : r = false := by rw [← hr.out, opOkL, h1, h2, beqE_no hde]; rfl
        have q := isE_no hde
        clear h1 h2 hr hde
        go_enter Tryd.func29, Tryd.ntmps29
        go_wp2_with fail
        refine (pathOk_c p true H1 _ hp).mono ?_; rintro e W ⟨rfl, hq⟩; replace hb := chn hb hq; replace c0 := keepc hq c0; replace c1 := keepc hq c1; replace c2 := keepc hq c2; replace c3 := keepc hq c3; clear hq
        go_wp2_with fail
        refine (pathOk_c t true H2 _ ht).mono ?_; rintro e W ⟨rfl, hq⟩; replace hb := chn hb hq; replace c0 := keepc hq c0; replace c1 := keepc hq c1; replace c2 := keepc hq c2; replace c3 := keepc hq c3; clear hq
        go_wp2
        go_ret
        exact ⟨rfl, hb⟩
  have n5 : (k == 5) = false := by rw [beq_eq_false_iff_ne]; exact k5
  by_cases k2 : k = 2
  · subst k2
    by_cases hte : t.data.toList = []
    · have q := isE_yes hte
      obtain ⟨b2, h2⟩ : ∃ b, dataOkL d.data.toList = b := ⟨_, rfl⟩
      have H2 := Lib.hid h2
      obtain rfl : r = b2 := by rw [← hr.out]; simp [opOkL, h1, h2, hte]
      clear h1 h2 hr hte k5
      go_enter Tryd.func29, Tryd.ntmps29
      go_wp2_with fail
      refine (pathOk_c p true H1 _ hp).mono ?_; rintro e W ⟨rfl, hq⟩; replace hb := chn hb hq; replace c0 := keepc hq c0; replace c1 := keepc hq c1; replace c2 := keepc hq c2; replace c3 := keepc hq c3; clear hq
      go_wp2_with fail
      refine (dataOk_c d r H2 _ hd).mono ?_; rintro e W ⟨rfl, rfl⟩
      go_wp2
      go_ret
      exact ⟨rfl, hb⟩
    · have q := isE_no hte
      obtain rfl : r = false := by rw [← hr.out, opOkL, h1, beqE_no hte]; rfl
      clear h1 hr hte k5
      go_enter Tryd.func29, Tryd.ntmps29
      go_wp2_with fail
      refine (pathOk_c p true H1 _ hp).mono ?_; rintro e W ⟨rfl, hq⟩; replace hb := chn hb hq; replace c0 := keepc hq c0; replace c1 := keepc hq c1; replace c2 := keepc hq c2; replace c3 := keepc hq c3; clear hq
      go_wp2
      go_ret
      exact ⟨rfl, hb⟩
  have n2 : (k == 2) = false := by rw [beq_eq_false_iff_ne]; exact k2
  by_cases k134 : k = 1 ∨ k = 3 ∨ k = 4
  · have hrr : Hid (r = ((t.data.toList == []) && (d.data.toList == []))) := by rw [Hid, ← hr.out]; simp [opOkL, h1, k5, k2, k134]
    clear h1 hr k5 k2
    by_cases hte : t.data.toList = []
    · have q := isE_yes hte
      by_cases hde : d.data.toList = []
      · have q2 := isE_yes hde
        obtain rfl : r = true := by rw [hrr.out]; simp [hte, hde]
        clear hrr hte hde
        rcases k134 with rfl | rfl | rfl
        all_goals
          go_enter Tryd.func29, Tryd.ntmps29
          go_wp2_with fail
          refine (pathOk_c p true H1 _ hp).mono ?_; rintro e W ⟨rfl, hq⟩; replace hb := chn hb hq; replace c0 := keepc hq c0; replace c1 := keepc hq c1; replace c2 := keepc hq c2; replace c3 := keepc hq c3; clear hq
          go_wp2
          go_ret
          exact ⟨rfl, hb⟩
      · have q2 := isE_no hde
        obtain rfl : r = false := by rw [hrr.out, beqE_no hde, Bool.and_false]
        clear hrr hte hde
        rcases k134 with rfl | rfl | rfl
        all_goals
          go_enter Tryd.func29, Tryd.ntmps29
          go_wp2_with fail
          refine (pathOk_c p true H1 _ hp).mono ?_; rintro e W ⟨rfl, hq⟩; replace hb := chn hb hq; replace c0 := keepc hq c0; replace c1 := keepc hq c1; replace c2 := keepc hq c2; replace c3 := keepc hq c3; clear hq
          go_wp2
          go_ret
          exact ⟨rfl, hb⟩
    · have q := isE_no hte
      obtain rfl : r = false := by rw [hrr.out, beqE_no hte, Bool.false_and]
      clear hrr hte
      rcases k134 with rfl | rfl | rfl
      all_goals
        go_enter Tryd.func29, Tryd.ntmps29
        go_wp2_with fail
        refine (pathOk_c p true H1 _ hp).mono ?_; rintro e W ⟨rfl, hq⟩; replace hb := chn hb hq; replace c0 := keepc hq c0; replace c1 := keepc hq c1; replace c2 := keepc hq c2; replace c3 := keepc hq c3; clear hq
        go_wp2
        go_ret
        exact ⟨rfl, hb⟩
  · obtain rfl : r = false := by rw [← hr.out]; simp [opOkL, k5, k2, k134]
    have n1 : (k == 1) = false := by rw [beq_eq_false_iff_ne]; omega
    have n3 : (k == 3) = false := by rw [beq_eq_false_iff_ne]; omega
    have n4 : (k == 4) = false := by rw [beq_eq_false_iff_ne]; omega
    clear h1 hr k5 k2 k134
    go_enter Tryd.func29, Tryd.ntmps29
    go_wp2_with fail
    refine (pathOk_c p true H1 _ hp).mono ?_; rintro e W ⟨rfl, hq⟩; replace hb := chn hb hq; replace c0 := keepc hq c0; replace c1 := keepc hq c1; replace c2 := keepc hq c2; replace c3 := keepc hq c3; clear hq
    go_wp2
    go_ret
    exact ⟨rfl, hb⟩
set_option maxHeartbeats 2000000 in
theorem sOpOk_c (k : Int) (p t d : ByteArray) (r : Bool) (hr : Hid (opOkL k p.data.toList t.data.toList d.data.toList = r)) (w : World) (hp : p.size ≤ maxLen) (ht : t.size ≤ maxLen) (hd : d.size ≤ maxLen) :
    Calls Tryd.prog 30 #[opV k p t d] w fun e w' => e = .returned (.bool r) ∧ Below w.heap.size w w' := by
  have c0 := new_cell w (opBox k p t d) 49 0 _ rfl
  have c1 := new_cell w (opBox k p t d) 49 1 _ rfl
  have c2 := new_cell w (opBox k p t d) 49 2 _ rfl
  have c3 := new_cell w (opBox k p t d) 49 3 _ rfl
  have hb := bellow_alloc w (.cells (opBox k p t d) 49)
  by_cases klo : k < 1
  · obtain rfl : r = false := by
      have a5 : ¬ k = 5 := by omega
      have a2 : ¬ k = 2 := by omega
      have a1 : ¬ (k = 1 ∨ k = 3 ∨ k = 4) := by omega
      rw [← hr.out, opOkL, if_neg a5, if_neg a2, if_neg a1, Bool.and_false]
    clear hr
    go_enter Tryd.func30, Tryd.ntmps30
    go_wp2
    go_ret
    exact ⟨rfl, hb⟩
  by_cases khi : 5 < k
  · obtain rfl : r = false := by
      have a5 : ¬ k = 5 := by omega
      have a2 : ¬ k = 2 := by omega
      have a1 : ¬ (k = 1 ∨ k = 3 ∨ k = 4) := by omega
      rw [← hr.out, opOkL, if_neg a5, if_neg a2, if_neg a1, Bool.and_false]
    clear hr
    go_enter Tryd.func30, Tryd.ntmps30
    go_wp2
    go_ret
    exact ⟨rfl, hb⟩
  cases h1 : pathOkL p.data.toList with
  | false =>
    obtain rfl : r = false := by rw [← hr.out]; simp [opOkL, h1]
    have H1 := Lib.hid h1
    clear h1 hr
    go_enter Tryd.func30, Tryd.ntmps30
    go_wp2_with fail
    refine (sPathOk_c p false H1 _ hp).mono ?_; rintro e W ⟨rfl, hq⟩; replace hb := chn hb hq; clear hq
    go_wp2
    go_ret
    exact ⟨rfl, hb⟩
  | true =>
  have H1 := Lib.hid h1
  by_cases k5 : k = 5
  · subst k5
    obtain ⟨b2, h2⟩ : ∃ b, pathOkL t.data.toList = b := ⟨_, rfl⟩
    have H2 := Lib.hid h2
    cases b2 with
    | false =>
      obtain rfl : r = false := by rw [← hr.out]; simp [opOkL, h1, h2]
      clear h1 h2 hr
      go_enter Tryd.func30, Tryd.ntmps30
      go_wp2_with fail
      refine (sPathOk_c p true H1 _ hp).mono ?_; rintro e W ⟨rfl, hq⟩; replace hb := chn hb hq; replace c0 := keepc hq c0; replace c1 := keepc hq c1; replace c2 := keepc hq c2; replace c3 := keepc hq c3; clear hq
      go_wp2_with fail
      refine (sPathOk_c t false H2 _ ht).mono ?_; rintro e W ⟨rfl, hq⟩; replace hb := chn hb hq; clear hq
      go_wp2
      go_ret
      exact ⟨rfl, hb⟩
    | true =>
      by_cases hde : d.data.toList = []
      · obtain rfl : r = true := by rw [← hr.out]; simp [opOkL, h1, h2, hde]
        have q := isE_yes hde
        clear h1 h2 hr hde
        go_enter Tryd.func30, Tryd.ntmps30
        go_wp2_with fail
        refine (sPathOk_c p true H1 _ hp).mono ?_; rintro e W ⟨rfl, hq⟩; replace hb := chn hb hq; replace c0 := keepc hq c0; replace c1 := keepc hq c1; replace c2 := keepc hq c2; replace c3 := keepc hq c3; clear hq
        go_wp2_with fail
        refine (sPathOk_c t true H2 _ ht).mono ?_; rintro e W ⟨rfl, hq⟩; replace hb := chn hb hq; replace c0 := keepc hq c0; replace c1 := keepc hq c1; replace c2 := keepc hq c2; replace c3 := keepc hq c3; clear hq
        go_wp2
        go_ret
        exact ⟨rfl, hb⟩
      · obtain rfl : r = false := by rw [← hr.out, opOkL, h1, h2, beqE_no hde]; rfl
        have q := isE_no hde
        clear h1 h2 hr hde
        go_enter Tryd.func30, Tryd.ntmps30
        go_wp2_with fail
        refine (sPathOk_c p true H1 _ hp).mono ?_; rintro e W ⟨rfl, hq⟩; replace hb := chn hb hq; replace c0 := keepc hq c0; replace c1 := keepc hq c1; replace c2 := keepc hq c2; replace c3 := keepc hq c3; clear hq
        go_wp2_with fail
        refine (sPathOk_c t true H2 _ ht).mono ?_; rintro e W ⟨rfl, hq⟩; replace hb := chn hb hq; replace c0 := keepc hq c0; replace c1 := keepc hq c1; replace c2 := keepc hq c2; replace c3 := keepc hq c3; clear hq
        go_wp2
        go_ret
        exact ⟨rfl, hb⟩
  have n5 : (k == 5) = false := by rw [beq_eq_false_iff_ne]; exact k5
  by_cases hte : t.data.toList = []
  · have q := isE_yes hte
    obtain ⟨b2, h2⟩ : ∃ b, dataOkL d.data.toList = b := ⟨_, rfl⟩
    have H2 := Lib.hid h2
    cases b2 with
    | false =>
      have hde : d.data.toList ≠ [] := fun e => by rw [e] at h2; revert h2; decide
      obtain rfl : r = false := by
        rw [← hr.out, opOkL, h1, h2, beqE_no hde, if_neg k5]
        by_cases k2 : k = 2
        · rw [if_pos k2]; simp
        · rw [if_neg k2]; simp
      clear h1 h2 hr hte k5 hde
      go_enter Tryd.func30, Tryd.ntmps30
      go_wp2_with fail
      refine (sPathOk_c p true H1 _ hp).mono ?_; rintro e W ⟨rfl, hq⟩; replace hb := chn hb hq; replace c0 := keepc hq c0; replace c1 := keepc hq c1; replace c2 := keepc hq c2; replace c3 := keepc hq c3; clear hq
      go_wp2_with fail
      refine (l2Data_c d false H2 _ hd).mono ?_; rintro e W ⟨rfl, rfl⟩
      go_wp2
      go_ret
      exact ⟨rfl, hb⟩
    | true =>
      by_cases k2 : k = 2
      · subst k2
        obtain rfl : r = true := by rw [← hr.out]; simp [opOkL, h1, h2, hte]
        clear h1 h2 hr hte k5
        go_enter Tryd.func30, Tryd.ntmps30
        go_wp2_with fail
        refine (sPathOk_c p true H1 _ hp).mono ?_; rintro e W ⟨rfl, hq⟩; replace hb := chn hb hq; replace c0 := keepc hq c0; replace c1 := keepc hq c1; replace c2 := keepc hq c2; replace c3 := keepc hq c3; clear hq
        go_wp2_with fail
        refine (l2Data_c d true H2 _ hd).mono ?_; rintro e W ⟨rfl, rfl⟩
        go_wp2
        go_ret
        exact ⟨rfl, hb⟩
      · have n2 : (k == 2) = false := by rw [beq_eq_false_iff_ne]; exact k2
        have k134 : k = 1 ∨ k = 3 ∨ k = 4 := by omega
        by_cases hde : d.data.toList = []
        · have q2 := isE_yes hde
          obtain rfl : r = true := by rw [← hr.out]; simp [opOkL, h1, k5, k2, k134, hte, hde]
          clear h1 h2 hr hte k5 hde
          go_enter Tryd.func30, Tryd.ntmps30
          go_wp2_with fail
          refine (sPathOk_c p true H1 _ hp).mono ?_; rintro e W ⟨rfl, hq⟩; replace hb := chn hb hq; replace c0 := keepc hq c0; replace c1 := keepc hq c1; replace c2 := keepc hq c2; replace c3 := keepc hq c3; clear hq
          go_wp2_with fail
          refine (l2Data_c d true H2 _ hd).mono ?_; rintro e W ⟨rfl, rfl⟩
          go_wp2
          go_ret
          exact ⟨rfl, hb⟩
        · have q2 := isE_no hde
          obtain rfl : r = false := by rw [← hr.out, opOkL, h1, if_neg k5, if_neg k2, if_pos k134, beqE_no hde, Bool.and_false, Bool.and_false]
          clear h1 h2 hr hte k5 hde
          go_enter Tryd.func30, Tryd.ntmps30
          go_wp2_with fail
          refine (sPathOk_c p true H1 _ hp).mono ?_; rintro e W ⟨rfl, hq⟩; replace hb := chn hb hq; replace c0 := keepc hq c0; replace c1 := keepc hq c1; replace c2 := keepc hq c2; replace c3 := keepc hq c3; clear hq
          go_wp2_with fail
          refine (l2Data_c d true H2 _ hd).mono ?_; rintro e W ⟨rfl, rfl⟩
          go_wp2
          go_ret
          exact ⟨rfl, hb⟩
  · have q := isE_no hte
    obtain rfl : r = false := by
      rw [← hr.out, opOkL, h1, beqE_no hte, if_neg k5]
      by_cases k2 : k = 2
      · rw [if_pos k2]; simp
      · rw [if_neg k2]; simp
    clear h1 hr hte k5
    go_enter Tryd.func30, Tryd.ntmps30
    go_wp2_with fail
    refine (sPathOk_c p true H1 _ hp).mono ?_; rintro e W ⟨rfl, hq⟩; replace hb := chn hb hq; replace c0 := keepc hq c0; replace c1 := keepc hq c1; replace c2 := keepc hq c2; replace c3 := keepc hq c3; clear hq
    go_wp2
    go_ret
    exact ⟨rfl, hb⟩
end Go.Proofs.YtobbodbkdcbflaaDoor
namespace Go.Proofs.YtobbodbkdcbflaaDoor
open Go.Op
section
variable {α : Type} (f : α → Bs)
def OrdP (t : List α) : Prop := t.Pairwise fun a b => bytesLess (f a) (f b) = true
def atP : List α → Bs → Option α
  | [], _ => none
  | e :: r, q => if f e = q then some e else atP r q
/-- Put into an ordered list, in the place of what is there. -/
def putP : List α → α → List α
  | [], e => [e]
  | a :: r, e => if bytesLess (f a) (f e) = true then a :: putP r e else if f a = f e then e :: r else e :: a :: r
end
section
variable {α : Type} {f : α → Bs}
theorem atP_some {t : List α} {q : Bs} {e : α} (h : atP f t q = some e) : e ∈ t ∧ f e = q := by
  induction t with
  | nil => cases h
  | cons a r ih =>
    unfold atP at h
    split at h
    · next hq => injection h with h; subst h; exact ⟨by simp, hq⟩
    · have := ih h; exact ⟨by simp [this.1], this.2⟩
theorem atP_none {t : List α} {q : Bs} : atP f t q = none ↔ ∀ e ∈ t, f e ≠ q := by
  induction t with
  | nil => simp [atP]
  | cons a r ih =>
    unfold atP
    split
    · next h => simp [h]
    · next h => rw [ih]; simp [h]
theorem ordP_cons {a : α} {r : List α} : OrdP f (a :: r) ↔ (∀ e ∈ r, bytesLess (f a) (f e) = true) ∧ OrdP f r := by
  unfold OrdP; rw [List.pairwise_cons]
theorem atP_mem {t : List α} (h : OrdP f t) {e : α} (he : e ∈ t) : atP f t (f e) = some e := by
  induction t with
  | nil => cases he
  | cons a r ih =>
    unfold atP
    rw [ordP_cons] at h
    rcases List.mem_cons.1 he with rfl | hr
    · rw [if_pos rfl]
    · rw [if_neg (less_ne (h.1 e hr))]
      exact ih h.2 hr
theorem atP_iff {t : List α} (h : OrdP f t) {q : Bs} {e : α} : atP f t q = some e ↔ e ∈ t ∧ f e = q :=
  ⟨atP_some, fun ⟨h1, h2⟩ => h2 ▸ atP_mem h h1⟩
theorem atP_append (a b : List α) (q : Bs) : atP f (a ++ b) q = match atP f a q with | some e => some e | none => atP f b q := by
  induction a with
  | nil => rfl
  | cons x r ih =>
    rw [List.cons_append, atP, atP]
    split
    · rfl
    · exact ih
theorem ord_ext {a b : List α} (ha : OrdP f a) (hb : OrdP f b) (h : ∀ e, e ∈ a ↔ e ∈ b) : a = b := by
  induction a generalizing b with
  | nil =>
    cases b with
    | nil => rfl
    | cons y r => have := (h y).2 (by simp); cases this
  | cons x a ih =>
    cases b with
    | nil => have := (h x).1 (by simp); cases this
    | cons y b =>
      rw [ordP_cons] at ha hb
      have hxy : x = y := by
        rcases List.mem_cons.1 ((h x).1 (by simp)) with h1 | h1
        · exact h1
        · rcases List.mem_cons.1 ((h y).2 (by simp)) with h2 | h2
          · exact h2.symm
          · have := less_trans (ha.1 y h2) (hb.1 x h1)
            rw [less_irrefl] at this; cases this
      subst hxy
      rw [ih ha.2 hb.2 (fun e => ?_)]
      constructor
      · intro he
        rcases List.mem_cons.1 ((h e).1 (by simp [he])) with h1 | h1
        · subst h1; have := ha.1 e he; rw [less_irrefl] at this; cases this
        · exact h1
      · intro he
        rcases List.mem_cons.1 ((h e).2 (by simp [he])) with h1 | h1
        · subst h1; have := hb.1 e he; rw [less_irrefl] at this; cases this
        · exact h1
theorem ord_ext_at {a b : List α} (ha : OrdP f a) (hb : OrdP f b) (h : ∀ q, atP f a q = atP f b q) : a = b :=
  ord_ext ha hb fun e => ⟨fun he => by have := atP_mem ha he; rw [h] at this; exact (atP_some this).1, fun he => by have := atP_mem hb he; rw [← h] at this; exact (atP_some this).1⟩
theorem mem_putP {t : List α} (h : OrdP f t) {e x : α} : x ∈ putP f t e ↔ x = e ∨ (x ∈ t ∧ f x ≠ f e) := by
  induction t with
  | nil => simp [putP]
  | cons a r ih =>
    rw [ordP_cons] at h
    have ih := ih h.2
    unfold putP
    by_cases h1 : bytesLess (f a) (f e) = true
    · rw [if_pos h1, List.mem_cons, ih, List.mem_cons]
      have hne := less_ne h1
      constructor
      · rintro (rfl | rfl | ⟨h2, h3⟩)
        · exact .inr ⟨.inl rfl, hne⟩
        · exact .inl rfl
        · exact .inr ⟨.inr h2, h3⟩
      · rintro (rfl | ⟨rfl | h2, h3⟩)
        · exact .inr (.inl rfl)
        · exact .inl rfl
        · exact .inr (.inr ⟨h2, h3⟩)
    · rw [if_neg h1]
      by_cases h2 : f a = f e
      · rw [if_pos h2, List.mem_cons, List.mem_cons]
        constructor
        · rintro (rfl | h3)
          · exact .inl rfl
          · exact .inr ⟨.inr h3, fun hx => by have := h.1 x h3; rw [h2, hx, less_irrefl] at this; cases this⟩
        · rintro (rfl | ⟨rfl | h3, h4⟩)
          · exact .inl rfl
          · exact absurd h2 h4
          · exact .inr h3
      · rw [if_neg h2, List.mem_cons]
        have hl : bytesLess (f e) (f a) = true := by
          rcases less_total (f a) (f e) with h3 | h3 | h3
          · exact absurd h3 h1
          · exact absurd h3 h2
          · exact h3
        constructor
        · rintro (rfl | h3)
          · exact .inl rfl
          · refine .inr ⟨h3, fun hx => ?_⟩
            rcases List.mem_cons.1 h3 with rfl | h3
            · exact h2 hx
            · have := less_trans hl (h.1 x h3)
              rw [hx, less_irrefl] at this; cases this
        · rintro (rfl | ⟨h3, _⟩)
          · exact .inl rfl
          · exact .inr h3
theorem ord_putP {t : List α} (h : OrdP f t) (e : α) : OrdP f (putP f t e) := by
  induction t with
  | nil => simp [putP, OrdP]
  | cons a r ih =>
    have h0 := h
    rw [ordP_cons] at h
    unfold putP
    by_cases h1 : bytesLess (f a) (f e) = true
    · rw [if_pos h1, ordP_cons]
      refine ⟨fun x hx => ?_, ih h.2⟩
      rcases (mem_putP h.2).1 hx with rfl | ⟨hx, _⟩
      · exact h1
      · exact h.1 x hx
    · rw [if_neg h1]
      by_cases h2 : f a = f e
      · rw [if_pos h2, ordP_cons]
        exact ⟨fun x hx => h2 ▸ h.1 x hx, h.2⟩
      · rw [if_neg h2, ordP_cons]
        have hl : bytesLess (f e) (f a) = true := by
          rcases less_total (f a) (f e) with h3 | h3 | h3
          · exact absurd h3 h1
          · exact absurd h3 h2
          · exact h3
        refine ⟨fun x hx => ?_, h0⟩
        rcases List.mem_cons.1 hx with rfl | hx
        · exact hl
        · exact less_trans hl (h.1 x hx)
theorem opt_ext {a b : Option α} (h : ∀ e, a = some e ↔ b = some e) : a = b := by
  cases a with
  | none =>
    cases b with
    | none => rfl
    | some y => have := (h y).2 rfl; cases this
  | some x => exact ((h x).1 rfl).symm
theorem atP_putP {t : List α} (h : OrdP f t) (e : α) (q : Bs) : atP f (putP f t e) q = if f e = q then some e else atP f t q := by
  by_cases hq : f e = q
  · rw [if_pos hq, atP_iff (ord_putP h e), mem_putP h]
    exact ⟨.inl rfl, hq⟩
  · rw [if_neg hq]
    refine opt_ext fun x => ?_
    rw [atP_iff (ord_putP h e), mem_putP h, atP_iff h]
    constructor
    · rintro ⟨rfl | ⟨h1, _⟩, h2⟩
      · exact absurd h2 hq
      · exact ⟨h1, h2⟩
    · rintro ⟨h1, h2⟩
      exact ⟨.inr ⟨h1, by rw [h2]; exact fun h => hq h.symm⟩, h2⟩
theorem len_putP {t : List α} (h : OrdP f t) (e : α) : (putP f t e).length = if (atP f t (f e)).isSome = true then t.length else t.length + 1 := by
  induction t with
  | nil => simp [putP, atP]
  | cons a r ih =>
    rw [ordP_cons] at h
    have ih := ih h.2
    unfold putP atP
    by_cases h1 : bytesLess (f a) (f e) = true
    · rw [if_pos h1, if_neg (less_ne h1), List.length_cons, ih]
      split <;> simp
    · rw [if_neg h1]
      by_cases h2 : f a = f e
      · rw [if_pos h2, if_pos h2]; simp
      · rw [if_neg h2, if_neg h2]
        have hl : bytesLess (f e) (f a) = true := by
          rcases less_total (f a) (f e) with h3 | h3 | h3
          · exact absurd h3 h1
          · exact absurd h3 h2
          · exact h3
        have hn : atP f r (f e) = none := by
          rw [atP_none]
          intro x hx he
          have := less_trans hl (h.1 x hx)
          rw [he, less_irrefl] at this; cases this
        rw [hn]; simp
theorem len_putP_le {t : List α} (h : OrdP f t) (e : α) : (putP f t e).length ≤ t.length + 1 := by
  rw [len_putP h]; split <;> omega
theorem OrdP.filter {t : List α} (h : OrdP f t) (p : α → Bool) : OrdP f (t.filter p) := List.Pairwise.filter p h
theorem atP_filter {t : List α} (h : OrdP f t) (p : α → Bool) (q : Bs) {e : α} : atP f (t.filter p) q = some e ↔ atP f t q = some e ∧ p e = true := by
  rw [atP_iff (h.filter p), atP_iff h, List.mem_filter]
  constructor
  · rintro ⟨⟨h1, h2⟩, h3⟩; exact ⟨⟨h1, h3⟩, h2⟩
  · rintro ⟨⟨h1, h3⟩, h2⟩; exact ⟨⟨h1, h2⟩, h3⟩
theorem ord_nil : OrdP f ([] : List α) := List.Pairwise.nil
/-- Distinct paths. -/
def DisP (f : α → Bs) (u : List α) : Prop := u.Pairwise fun a b => f a ≠ f b
theorem OrdP.dis {t : List α} (h : OrdP f t) : DisP f t := List.Pairwise.imp (fun h => less_ne h) h
theorem ord_fold {u : List α} : ∀ {s : List α}, OrdP f s → OrdP f (u.foldl (putP f) s) := by
  induction u with
  | nil => intro s h; exact h
  | cons a r ih => intro s h; exact ih (ord_putP h a)
theorem mem_fold {u : List α} (hd : DisP f u) : ∀ {s : List α}, OrdP f s → ∀ x, x ∈ u.foldl (putP f) s ↔ x ∈ u ∨ (x ∈ s ∧ ∀ y ∈ u, f y ≠ f x) := by
  induction u with
  | nil => intro s _ x; simp
  | cons a r ih =>
    intro s h x
    unfold DisP at hd
    rw [List.pairwise_cons] at hd
    rw [List.foldl_cons, ih hd.2 (ord_putP h a), mem_putP h]
    constructor
    · rintro (h1 | ⟨rfl | ⟨h1, h2⟩, h3⟩)
      · exact .inl (by simp [h1])
      · exact .inl (by simp)
      · refine .inr ⟨h1, fun y hy => ?_⟩
        rcases List.mem_cons.1 hy with rfl | hy
        · exact fun h => h2 h.symm
        · exact h3 y hy
    · rintro (h1 | ⟨h1, h2⟩)
      · rcases List.mem_cons.1 h1 with rfl | h1
        · exact .inr ⟨.inl rfl, fun y hy h => hd.1 y hy h.symm⟩
        · exact .inl h1
      · exact .inr ⟨.inr ⟨h1, fun h => h2 a (by simp) h.symm⟩, fun y hy => h2 y (by simp [hy])⟩
/-- What is sorted, of distinct paths, is in order. -/
theorem ord_of_sorted {s u : List α} (hp : s.Perm u) (hd : DisP f u) (hs : s.Pairwise fun a b => bytesLess (f b) (f a) = false) : OrdP f s := by
  have hd' : DisP f s := (List.Perm.pairwise_iff (fun h => fun e => h e.symm) hp).2 hd
  refine List.Pairwise.imp₂ (fun a b h1 h2 => ?_) hs hd'
  rcases less_total (f a) (f b) with h3 | h3 | h3
  · exact h3
  · exact absurd h3 h2
  · rw [h1] at h3; cases h3
theorem fold_of_perm {s u : List α} (hp : s.Perm u) (hd : DisP f u) (hs : s.Pairwise fun a b => bytesLess (f b) (f a) = false) : s = u.foldl (putP f) [] := by
  refine ord_ext (ord_of_sorted hp hd hs) (ord_fold ord_nil) fun e => ?_
  rw [mem_fold hd ord_nil, hp.mem_iff]; simp
theorem atP_map_len {t : List α} (h : OrdP f t) : DisP f t := h.dis
/-- Putting one by one: the last one put at a path stands there. -/
theorem atP_fold {u : List α} (hd : DisP f u) {s : List α} (h : OrdP f s) (q : Bs) : atP f (u.foldl (putP f) s) q = match atP f u q with | some e => some e | none => atP f s q := by
  induction u generalizing s with
  | nil => rfl
  | cons a r ih =>
    unfold DisP at hd
    rw [List.pairwise_cons] at hd
    rw [List.foldl_cons, ih hd.2 (ord_putP h a), atP_putP h, atP]
    by_cases hq : f a = q
    · have hn : atP f r q = none := atP_none.2 fun e he h2 => hd.1 e he (hq.trans h2.symm)
      rw [if_pos hq, if_pos hq, hn]
    · rw [if_neg hq, if_neg hq]
end
theorem getL_at (t : List PE) (q : Bs) : getL t q = atP PE.p t q := by
  induction t with
  | nil => rfl
  | cons a r ih => rw [getL, atP, ih]
end Go.Proofs.YtobbodbkdcbflaaDoor
namespace Go.Proofs.YtobbodbkdcbflaaDoor
open Go.Op
theorem up_len {p : Bs} (h : pathOkL p = true) (hr : upL p ≠ [47]) : (upL p).length < p.length := by
  obtain ⟨i, n, h1, _, _, h4, rfl, h6, _⟩ := path_split h
  rw [h6] at hr ⊢
  have hi : i ≠ [] := by rintro rfl; exact hr rfl
  rw [encP, if_neg hi, flat_append]
  simp [flat]
theorem up_under {p : Bs} (h : pathOkL p = true) : underL p (upL p) = true := (law_path h).2.2.1
theorem up_ne {p : Bs} (h : pathOkL p = true) : upL p ≠ p := by
  intro e
  have := up_under h
  rw [e, not_under_self] at this; cases this
theorem TOk.pth {t : List PE} (h : TOk t) {e : PE} (he : e ∈ t) : pathOkL e.p = true := by
  have := h.ent e he
  simp [entOkL] at this
  exact this.1.1
theorem TOk.dat {t : List PE} (h : TOk t) {e : PE} (he : e ∈ t) : dataOkL e.x = true := by
  have := h.ent e he
  simp [entOkL] at this
  exact this.1.2
theorem TOk.ordP {t : List PE} (h : TOk t) : OrdP PE.p t := h.ord
theorem TOk.get {t : List PE} (h : TOk t) {q : Bs} {e : PE} : getL t q = some e ↔ e ∈ t ∧ e.p = q := by
  rw [getL_at]; exact atP_iff h.ordP
theorem get_none {t : List PE} {q : Bs} : getL t q = none ↔ ∀ e ∈ t, e.p ≠ q := getL_none
/-- Where something would be in. -/
theorem upCode_iff {t : List PE} (h : OrdP PE.p t) {q : Bs} : upCodeL t q = 0 ↔ upL q = [47] ∨ ∃ f ∈ t, f.p = upL q ∧ f.d = true := by
  unfold upCodeL
  by_cases hr : upL q = [47]
  · rw [if_pos hr]; simp [hr]
  · rw [if_neg hr, getL_at]
    cases hg : atP PE.p t (upL q) with
    | none =>
      rw [atP_none] at hg
      constructor
      · intro h; cases h
      · rintro (h1 | ⟨f, h1, h2, _⟩)
        · exact absurd h1 hr
        · exact absurd h2 (hg f h1)
    | some e =>
      have he := (atP_iff h).1 hg
      constructor
      · intro h1
        refine .inr ⟨e, he.1, he.2, ?_⟩
        cases hd : e.d with
        | true => rfl
        | false => simp [hd] at h1
      · rintro (h1 | ⟨f, h1, h2, h3⟩)
        · exact absurd h1 hr
        · have : f = e := by
            have h4 := (atP_iff h).2 ⟨h1, h2⟩
            rw [hg] at h4
            injection h4 with h4
            exact h4.symm
          subst this
          simp [h3]
theorem TOk.par {t : List PE} (h : TOk t) {e : PE} (he : e ∈ t) : upL e.p = [47] ∨ ∃ f ∈ t, f.p = upL e.p ∧ f.d = true :=
  (upCode_iff h.ordP).1 (h.up e he)
theorem TOk.anc_aux {t : List PE} (h : TOk t) (n : Nat) : ∀ {e : PE}, e ∈ t → e.p.length ≤ n → ∀ {q : Bs}, pathOkL q = true → underL e.p q = true → ∃ f ∈ t, f.p = q ∧ f.d = true := by
  induction n with
  | zero =>
    intro e he hl
    have := (path_len (h.pth he)).1
    omega
  | succ n ih =>
    intro e he hl q hq hu
    have hp := h.pth he
    have hup := under_up (b := q) hp
    rw [hu] at hup
    simp only [Bool.true_eq, Bool.or_eq_true, beq_iff_eq] at hup
    rcases h.par he with hr | ⟨f, hf, hfp, hfd⟩
    · rw [hr] at hup
      rcases hup with h1 | h1
      · subst h1; rw [root_no] at hq; cases hq
      · have := under_path h1; rw [root_no] at this; cases this
    · rcases hup with h1 | h1
      · exact ⟨f, hf, hfp.trans h1.symm, hfd⟩
      · have hne : upL e.p ≠ [47] := by
          intro hr; rw [hr] at h1; have := under_path h1; rw [root_no] at this; cases this
        have := up_len hp hne
        rw [← hfp] at h1 this
        exact ih hf (by omega) hq h1
/-- What something is below is there, as a directory. -/
theorem TOk.anc {t : List PE} (h : TOk t) {e : PE} (he : e ∈ t) {q : Bs} (hq : pathOkL q = true) (hu : underL e.p q = true) : ∃ f ∈ t, f.p = q ∧ f.d = true :=
  h.anc_aux _ he (Nat.le_refl _) hq hu
theorem TOk.same {t : List PE} (h : TOk t) {e f : PE} (he : e ∈ t) (hf : f ∈ t) (hp : e.p = f.p) : e = f := by
  have h1 := (atP_iff h.ordP).2 ⟨he, rfl⟩
  have h2 := (atP_iff h.ordP).2 ⟨hf, hp.symm⟩
  rw [h1] at h2
  injection h2
def kidsL (t : List PE) (q : Bs) : List Bs := (t.filter fun e => upL e.p == q).map fun e => nameL e.p
theorem kids_any {t : List PE} (h : TOk t) {q : Bs} : (kidsL t q).isEmpty = !(t.any fun e => underL e.p q) := by
  have key : ∀ n, ∀ e ∈ t, e.p.length ≤ n → underL e.p q = true → ∃ f ∈ t, upL f.p = q := by
    intro n
    induction n with
    | zero =>
      intro e he hl
      have := (path_len (h.pth he)).1
      omega
    | succ n ih =>
      intro e he hl hu
      have hp := h.pth he
      have hup := under_up (b := q) hp
      rw [hu] at hup
      simp only [Bool.true_eq, Bool.or_eq_true, beq_iff_eq] at hup
      rcases hup with h1 | h1
      · exact ⟨e, he, h1.symm⟩
      · rcases h.par he with hr | ⟨f, hf, hfp, _⟩
        · rw [hr] at h1; have := under_path h1; rw [root_no] at this; cases this
        · have hne : upL e.p ≠ [47] := by
            intro hr; rw [hr] at h1; have := under_path h1; rw [root_no] at this; cases this
          have := up_len hp hne
          rw [← hfp] at h1 this
          exact ih f hf (by omega) h1
  rw [Bool.eq_iff_iff, Bool.not_eq_true', List.any_eq_false]
  unfold kidsL
  constructor
  · intro h1 e he hu
    obtain ⟨f, hf, hfq⟩ := key _ e he (Nat.le_refl _) hu
    have : f ∈ t.filter fun e => upL e.p == q := List.mem_filter.2 ⟨hf, by simpa using hfq⟩
    rw [List.isEmpty_iff, List.map_eq_nil_iff] at h1
    rw [h1] at this; cases this
  · intro h1
    rw [List.isEmpty_iff, List.map_eq_nil_iff, List.filter_eq_nil_iff]
    intro e he hu
    simp only [beq_iff_eq] at hu
    exact h1 e he (hu ▸ up_under (h.pth he))
theorem kids_file {t : List PE} (h : TOk t) {q : Bs} (hq : pathOkL q = true) {e : PE} (he : getL t q = some e) (hd : e.d = false) : kidsL t q = [] := by
  unfold kidsL
  rw [List.map_eq_nil_iff, List.filter_eq_nil_iff]
  intro f hf hu
  simp only [beq_iff_eq] at hu
  obtain ⟨g, hg, hgq, hgd⟩ := h.anc hf hq (hu ▸ up_under (h.pth hf))
  have h1 := h.get.1 he
  have := h.same hg h1.1 (hgq.trans h1.2.symm)
  subst this
  rw [hd] at hgd; cases hgd
/-! The codes. -/
def makeC (t : List PE) (q : Bs) : Nat := if upCodeL t q ≠ 0 then upCodeL t q else if (getL t q).isSome = true then 4 else if 16 ≤ t.length then 8 else 0
def putC (t : List PE) (q : Bs) : Nat := if upCodeL t q ≠ 0 then upCodeL t q else match getL t q with
  | some e => if e.d then 5 else 0
  | none => if 16 ≤ t.length then 8 else 0
def rmC (t : List PE) (q : Bs) : Nat := match getL t q with
  | none => 2
  | some e => if e.d then 5 else 0
def rmdirC (t : List PE) (q : Bs) : Nat := match getL t q with
  | none => 2
  | some e => if e.d then (if (t.any fun e => underL e.p q) = true then 6 else 0) else 3
def moveC (t : List PE) (q r : Bs) : Nat := if getL t q = none then 2 else if upCodeL t r ≠ 0 then upCodeL t r else if (getL t r).isSome = true then 4 else if underL r q = true then 7 else if (t.all fun e => moveOkL e.p q r) = true then 0 else 8
/-- The code of what can be read. -/
def codeL (t : List PE) (k : Int) (p r : Bs) : Nat := if k = 1 then makeC t p else if k = 2 then putC t p else if k = 3 then rmC t p else if k = 4 then rmdirC t p else moveC t p r
def movedE (q r : Bs) (e : PE) : PE := ⟨moveL e.p q r, e.d, e.x⟩
/-- What is told when it can be done. -/
def doL (t : List PE) (k : Int) (p r x : Bs) : List PE :=
  if k = 1 then putP PE.p t ⟨p, true, x⟩ else if k = 2 then putP PE.p t ⟨p, false, x⟩ else if k = 5 then (t.map (movedE p r)).foldl (putP PE.p) [] else t.filter fun e => !(e.p == p)
/-- What the program has before it sorts. -/
def rawL (t : List PE) (k : Int) (p r x : Bs) : List PE :=
  if k = 5 then t.map (movedE p r) else (t.filter fun e => !(e.p == p)) ++ (if k = 1 ∨ k = 2 then [⟨p, decide (k = 1), x⟩] else [])
theorem makeC_0 {t : List PE} {q : Bs} (h : makeC t q = 0) : upCodeL t q = 0 ∧ getL t q = none ∧ t.length < 16 := by
  unfold makeC at h
  split at h
  · next h1 => exact absurd h h1
  · next h1 =>
    split at h
    · cases h
    · next h2 =>
      split at h
      · cases h
      · next h3 => exact ⟨by simpa using h1, by simpa using h2, by omega⟩
theorem putC_0 {t : List PE} {q : Bs} (h : putC t q = 0) : upCodeL t q = 0 ∧ ((∃ e, getL t q = some e ∧ e.d = false) ∨ (getL t q = none ∧ t.length < 16)) := by
  unfold putC at h
  split at h
  · next h1 => exact absurd h h1
  · next h1 =>
    refine ⟨by simpa using h1, ?_⟩
    split at h
    · next e he =>
      refine .inl ⟨e, he, ?_⟩
      cases hd : e.d with
      | false => rfl
      | true => simp [hd] at h
    · next he =>
      split at h
      · cases h
      · exact .inr ⟨he, by omega⟩
theorem rmC_0 {t : List PE} {q : Bs} (h : rmC t q = 0) : ∃ e, getL t q = some e ∧ e.d = false := by
  unfold rmC at h
  split at h
  · cases h
  · next e he =>
    refine ⟨e, he, ?_⟩
    cases hd : e.d with
    | false => rfl
    | true => simp [hd] at h
theorem rmdirC_0 {t : List PE} {q : Bs} (h : rmdirC t q = 0) : ∃ e, getL t q = some e ∧ e.d = true ∧ ∀ f ∈ t, underL f.p q = false := by
  unfold rmdirC at h
  split at h
  · cases h
  · next e he =>
    split at h
    · next hd =>
      split at h
      · cases h
      · next h1 =>
        refine ⟨e, he, hd, fun f hf => ?_⟩
        cases hu : underL f.p q with
        | false => rfl
        | true => exact absurd (List.any_eq_true.2 ⟨f, hf, hu⟩) h1
    · cases h
theorem moveC_0 {t : List PE} {q r : Bs} (h : moveC t q r = 0) : (∃ e, getL t q = some e) ∧ upCodeL t r = 0 ∧ getL t r = none ∧ underL r q = false ∧ ∀ e ∈ t, moveOkL e.p q r = true := by
  unfold moveC at h
  split at h
  · cases h
  · next h1 =>
    split at h
    · next h2 => exact absurd h h2
    · next h2 =>
      split at h
      · cases h
      · next h3 =>
        split at h
        · cases h
        · next h4 =>
          split at h
          · next h5 =>
            refine ⟨?_, by simpa using h2, by simpa using h3, by simpa using h4, List.all_eq_true.1 h5⟩
            cases hg : getL t q with
            | none => exact absurd hg h1
            | some e => exact ⟨e, rfl⟩
          · cases h
/-! What is put, what is taken away. -/
theorem tok_put {t : List PE} (h : TOk t) {q x : Bs} {d : Bool} (hq : pathOkL q = true) (hx : dataOkL x = true) (hdx : d = true → x = []) (hup : upCodeL t q = 0) (hl : (∃ e, getL t q = some e ∧ e.d = false) ∨ (getL t q = none ∧ t.length < 16)) : TOk (putP PE.p t ⟨q, d, x⟩) := by
  have ho := ord_putP h.ordP ⟨q, d, x⟩
  refine ⟨?_, ?_, ho, ?_⟩
  · rw [len_putP h.ordP]
    rcases hl with ⟨e, he, _⟩ | ⟨he, hlt⟩
    · rw [getL_at] at he
      rw [show (PE.mk q d x).p = q from rfl, he]
      simpa using h.most
    · rw [getL_at] at he
      rw [show (PE.mk q d x).p = q from rfl, he]
      simp; omega
  · intro e he
    rcases (mem_putP h.ordP).1 he with rfl | ⟨he, _⟩
    · simp only [entOkL, hq, hx, Bool.true_and, Bool.and_true, Bool.or_eq_true, Bool.not_eq_true', beq_iff_eq]
      cases d with
      | false => exact .inl rfl
      | true => exact .inr (hdx rfl)
    · exact h.ent e he
  · have keep : ∀ f ∈ t, f.d = true → f ∈ putP PE.p t ⟨q, d, x⟩ ∨ ∃ e, getL t q = some e ∧ e.d = false ∧ f.p = q := fun f hf hfd => by
      by_cases hfq : f.p = q
      · rcases hl with ⟨e, he, hd⟩ | ⟨he, _⟩
        · exact .inr ⟨e, he, hd, hfq⟩
        · exact absurd hfq (getL_none.1 he f hf)
      · exact .inl ((mem_putP h.ordP).2 (.inr ⟨hf, hfq⟩))
    have keep' : ∀ f ∈ t, f.d = true → f ∈ putP PE.p t ⟨q, d, x⟩ := fun f hf hfd => by
      rcases keep f hf hfd with h1 | ⟨e, he, hd, hfq⟩
      · exact h1
      · have h2 := h.get.1 he
        have := h.same hf h2.1 (hfq.trans h2.2.symm)
        subst this
        rw [hd] at hfd; cases hfd
    intro e he
    rw [upCode_iff ho]
    rcases (mem_putP h.ordP).1 he with rfl | ⟨he, _⟩
    · rcases (upCode_iff h.ordP).1 hup with h1 | ⟨f, hf, hfp, hfd⟩
      · exact .inl h1
      · exact .inr ⟨f, keep' f hf hfd, hfp, hfd⟩
    · rcases h.par he with h1 | ⟨f, hf, hfp, hfd⟩
      · exact .inl h1
      · exact .inr ⟨f, keep' f hf hfd, hfp, hfd⟩
theorem tok_off {t : List PE} (h : TOk t) {q : Bs} (hq : ∀ e ∈ t, upL e.p ≠ q ∨ ∃ f, getL t q = some f ∧ f.d = false) : TOk (t.filter fun e => !(e.p == q)) := by
  have ho : OrdP PE.p (t.filter fun e => !(e.p == q)) := h.ordP.filter _
  refine ⟨Nat.le_trans (List.length_filter_le _ _) h.most, fun e he => h.ent e (List.mem_filter.1 he).1, ho, fun e he => ?_⟩
  rw [upCode_iff ho]
  have he' := (List.mem_filter.1 he).1
  rcases h.par he' with h1 | ⟨f, hf, hfp, hfd⟩
  · exact .inl h1
  · refine .inr ⟨f, List.mem_filter.2 ⟨hf, ?_⟩, hfp, hfd⟩
    have : f.p ≠ q := by
      intro hfq
      rcases hq e he' with h2 | ⟨g, hg, hgd⟩
      · exact h2 (hfp.symm.trans hfq)
      · have h3 := h.get.1 hg
        have := h.same hf h3.1 (hfq.trans h3.2.symm)
        subst this
        rw [hgd] at hfd; cases hfd
    simpa using this
end Go.Proofs.YtobbodbkdcbflaaDoor
namespace Go.Proofs.YtobbodbkdcbflaaDoor
open Go.RowKit
def putO (o : Option En) (n : Nat) : Nat := match o with
  | some e => if e.d then 5 else 0
  | none => if 16 ≤ n then 8 else 0
def rmO (o : Option En) : Nat := match o with
  | some e => if e.d then 5 else 0
  | none => 2
def rmdirO (o : Option En) (r : Bool) : Nat := match o with
  | some e => if e.d then (if r = true then 6 else 0) else 3
  | none => 2
end Go.Proofs.YtobbodbkdcbflaaDoor
namespace Go.Proofs.YtobbodbkdcbflaaDoor
open Go.RowKit
/-- The same, the heap's size spelled otherwise. -/
theorem wp_app1H {P : Program} {ops : Array Oper} {rest : List Oper} {o : Oper} {a : Act} {Q : Exit → Act → World → Prop} (hgd : o.guard = none) (s x : Operand) (t : TypeId)
    (ho : o.op = .call { callee := .builtin .append, args := #[s, x], argTypes := #[t, t] }) {e : TypeId} {size bytes : Nat} (E : Elt P t e size bytes)
    (base B : Nat) (w0 w : World) (cs : Array Value) (v : Value) (n : Nat) (xs : List Value) (hs : a.eval s = v) (H : Nat) (hH : w.heap.size = H) (hx : a.eval x = .slice (some ⟨H, 0, none⟩) 1 1)
    (hown : w.ownsRow base e size v n xs) (hcs : cs.size = size) (h1 : ∀ u ∈ cs.toList, u.oneCell' = true) (hn : n ≤ 1000000) (hbase : base ≤ w.heap.size) (hB : Below B w0 w) (hBb : B ≤ base)
    (h : ∀ v' w', w'.ownsRow base e size v' (n + 1) (xs ++ cs.toList) → Below B w0 w' → w.heap.size ≤ w'.heap.size → (w.alloc (.cells cs e)).grownBy w' v.ownBlock → wpList P ops Q rest (a.put o.dst v') w') :
    wpList P ops Q (o :: rest) a (w.alloc (.cells cs e)) :=
  wp_app1 hgd s x t ho E base B w0 w cs v n xs hs (hH ▸ hx) hown hcs h1 hn hbase hB hBb h
theorem SlF.drop {α : Type} {f : α → List Value} {w : World} {b off : Nat} {xs : List α} (h : SlF f w (some ⟨b, off, none⟩) xs) (k : Nat) : SlF f w (some ⟨b, off + k * 3, none⟩) (xs.drop k) := fun hn => by
  rw [List.length_drop] at hn
  obtain ⟨b', off', e, hlt, hc⟩ := h (by omega)
  simp only [Option.some.injEq, Addr.mk.injEq, and_true] at e
  obtain ⟨rfl, rfl⟩ := e
  refine ⟨b, off + k * 3, rfl, hlt, fun j x hj i u hu => ?_⟩
  rw [List.getElem?_drop] at hj
  have := hc (k + j) x hj i u hu
  rw [show off + k * 3 + j * 3 + i = off + (k + j) * 3 + i by omega]
  exact this
theorem SlF.cells_at {α : Type} {f : α → List Value} (hf : ∀ x, (f x).length = 3) {w : World} {b off : Nat} {xs : List α} (h : SlF f w (some ⟨b, off, none⟩) xs) : ∀ j u, (xs.flatMap f)[j]? = some u → w.cell? ((⟨b, off, none⟩ : Addr).add j) = some u := by
  intro j u hj
  have hl : j < xs.length * 3 := by
    have := (List.getElem?_eq_some_iff.1 hj).1
    rwa [flatMap_len hf] at this
  obtain ⟨b', off', e, hlt, hc⟩ := h (by omega)
  simp only [Option.some.injEq, Addr.mk.injEq, and_true] at e
  obtain ⟨rfl, rfl⟩ := e
  have hk : j / 3 < xs.length := by omega
  obtain ⟨x, hx⟩ : ∃ x, xs[j / 3]? = some x := ⟨_, List.getElem?_eq_getElem hk⟩
  have key : ∀ (ys : List α) (k i : Nat) (y : α), ys[k]? = some y → i < 3 → (ys.flatMap f)[k * 3 + i]? = (f y)[i]? := by
    intro ys
    induction ys with
    | nil => intro k i y hy; simp at hy
    | cons z r ih =>
      intro k i y hy hi
      rw [List.flatMap_cons]
      cases k with
      | zero =>
        simp at hy; subst hy
        rw [Nat.zero_mul, Nat.zero_add, List.getElem?_append_left (by rw [hf]; exact hi)]
      | succ k =>
        rw [List.getElem?_append_right (by rw [hf]; omega), hf, show (k + 1) * 3 + i - 3 = k * 3 + i by omega]
        exact ih k i y (by simpa using hy) hi
  have e1 : j / 3 * 3 + j % 3 = j := by omega
  have hu : (f x)[j % 3]? = some u := by rw [← key xs (j / 3) (j % 3) x hx (Nat.mod_lt _ (by omega)), e1]; exact hj
  have := hc (j / 3) x hx (j % 3) u hu
  have e2 : (⟨b, off, none⟩ : Addr).add j = ⟨b, off + j, none⟩ := by
    unfold Addr.add
    by_cases h : j = 0 <;> simp [h]
  rw [e2, show off + j = off + j / 3 * 3 + j % 3 by omega]
  exact this
/-- 'append(out, ys...)': a slice of structs of three cells onto a row of the call's own. -/
theorem wp_appS {P : Program} {ops : Array Oper} {rest : List Oper} {o : Oper} {a : Act} {Q : Exit → Act → World → Prop} (hgd : o.guard = none) (s x : Operand) (t : TypeId)
    (ho : o.op = .call { callee := .builtin .append, args := #[s, x], argTypes := #[t, t] }) {e : TypeId} {bytes : Nat} (E : Elt P t e 3 bytes)
    (base B : Nat) (w0 w : World) (v : Value) (n : Nat) (xs : List Value) (hs : a.eval s = v) {α : Type} (f : α → List Value) (hf : ∀ x, (f x).length = 3) (h1 : ∀ x, ∀ u ∈ f x, u.oneCell' = true) (ys : List α) (b off m c : Nat) (hm : ys.length = m) (hx : a.eval x = .slice (some ⟨b, off, none⟩) m c)
    (hsl : SlF f w (some ⟨b, off, none⟩) ys) (hown : w.ownsRow base e 3 v n xs) (hn : n + ys.length ≤ 2000000) (hbase : base ≤ w.heap.size) (hB : Below B w0 w) (hBb : B ≤ base)
    (h : ∀ v' w', w'.ownsRow base e 3 v' (n + ys.length) (xs ++ ys.flatMap f) → Below B w0 w' → w.heap.size ≤ w'.heap.size → w.grownBy w' v.ownBlock → wpList P ops Q rest (a.put o.dst v') w') :
    wpList P ops Q (o :: rest) a w := by
  subst hm
  obtain ⟨i, z, hi, hz, hsz, hby, hzs⟩ := E.info
  have hsm := E.small
  refine wpList_append_own _ hgd s x t ho base e i z 3 bytes E.und hi hz hsz hby hzs E.pos v n xs hs hown ⟨b, off, none⟩ ys.length c (ys.flatMap f) hx (flatMap_len hf ys) (hsl.cells_at hf) (fun u hu => ?_) (by unfold maxLen; omega) ?_ hbase ?_
  · obtain ⟨y, hy, hu⟩ := List.mem_flatMap.1 hu
    exact h1 y u hu
  · have : (n + ys.length) * bytes ≤ 2000000 * 64 := Nat.mul_le_mul hn hsm
    omega
  · intro v' w' h2 h3 _
    refine h v' w' h2 (hB.grown h3 (Nat.le_trans hBb hbase) ?_) h3.size h3
    intro k hk
    rcases hown.2 with ⟨rfl, _⟩ | ⟨g, cap, cur, rfl, hg, _⟩
    · simp [Value.ownBlock] at hk
    · simp [Value.ownBlock] at hk; omega
/-- A slice whose cells lie in another block than the one that grew. -/
theorem SlF.grown {α : Type} {f : α → List Value} {w w' : World} {a : Option Addr} {xs : List α} {own : Option Nat} (h : SlF f w a xs) (hg : w.grownBy w' own) (hne : ∀ b, a.map (·.block) = some b → own ≠ some b) : SlF f w' a xs := fun hn => by
  obtain ⟨b, off, rfl, hlt, hc⟩ := h hn
  refine ⟨b, off, rfl, Nat.lt_of_lt_of_le hlt hg.size, fun k x hx j u hu => ?_⟩
  have h1 := hc k x hx j u hu
  have hb := hg.block b hlt (Ne.symm (hne b rfl))
  rw [← h1]
  unfold World.cell?
  simp only [hb]
abbrev En.bs (e : En) : Bs := e.p.data.toList
abbrev Mk.bs (e : Mk) : Bs := e.p.data.toList
theorem putP_map {α β : Type} {f : α → Bs} {g : β → Bs} (h : α → β) (hp : ∀ a, g (h a) = f a) (t : List α) (e : α) : (putP f t e).map h = putP g (t.map h) (h e) := by
  induction t with
  | nil => rfl
  | cons a r ih =>
    rw [List.map_cons, putP, putP, hp, hp]
    split
    · rw [List.map_cons, ih]
    · split <;> rfl
/-- Where a struct is put. -/
theorem put_split {α : Type} {f : α → Bs} (t : List α) (e : α) (k : Nat) (hk : k ≤ t.length) (h1 : ∀ (j : Nat) (x : α), j < k → t[j]? = some x → Op.bytesLess (f x) (f e) = true) (h2 : ∀ x, t[k]? = some x → Op.bytesLess (f x) (f e) = false) :
    putP f t e = t.take k ++ e :: t.drop (k + if (t[k]?.map f) = some (f e) then 1 else 0) := by
  induction t generalizing k with
  | nil =>
    simp at hk; subst hk
    simp [putP]
  | cons a r ih =>
    cases k with
    | zero =>
      have h3 := h2 a rfl
      rw [putP, if_neg (by rw [h3]; simp)]
      by_cases h4 : f a = f e
      · rw [if_pos h4]; simp [h4]
      · rw [if_neg h4]; simp [h4]
    | succ k =>
      rw [putP, if_pos (h1 0 a (by omega) rfl)]
      have := ih k (by simpa using hk) (fun j x hj hx => h1 (j + 1) x (by omega) (by simpa using hx)) (fun x hx => h2 x (by simpa using hx))
      rw [this]
      simp only [List.take_succ_cons, List.cons_append, List.getElem?_cons_succ]
      rw [show k + 1 + (if Option.map f r[k]? = some (f e) then 1 else 0) = (k + if Option.map f r[k]? = some (f e) then 1 else 0) + 1 by omega, List.drop_succ_cons]
end Go.Proofs.YtobbodbkdcbflaaDoor
namespace Go.Proofs.YtobbodbkdcbflaaDoor
open Go.RowKit
/-- A slice of entries that the call made. -/
def MadeEn (ys : List En) (w : World) (e : Ending) (w' : World) : Prop :=
  ∃ g c, e = .returned (.slice (some ⟨g, 0, none⟩) ys.length c) ∧ ys.length ≤ c ∧ c ≤ maxLen ∧ OwnEn w' w.heap.size (.slice (some ⟨g, 0, none⟩) ys.length c) ys ∧ Below w.heap.size w w'
theorem own_slfEn' {w : World} {B g c : Nat} {xs : List En} (h : OwnEn w B (.slice (some ⟨g, 0, none⟩) xs.length c) xs) : SlF En.cells w (some ⟨g, 0, none⟩) xs := fun hn => by
  obtain ⟨g', c', hv, _, _, hlt, hc, _⟩ := own_form h hn
  have hg : g = g' := by injection hv with h1; injection h1 with h1; injection h1
  subst hg
  refine ⟨g, 0, rfl, hlt, fun k x hx j u hu => ?_⟩
  rw [Nat.zero_add]
  refine hc _ _ ?_
  have key : ∀ (ys : List En) (k : Nat) (y : En), ys[k]? = some y → (ys.flatMap En.cells)[k * 3 + j]? = (En.cells y)[j]? := by
    have hj : j < 3 := (List.getElem?_eq_some_iff.1 hu).1
    intro ys
    induction ys with
    | nil => intro k y hy; simp at hy
    | cons z r ih =>
      intro k y hy
      rw [List.flatMap_cons]
      cases k with
      | zero =>
        simp at hy; subst hy
        rw [Nat.zero_mul, Nat.zero_add, List.getElem?_append_left (by exact hj)]
      | succ k =>
        rw [List.getElem?_append_right (by show 3 ≤ _; omega), show (k + 1) * 3 + j - (En.cells z).length = k * 3 + j by show (k + 1) * 3 + j - 3 = _; omega]
        exact ih k y (by simpa using hy)
  rw [key xs k x hx]; exact hu
theorem made_of {w0 w : World} {B : Nat} {v : Value} {ys : List En} (h : w.ownsRow B 41 3 v ys.length (ys.flatMap En.cells)) (hB : w0.heap.size ≤ B) (hb : Below w0.heap.size w0 w) (hn : 0 < ys.length) : MadeEn ys w0 (.returned v) w := by
  have h0 := h
  rcases h.2 with ⟨_, h1⟩ | ⟨g, cap, cur, rfl, hg, hh, hnc, hm, h2, h3⟩
  · omega
  · exact ⟨g, cap, rfl, hnc, hm, ⟨h.1, .inr ⟨g, cap, cur, rfl, Nat.le_trans hB hg, hh, hnc, hm, h2, h3⟩⟩, hb⟩
theorem en_one (e : En) : ∀ u ∈ En.cells e, u.oneCell' = true := by intro u hu; simp [En.cells] at hu; rcases hu with rfl | rfl | rfl <;> rfl
theorem flat_one (e : En) : [e].flatMap En.cells = (#[.string e.p, .bool e.d, .string e.x] : Array Value).toList := by simp [En.cells]
theorem flat_app (xs : List En) (e : En) : xs.flatMap En.cells ++ (#[.string e.p, .bool e.d, .string e.x] : Array Value).toList = (xs ++ [e]).flatMap En.cells := by simp [En.cells]
theorem bs_less (e f : En) (b : Bool) : Op.bytesLess e.p.toList f.p.toList = b ↔ Op.bytesLess (En.bs e) (En.bs f) = b := by rw [less_of']
theorem drop_len {xs : List En} {n k : Nat} (h : xs.length = n) : (xs.drop k).length = n - k := by rw [List.length_drop, h]
theorem drop_len0 {xs : List En} {k : Nat} (h : xs.length = k) : (xs.drop k).length = 0 := by rw [List.length_drop, h]; omega
theorem put_rows {xs ys : List En} {k k1 : Nat} {e : En} (h : ys = xs.take k ++ e :: xs.drop k1) {w : World} {B : Nat} {t : TypeId} {v : Value}
    (ho : w.ownsRow B t 3 v ((xs.take k).length + 1 + (xs.drop k1).length) ((xs.take k).flatMap En.cells ++ (#[.string e.p, .bool e.d, .string e.x] : Array Value).toList ++ (xs.drop k1).flatMap En.cells)) : w.ownsRow B t 3 v ys.length (ys.flatMap En.cells) := by
  have e1 : ys.length = (xs.take k).length + 1 + (xs.drop k1).length := by rw [h]; simp; omega
  have e2 : ys.flatMap En.cells = (xs.take k).flatMap En.cells ++ (#[.string e.p, .bool e.d, .string e.x] : Array Value).toList ++ (xs.drop k1).flatMap En.cells := by rw [h]; simp [En.cells]
  rw [e1, e2]; exact ho
set_option maxRecDepth 100000 in
set_option maxHeartbeats 4000000 in
theorem l2Put_c (b off c : Nat) (xs : List En) (e : En) (ys : List En) (hy : Hid (putP En.bs xs e = ys)) (w : World) (hs : SlF En.cells w (some ⟨b, off, none⟩) xs) (_hblk : b < w.heap.size) (hx : xs.length ≤ 1000000) (hc : xs.length ≤ c) (hcm : c ≤ maxLen) :
    Calls Tryd.prog 102 #[.slice (some ⟨b, off, none⟩) xs.length c, e.val] w (MadeEn ys w) := by
  have HE := eltEn
  obtain ⟨ep, ed, ex⟩ := e
  unfold maxLen at hcm
  obtain ⟨n, hn⟩ : ∃ n, xs.length = n := ⟨_, rfl⟩
  have HN := Lib.hid hn
  rw [hn] at hx hc ⊢
  obtain ⟨z, hz⟩ : ∃ z, w.alloc (.cells #[.string ep, .bool ed, .string ex] 41) = z := ⟨_, rfl⟩
  have hzs : z.heap.size = w.heap.size + 1 := by rw [← hz]; simp
  have c0 : z.cell? ⟨w.heap.size, 0, none⟩ = some (.string ep) := by rw [← hz]; exact new_cell _ _ _ 0 _ rfl
  have c1 : z.cell? ⟨w.heap.size, 1, none⟩ = some (.bool ed) := by rw [← hz]; exact new_cell _ _ _ 1 _ rfl
  have c2 : z.cell? ⟨w.heap.size, 2, none⟩ = some (.string ex) := by rw [← hz]; exact new_cell _ _ _ 2 _ rfl
  have HW := Lib.hid (hz ▸ bellow_alloc w _ : Below w.heap.size w z)
  have HS := Lib.hid (hs.below HW.out)
  have HZ := Lib.hid hzs
  have HWZ := Lib.hid (show w.heap.size ≤ z.heap.size by rw [hzs]; omega)
  have HC0 := Lib.hid c0
  have HC1 := Lib.hid c1
  have HC2 := Lib.hid c2
  clear hn hs hzs c0 c1 c2
  go_enter Tryd.func102, Tryd.ntmps102
  go_wp2
  clear hz
  go_loopw [5, 6] (fun v i wr => ∃ k : Nat, k ≤ n ∧ i = .int .i64 k ∧ wr.ownsRow z.heap.size 41 3 v (xs.take k).length ((xs.take k).flatMap En.cells) ∧ (∀ (j : Nat) (f : En), j < k → xs[j]? = some f → Op.bytesLess (En.bs f) ep.data.toList = true) ∧ Below z.heap.size z wr) (fun _ i _ => n - (intOf i).toNat)
  case atStart => exact ⟨0, Nat.zero_le _, rfl, World.ownsRow_lit z #[] 0 (Nat.le_refl _) (Nat.zero_le _) rfl, fun j _ h => absurd h (by omega), bellow_alloc _ _⟩
  case round =>
    obtain ⟨k, hk, rfl, hown, hall, hb⟩ := hrel
    have HA := Lib.hid hall
    clear hall
    have g0 := keepc hb HC0.out
    have g1 := keepc hb HC1.out
    have g2 := keepc hb HC2.out
    have hsw := HS.out.below hb
    have hlen : (xs.take k).length = k := by rw [List.length_take, HN.out]; omega
    have HL := Lib.hid hlen
    clear hlen
    by_cases hlt : k < n
    · obtain ⟨f, hff⟩ : ∃ f, xs[k]? = some f := ⟨_, List.getElem?_eq_getElem (by rw [HN.out]; exact hlt)⟩
      obtain ⟨d0, d1, d2⟩ := en_at hsw k f hff
      have i0 : (0 : Int) ≤ (k : Int) := by omega
      have i1 : (k : Int) < (n : Int) := by omega
      rcases Bool.eq_false_or_eq_true (Op.bytesLess f.p.toList ep.toList) with hle | hle
      · have HLE := Lib.hid ((bs_less f ⟨ep, ed, ex⟩ true).1 hle)
        have HFF := Lib.hid hff
        clear hff
        go_wp2_with fail
        go_quiet (fail)
        go_wp2_with (at_builtin; go_must (refine wp_app1 (by rfl) _ _ 37 (by rfl) HE z.heap.size z.heap.size z _ #[.string f.p, .bool f.d, .string f.x] _ _ _ (by rfl) (by rfl) hown (by rfl) (by simp [Value.oneCell']) (by have := HL.out; omega) (drw hb _).size (drw hb _) (Nat.le_refl _) ?_); intro v' w1 hown1 hbel1 _ hg1)
        go_roundw
        case rel => exact ⟨k + 1, by omega, by go_num, by
          have e1 := List.take_succ_eq_append_getElem (l := xs) (i := k) (by rw [HN.out]; exact hlt)
          have e2 : xs[k]'(by rw [HN.out]; exact hlt) = f := (List.getElem?_eq_some_iff.1 HFF.out).2
          rw [e2] at e1
          rw [flat_app] at hown1
          rw [e1, List.length_append]
          exact hown1, fun j g hj hg => by
          by_cases ej : j = k
          · subst ej
            rw [HFF.out] at hg
            injection hg with hg
            exact hg ▸ HLE.out
          · exact HA.out j g (by omega) hg, hbel1⟩
        case measure => simp [intOf]; omega
      · have hnl : ∀ x, xs[k]? = some x → Op.bytesLess (En.bs x) (En.bs ⟨ep, ed, ex⟩) = false := fun x hx => by
          rw [hff] at hx; injection hx with hx; rw [← hx]; exact (bs_less f ⟨ep, ed, ex⟩ false).1 hle
        have HSP := Lib.hid (put_split (f := En.bs) xs ⟨ep, ed, ex⟩ k (by rw [HN.out]; omega) HA.out hnl)
        clear hnl
        by_cases heq : f.p.data.toList = ep.data.toList
        · have q1 := beqs_yes heq
          have HY : Hid (ys = xs.take k ++ ⟨ep, ed, ex⟩ :: xs.drop (k + 1)) := by
            rw [Hid, ← hy.out, HSP.out, hff, show (Option.map En.bs (some f)) = some (En.bs ⟨ep, ed, ex⟩) from congrArg some heq, if_pos rfl]
          have HFF := Lib.hid hff
          clear heq hff HSP
          have i2 : (k : Int) + 1 ≤ (n : Int) := by omega
          have i3 : (0 : Int) ≤ (k : Int) + 1 := by omega
          have i4 : (k : Int) + 1 ≤ (c : Int) := by omega
          go_wp2_with fail
          go_quiet (fail)
          go_wp2_with (at_builtin; go_must (refine wp_app1 (by rfl) _ _ 37 (by rfl) HE z.heap.size z.heap.size z _ #[.string ep, .bool ed, .string ex] _ _ _ (by rfl) (by rfl) hown (by rfl) (by simp [Value.oneCell']) (by have := HL.out; omega) (drw hb _).size (drw hb _) (Nat.le_refl _) ?_); intro v' w1 hown1 hbel1 _ hg1)
          have hsw1 := HS.out.below hbel1
          have HDL := Lib.hid (drop_len (k := (k+1)) HN.out)
          by_cases hck : c = (k+1)
          · have HSD : ∀ W, SlF En.cells W (some ⟨b, off, none⟩) (xs.drop (k+1)) := fun W h => absurd h (by rw [HDL.out]; omega)
            obtain ⟨d0, d1, d2⟩ := en_at hsw1 k f HFF.out
            have q0 := keepc hbel1 HC0.out
            have hown2 := hown1
            go_wp2_with fail
            go_quiet (fail)
            go_wp2_with (at_builtin; go_must (refine wp_appS (by rfl) _ _ 37 (by rfl) HE z.heap.size z.heap.size z _ _ _ _ (by rfl) En.cells (fun _ => rfl) en_one (xs.drop (k+1)) b off _ _ HDL.out (by rfl) (HSD _) hown2 (by have := HL.out; have := HDL.out; omega) hbel1.size (drw hbel1 _) (Nat.le_refl _) ?_); intro v2 w2 hown3 hbel3 _ _)
            go_ret
            exact made_of (put_rows HY.out hown3) HWZ.out (HW.out.trans (hbel3.mono HWZ.out)) (by rw [HY.out]; simp; omega)
          · have HSD0 := Lib.hid (hsw1.drop (k+1))
            obtain ⟨d0, d1, d2⟩ := en_at hsw1 k f HFF.out
            have q0 := keepc hbel1 HC0.out
            have hown2 := hown1
            go_wp2_with fail
            go_quiet (fail)
            go_wp2_with (at_builtin; go_must (refine wp_appS (by rfl) _ _ 37 (by rfl) HE z.heap.size z.heap.size z _ _ _ _ (by rfl) En.cells (fun _ => rfl) en_one (xs.drop (k+1)) b (off+(k+1)*3) _ _ HDL.out (by rfl) (HSD0.out.below (below_dr _ _)) hown2 (by have := HL.out; have := HDL.out; omega) hbel1.size (drw hbel1 _) (Nat.le_refl _) ?_); intro v2 w2 hown3 hbel3 _ _)
            go_ret
            exact made_of (put_rows HY.out hown3) HWZ.out (HW.out.trans (hbel3.mono HWZ.out)) (by rw [HY.out]; simp; omega)
        · have q1 := beqs_no heq
          have HY : Hid (ys = xs.take k ++ ⟨ep, ed, ex⟩ :: xs.drop k) := by
            rw [Hid, ← hy.out, HSP.out, hff, if_neg (by intro h; injection h with h; exact heq h)]; rfl
          have HFF := Lib.hid hff
          clear heq hff HSP
          have i4 : (k : Int) ≤ (c : Int) := by omega
          have i5 : (k : Int) ≤ (n : Int) := by omega
          go_wp2_with fail
          go_quiet (fail)
          go_wp2_with (at_builtin; go_must (refine wp_app1 (by rfl) _ _ 37 (by rfl) HE z.heap.size z.heap.size z _ #[.string ep, .bool ed, .string ex] _ _ _ (by rfl) (by rfl) hown (by rfl) (by simp [Value.oneCell']) (by have := HL.out; omega) (drw hb _).size (drw hb _) (Nat.le_refl _) ?_); intro v' w1 hown1 hbel1 _ hg1)
          have hsw1 := HS.out.below hbel1
          have HDL := Lib.hid (drop_len (k := k) HN.out)
          by_cases hck : c = k
          · have HSD : ∀ W, SlF En.cells W (some ⟨b, off, none⟩) (xs.drop k) := fun W h => absurd h (by rw [HDL.out]; omega)
            obtain ⟨d0, d1, d2⟩ := en_at hsw1 k f HFF.out
            have q0 := keepc hbel1 HC0.out
            have hown2 := hown1
            go_wp2_with fail
            go_quiet (fail)
            go_wp2_with (at_builtin; go_must (refine wp_appS (by rfl) _ _ 37 (by rfl) HE z.heap.size z.heap.size z _ _ _ _ (by rfl) En.cells (fun _ => rfl) en_one (xs.drop k) b off _ _ HDL.out (by rfl) (HSD _) hown2 (by have := HL.out; have := HDL.out; omega) hbel1.size (drw hbel1 _) (Nat.le_refl _) ?_); intro v2 w2 hown3 hbel3 _ _)
            go_ret
            exact made_of (put_rows HY.out hown3) HWZ.out (HW.out.trans (hbel3.mono HWZ.out)) (by rw [HY.out]; simp; omega)
          · have HSD0 := Lib.hid (hsw1.drop k)
            obtain ⟨d0, d1, d2⟩ := en_at hsw1 k f HFF.out
            have q0 := keepc hbel1 HC0.out
            have hown2 := hown1
            go_wp2_with fail
            go_quiet (fail)
            go_wp2_with (at_builtin; go_must (refine wp_appS (by rfl) _ _ 37 (by rfl) HE z.heap.size z.heap.size z _ _ _ _ (by rfl) En.cells (fun _ => rfl) en_one (xs.drop k) b (off+k*3) _ _ HDL.out (by rfl) (HSD0.out.below (below_dr _ _)) hown2 (by have := HL.out; have := HDL.out; omega) hbel1.size (drw hbel1 _) (Nat.le_refl _) ?_); intro v2 w2 hown3 hbel3 _ _)
            go_ret
            exact made_of (put_rows HY.out hown3) HWZ.out (HW.out.trans (hbel3.mono HWZ.out)) (by rw [HY.out]; simp; omega)
    · obtain rfl : k = n := by omega
      have hnl : ∀ x, xs[k]? = some x → Op.bytesLess (En.bs x) (En.bs ⟨ep, ed, ex⟩) = false := fun x hx => by
        have := (List.getElem?_eq_some_iff.1 hx).1; rw [HN.out] at this; omega
      have hff : xs[k]? = none := List.getElem?_eq_none (by rw [HN.out]; omega)
      have HY : Hid (ys = xs.take k ++ ⟨ep, ed, ex⟩ :: xs.drop k) := by
        rw [Hid, ← hy.out, put_split (f := En.bs) xs ⟨ep, ed, ex⟩ k (by rw [HN.out]; omega) HA.out hnl, hff, if_neg (by simp)]; rfl
      clear hnl hff
      have i4 : (k : Int) ≤ (c : Int) := by omega
      have i0 : (0 : Int) ≤ (k : Int) := by omega
      have dk : decide ((k : Int) < (k : Int)) = false := by simp
      go_wp2_with fail
      go_quiet (fail)
      go_wp2_with (at_builtin; go_must (refine wp_app1 (by rfl) _ _ 37 (by rfl) HE z.heap.size z.heap.size z _ #[.string ep, .bool ed, .string ex] _ _ _ (by rfl) (by rfl) hown (by rfl) (by simp [Value.oneCell']) (by have := HL.out; omega) (drw hb _).size (drw hb _) (Nat.le_refl _) ?_); intro v' w1 hown1 hbel1 _ hg1)
      have hsw1 := HS.out.below hbel1
      have HDL := Lib.hid (drop_len0 (k := k) HN.out)
      by_cases hck : c = k
      · have HSD : ∀ W, SlF En.cells W (some ⟨b, off, none⟩) (xs.drop k) := fun W h => absurd h (by rw [HDL.out]; omega)
        have hown2 := hown1
        go_wp2_with fail
        go_quiet (fail)
        go_wp2_with (at_builtin; go_must (refine wp_appS (by rfl) _ _ 37 (by rfl) HE z.heap.size z.heap.size z _ _ _ _ (by rfl) En.cells (fun _ => rfl) en_one (xs.drop k) b off _ _ HDL.out (by rfl) (HSD _) hown2 (by have := HL.out; have := HDL.out; omega) hbel1.size (drw hbel1 _) (Nat.le_refl _) ?_); intro v2 w2 hown3 hbel3 _ _)
        go_ret
        exact made_of (put_rows HY.out hown3) HWZ.out (HW.out.trans (hbel3.mono HWZ.out)) (by rw [HY.out]; simp; omega)
      · have HSD0 := Lib.hid (hsw1.drop k)
        have hown2 := hown1
        go_wp2_with fail
        go_quiet (fail)
        go_wp2_with (at_builtin; go_must (refine wp_appS (by rfl) _ _ 37 (by rfl) HE z.heap.size z.heap.size z _ _ _ _ (by rfl) En.cells (fun _ => rfl) en_one (xs.drop k) b (off+k*3) _ _ HDL.out (by rfl) (HSD0.out.below (below_dr _ _)) hown2 (by have := HL.out; have := HDL.out; omega) hbel1.size (drw hbel1 _) (Nat.le_refl _) ?_); intro v2 w2 hown3 hbel3 _ _)
        go_ret
        exact made_of (put_rows HY.out hown3) HWZ.out (HW.out.trans (hbel3.mono HWZ.out)) (by rw [HY.out]; simp; omega)
end Go.Proofs.YtobbodbkdcbflaaDoor
namespace Go.Proofs.YtobbodbkdcbflaaDoor
open Go.Op
theorem moveOk_paths {s f t : Bs} (h : moveOkL s f t = true) : pathOkL s = true ∧ pathOkL f = true ∧ pathOkL t = true ∧ pathOkL (moveL s f t) = true := by
  have h0 := h
  simp only [moveOkL, Bool.and_eq_true] at h
  refine ⟨h.1.1.1, h.1.1.2, h.1.2, ?_⟩
  rw [moveL, if_pos h0]; exact h.2
theorem mv_in {s f t : Bs} (h : moveOkL s f t = true) (hm : s = f ∨ underL s f = true) : moveL s f t = t ∨ underL (moveL s f t) t = true := by
  have h1 := law_move h hm
  by_cases hs : s = f
  · exact .inl (h1.2.2.1.2 hs)
  · exact .inr (h1.2.2.2 hs).1
theorem mv_self {f t : Bs} (h : moveOkL f f t = true) : moveL f f t = t := (law_move h (.inl rfl)).2.2.1.2 rfl
theorem mv_out {s f t : Bs} (h : moveOkL s f t = true) (hm : ¬ (s = f ∨ underL s f = true)) {u : Bs} (hu : ¬ (s = t ∨ underL s t = true)) (h' : u = f) : moveOkL s t u = true ∧ moveL s t u = s := by
  subst h'
  have hp := moveOk_paths h
  have hok : moveOkL s t u = true := by simp [moveOkL, hp.1, hp.2.1, hp.2.2.1, moved, hu]
  exact ⟨hok, move_stay hok hu⟩
theorem up_moved {s f t : Bs} (h : moveOkL s f t = true) (hu : underL s f = true) : (upL s = f ∨ underL (upL s) f = true) ∧ upL (moveL s f t) = moveL (upL s) f t := by
  have hp := moveOk_paths h
  obtain ⟨S, F, T, h1, h2, h3, h4, h5, h6, rfl, rfl, rfl⟩ := move_cases hp.1 hp.2.1 hp.2.2.1
  obtain ⟨r, rfl⟩ := (from_iff h1 h2 h3 h4).1 (.inr hu)
  have hr : r ≠ [] := by
    rintro rfl
    rw [List.append_nil, not_under_self] at hu; cases hu
  obtain ⟨i, n, rfl⟩ := ns_split hr
  have hN := (moveOk_app h1 h3 h4 h5 h6).1 h
  have e : moveL (flat (F ++ (i ++ [n]))) (flat F) (flat T) = flat (T ++ (i ++ [n])) := by rw [moveL, if_pos h, moved_app h1 h3 h4]
  have hFi : NS (F ++ i) := by rw [← List.append_assoc] at h1; exact h1.of_append.1
  have hTi : NS (T ++ i) := by rw [← List.append_assoc] at hN; exact hN.of_append.1
  have u1 : upL (flat (F ++ (i ++ [n]))) = flat (F ++ i) := by
    rw [up_flat h1 (by simp [h4]), ← List.append_assoc, List.dropLast_concat, encP, if_neg (by simp [h4])]
  have u2 : upL (flat (T ++ (i ++ [n]))) = flat (T ++ i) := by
    rw [up_flat hN (by simp [h6]), ← List.append_assoc, List.dropLast_concat, encP, if_neg (by simp [h6])]
  have hok : moveOkL (flat (F ++ i)) (flat F) (flat T) = true := (moveOk_app hFi h3 h4 h5 h6).2 hTi
  rw [e, u1, u2]
  refine ⟨(from_iff hFi (by simp [h4]) h3 h4).2 ⟨i, rfl⟩, ?_⟩
  rw [moveL, if_pos hok, moved_app hFi h3 h4]
/-- A move that can be done. -/
structure MV (t : List PE) (q r : Bs) : Prop where
  tok : TOk t
  pq : pathOkL q = true
  pr : pathOkL r = true
  src : ∃ e ∈ t, e.p = q
  up : upCodeL t r = 0
  free : ∀ e ∈ t, e.p ≠ r
  nun : underL r q = false
  all : ∀ e ∈ t, moveOkL e.p q r = true
theorem mv_of {t : List PE} {q r : Bs} (h : TOk t) (hq : pathOkL q = true) (hr : pathOkL r = true) (hc : moveC t q r = 0) : MV t q r := by
  obtain ⟨⟨e, he⟩, h1, h2, h3, h4⟩ := moveC_0 hc
  exact ⟨h, hq, hr, ⟨e, h.get.1 he⟩, h1, getL_none.1 h2, h3, h4⟩
theorem mv_code {t : List PE} {q r : Bs} (m : MV t q r) : moveC t q r = 0 := by
  obtain ⟨e, he, hp⟩ := m.src
  have h1 : getL t q = some e := m.tok.get.2 ⟨he, hp⟩
  have h2 : getL t r = none := getL_none.2 m.free
  unfold moveC
  rw [if_neg (by rw [h1]; simp), if_neg (by simp [m.up]), if_neg (by rw [h2]; simp), if_neg (by rw [m.nun]; simp), if_pos (List.all_eq_true.2 m.all)]
abbrev mvL (t : List PE) (q r : Bs) : List PE := (t.map (movedE q r)).foldl (putP PE.p) []
section
variable {t : List PE} {q r : Bs}
theorem MV.ne (m : MV t q r) : q ≠ r := by
  rintro rfl
  obtain ⟨e, he, hp⟩ := m.src
  exact m.free e he hp
theorem MV.no_under (m : MV t q r) {e : PE} (he : e ∈ t) : underL e.p r = false := by
  cases hu : underL e.p r with
  | false => rfl
  | true =>
    obtain ⟨f, hf, hp, _⟩ := m.tok.anc he m.pr hu
    exact absurd hp (m.free f hf)
theorem MV.out (m : MV t q r) {e : PE} (he : e ∈ t) : ¬ (e.p = r ∨ underL e.p r = true) := by
  rintro (h | h)
  · exact m.free e he h
  · rw [m.no_under he] at h; cases h
theorem MV.inj (m : MV t q r) {e f : PE} (he : e ∈ t) (hf : f ∈ t) (h : moveL e.p q r = moveL f.p q r) : e = f := by
  by_cases h1 : e.p = q ∨ underL e.p q = true
  · by_cases h2 : f.p = q ∨ underL f.p q = true
    · have a := (law_move (m.all e he) h1).2.1
      have b := (law_move (m.all f hf) h2).2.1
      rw [h, b] at a
      exact m.tok.same he hf a.symm
    · have a := mv_in (m.all e he) h1
      rw [h, move_stay (m.all f hf) h2] at a
      exact absurd a (m.out hf)
  · by_cases h2 : f.p = q ∨ underL f.p q = true
    · have a := mv_in (m.all f hf) h2
      rw [← h, move_stay (m.all e he) h1] at a
      exact absurd a (m.out he)
    · rw [move_stay (m.all e he) h1, move_stay (m.all f hf) h2] at h
      exact m.tok.same he hf h
theorem MV.dis (m : MV t q r) : DisP PE.p (t.map (movedE q r)) := by
  unfold DisP
  rw [List.pairwise_map]
  refine List.Pairwise.imp_of_mem (fun {a b} ha hb hab h => ?_) m.tok.ordP
  have := m.inj ha hb h
  subst this
  rw [less_irrefl] at hab; cases hab
theorem MV.mem (m : MV t q r) {x : PE} : x ∈ mvL t q r ↔ ∃ e ∈ t, movedE q r e = x := by
  rw [mem_fold m.dis ord_nil]; simp
theorem mv_ord (t : List PE) (q r : Bs) : OrdP PE.p (mvL t q r) := ord_fold ord_nil
theorem fold_len {α : Type} {f : α → Bs} {u : List α} (hd : DisP f u) : ∀ {s : List α}, OrdP f s → (∀ y ∈ u, ∀ x ∈ s, f y ≠ f x) → (u.foldl (putP f) s).length = s.length + u.length := by
  induction u with
  | nil => intro s _ _; rfl
  | cons a r ih =>
    intro s h hne
    unfold DisP at hd
    rw [List.pairwise_cons] at hd
    have hn : atP f s (f a) = none := atP_none.2 fun e he h2 => hne a (by simp) e he h2.symm
    rw [List.foldl_cons, ih hd.2 (ord_putP h a) (fun y hy x hx => ?_), len_putP h, hn]
    · simp; omega
    · rcases (mem_putP h).1 hx with rfl | ⟨hx, _⟩
      · exact fun h => hd.1 y hy h.symm
      · exact hne y (by simp [hy]) x hx
theorem MV.len (m : MV t q r) : (mvL t q r).length = t.length := by
  rw [mvL, fold_len m.dis ord_nil (fun y _ x hx => by cases hx)]; simp
theorem MV.tok' (m : MV t q r) : TOk (mvL t q r) := by
  refine ⟨by rw [m.len]; exact m.tok.most, fun x hx => ?_, mv_ord t q r, fun x hx => ?_⟩
  · obtain ⟨e, he, rfl⟩ := m.mem.1 hx
    have h1 := m.tok.ent e he
    have h2 := (moveOk_paths (m.all e he)).2.2.2
    simp only [entOkL, Bool.and_eq_true] at h1 ⊢
    exact ⟨⟨h2, h1.1.2⟩, h1.2⟩
  · obtain ⟨e, he, rfl⟩ := m.mem.1 hx
    rw [upCode_iff (mv_ord t q r)]
    show upL (moveL e.p q r) = [47] ∨ ∃ f ∈ mvL t q r, f.p = upL (moveL e.p q r) ∧ f.d = true
    by_cases h1 : e.p = q ∨ underL e.p q = true
    · by_cases h2 : e.p = q
      · have h3 := m.all e he
        rw [h2] at h3
        rw [h2, mv_self h3]
        rcases (upCode_iff m.tok.ordP).1 m.up with h4 | ⟨f, hf, hfp, hfd⟩
        · exact .inl h4
        · refine .inr ⟨movedE q r f, m.mem.2 ⟨f, hf, rfl⟩, ?_, hfd⟩
          show moveL f.p q r = upL r
          rw [move_stay (m.all f hf), hfp]
          rintro (h5 | h5)
          · have := up_under m.pr
            rw [← hfp, h5, m.nun] at this; cases this
          · have := under_trans (up_under m.pr) (hfp ▸ h5)
            rw [m.nun] at this; cases this
      · have h3 : underL e.p q = true := h1.resolve_left h2
        obtain ⟨h4, h5⟩ := up_moved (m.all e he) h3
        rw [h5]
        rcases m.tok.par he with h6 | ⟨f, hf, hfp, hfd⟩
        · exfalso
          rw [h6] at h4
          rcases h4 with h7 | h7
          · have := m.pq; rw [← h7, root_no] at this; cases this
          · have := under_path h7; rw [root_no] at this; cases this
        · exact .inr ⟨movedE q r f, m.mem.2 ⟨f, hf, rfl⟩, by show moveL f.p q r = _; rw [hfp], hfd⟩
    · rw [move_stay (m.all e he) h1]
      rcases m.tok.par he with h6 | ⟨f, hf, hfp, hfd⟩
      · exact .inl h6
      · refine .inr ⟨movedE q r f, m.mem.2 ⟨f, hf, rfl⟩, ?_, hfd⟩
        show moveL f.p q r = upL e.p
        rw [move_stay (m.all f hf), hfp]
        rintro (h5 | h5)
        · exact h1 (.inr (by have := up_under (m.tok.pth he); rw [← hfp, h5] at this; exact this))
        · exact h1 (.inr (under_trans (up_under (m.tok.pth he)) (hfp ▸ h5)))
theorem MV.back_e (m : MV t q r) {e : PE} (he : e ∈ t) : moveOkL (moveL e.p q r) r q = true ∧ movedE r q (movedE q r e) = e := by
  by_cases h1 : e.p = q ∨ underL e.p q = true
  · have h2 := law_move (m.all e he) h1
    refine ⟨h2.1, ?_⟩
    obtain ⟨p, d, x⟩ := e
    show PE.mk (moveL (moveL p q r) r q) d x = _
    rw [h2.2.1]
  · have h2 := move_stay (m.all e he) h1
    have h3 := mv_out (m.all e he) h1 (m.out he) rfl
    rw [h2]
    refine ⟨h3.1, ?_⟩
    obtain ⟨p, d, x⟩ := e
    show PE.mk (moveL (moveL p q r) r q) d x = _
    rw [h2, h3.2]
theorem MV.gone (m : MV t q r) {x : PE} (hx : x ∈ mvL t q r) : x.p ≠ q := by
  obtain ⟨e, he, rfl⟩ := m.mem.1 hx
  show moveL e.p q r ≠ q
  intro h
  by_cases h1 : e.p = q ∨ underL e.p q = true
  · rcases mv_in (m.all e he) h1 with h2 | h2
    · exact m.ne (h.symm.trans h2)
    · rw [h] at h2
      obtain ⟨e0, h0, hp0⟩ := m.src
      have := m.no_under h0
      rw [hp0, h2] at this; cases this
  · rw [move_stay (m.all e he) h1] at h
    exact h1 (.inl h)
theorem MV.back (m : MV t q r) : MV (mvL t q r) r q := by
  refine ⟨m.tok', m.pr, m.pq, ?_, ?_, fun x hx => m.gone hx, ?_, fun x hx => ?_⟩
  · obtain ⟨e, he, hp⟩ := m.src
    refine ⟨movedE q r e, m.mem.2 ⟨e, he, rfl⟩, ?_⟩
    show moveL e.p q r = r
    have h3 := m.all e he
    rw [hp] at h3 ⊢
    exact mv_self h3
  · rw [upCode_iff (mv_ord t q r)]
    obtain ⟨e, he, hp⟩ := m.src
    rcases m.tok.par he with h6 | ⟨f, hf, hfp, hfd⟩
    · exact .inl (hp ▸ h6)
    · refine .inr ⟨movedE q r f, m.mem.2 ⟨f, hf, rfl⟩, ?_, hfd⟩
      show moveL f.p q r = upL q
      rw [hp] at hfp
      rw [move_stay (m.all f hf), hfp]
      rintro (h5 | h5)
      · exact up_ne m.pq (hfp ▸ h5)
      · have := under_anti (up_under m.pq)
        rw [← hfp, h5] at this; cases this
  · obtain ⟨e, he, hp⟩ := m.src
    have := m.no_under he
    rw [hp] at this; exact this
  · obtain ⟨e, he, rfl⟩ := m.mem.1 hx
    exact (m.back_e he).1
theorem MV.back_eq (m : MV t q r) : mvL (mvL t q r) r q = t := by
  refine ord_ext (mv_ord _ _ _) m.tok.ordP fun x => ?_
  rw [m.back.mem]
  constructor
  · rintro ⟨y, hy, rfl⟩
    obtain ⟨e, he, rfl⟩ := m.mem.1 hy
    rw [(m.back_e he).2]; exact he
  · intro hx
    exact ⟨movedE q r x, m.mem.2 ⟨x, hx, rfl⟩, (m.back_e hx).2⟩
/-- By way of another place. -/
theorem MV.via {v : Bs} (m : MV t q r) (n : MV t q v) (hne : r ≠ v) : MV (mvL t q v) v r ∧ mvL (mvL t q v) v r = mvL t q r := by
  have hruv : underL r v = false := by
    cases hu : underL r v with
    | false => rfl
    | true =>
      exfalso
      have h1 := under_up (b := v) m.pr
      rw [hu] at h1
      simp only [Bool.true_eq, Bool.or_eq_true, beq_iff_eq] at h1
      rcases (upCode_iff m.tok.ordP).1 m.up with h2 | ⟨f, hf, hfp, _⟩
      · rw [h2] at h1
        rcases h1 with h3 | h3
        · have := n.pr; rw [h3, root_no] at this; cases this
        · have := under_path h3; rw [root_no] at this; cases this
      · rw [← hfp] at h1
        rcases h1 with h3 | h3
        · exact n.free f hf h3.symm
        · rw [n.no_under hf] at h3; cases h3
  have hall : ∀ e ∈ t, moveOkL (moveL e.p q v) v r = true ∧ moveL (moveL e.p q v) v r = moveL e.p q r := fun e he => by
    by_cases h1 : e.p = q ∨ underL e.p q = true
    · have h2 := law_via (n.all e he) m.pr h1
      exact ⟨h2.1.trans (m.all e he), h2.2⟩
    · rw [move_stay (n.all e he) h1, move_stay (m.all e he) h1]
      have hp := moveOk_paths (m.all e he)
      have hok : moveOkL e.p v r = true := by simp [moveOkL, hp.1, n.pr, m.pr, moved, n.out he]
      exact ⟨hok, move_stay hok (n.out he)⟩
  have hM : MV (mvL t q v) v r := by
    refine ⟨n.tok', n.pr, m.pr, n.back.src.elim fun _ _ => ?_, ?_, fun x hx hxr => ?_, hruv, fun x hx => ?_⟩
    · obtain ⟨e, he, hp⟩ := n.src
      refine ⟨movedE q v e, n.mem.2 ⟨e, he, rfl⟩, ?_⟩
      show moveL e.p q v = v
      have h3 := n.all e he
      rw [hp] at h3 ⊢
      exact mv_self h3
    · rw [upCode_iff (mv_ord _ _ _)]
      rcases (upCode_iff m.tok.ordP).1 m.up with h6 | ⟨f, hf, hfp, hfd⟩
      · exact .inl h6
      · refine .inr ⟨movedE q v f, n.mem.2 ⟨f, hf, rfl⟩, ?_, hfd⟩
        show moveL f.p q v = upL r
        rw [move_stay (n.all f hf), hfp]
        rintro (h5 | h5)
        · have := up_under m.pr
          rw [← hfp, h5, m.nun] at this; cases this
        · have := under_trans (up_under m.pr) (hfp ▸ h5)
          rw [m.nun] at this; cases this
    · obtain ⟨e, he, rfl⟩ := n.mem.1 hx
      have hxr : moveL e.p q v = r := hxr
      by_cases h1 : e.p = q ∨ underL e.p q = true
      · rcases mv_in (n.all e he) h1 with h2 | h2
        · exact hne (hxr.symm.trans h2)
        · rw [hxr, hruv] at h2; cases h2
      · rw [move_stay (n.all e he) h1] at hxr
        exact m.free e he hxr
    · obtain ⟨e, he, rfl⟩ := n.mem.1 hx
      exact (hall e he).1
  refine ⟨hM, ord_ext (mv_ord _ _ _) (mv_ord _ _ _) fun x => ?_⟩
  rw [hM.mem, m.mem]
  constructor
  · rintro ⟨y, hy, rfl⟩
    obtain ⟨e, he, rfl⟩ := n.mem.1 hy
    refine ⟨e, he, ?_⟩
    obtain ⟨p, d, z⟩ := e
    show PE.mk (moveL p q r) d z = PE.mk (moveL (moveL p q v) v r) d z
    rw [(hall _ he).2]
  · rintro ⟨e, he, rfl⟩
    refine ⟨movedE q v e, n.mem.2 ⟨e, he, rfl⟩, ?_⟩
    obtain ⟨p, d, z⟩ := e
    show PE.mk (moveL (moveL p q v) v r) d z = PE.mk (moveL p q r) d z
    rw [(hall _ he).2]
end
end Go.Proofs.YtobbodbkdcbflaaDoor
namespace Go.Proofs.YtobbodbkdcbflaaDoor
open Go.Op
/-- The paths at which two ordered lists have not the same, as the program finds them. -/
def mergeL : List PE → List PE → List Bs
  | [], b => b.map PE.p
  | x :: a, [] => (x :: a).map PE.p
  | x :: a, y :: b => if bytesLess x.p y.p = true then x.p :: mergeL a (y :: b) else if bytesLess y.p x.p = true then y.p :: mergeL (x :: a) b else if x = y then mergeL a b else x.p :: mergeL a b
termination_by a b => a.length + b.length
/-- As the reference finds them. -/
def turnedL (a b : List PE) : List Bs := ((b.foldl (putP PE.p) a).filter fun e => decide (atP PE.p a e.p ≠ atP PE.p b e.p)).map PE.p
theorem at_lt {α : Type} {f : α → Bs} {t : List α} {s : Bs} (h : ∀ e ∈ t, bytesLess s (f e) = true) : atP f t s = none :=
  atP_none.2 fun e he h2 => by have := h e he; rw [h2, less_irrefl] at this; cases this
theorem at_cons_lt {α : Type} {f : α → Bs} {y : α} {b : List α} {s : Bs} (hb : OrdP f (y :: b)) (h : bytesLess s (f y) = true) : atP f (y :: b) s = none := by
  rw [ordP_cons] at hb
  refine at_lt fun e he => ?_
  rcases List.mem_cons.1 he with rfl | he
  · exact h
  · exact less_trans h (hb.1 e he)
theorem mem_merge : ∀ {a b : List PE}, OrdP PE.p a → OrdP PE.p b → ∀ s, s ∈ mergeL a b ↔ atP PE.p a s ≠ atP PE.p b s := by
  intro a b
  induction a, b using mergeL.induct with
  | case1 b =>
    intro _ hb s
    rw [mergeL, List.mem_map]
    show _ ↔ none ≠ _
    constructor
    · rintro ⟨e, he, rfl⟩
      rw [atP_mem hb he]; simp
    · intro h
      cases hc : atP PE.p b s with
      | none => rw [hc] at h; exact absurd rfl h
      | some e => exact ⟨e, atP_some hc⟩
  | case2 x a =>
    intro ha _ s
    rw [mergeL, List.mem_map]
    show _ ↔ _ ≠ none
    constructor
    · rintro ⟨e, he, rfl⟩
      rw [atP_mem ha he]; simp
    · intro h
      cases hc : atP PE.p (x :: a) s with
      | none => exact absurd hc h
      | some e => exact ⟨e, atP_some hc⟩
  | case3 x a y b h1 ih =>
    intro ha hb s
    rw [mergeL, if_pos h1, List.mem_cons, ih (ordP_cons.1 ha).2 hb]
    by_cases hs : x.p = s
    · have e1 : atP PE.p (x :: a) s = some x := by rw [atP, if_pos hs]
      have e2 : atP PE.p (y :: b) s = none := at_cons_lt hb (hs ▸ h1)
      rw [e1, e2]; simp [hs]
    · have e1 : atP PE.p (x :: a) s = atP PE.p a s := by rw [atP, if_neg hs]
      rw [e1]
      constructor
      · rintro (h | h)
        · exact absurd h.symm hs
        · exact h
      · exact .inr
  | case4 x a y b h1 h2 ih =>
    intro ha hb s
    rw [mergeL, if_neg h1, if_pos h2, List.mem_cons, ih ha (ordP_cons.1 hb).2]
    by_cases hs : y.p = s
    · have e1 : atP PE.p (y :: b) s = some y := by rw [atP, if_pos hs]
      have e2 : atP PE.p (x :: a) s = none := at_cons_lt ha (hs ▸ h2)
      rw [e1, e2]; simp [hs]
    · have e1 : atP PE.p (y :: b) s = atP PE.p b s := by rw [atP, if_neg hs]
      rw [e1]
      constructor
      · rintro (h | h)
        · exact absurd h.symm hs
        · exact h
      · exact .inr
  | case5 a x b h1 h2 ih =>
    intro ha hb s
    rw [mergeL, if_neg h1, if_neg h2, if_pos rfl, ih (ordP_cons.1 ha).2 (ordP_cons.1 hb).2, atP, atP]
    by_cases hs : x.p = s
    · have e1 : atP PE.p a s = none := at_lt fun e he => hs ▸ (ordP_cons.1 ha).1 e he
      have e2 : atP PE.p b s = none := at_lt fun e he => hs ▸ (ordP_cons.1 hb).1 e he
      rw [if_pos hs, if_pos hs, e1, e2]; simp
    · rw [if_neg hs, if_neg hs]
  | case6 x a y b h1 h2 h3 ih =>
    intro ha hb s
    have he : x.p = y.p := by
      rcases less_total x.p y.p with h | h | h
      · exact absurd h h1
      · exact h
      · exact absurd h h2
    rw [mergeL, if_neg h1, if_neg h2, if_neg h3, List.mem_cons, ih (ordP_cons.1 ha).2 (ordP_cons.1 hb).2, atP, atP]
    by_cases hs : x.p = s
    · rw [if_pos hs, if_pos (he ▸ hs)]
      simp [hs, h3]
    · rw [if_neg hs, if_neg (he ▸ hs)]
      constructor
      · rintro (h | h)
        · exact absurd h.symm hs
        · exact h
      · exact .inr
theorem merge_from {a b : List PE} (ha : OrdP PE.p a) (hb : OrdP PE.p b) {s : Bs} (h : s ∈ mergeL a b) : (∃ e ∈ a, e.p = s) ∨ ∃ e ∈ b, e.p = s := by
  rw [mem_merge ha hb] at h
  cases h1 : atP PE.p a s with
  | some e => exact .inl ⟨e, atP_some h1⟩
  | none =>
    cases h2 : atP PE.p b s with
    | some e => exact .inr ⟨e, atP_some h2⟩
    | none => rw [h1, h2] at h; exact absurd rfl h
theorem ord_map {t : List PE} (h : OrdP PE.p t) : OrdP id (t.map PE.p) := by
  unfold OrdP at *
  rw [List.pairwise_map]; exact h
theorem ord_merge : ∀ {a b : List PE}, OrdP PE.p a → OrdP PE.p b → OrdP id (mergeL a b) := by
  intro a b
  induction a, b using mergeL.induct with
  | case1 b => intro _ hb; rw [mergeL]; exact ord_map hb
  | case2 x a => intro ha _; rw [mergeL]; exact ord_map ha
  | case3 x a y b h1 ih =>
    intro ha hb
    rw [mergeL, if_pos h1, ordP_cons]
    refine ⟨fun s hs => ?_, ih (ordP_cons.1 ha).2 hb⟩
    rcases merge_from (ordP_cons.1 ha).2 hb hs with ⟨e, he, rfl⟩ | ⟨e, he, rfl⟩
    · exact (ordP_cons.1 ha).1 e he
    · rcases List.mem_cons.1 he with rfl | he
      · exact h1
      · exact less_trans h1 ((ordP_cons.1 hb).1 e he)
  | case4 x a y b h1 h2 ih =>
    intro ha hb
    rw [mergeL, if_neg h1, if_pos h2, ordP_cons]
    refine ⟨fun s hs => ?_, ih ha (ordP_cons.1 hb).2⟩
    rcases merge_from ha (ordP_cons.1 hb).2 hs with ⟨e, he, rfl⟩ | ⟨e, he, rfl⟩
    · rcases List.mem_cons.1 he with rfl | he
      · exact h2
      · exact less_trans h2 ((ordP_cons.1 ha).1 e he)
    · exact (ordP_cons.1 hb).1 e he
  | case5 a x b h1 h2 ih =>
    intro ha hb
    rw [mergeL, if_neg h1, if_neg h2, if_pos rfl]
    exact ih (ordP_cons.1 ha).2 (ordP_cons.1 hb).2
  | case6 x a y b h1 h2 h3 ih =>
    intro ha hb
    have he : x.p = y.p := by
      rcases less_total x.p y.p with h | h | h
      · exact absurd h h1
      · exact h
      · exact absurd h h2
    rw [mergeL, if_neg h1, if_neg h2, if_neg h3, ordP_cons]
    refine ⟨fun s hs => ?_, ih (ordP_cons.1 ha).2 (ordP_cons.1 hb).2⟩
    rcases merge_from (ordP_cons.1 ha).2 (ordP_cons.1 hb).2 hs with ⟨e, h4, rfl⟩ | ⟨e, h4, rfl⟩
    · exact (ordP_cons.1 ha).1 e h4
    · show bytesLess x.p e.p = true
      rw [he]; exact (ordP_cons.1 hb).1 e h4
theorem mem_turned {a b : List PE} (ha : OrdP PE.p a) (hb : OrdP PE.p b) (s : Bs) : s ∈ turnedL a b ↔ atP PE.p a s ≠ atP PE.p b s := by
  unfold turnedL
  rw [List.mem_map]
  constructor
  · rintro ⟨e, he, rfl⟩
    simpa using (List.mem_filter.1 he).2
  · intro h
    have h1 := atP_fold hb.dis ha s
    have h2 : ∃ e, atP PE.p (b.foldl (putP PE.p) a) s = some e := by
      rw [h1]
      cases hc : atP PE.p b s with
      | some e => exact ⟨e, rfl⟩
      | none =>
        cases hd : atP PE.p a s with
        | some e => exact ⟨e, rfl⟩
        | none => rw [hc, hd] at h; exact absurd rfl h
    obtain ⟨e, he⟩ := h2
    obtain ⟨h3, h4⟩ := atP_some he
    exact ⟨e, List.mem_filter.2 ⟨h3, by rw [h4]; simpa using h⟩, h4⟩
theorem ord_turned {a b : List PE} (ha : OrdP PE.p a) : OrdP id (turnedL a b) := ord_map ((ord_fold ha).filter _)
theorem merge_turned {a b : List PE} (ha : OrdP PE.p a) (hb : OrdP PE.p b) : mergeL a b = turnedL a b :=
  ord_ext (ord_merge ha hb) (ord_turned ha) fun s => by rw [mem_merge ha hb, mem_turned ha hb]
theorem turned_comm {a b : List PE} (ha : OrdP PE.p a) (hb : OrdP PE.p b) : turnedL a b = turnedL b a :=
  ord_ext (ord_turned ha) (ord_turned hb) fun s => by rw [mem_turned ha hb, mem_turned hb ha]; exact ⟨Ne.symm, Ne.symm⟩
theorem turned_self {a : List PE} (ha : OrdP PE.p a) : turnedL a a = [] := by
  cases h : turnedL a a with
  | nil => rfl
  | cons s r => have := (mem_turned ha ha s).1 (by simp [h]); exact absurd rfl this
theorem turned_nil {a b : List PE} (ha : OrdP PE.p a) (hb : OrdP PE.p b) : turnedL a b = [] ↔ a = b := by
  constructor
  · intro h
    refine ord_ext_at ha hb fun q => ?_
    have := (mem_turned ha hb q)
    rw [h] at this
    exact Classical.byContradiction fun h2 => by have := this.2 h2; cases this
  · rintro rfl; exact turned_self ha
theorem turned_len {a b : List PE} : (turnedL a b).length ≤ a.length + b.length := by
  unfold turnedL
  rw [List.length_map]
  refine Nat.le_trans (List.length_filter_le _ _) ?_
  induction b generalizing a with
  | nil => simp
  | cons y b ih =>
    rw [List.foldl_cons]
    refine Nat.le_trans (ih (a := putP PE.p a y)) ?_
    have : (putP PE.p a y).length ≤ a.length + 1 := by
      clear ih
      induction a with
      | nil => simp [putP]
      | cons x a ih =>
        unfold putP
        split
        · simp only [List.length_cons]; omega
        · split <;> simp
    simp only [List.length_cons]; omega
end Go.Proofs.YtobbodbkdcbflaaDoor
namespace Go.Proofs.YtobbodbkdcbflaaDoor
open Go.Op
/-- A mark, plainly. -/
structure PM where
  p : Bs
  k : Int
  x : Bs
deriving DecidableEq
def markOkL (m : PM) : Bool := decide (1 ≤ m.k) && decide (m.k ≤ 4) && pathOkL m.p && dataOkL m.x && (decide (m.k = 1) || m.x == [])
def dirM (m : PM) : Bool := decide (m.k = 2) || decide (m.k = 4)
def upM (l : List PM) (q : Bs) : Bool := upL q == [47] || match atP PM.p l (upL q) with
  | some m => dirM m
  | none => false
def bareL (l : List PM) (q : Bs) : Bool := l.any fun m => decide (m.k = 4) && underL q m.p
def hidesL (l : List PM) (q : Bs) : Bool := l.any fun m => decide (m.k ≠ 2) && (m.p == q || underL q m.p)
/-- A right layer. -/
structure LOk (l : List PM) : Prop where
  most : l.length ≤ 32
  mks : ∀ m ∈ l, markOkL m = true
  ord : OrdP PM.p l
  up : ∀ m ∈ l, upM l m.p = true
  bare : ∀ m ∈ l, 2 < m.k → bareL l m.p = false
/-- What is asked of the mark at place j: as the program asks. -/
def MAskI (l : List PM) (j : Nat) (m : PM) : Prop := markOkL m = true ∧ (∀ f, 0 < j → l[j - 1]? = some f → bytesLess f.p m.p = true) ∧ upM l m.p = true ∧ (2 < m.k → bareL l m.p = false)
/-- As the reference asks: of those ahead. -/
def MAskS (l : List PM) (j : Nat) (m : PM) : Prop := markOkL m = true ∧ (∀ f, 0 < j → l[j - 1]? = some f → bytesLess f.p m.p = true) ∧ upM (l.take j) m.p = true ∧ (2 < m.k → bareL (l.take j) m.p = false)
theorem markOk_path {m : PM} (h : markOkL m = true) : pathOkL m.p = true := by simp [markOkL] at h; exact h.1.1.2
theorem markOk_data {m : PM} (h : markOkL m = true) : dataOkL m.x = true := by simp [markOkL] at h; exact h.1.2
theorem markOk_kind {m : PM} (h : markOkL m = true) : 1 ≤ m.k ∧ m.k ≤ 4 := by simp [markOkL] at h; exact h.1.1.1
theorem markOk_none {m : PM} (h : markOkL m = true) (hk : m.k ≠ 1) : m.x = [] := by simp [markOkL, hk] at h; exact h.2
theorem LOk.pth {l : List PM} (h : LOk l) {m : PM} (hm : m ∈ l) : pathOkL m.p = true := markOk_path (h.mks m hm)
theorem ordP_of {α : Type} {f : α → Bs} (t : List α) (h : ∀ (j : Nat) (e g : α), t[j]? = some e → 0 < j → t[j - 1]? = some g → bytesLess (f g) (f e) = true) : OrdP f t := by
  have key : ∀ (d i : Nat) (g e : α), t[i]? = some g → t[i + d + 1]? = some e → bytesLess (f g) (f e) = true := by
    intro d
    induction d with
    | zero => intro i g e hf he; exact h (i + 1) e g he (by omega) (by simpa using hf)
    | succ d ih =>
      intro i g e hf he
      have hl : i + (d + 1) + 1 < t.length := (List.getElem?_eq_some_iff.1 he).1
      have hg : t[i + d + 1]? = some (t[i + d + 1]'(by omega)) := List.getElem?_eq_getElem (by omega)
      have h1 := ih i g _ hf hg
      have h2 := h (i + (d + 1) + 1) e (t[i + d + 1]'(by omega)) he (by omega) (by rw [show i + (d + 1) + 1 - 1 = i + d + 1 by omega]; exact hg)
      exact less_trans h1 h2
  rw [OrdP, List.pairwise_iff_getElem]
  intro i j hi hj hij
  obtain ⟨d, rfl⟩ : ∃ d, j = i + d + 1 := ⟨j - i - 1, by omega⟩
  exact key d i _ _ (List.getElem?_eq_getElem hi) (List.getElem?_eq_getElem hj)
theorem ordP_at {α : Type} {f : α → Bs} {t : List α} (h : OrdP f t) {i j : Nat} {g e : α} (hij : i < j) (hf : t[i]? = some g) (he : t[j]? = some e) : bytesLess (f g) (f e) = true := by
  obtain ⟨h1, h2⟩ := List.getElem?_eq_some_iff.1 hf
  obtain ⟨h3, h4⟩ := List.getElem?_eq_some_iff.1 he
  have := (List.pairwise_iff_getElem.1 h) i j h1 h3 hij
  rw [h2, h4] at this
  exact this
theorem lok_iff (l : List PM) : LOk l ↔ l.length ≤ 32 ∧ ∀ (j : Nat) (m : PM), l[j]? = some m → MAskI l j m := by
  constructor
  · intro h
    refine ⟨h.most, fun j e he => ?_⟩
    have hm := List.mem_of_getElem? he
    exact ⟨h.mks e hm, fun f hj hf => ordP_at h.ord (by omega) hf he, h.up e hm, h.bare e hm⟩
  · rintro ⟨h1, h2⟩
    refine ⟨h1, fun e he => ?_, ordP_of l (fun j e f he hj hf => (h2 j e he).2.1 f hj hf), fun e he => ?_, fun e he => ?_⟩
    · obtain ⟨j, hj⟩ := List.getElem?_of_mem he
      exact (h2 j e hj).1
    · obtain ⟨j, hj⟩ := List.getElem?_of_mem he
      exact (h2 j e hj).2.2.1
    · obtain ⟨j, hj⟩ := List.getElem?_of_mem he
      exact (h2 j e hj).2.2.2
/-- In an ordered list what stands below q stands ahead of j, if q is at j or below. -/
theorem at_take {α : Type} {f : α → Bs} {t : List α} (h : OrdP f t) {j : Nat} {e : α} (he : t[j]? = some e) {q : Bs} (hq : bytesLess q (f e) = true) : atP f (t.take j) q = atP f t q := by
  conv => rhs; rw [← List.take_append_drop j t, atP_append]
  cases hc : atP f (t.take j) q with
  | some g => rfl
  | none =>
    symm
    show atP f (t.drop j) q = none
    rw [atP_none]
    intro g hg hge
    obtain ⟨i, hi⟩ := List.getElem?_of_mem hg
    rw [List.getElem?_drop] at hi
    by_cases h0 : i = 0
    · subst h0
      rw [Nat.add_zero, he] at hi
      injection hi with hi
      subst hi
      rw [hge, less_irrefl] at hq; cases hq
    · have := ordP_at h (by omega) he hi
      rw [hge] at this
      have := less_trans hq this
      rw [less_irrefl] at this; cases this
theorem upM_take {l : List PM} (h : OrdP PM.p l) {j : Nat} {m : PM} (hm : l[j]? = some m) (hp : pathOkL m.p = true) : upM (l.take j) m.p = upM l m.p := by
  unfold upM
  by_cases hr : upL m.p = [47]
  · simp [hr]
  · rw [at_take h hm (up_less hp hr)]
theorem bare_take {l : List PM} (h : OrdP PM.p l) {j : Nat} {m : PM} (hm : l[j]? = some m) (hp : ∀ e ∈ l, pathOkL e.p = true) : bareL (l.take j) m.p = bareL l m.p := by
  rw [Bool.eq_iff_iff]
  unfold bareL
  rw [List.any_eq_true, List.any_eq_true]
  constructor
  · rintro ⟨x, hx, h1⟩; exact ⟨x, List.mem_of_mem_take hx, h1⟩
  · rintro ⟨x, hx, h1⟩
    refine ⟨x, ?_, h1⟩
    simp only [Bool.and_eq_true] at h1
    have hl := under_less h1.2 (hp x hx)
    obtain ⟨i, hi⟩ := List.getElem?_of_mem hx
    by_cases hij : i < j
    · exact List.mem_of_getElem? (i := i) (by rw [List.getElem?_take, if_pos hij]; exact hi)
    · exfalso
      by_cases e : i = j
      · subst e
        rw [hm] at hi; injection hi with hi; subst hi
        rw [less_irrefl] at hl; cases hl
      · have := ordP_at h (by omega) hm hi
        have := less_trans hl this
        rw [less_irrefl] at this; cases this
theorem lok_iffS (l : List PM) : LOk l ↔ l.length ≤ 32 ∧ ∀ (j : Nat) (m : PM), l[j]? = some m → MAskS l j m := by
  rw [lok_iff]
  constructor
  · rintro ⟨h1, h2⟩
    have ho := ordP_of l (fun j e f he hj hf => (h2 j e he).2.1 f hj hf)
    have hp : ∀ e ∈ l, pathOkL e.p = true := fun e he => by
      obtain ⟨j, hj⟩ := List.getElem?_of_mem he
      exact markOk_path (h2 j e hj).1
    refine ⟨h1, fun j e he => ?_⟩
    obtain ⟨a, b, c, d⟩ := h2 j e he
    exact ⟨a, b, by rw [upM_take ho he (markOk_path a)]; exact c, fun hk => by rw [bare_take ho he hp]; exact d hk⟩
  · rintro ⟨h1, h2⟩
    have ho := ordP_of l (fun j e f he hj hf => (h2 j e he).2.1 f hj hf)
    have hp : ∀ e ∈ l, pathOkL e.p = true := fun e he => by
      obtain ⟨j, hj⟩ := List.getElem?_of_mem he
      exact markOk_path (h2 j e hj).1
    refine ⟨h1, fun j e he => ?_⟩
    obtain ⟨a, b, c, d⟩ := h2 j e he
    exact ⟨a, b, by rw [← upM_take ho he (markOk_path a)]; exact c, fun hk => by rw [← bare_take ho he hp]; exact d hk⟩
theorem LOk.par {l : List PM} (h : LOk l) {m : PM} (hm : m ∈ l) : upL m.p = [47] ∨ ∃ f ∈ l, f.p = upL m.p ∧ dirM f = true := by
  have h1 := h.up m hm
  unfold upM at h1
  simp only [Bool.or_eq_true, beq_iff_eq] at h1
  rcases h1 with h1 | h1
  · exact .inl h1
  · cases hc : atP PM.p l (upL m.p) with
    | none => rw [hc] at h1; cases h1
    | some f =>
      rw [hc] at h1
      obtain ⟨h2, h3⟩ := atP_some hc
      exact .inr ⟨f, h2, h3, h1⟩
theorem upM_of {l : List PM} (h : OrdP PM.p l) {q : Bs} : upM l q = true ↔ upL q = [47] ∨ ∃ f ∈ l, f.p = upL q ∧ dirM f = true := by
  unfold upM
  simp only [Bool.or_eq_true, beq_iff_eq]
  constructor
  · rintro (h1 | h1)
    · exact .inl h1
    · cases hc : atP PM.p l (upL q) with
      | none => rw [hc] at h1; cases h1
      | some f =>
        rw [hc] at h1
        obtain ⟨h2, h3⟩ := atP_some hc
        exact .inr ⟨f, h2, h3, h1⟩
  · rintro (h1 | ⟨f, hf, hfp, hd⟩)
    · exact .inl h1
    · refine .inr ?_
      rw [(atP_iff h).2 ⟨hf, hfp⟩]; exact hd
theorem LOk.same {l : List PM} (h : LOk l) {e f : PM} (he : e ∈ l) (hf : f ∈ l) (hp : e.p = f.p) : e = f := by
  have h1 := (atP_iff h.ord).2 ⟨he, rfl⟩
  have h2 := (atP_iff h.ord).2 ⟨hf, hp.symm⟩
  rw [h1] at h2
  injection h2
/-- What a mark is below has marks of directories on the way. -/
theorem LOk.anc {l : List PM} (h : LOk l) {m : PM} (hm : m ∈ l) {q : Bs} (hq : pathOkL q = true) (hu : underL m.p q = true) : ∃ f ∈ l, f.p = q ∧ dirM f = true := by
  have key : ∀ n, ∀ e ∈ l, e.p.length ≤ n → underL e.p q = true → ∃ f ∈ l, f.p = q ∧ dirM f = true := by
    intro n
    induction n with
    | zero =>
      intro e he hl
      have := (path_len (h.pth he)).1
      omega
    | succ n ih =>
      intro e he hl hu
      have hp := h.pth he
      have hup := under_up (b := q) hp
      rw [hu] at hup
      simp only [Bool.true_eq, Bool.or_eq_true, beq_iff_eq] at hup
      rcases h.par he with hr | ⟨f, hf, hfp, hfd⟩
      · rw [hr] at hup
        rcases hup with h1 | h1
        · subst h1; rw [root_no] at hq; cases hq
        · have := under_path h1; rw [root_no] at this; cases this
      · rcases hup with h1 | h1
        · exact ⟨f, hf, hfp.trans h1.symm, hfd⟩
        · have hne : upL e.p ≠ [47] := by
            intro hr; rw [hr] at h1; have := under_path h1; rw [root_no] at this; cases this
          have := up_len hp hne
          rw [← hfp] at h1 this
          exact ih f hf (by omega) h1
  exact key _ m hm (Nat.le_refl _) hu
theorem hides_iff {l : List PM} {q : Bs} : hidesL l q = true ↔ ∃ m ∈ l, m.k ≠ 2 ∧ (m.p = q ∨ underL q m.p = true) := by
  unfold hidesL
  rw [List.any_eq_true]
  simp
theorem bare_iff {l : List PM} {q : Bs} : bareL l q = true ↔ ∃ m ∈ l, m.k = 4 ∧ underL q m.p = true := by
  unfold bareL
  rw [List.any_eq_true]
  simp
theorem hides_down {l : List PM} {q s : Bs} (h : hidesL l q = true) (hu : underL s q = true) : hidesL l s = true := by
  rw [hides_iff] at h ⊢
  obtain ⟨m, hm, hk, h1 | h1⟩ := h
  · exact ⟨m, hm, hk, .inr (h1 ▸ hu)⟩
  · exact ⟨m, hm, hk, .inr (under_trans hu h1)⟩
theorem hides_path {l : List PM} (h : LOk l) {q : Bs} (hh : hidesL l q = true) : pathOkL q = true := by
  obtain ⟨m, hm, _, h1 | h1⟩ := hides_iff.1 hh
  · exact h1 ▸ h.pth hm
  · exact under_path h1
/-! A layer on a tree. -/
def toE (m : PM) : PE := ⟨m.p, dirM m, m.x⟩
/-- What the program has before it sorts. -/
def onRaw (l : List PM) (t : List PE) : List PE := (t.filter fun e => (atP PM.p l e.p).isNone && !hidesL l e.p) ++ (l.filter fun m => decide (m.k ≠ 3)).map toE
def onL (l : List PM) (t : List PE) : List PE := ((l.filter fun m => decide (m.k ≠ 3)).map toE).foldl (putP PE.p) (t.filter fun e => !hidesL l e.p)
theorem map_dis {α β : Type} {f : α → Bs} {g : β → Bs} {u : List α} (h : α → β) (hp : ∀ a, g (h a) = f a) (hd : DisP f u) : DisP g (u.map h) := by
  unfold DisP at *
  rw [List.pairwise_map]
  exact List.Pairwise.imp (fun {a b} hab => by rw [hp, hp]; exact hab) hd
theorem atP_map {α β : Type} {f : α → Bs} {g : β → Bs} (u : List α) (h : α → β) (hp : ∀ a, g (h a) = f a) (q : Bs) : atP g (u.map h) q = (atP f u q).map h := by
  induction u with
  | nil => rfl
  | cons a r ih =>
    rw [List.map_cons, atP, atP, hp]
    split
    · rfl
    · exact ih
theorem dis_filter {α : Type} {f : α → Bs} {u : List α} (hd : DisP f u) (p : α → Bool) : DisP f (u.filter p) := List.Pairwise.filter p hd
theorem on_dis {l : List PM} (h : OrdP PM.p l) : DisP PE.p ((l.filter fun m => decide (m.k ≠ 3)).map toE) := map_dis (f := PM.p) toE (fun _ => rfl) (dis_filter h.dis _)
theorem on_ord (l : List PM) {t : List PE} (ht : OrdP PE.p t) : OrdP PE.p (onL l t) := ord_fold (ht.filter _)
theorem filt_at {α : Type} {f : α → Bs} {t : List α} (h : OrdP f t) (p : α → Bool) (q : Bs) : atP f (t.filter p) q = match atP f t q with
    | some e => if p e = true then some e else none
    | none => none := by
  refine opt_ext fun e => ?_
  rw [atP_filter h]
  cases hc : atP f t q with
  | none => simp
  | some g =>
    constructor
    · rintro ⟨h1, h2⟩
      injection h1 with h1; subst h1
      show (if p g = true then some g else none) = some g
      rw [if_pos h2]
    · intro h1
      have h1 : (if p g = true then some g else none) = some e := h1
      split at h1
      · next h2 => injection h1 with h1; subst h1; exact ⟨rfl, h2⟩
      · cases h1
theorem at_on {l : List PM} (h : OrdP PM.p l) {t : List PE} (ht : OrdP PE.p t) (q : Bs) : atP PE.p (onL l t) q = match atP PM.p l q with
    | some m => if m.k = 3 then none else some (toE m)
    | none => if hidesL l q = true then none else atP PE.p t q := by
  rw [onL, atP_fold (on_dis h) (ht.filter _), atP_map (f := PM.p) _ toE (fun _ => rfl), filt_at h, filt_at ht]
  cases hc : atP PM.p l q with
  | some m =>
    obtain ⟨h1, h2⟩ := atP_some hc
    by_cases hk : m.k = 3
    · simp only [hk]
      cases hd : atP PE.p t q with
      | none => simp
      | some e =>
        have hh : hidesL l e.p = true := hides_iff.2 ⟨m, h1, by omega, .inl (by rw [h2, (atP_some hd).2])⟩
        simp [hh]
    · simp [hk]
  | none =>
    cases hd : atP PE.p t q with
    | none => simp
    | some e =>
      rw [← (atP_some hd).2]
      cases hh : hidesL l e.p <;> simp [hh]
theorem on_raw_mem {l : List PM} (h : OrdP PM.p l) {t : List PE} (ht : OrdP PE.p t) (e : PE) : e ∈ onRaw l t ↔ e ∈ onL l t := by
  have h2 : e ∈ onL l t ↔ atP PE.p (onL l t) e.p = some e := by rw [atP_iff (on_ord l ht)]; simp
  rw [h2, at_on h ht, onRaw, List.mem_append, List.mem_filter, List.mem_map]
  cases hc : atP PM.p l e.p with
  | some m =>
    obtain ⟨h3, h4⟩ := atP_some hc
    simp only [Option.isNone_some, Bool.false_and, Bool.false_eq_true, and_false, false_or]
    constructor
    · rintro ⟨m', hm', rfl⟩
      obtain ⟨h5, h6⟩ := List.mem_filter.1 hm'
      have : m = m' := by
        have h7 := (atP_iff h).2 ⟨h5, rfl⟩
        rw [show m'.p = (toE m').p from rfl, hc] at h7
        injection h7
      subst this
      simp only [decide_eq_true_eq] at h6
      rw [if_neg h6]
    · intro h5
      split at h5
      · cases h5
      · next h6 => injection h5 with h5; exact ⟨m, List.mem_filter.2 ⟨h3, by simpa using h6⟩, h5⟩
  | none =>
    have h3 : ¬ ∃ a, a ∈ l.filter (fun m => decide (m.k ≠ 3)) ∧ toE a = e := by
      rintro ⟨m', hm', rfl⟩
      exact atP_none.1 hc m' (List.mem_filter.1 hm').1 rfl
    simp only [Option.isNone_none, Bool.true_and, h3, or_false, Bool.not_eq_true']
    cases hh : hidesL l e.p with
    | true => simp
    | false =>
      simp only [Bool.false_eq_true, if_false, atP_iff ht, and_true]
theorem on_raw_dis {l : List PM} (h : OrdP PM.p l) {t : List PE} (ht : OrdP PE.p t) : DisP PE.p (onRaw l t) := by
  unfold onRaw DisP
  rw [List.pairwise_append]
  refine ⟨dis_filter ht.dis _, on_dis h, fun a ha b hb => ?_⟩
  obtain ⟨m, hm, rfl⟩ := List.mem_map.1 hb
  have h1 := (List.mem_filter.1 ha).2
  simp only [Bool.and_eq_true, Option.isNone_iff_eq_none] at h1
  intro he
  exact atP_none.1 h1.1 m (List.mem_filter.1 hm).1 he.symm
theorem on_of_raw {l : List PM} (h : OrdP PM.p l) {t : List PE} (ht : OrdP PE.p t) {s : List PE} (hp : s.Perm (onRaw l t)) (hs : s.Pairwise fun a b => bytesLess b.p a.p = false) : s = onL l t := by
  refine ord_ext (ord_of_sorted hp (on_raw_dis h ht) hs) (on_ord l ht) fun e => ?_
  rw [hp.mem_iff, on_raw_mem h ht]
theorem perm_of_mem {α : Type} {f : α → Bs} {a b : List α} (ha : DisP f a) (hb : OrdP f b) (h : ∀ e, e ∈ a ↔ e ∈ b) : a.length = b.length := by
  have h1 : a.foldl (putP f) [] = b := ord_ext (ord_fold ord_nil) hb fun e => by rw [mem_fold ha ord_nil, ← h]; simp
  rw [← h1, fold_len ha ord_nil (fun y _ x hx => by cases hx)]; simp
theorem on_raw_len {l : List PM} (h : OrdP PM.p l) {t : List PE} (ht : OrdP PE.p t) : (onRaw l t).length = (onL l t).length :=
  perm_of_mem (on_raw_dis h ht) (on_ord l ht) (on_raw_mem h ht)
theorem on_tok {l : List PM} (h : LOk l) {t : List PE} (ht : TOk t) (hl : (onL l t).length ≤ 16) : TOk (onL l t) := by
  have ho := on_ord l ht.ordP
  have hmem : ∀ e, e ∈ onL l t ↔ atP PE.p (onL l t) e.p = some e := fun e => by rw [atP_iff ho]; simp
  refine ⟨hl, fun e he => ?_, ho, fun e he => ?_⟩
  · rw [← on_raw_mem h.ord ht.ordP, onRaw, List.mem_append] at he
    rcases he with he | he
    · exact ht.ent e (List.mem_filter.1 he).1
    · obtain ⟨m, hm, rfl⟩ := List.mem_map.1 he
      have hok := h.mks m (List.mem_filter.1 hm).1
      simp only [entOkL, toE, markOk_path hok, markOk_data hok, Bool.true_and, Bool.or_eq_true, Bool.not_eq_true', beq_iff_eq]
      by_cases hd : dirM m = true
      · exact .inr (markOk_none hok (by rintro h1; simp [dirM, h1] at hd))
      · exact .inl (by simpa using hd)
  · rw [upCode_iff ho]
    rw [hmem, at_on h.ord ht.ordP] at he
    cases hc : atP PM.p l e.p with
    | some m =>
      rw [hc] at he
      obtain ⟨h1, h2⟩ := atP_some hc
      rcases h.par h1 with h3 | ⟨f, hf, hfp, hfd⟩
      · exact .inl (h2 ▸ h3)
      · refine .inr ⟨toE f, ?_, by rw [← h2]; exact hfp, hfd⟩
        rw [hmem, at_on h.ord ht.ordP, show (toE f).p = f.p from rfl, atP_mem h.ord hf]
        have : f.k ≠ 3 := by rintro h1; simp [dirM, h1] at hfd
        simp [this]
    | none =>
      rw [hc] at he
      have he : (if hidesL l e.p = true then none else atP PE.p t e.p) = some e := he
      split at he
      · cases he
      · next hh =>
        obtain ⟨h1, _⟩ := atP_some he
        rcases ht.par h1 with h3 | ⟨f, hf, hfp, hfd⟩
        · exact .inl h3
        · have hu : underL e.p f.p = true := by rw [hfp]; exact up_under (ht.pth h1)
          have hfh : hidesL l f.p ≠ true := fun h4 => hh (hides_down h4 hu)
          cases hd : atP PM.p l f.p with
          | none =>
            refine .inr ⟨f, ?_, hfp, hfd⟩
            rw [hmem, at_on h.ord ht.ordP, hd]
            show (if hidesL l f.p = true then none else atP PE.p t f.p) = some f
            rw [if_neg hfh, atP_mem ht.ordP hf]
          | some m =>
            obtain ⟨h4, h5⟩ := atP_some hd
            have hk : m.k = 2 := Classical.byContradiction fun h6 => hfh (hides_iff.2 ⟨m, h4, h6, .inl h5⟩)
            refine .inr ⟨toE m, ?_, by rw [← hfp]; exact h5, by simp [toE, dirM, hk]⟩
            rw [hmem, at_on h.ord ht.ordP, show (toE m).p = f.p from h5, hd]
            simp [hk]
theorem on_nil {t : List PE} (ht : OrdP PE.p t) : onL [] t = t := ord_ext_at (on_ord _ ht) ht fun q => by rw [at_on ord_nil ht]; simp [atP, hidesL]
theorem on_twice {l : List PM} (h : OrdP PM.p l) {t : List PE} (ht : OrdP PE.p t) : onL l (onL l t) = onL l t := by
  refine ord_ext_at (on_ord _ (on_ord _ ht)) (on_ord _ ht) fun q => ?_
  rw [at_on h (on_ord l ht), at_on h ht]
  cases atP PM.p l q with
  | some m => rfl
  | none =>
    show (if hidesL l q = true then none else if hidesL l q = true then none else atP PE.p t q) = if hidesL l q = true then none else atP PE.p t q
    split <;> rfl
end Go.Proofs.YtobbodbkdcbflaaDoor
namespace Go.Proofs.YtobbodbkdcbflaaDoor
open Go.Op
/-- A mark of the upper layer, on what the lower one has there. -/
def bothM (b : List PM) (m : PM) : PM := if m.k = 2 then (match atP PM.p b m.p with
  | some u => if u.k = 2 then m else ⟨m.p, 4, m.x⟩
  | none => m) else m
theorem bothM_p (b : List PM) (m : PM) : (bothM b m).p = m.p := by
  unfold bothM
  split
  · split
    · split <;> rfl
    · rfl
  · rfl
def joinRaw (a b : List PM) : List PM := (b.filter fun m => (atP PM.p a m.p).isNone && !hidesL a m.p) ++ a.map (bothM b)
/-- What becomes of a mark that is below one that is bare. -/
def tidyM (u : List PM) (m : PM) : Option PM := if bareL u m.p = true then (if m.k = 3 then none else if m.k = 4 then some ⟨m.p, 2, m.x⟩ else some m) else some m
def tidyRaw (u : List PM) : List PM := u.filterMap (tidyM u)
/-- The reference's way: what is told so far, what is to come. -/
def tidyL : List PM → List PM → List PM
  | out, [] => out
  | out, m :: r => match tidyM out m with
    | none => tidyL out r
    | some n => tidyL (out ++ [n]) r
def joinLy (a b : List PM) : List PM := tidyL [] ((joinRaw a b).foldl (putP PM.p) [])
theorem tidyM_p {u : List PM} {m n : PM} (h : tidyM u m = some n) : n.p = m.p := by
  unfold tidyM at h
  split at h
  · split at h
    · cases h
    · split at h
      · injection h with h; subst h; rfl
      · injection h with h; subst h; rfl
  · injection h with h; subst h; rfl
theorem tidyM_4 {u : List PM} {m n : PM} (h : tidyM u m = some n) (hk : n.k = 4) : m = n := by
  unfold tidyM at h
  split at h
  · split at h
    · cases h
    · split at h
      · injection h with h; subst h; simp at hk
      · injection h with h
  · injection h with h
theorem join_dis {a b : List PM} (ha : OrdP PM.p a) (hb : OrdP PM.p b) : DisP PM.p (joinRaw a b) := by
  unfold joinRaw DisP
  rw [List.pairwise_append]
  refine ⟨dis_filter hb.dis _, map_dis (f := PM.p) (bothM b) (bothM_p b) ha.dis, fun x hx y hy => ?_⟩
  obtain ⟨m, hm, rfl⟩ := List.mem_map.1 hy
  have h1 := (List.mem_filter.1 hx).2
  simp only [Bool.and_eq_true, Option.isNone_iff_eq_none] at h1
  rw [bothM_p]
  exact fun he => atP_none.1 h1.1 m hm he.symm
theorem bare_top {l : List PM} {q : Bs} (h : bareL l q = true) : ∃ y ∈ l, y.k = 4 ∧ underL q y.p = true ∧ (pathOkL y.p = true → bareL l y.p = false) := by
  have key : ∀ n, ∀ y ∈ l, y.p.length ≤ n → y.k = 4 → underL q y.p = true → ∃ y ∈ l, y.k = 4 ∧ underL q y.p = true ∧ (pathOkL y.p = true → bareL l y.p = false) := by
    intro n
    induction n with
    | zero =>
      intro y hy hl hk hu
      refine ⟨y, hy, hk, hu, fun hp => ?_⟩
      have := (path_len hp).1
      omega
    | succ n ih =>
      intro y hy hl hk hu
      by_cases hp : pathOkL y.p = true
      · cases hb : bareL l y.p with
        | false => exact ⟨y, hy, hk, hu, fun _ => hb⟩
        | true =>
          obtain ⟨z, hz, hzk, hzu⟩ := bare_iff.1 hb
          by_cases hzp : pathOkL z.p = true
          · have : z.p.length < y.p.length := by
              obtain ⟨x, hx⟩ := under_pre hzu hzp
              rw [hx]; simp
            exact ih z hz (by omega) hzk (under_trans hu hzu)
          · exact ⟨z, hz, hzk, under_trans hu hzu, fun h => absurd h hzp⟩
      · exact ⟨y, hy, hk, hu, fun h => absurd h hp⟩
  obtain ⟨y, hy, hk, hu⟩ := bare_iff.1 h
  exact key _ y hy (Nat.le_refl _) hk hu
theorem tidyM_same {u v : List PM} {m : PM} (h : bareL u m.p = bareL v m.p) : tidyM u m = tidyM v m := by unfold tidyM; rw [h]
theorem tidy_eq {l : List PM} (ho : OrdP PM.p l) (hp : ∀ m ∈ l, pathOkL m.p = true) : tidyL [] l = tidyRaw l := by
  have key : ∀ (rest pre : List PM), pre ++ rest = l → tidyL (pre.filterMap (tidyM l)) rest = l.filterMap (tidyM l) := by
    intro rest
    induction rest with
    | nil => intro pre h; rw [List.append_nil] at h; rw [h]; rfl
    | cons m r ih =>
      intro pre h
      have hm : m ∈ l := by rw [← h]; simp
      have hbare : bareL (pre.filterMap (tidyM l)) m.p = bareL l m.p := by
        rw [Bool.eq_iff_iff, bare_iff]
        constructor
        · rintro ⟨x, hx, hk, hu⟩
          obtain ⟨y, hy, hyx⟩ := List.mem_filterMap.1 hx
          have := tidyM_4 hyx hk
          subst this
          exact bare_iff.2 ⟨y, by rw [← h]; simp [hy], hk, hu⟩
        · intro hb
          obtain ⟨y, hy, hk, hu, hyb⟩ := bare_top hb
          have hyb := hyb (hp y hy)
          refine ⟨y, List.mem_filterMap.2 ⟨y, ?_, by unfold tidyM; rw [hyb]; rfl⟩, hk, hu⟩
          have hl := under_less hu (hp y hy)
          rw [← h] at hy
          rcases List.mem_append.1 hy with h1 | h1
          · exact h1
          · exfalso
            have ho2 : OrdP PM.p (m :: r) := by
              unfold OrdP at ho ⊢
              rw [← h, List.pairwise_append] at ho
              exact ho.2.1
            rcases List.mem_cons.1 h1 with rfl | h1
            · rw [less_irrefl] at hl; cases hl
            · have := less_trans hl ((ordP_cons.1 ho2).1 y h1)
              rw [less_irrefl] at this; cases this
      rw [tidyL, tidyM_same hbare]
      have hnext := ih (pre ++ [m]) (by rw [← h]; simp)
      rw [List.filterMap_append] at hnext
      cases hc : tidyM l m with
      | none =>
        rw [show List.filterMap (tidyM l) [m] = [] by simp [hc], List.append_nil] at hnext
        exact hnext
      | some n =>
        rw [show List.filterMap (tidyM l) [m] = [n] by simp [hc]] at hnext
        exact hnext
  exact key l [] rfl
theorem dis_filterMap {α : Type} {f : α → Bs} {g : α → Option α} (hg : ∀ a b, g a = some b → f b = f a) {u : List α} (h : DisP f u) : DisP f (u.filterMap g) := by
  unfold DisP at *
  rw [List.pairwise_filterMap]
  exact List.Pairwise.imp (fun {a b} hab x hx y hy => by rw [hg _ _ hx, hg _ _ hy]; exact hab) h
theorem ord_filterMap {α : Type} {f : α → Bs} {g : α → Option α} (hg : ∀ a b, g a = some b → f b = f a) {u : List α} (h : OrdP f u) : OrdP f (u.filterMap g) := by
  unfold OrdP at *
  rw [List.pairwise_filterMap]
  exact List.Pairwise.imp (fun {a b} hab x hx y hy => by rw [hg _ _ hx, hg _ _ hy]; exact hab) h
theorem bare_mem {u v : List PM} (h : ∀ m, m ∈ u ↔ m ∈ v) (q : Bs) : bareL u q = bareL v q := by
  rw [Bool.eq_iff_iff, bare_iff, bare_iff]
  constructor
  · rintro ⟨m, hm, h1⟩; exact ⟨m, (h m).1 hm, h1⟩
  · rintro ⟨m, hm, h1⟩; exact ⟨m, (h m).2 hm, h1⟩
theorem join_path_ {a b : List PM} (ha : LOk a) (hb : LOk b) : ∀ m ∈ joinRaw a b, pathOkL m.p = true := by
  intro m hm
  rcases List.mem_append.1 hm with h | h
  · exact hb.pth (List.mem_filter.1 h).1
  · obtain ⟨x, hx, rfl⟩ := List.mem_map.1 h
    rw [bothM_p]; exact ha.pth hx
theorem join_mem {a b : List PM} (ha : LOk a) (hb : LOk b) : ∀ m, m ∈ (joinRaw a b).foldl (putP PM.p) [] ↔ m ∈ joinRaw a b := by
  intro m
  rw [mem_fold (join_dis ha.ord hb.ord) ord_nil]; simp
theorem joinLy_eq {a b : List PM} (ha : LOk a) (hb : LOk b) : joinLy a b = tidyRaw ((joinRaw a b).foldl (putP PM.p) []) :=
  tidy_eq (ord_fold ord_nil) fun m hm => join_path_ ha hb m ((join_mem ha hb m).1 hm)
theorem joinLy_ord {a b : List PM} (ha : LOk a) (hb : LOk b) : OrdP PM.p (joinLy a b) := by
  rw [joinLy_eq ha hb]
  exact ord_filterMap (fun _ _ h => tidyM_p h) (ord_fold ord_nil)
theorem tidyRaw_mem {a b : List PM} (ha : LOk a) (hb : LOk b) (m : PM) : m ∈ tidyRaw (joinRaw a b) ↔ m ∈ joinLy a b := by
  rw [joinLy_eq ha hb]
  unfold tidyRaw
  rw [List.mem_filterMap, List.mem_filterMap]
  have hs : ∀ x, tidyM (joinRaw a b) x = tidyM ((joinRaw a b).foldl (putP PM.p) []) x := fun x => tidyM_same (bare_mem (fun m => (join_mem ha hb m).symm) _)
  constructor
  · rintro ⟨x, hx, h⟩; exact ⟨x, (join_mem ha hb x).2 hx, (hs x) ▸ h⟩
  · rintro ⟨x, hx, h⟩; exact ⟨x, (join_mem ha hb x).1 hx, (hs x).symm ▸ h⟩
theorem tidyRaw_dis {a b : List PM} (ha : LOk a) (hb : LOk b) : DisP PM.p (tidyRaw (joinRaw a b)) := dis_filterMap (fun _ _ h => tidyM_p h) (join_dis ha.ord hb.ord)
theorem join_len {a b : List PM} (ha : LOk a) (hb : LOk b) : (tidyRaw (joinRaw a b)).length = (joinLy a b).length :=
  perm_of_mem (tidyRaw_dis ha hb) (joinLy_ord ha hb) (tidyRaw_mem ha hb)
theorem join_of_raw {a b : List PM} (ha : LOk a) (hb : LOk b) {s : List PM} (hp : s.Perm (tidyRaw (joinRaw a b))) (hs : s.Pairwise fun a b => bytesLess b.p a.p = false) : s = joinLy a b :=
  ord_ext (ord_of_sorted hp (tidyRaw_dis ha hb) hs) (joinLy_ord ha hb) fun e => by rw [hp.mem_iff, tidyRaw_mem ha hb]
theorem lok_nil : LOk [] := ⟨by simp, fun m h => (by cases h), ord_nil, fun m h => (by cases h), fun m h => (by cases h)⟩
theorem tidy_self {a : List PM} (ha : LOk a) : tidyRaw a = a := by
  unfold tidyRaw
  have : ∀ m ∈ a, tidyM a m = some m := fun m hm => by
    unfold tidyM
    split
    · next hb =>
      have h1 : ¬ 2 < m.k := fun h => by rw [ha.bare m hm h] at hb; cases hb
      rw [if_neg (by omega), if_neg (by omega)]
    · rfl
  have key : ∀ u : List PM, (∀ m ∈ u, m ∈ a) → u.filterMap (tidyM a) = u := by
    intro u
    induction u with
    | nil => intro _; rfl
    | cons m r ih =>
      intro h
      rw [List.filterMap_cons, this m (h m (by simp)), ih (fun x hx => h x (by simp [hx]))]
  exact key a fun _ h => h
theorem fold_self {α : Type} {f : α → Bs} {a : List α} (h : OrdP f a) : a.foldl (putP f) [] = a := ord_ext (ord_fold ord_nil) h fun e => by rw [mem_fold h.dis ord_nil]; simp
theorem join_nil_r {a : List PM} (ha : LOk a) : joinLy a [] = a := by
  rw [joinLy_eq ha lok_nil]
  have : joinRaw a [] = a := by
    unfold joinRaw
    have : bothM [] = id := funext fun m => by unfold bothM; split <;> rfl
    rw [this]; simp
  rw [this, fold_self ha.ord, tidy_self ha]
theorem join_nil_l {a : List PM} (ha : LOk a) : joinLy [] a = a := by
  rw [joinLy_eq lok_nil ha]
  have : joinRaw [] a = a := by
    unfold joinRaw
    simp [atP, hidesL]
  rw [this, fold_self ha.ord, tidy_self ha]
end Go.Proofs.YtobbodbkdcbflaaDoor
namespace Go.Proofs.YtobbodbkdcbflaaDoor
open Go.Op
/-- The mark at a path at which the trees differ. -/
def dmark (b : List PE) (q : Bs) : Option PM := match getL b q with
  | some e => some (if e.d then ⟨q, 2, []⟩ else ⟨q, 1, e.x⟩)
  | none => if upCodeL b q = 0 then some ⟨q, 3, []⟩ else none
theorem dmark_p {b : List PE} {q : Bs} {m : PM} (h : dmark b q = some m) : m.p = q := by
  unfold dmark at h
  split at h
  · injection h with h; subst h; split <;> rfl
  · split at h
    · injection h with h; subst h; rfl
    · cases h
abbrev updm (q : Bs) : PM := ⟨q, 2, []⟩
def upsL : Nat → List PM → Bs → List PM
  | 0, l, _ => l
  | n + 1, l, q => if upL q = [47] then l else upsL n (if atP PM.p l (upL q) = none then putP PM.p l (updm (upL q)) else l) (upL q)
def upsR : Nat → List PM → Bs → List PM
  | 0, l, _ => l
  | n + 1, l, q => if upL q = [47] then l else upsR n (if atP PM.p l (upL q) = none then l ++ [updm (upL q)] else l) (upL q)
def upsAt (l : List PM) (q s : Bs) : Option PM := match atP PM.p l s with
  | some m => some m
  | none => if pathOkL s = true ∧ underL q s = true then some (updm s) else none
theorem levels_up {q : Bs} (h : pathOkL q = true) : levelsL q = levelsL (upL q) + 1 := (law_path h).2.2.2
theorem levels_3 (q : Bs) : levelsL q ≤ 3 := by
  cases h : pathOkL q with
  | false => simp [levelsL, h]
  | true =>
    obtain ⟨ns, h1, h2, rfl⟩ := (pathOk_iff q).1 h
    rw [levels_flat h1 h2]; exact h1.1
theorem ups_root {q s : Bs} (h : pathOkL q = true) (hr : upL q = [47]) (hs : pathOkL s = true) : underL q s = false := by
  rw [under_up h, hr]
  simp only [Bool.or_eq_false_iff, beq_eq_false_iff_ne]
  refine ⟨path_ne_root hs, ?_⟩
  cases hu : underL [47] s with
  | false => rfl
  | true => have := under_path hu; rw [root_no] at this; cases this
theorem upsL_at (n : Nat) : ∀ (l : List PM) (q : Bs), OrdP PM.p l → pathOkL q = true → levelsL q ≤ n → OrdP PM.p (upsL n l q) ∧ ∀ s, atP PM.p (upsL n l q) s = upsAt l q s := by
  induction n with
  | zero => intro l q _ hq hn; have := levels_up hq; omega
  | succ n ih =>
    intro l q hl hq hn
    rw [upsL]
    by_cases hr : upL q = [47]
    · rw [if_pos hr]
      refine ⟨hl, fun s => ?_⟩
      unfold upsAt
      cases hc : atP PM.p l s with
      | some m => rfl
      | none =>
        show none = if _ then _ else _
        rw [if_neg]
        rintro ⟨h1, h2⟩
        rw [ups_root hq hr h1] at h2; cases h2
    · rw [if_neg hr]
      have hup := up_path hq hr
      have hlv := levels_up hq
      have hl' : OrdP PM.p (if atP PM.p l (upL q) = none then putP PM.p l (updm (upL q)) else l) := by
        split
        · exact ord_putP hl _
        · exact hl
      obtain ⟨h1, h2⟩ := ih _ (upL q) hl' hup (by omega)
      refine ⟨h1, fun s => ?_⟩
      rw [h2]
      unfold upsAt
      have hu := under_up (b := s) hq
      by_cases hn0 : atP PM.p l (upL q) = none
      · rw [if_pos hn0, atP_putP hl]
        by_cases hs : upL q = s
        · subst hs
          rw [if_pos rfl, hn0]
          exact (if_pos (⟨hup, up_under hq⟩ : pathOkL (upL q) = true ∧ underL q (upL q) = true)).symm
        · rw [if_neg hs, hu]
          have : (s == upL q) = false := by rw [beq_eq_false_iff_ne]; exact Ne.symm hs
          rw [this, Bool.false_or]
      · rw [if_neg hn0]
        cases hc : atP PM.p l s with
        | some m => rfl
        | none =>
          have hs : s ≠ upL q := by rintro rfl; exact hn0 hc
          have : (s == upL q) = false := by rw [beq_eq_false_iff_ne]; exact hs
          rw [hu, this, Bool.false_or]
theorem upsR_at (n : Nat) : ∀ (l : List PM) (q : Bs), DisP PM.p l → pathOkL q = true → levelsL q ≤ n → DisP PM.p (upsR n l q) ∧ ∀ s, atP PM.p (upsR n l q) s = upsAt l q s := by
  induction n with
  | zero => intro l q _ hq hn; have := levels_up hq; omega
  | succ n ih =>
    intro l q hl hq hn
    rw [upsR]
    by_cases hr : upL q = [47]
    · rw [if_pos hr]
      refine ⟨hl, fun s => ?_⟩
      unfold upsAt
      cases hc : atP PM.p l s with
      | some m => rfl
      | none =>
        show none = if _ then _ else _
        rw [if_neg]
        rintro ⟨h1, h2⟩
        rw [ups_root hq hr h1] at h2; cases h2
    · rw [if_neg hr]
      have hup := up_path hq hr
      have hlv := levels_up hq
      have hl' : DisP PM.p (if atP PM.p l (upL q) = none then l ++ [updm (upL q)] else l) := by
        split
        · next hn0 =>
          unfold DisP at *
          rw [List.pairwise_append]
          refine ⟨hl, by simp, fun a ha b hb => ?_⟩
          rw [List.mem_singleton] at hb
          subst hb
          exact atP_none.1 hn0 a ha
        · exact hl
      obtain ⟨h1, h2⟩ := ih _ (upL q) hl' hup (by omega)
      refine ⟨h1, fun s => ?_⟩
      rw [h2]
      unfold upsAt
      have hu := under_up (b := s) hq
      by_cases hn0 : atP PM.p l (upL q) = none
      · rw [if_pos hn0, atP_append]
        cases hc : atP PM.p l s with
        | some m => rfl
        | none =>
          show (match (if upL q = s then some (updm (upL q)) else none) with | some m => some m | none => if _ then _ else _) = if _ then _ else _
          by_cases hs : upL q = s
          · subst hs
            rw [if_pos rfl]
            exact (if_pos (⟨hup, up_under hq⟩ : pathOkL (upL q) = true ∧ underL q (upL q) = true)).symm
          · have : (s == upL q) = false := by rw [beq_eq_false_iff_ne]; exact Ne.symm hs
            rw [if_neg hs, hu, this, Bool.false_or]
      · rw [if_neg hn0]
        cases hc : atP PM.p l s with
        | some m => rfl
        | none =>
          have hs : s ≠ upL q := by rintro rfl; exact hn0 hc
          have : (s == upL q) = false := by rw [beq_eq_false_iff_ne]; exact hs
          rw [hu, this, Bool.false_or]
/-- As the reference makes it. -/
def diffL (a b : List PE) : List PM := (turnedL a b).foldl (fun out q => match dmark b q with
  | some m => upsL 3 (putP PM.p out m) q
  | none => out) []
/-- What the program has before it sorts. -/
def diffRaw (a b : List PE) : List PM := ((turnedL a b).filterMap (dmark b)).foldl (fun out m => upsR 3 out m.p) ((turnedL a b).filterMap (dmark b))
/-- A mark of a path at which the trees differ lies below s. -/
def ancAt (b : List PE) (Q : List Bs) (s : Bs) : Prop := pathOkL s = true ∧ ∃ q ∈ Q, (dmark b q).isSome = true ∧ underL q s = true
def baseAt (b : List PE) (Q : List Bs) (s : Bs) : Option PM := if s ∈ Q then dmark b s else none
open Classical in
noncomputable def diffAt (b : List PE) (Q : List Bs) (s : Bs) : Option PM := match baseAt b Q s with
  | some m => some m
  | none => if ancAt b Q s then some (updm s) else none
theorem diffL_at {a b : List PE} (hQ : ∀ q ∈ turnedL a b, pathOkL q = true) : OrdP PM.p (diffL a b) ∧ ∀ s, atP PM.p (diffL a b) s = diffAt b (turnedL a b) s := by
  have key : ∀ (rest pre : List Bs) (out : List PM), pre ++ rest = turnedL a b → (OrdP PM.p out ∧ ∀ s, atP PM.p out s = diffAt b pre s) →
      OrdP PM.p (rest.foldl (fun out q => match dmark b q with | some m => upsL 3 (putP PM.p out m) q | none => out) out) ∧
      ∀ s, atP PM.p (rest.foldl (fun out q => match dmark b q with | some m => upsL 3 (putP PM.p out m) q | none => out) out) s = diffAt b (turnedL a b) s := by
    intro rest
    induction rest with
    | nil => intro pre out h hi; rw [List.append_nil] at h; rw [← h]; exact hi
    | cons q r ih =>
      intro pre out h hi
      rw [List.foldl_cons]
      have hq : pathOkL q = true := hQ q (by rw [← h]; simp)
      refine ih (pre ++ [q]) _ (by rw [← h]; simp) ?_
      cases hd : dmark b q with
      | none =>
        refine ⟨hi.1, fun s => ?_⟩
        show atP PM.p out s = _
        rw [hi.2]
        have e1 : baseAt b (pre ++ [q]) s = baseAt b pre s := by
          unfold baseAt
          by_cases hs : s ∈ pre
          · rw [if_pos hs, if_pos (by simp [hs])]
          · by_cases hsq : s = q
            · subst hsq; rw [if_neg hs, if_pos (by simp), hd]
            · rw [if_neg hs, if_neg (by simp [hs, hsq])]
        have e2 : ancAt b (pre ++ [q]) s ↔ ancAt b pre s := by
          unfold ancAt
          constructor
          · rintro ⟨h1, p, hp, h2, h3⟩
            rcases List.mem_append.1 hp with h4 | h4
            · exact ⟨h1, p, h4, h2, h3⟩
            · rw [List.mem_singleton] at h4; subst h4; rw [hd] at h2; cases h2
          · rintro ⟨h1, p, hp, h2, h3⟩
            exact ⟨h1, p, by simp [hp], h2, h3⟩
        unfold diffAt
        rw [e1]
        cases baseAt b pre s with
        | some x => rfl
        | none =>
          by_cases h : ancAt b pre s
          · simp only [if_pos h, if_pos (e2.2 h)]
          · simp only [if_neg h, if_neg (fun h' => h (e2.1 h'))]
      | some m =>
        have hmp := dmark_p hd
        obtain ⟨h1, h2⟩ := upsL_at 3 (putP PM.p out m) q (ord_putP hi.1 m) hq (levels_3 q)
        refine ⟨h1, fun s => ?_⟩
        show atP PM.p (upsL 3 (putP PM.p out m) q) s = _
        rw [h2]
        unfold upsAt
        rw [atP_putP hi.1, hmp]
        by_cases hs : q = s
        · subst hs
          rw [if_pos rfl]
          unfold diffAt baseAt
          rw [if_pos (show q ∈ pre ++ [q] by simp), hd]
        · rw [if_neg hs, hi.2]
          have e1 : baseAt b (pre ++ [q]) s = baseAt b pre s := by
            unfold baseAt
            by_cases hs2 : s ∈ pre
            · rw [if_pos hs2, if_pos (by simp [hs2])]
            · rw [if_neg hs2, if_neg (by simp [hs2, Ne.symm hs])]
          unfold diffAt
          rw [e1]
          cases hb : baseAt b pre s with
          | some x => rfl
          | none =>
            by_cases ha : ancAt b pre s
            · have ha' : ancAt b (pre ++ [q]) s := by
                obtain ⟨g1, p, hp, g2, g3⟩ := ha
                exact ⟨g1, p, by simp [hp], g2, g3⟩
              simp only [if_pos ha, if_pos ha']
            · simp only [if_neg ha]
              by_cases hu : pathOkL s = true ∧ underL q s = true
              · have ha' : ancAt b (pre ++ [q]) s := ⟨hu.1, q, by simp, by rw [hd]; rfl, hu.2⟩
                rw [if_pos hu, if_pos ha']
              · have ha' : ¬ ancAt b (pre ++ [q]) s := by
                  rintro ⟨g1, p, hp, g2, g3⟩
                  rcases List.mem_append.1 hp with h4 | h4
                  · exact ha ⟨g1, p, h4, g2, g3⟩
                  · rw [List.mem_singleton] at h4; subst h4; exact hu ⟨g1, g3⟩
                rw [if_neg hu, if_neg ha']
  refine key (turnedL a b) [] [] rfl ⟨ord_nil, fun s => ?_⟩
  unfold diffAt baseAt ancAt
  simp [atP]
theorem base_at {b : List PE} {Q : List Bs} (s : Bs) : atP PM.p (Q.filterMap (dmark b)) s = baseAt b Q s := by
  induction Q with
  | nil => rfl
  | cons q r ih =>
    rw [List.filterMap_cons]
    unfold baseAt at ih ⊢
    cases hd : dmark b q with
    | none =>
      show atP PM.p (r.filterMap (dmark b)) s = _
      rw [ih]
      by_cases hs : s ∈ r
      · rw [if_pos hs, if_pos (by simp [hs])]
      · by_cases hsq : s = q
        · subst hsq; rw [if_neg hs, if_pos (by simp), hd]
        · rw [if_neg hs, if_neg (by simp [hs, hsq])]
    | some m =>
      show atP PM.p (m :: r.filterMap (dmark b)) s = _
      rw [atP, dmark_p hd]
      by_cases hs : q = s
      · subst hs; rw [if_pos rfl, if_pos (by simp), hd]
      · rw [if_neg hs, ih]
        by_cases hs2 : s ∈ r
        · rw [if_pos hs2, if_pos (by simp [hs2])]
        · rw [if_neg hs2, if_neg (by simp [hs2, Ne.symm hs])]
theorem base_dis {b : List PE} {Q : List Bs} (h : OrdP id Q) : DisP PM.p (Q.filterMap (dmark b)) := by
  unfold DisP
  rw [List.pairwise_filterMap]
  refine List.Pairwise.imp (fun {x y} hxy m hm n hn => ?_) h
  rw [dmark_p hm, dmark_p hn]
  exact less_ne hxy
theorem base_some {b : List PE} {Q : List Bs} {m : PM} (h : m ∈ Q.filterMap (dmark b)) : m.p ∈ Q ∧ dmark b m.p = some m := by
  obtain ⟨q, hq, hd⟩ := List.mem_filterMap.1 h
  have := dmark_p hd
  exact ⟨this ▸ hq, this ▸ hd⟩
theorem diffRaw_at {a b : List PE} (ho : OrdP id (turnedL a b)) (hQ : ∀ q ∈ turnedL a b, pathOkL q = true) : DisP PM.p (diffRaw a b) ∧ ∀ s, atP PM.p (diffRaw a b) s = diffAt b (turnedL a b) s := by
  have key : ∀ (rest pre : List PM) (out : List PM), pre ++ rest = (turnedL a b).filterMap (dmark b) →
      (DisP PM.p out ∧ ∀ s, atP PM.p out s = match baseAt b (turnedL a b) s with | some m => some m | none => if pathOkL s = true ∧ (pre.any fun m => underL m.p s) = true then some (updm s) else none) →
      DisP PM.p (rest.foldl (fun out m => upsR 3 out m.p) out) ∧ ∀ s, atP PM.p (rest.foldl (fun out m => upsR 3 out m.p) out) s = match baseAt b (turnedL a b) s with | some m => some m | none => if pathOkL s = true ∧ (((turnedL a b).filterMap (dmark b)).any fun m => underL m.p s) = true then some (updm s) else none := by
    intro rest
    induction rest with
    | nil => intro pre out h hi; rw [List.append_nil] at h; rw [← h]; exact hi
    | cons m r ih =>
      intro pre out h hi
      rw [List.foldl_cons]
      have hm := base_some (b := b) (Q := turnedL a b) (m := m) (by rw [← h]; simp)
      have hq : pathOkL m.p = true := hQ _ hm.1
      refine ih (pre ++ [m]) _ (by rw [← h]; simp) ?_
      obtain ⟨h1, h2⟩ := upsR_at 3 out m.p hi.1 hq (levels_3 _)
      refine ⟨h1, fun s => ?_⟩
      rw [h2]
      unfold upsAt
      rw [hi.2]
      cases hb : baseAt b (turnedL a b) s with
      | some x => rfl
      | none =>
        simp only [List.any_append, List.any_cons, List.any_nil, Bool.or_false, Bool.or_eq_true]
        by_cases h3 : pathOkL s = true ∧ (pre.any fun m => underL m.p s) = true
        · have h5 : pathOkL s = true ∧ ((pre.any fun m => underL m.p s) = true ∨ underL m.p s = true) := ⟨h3.1, .inl h3.2⟩
          simp only [if_pos h3, if_pos h5]
        · by_cases h4 : pathOkL s = true ∧ underL m.p s = true
          · have h5 : pathOkL s = true ∧ ((pre.any fun m => underL m.p s) = true ∨ underL m.p s = true) := ⟨h4.1, .inr h4.2⟩
            simp only [if_neg h3, if_pos h4, if_pos h5]
          · have h5 : ¬ (pathOkL s = true ∧ ((pre.any fun m => underL m.p s) = true ∨ underL m.p s = true)) := by
              rintro ⟨h5, h6 | h6⟩
              · exact h3 ⟨h5, h6⟩
              · exact h4 ⟨h5, h6⟩
            simp only [if_neg h3, if_neg h4, if_neg h5]
  obtain ⟨h1, h2⟩ := key _ [] _ rfl ⟨base_dis ho, fun s => by
    rw [base_at]
    cases baseAt b (turnedL a b) s with
    | some m => rfl
    | none => simp⟩
  refine ⟨h1, fun s => ?_⟩
  unfold diffRaw
  rw [h2]
  unfold diffAt
  cases baseAt b (turnedL a b) s with
  | some m => rfl
  | none =>
    have e : (pathOkL s = true ∧ (((turnedL a b).filterMap (dmark b)).any fun m => underL m.p s) = true) ↔ ancAt b (turnedL a b) s := by
      unfold ancAt
      rw [List.any_eq_true]
      constructor
      · rintro ⟨h3, m, hm, hu⟩
        have := base_some hm
        exact ⟨h3, m.p, this.1, by rw [this.2]; rfl, hu⟩
      · rintro ⟨h3, q, hq, hs, hu⟩
        obtain ⟨m, hm⟩ := Option.isSome_iff_exists.1 hs
        exact ⟨h3, m, List.mem_filterMap.2 ⟨q, hq, hm⟩, by rw [dmark_p hm]; exact hu⟩
    by_cases h3 : ancAt b (turnedL a b) s
    · simp only [if_pos h3, if_pos (e.2 h3)]
    · simp only [if_neg h3, if_neg (fun h => h3 (e.1 h))]
theorem turned_path {a b : List PE} (ha : TOk a) (hb : TOk b) {q : Bs} (hq : q ∈ turnedL a b) : pathOkL q = true := by
  rw [mem_turned ha.ordP hb.ordP] at hq
  cases h1 : atP PE.p a q with
  | some e => obtain ⟨h2, h3⟩ := atP_some h1; exact h3 ▸ ha.pth h2
  | none =>
    cases h2 : atP PE.p b q with
    | some e => obtain ⟨h3, h4⟩ := atP_some h2; exact h4 ▸ hb.pth h3
    | none => rw [h1, h2] at hq; exact absurd rfl hq
theorem diff_of_raw {a b : List PE} (ha : TOk a) (hb : TOk b) {s : List PM} (hp : s.Perm (diffRaw a b)) (hs : s.Pairwise fun a b => bytesLess b.p a.p = false) : s = diffL a b := by
  have hQ : ∀ q ∈ turnedL a b, pathOkL q = true := fun q hq => turned_path ha hb hq
  obtain ⟨h1, h2⟩ := diffL_at hQ
  obtain ⟨h3, h4⟩ := diffRaw_at (ord_turned ha.ordP) hQ
  rw [fold_of_perm hp h3 hs]
  refine ord_ext_at (ord_fold ord_nil) h1 fun q => ?_
  rw [atP_fold h3 ord_nil, h4, h2]
  cases diffAt b (turnedL a b) q <;> rfl
end Go.Proofs.YtobbodbkdcbflaaDoor
namespace Go.Proofs.YtobbodbkdcbflaaDoor
open Go.Op
theorem dmark_iff {b : List PE} (hb : TOk b) {q : Bs} : (dmark b q).isSome = true ↔ upCodeL b q = 0 := by
  unfold dmark
  cases hg : getL b q with
  | some e =>
    obtain ⟨h1, h2⟩ := hb.get.1 hg
    constructor
    · intro _; exact h2 ▸ hb.up e h1
    · intro _; rfl
  | none =>
    by_cases hu : upCodeL b q = 0
    · simp [hu]
    · simp [hu]
theorem dmark_anc {b : List PE} (hb : TOk b) {q s : Bs} (hq : pathOkL q = true) (hd : (dmark b q).isSome = true) (hs : pathOkL s = true) (hu : underL q s = true) : ∃ f ∈ b, f.p = s ∧ f.d = true := by
  rw [dmark_iff hb] at hd
  rcases (upCode_iff hb.ordP).1 hd with hr | ⟨f, hf, hfp, hfd⟩
  · rw [ups_root hq hr hs] at hu; cases hu
  · have h1 := under_up (b := s) hq
    rw [hu] at h1
    simp only [Bool.true_eq, Bool.or_eq_true, beq_iff_eq] at h1
    rcases h1 with h1 | h1
    · exact ⟨f, hf, hfp.trans h1.symm, hfd⟩
    · exact hb.anc hf hs (hfp ▸ h1)
theorem ent_dir {b : List PE} (hb : TOk b) {f : PE} (hf : f ∈ b) (hd : f.d = true) : f = ⟨f.p, true, []⟩ := by
  have h1 := hb.ent f hf
  simp only [entOkL, Bool.and_eq_true, Bool.or_eq_true, Bool.not_eq_true', beq_iff_eq] at h1
  obtain ⟨p, d, x⟩ := f
  simp only at hd h1 ⊢
  subst hd
  rcases h1.2 with h2 | h2
  · cases h2
  · rw [h2]
section
variable {a b : List PE}
theorem diff_ord (ha : TOk a) (hb : TOk b) : OrdP PM.p (diffL a b) := (diffL_at fun _ hq => turned_path ha hb hq).1
theorem diff_at (ha : TOk a) (hb : TOk b) (s : Bs) : atP PM.p (diffL a b) s = diffAt b (turnedL a b) s := (diffL_at fun _ hq => turned_path ha hb hq).2 s
open Classical in
theorem diff_look (ha : TOk a) (hb : TOk b) {s : Bs} {m : PM} (h : atP PM.p (diffL a b) s = some m) : (s ∈ turnedL a b ∧ dmark b s = some m) ∨ (s ∉ turnedL a b ∧ m = updm s ∧ pathOkL s = true ∧ (∃ f ∈ b, f.p = s ∧ f.d = true) ∧ ∃ q ∈ turnedL a b, (dmark b q).isSome = true ∧ underL q s = true) := by
  rw [diff_at ha hb] at h
  unfold diffAt at h
  cases hc : baseAt b (turnedL a b) s with
  | some x =>
    rw [hc] at h
    injection h with h; subst h
    unfold baseAt at hc
    split at hc
    · next hs => exact .inl ⟨hs, hc⟩
    · cases hc
  | none =>
    rw [hc] at h
    have h : (if ancAt b (turnedL a b) s then some (updm s) else none) = some m := h
    split at h
    · next hA =>
      injection h with h
      obtain ⟨h1, q, hq, h2, h3⟩ := hA
      have h4 := dmark_anc hb (turned_path ha hb hq) h2 h1 h3
      refine .inr ⟨fun hs => ?_, h.symm, h1, h4, q, hq, h2, h3⟩
      obtain ⟨f, hf, hfp, _⟩ := h4
      unfold baseAt at hc
      rw [if_pos hs] at hc
      unfold dmark at hc
      rw [hb.get.2 ⟨hf, hfp⟩] at hc
      cases hc
    · cases h
theorem diff_base (ha : TOk a) (hb : TOk b) {s : Bs} {m : PM} (hs : s ∈ turnedL a b) (hd : dmark b s = some m) : atP PM.p (diffL a b) s = some m := by
  rw [diff_at ha hb]
  unfold diffAt baseAt
  rw [if_pos hs, hd]
open Classical in
theorem diff_anc (ha : TOk a) (hb : TOk b) {q s : Bs} (hq : q ∈ turnedL a b) (hd : (dmark b q).isSome = true) (hs : pathOkL s = true) (hu : underL q s = true) : atP PM.p (diffL a b) s = some (updm s) := by
  obtain ⟨f, hf, hfp, hfd⟩ := dmark_anc hb (turned_path ha hb hq) hd hs hu
  rw [diff_at ha hb]
  unfold diffAt baseAt
  by_cases h1 : s ∈ turnedL a b
  · rw [if_pos h1]
    unfold dmark
    rw [hb.get.2 ⟨hf, hfp⟩]
    simp [hfd]
  · rw [if_neg h1]
    show (if _ then _ else _) = _
    rw [if_pos ⟨hs, q, hq, hd, hu⟩]
theorem dmark_kind {q : Bs} {m : PM} (h : dmark b q = some m) : m.k = 1 ∨ m.k = 2 ∨ m.k = 3 := by
  unfold dmark at h
  split at h
  · injection h with h; subst h; split
    · exact .inr (.inl rfl)
    · exact .inl rfl
  · split at h
    · injection h with h; subst h; exact .inr (.inr rfl)
    · cases h
theorem diff_kind (ha : TOk a) (hb : TOk b) {m : PM} (hm : m ∈ diffL a b) : m.k = 1 ∨ m.k = 2 ∨ m.k = 3 := by
  rcases diff_look ha hb (atP_mem (diff_ord ha hb) hm) with ⟨_, h⟩ | ⟨_, h, _⟩
  · exact dmark_kind h
  · rw [h]; exact .inr (.inl rfl)
/-- What a mark of the difference says of the tree that is made. -/
theorem diff_says (ha : TOk a) (hb : TOk b) {s : Bs} {m : PM} (h : atP PM.p (diffL a b) s = some m) : (m.k = 3 → atP PE.p b s = none) ∧ (m.k ≠ 3 → atP PE.p b s = some (toE m)) := by
  rcases diff_look ha hb h with ⟨_, h1⟩ | ⟨_, rfl, _, ⟨f, hf, hfp, hfd⟩, _⟩
  · unfold dmark at h1
    rw [getL_at] at h1
    cases hc : atP PE.p b s with
    | some e =>
      rw [hc] at h1
      injection h1 with h1
      obtain ⟨h2, h3⟩ := atP_some hc
      subst h1
      by_cases hd : e.d = true
      · rw [if_pos hd]
        refine ⟨fun h => (by cases h), fun _ => ?_⟩
        rw [ent_dir hb h2 hd, h3]; rfl
      · rw [if_neg hd]
        refine ⟨fun h => (by cases h), fun _ => ?_⟩
        obtain ⟨p, d, x⟩ := e
        have hd : d = false := by simpa using hd
        have h3 : p = s := h3
        subst hd; subst h3; rfl
    | none =>
      rw [hc] at h1
      have h1 : (if upCodeL b s = 0 then some (PM.mk s 3 []) else none) = some m := h1
      split at h1
      · injection h1 with h1; subst h1
        exact ⟨fun _ => rfl, fun h => absurd rfl h⟩
      · cases h1
  · refine ⟨fun h => (by cases h), fun _ => ?_⟩
    rw [(atP_iff hb.ordP).2 ⟨hf, hfp⟩, ent_dir hb hf hfd, hfp]; rfl
theorem diff_hide (ha : TOk a) (hb : TOk b) (n : Nat) : ∀ s : Bs, s.length ≤ n → (∃ e ∈ a, e.p = s) → atP PE.p b s = none → hidesL (diffL a b) s = true := by
  induction n with
  | zero =>
    rintro s hl ⟨e, he, rfl⟩ _
    have := (path_len (ha.pth he)).1
    omega
  | succ n ih =>
    rintro s hl ⟨e, he, rfl⟩ hbn
    have hs : e.p ∈ turnedL a b := by rw [mem_turned ha.ordP hb.ordP, hbn, atP_mem ha.ordP he]; simp
    cases hd : dmark b e.p with
    | some m =>
      have h1 := diff_base ha hb hs hd
      have h2 := atP_some h1
      have h3 : m.k = 3 := Classical.byContradiction fun hk => by
        have := (diff_says ha hb h1).2 hk
        rw [hbn] at this; cases this
      exact hides_iff.2 ⟨m, h2.1, by omega, .inl h2.2⟩
    | none =>
      have hu : ¬ upCodeL b e.p = 0 := fun h => by
        have := (dmark_iff hb).2 h
        rw [hd] at this; cases this
      rcases ha.par he with hr | ⟨f, hf, hfp, hfd⟩
      · exact absurd ((upCode_iff hb.ordP).2 (.inl hr)) hu
      · have hp := ha.pth he
        have hne : upL e.p ≠ [47] := fun h => hu ((upCode_iff hb.ordP).2 (.inl h))
        have hlen := up_len hp hne
        have hund : underL e.p f.p = true := by rw [hfp]; exact up_under hp
        cases hc : atP PE.p b f.p with
        | none => exact hides_down (ih f.p (by rw [hfp]; omega) ⟨f, hf, rfl⟩ hc) hund
        | some g =>
          obtain ⟨h1, h2⟩ := atP_some hc
          have hgd : g.d = false := by
            cases h : g.d with
            | false => rfl
            | true => exact absurd ((upCode_iff hb.ordP).2 (.inr ⟨g, h1, h2.trans hfp, h⟩)) hu
          have hft : f.p ∈ turnedL a b := by
            rw [mem_turned ha.ordP hb.ordP, hc, atP_mem ha.ordP hf]
            intro h
            injection h with h
            subst h
            rw [hfd] at hgd; cases hgd
          have hdm : dmark b f.p = some ⟨f.p, 1, g.x⟩ := by
            unfold dmark
            rw [getL_at, hc]
            simp [hgd]
          exact hides_iff.2 ⟨_, (atP_some (diff_base ha hb hft hdm)).1, by simp, .inr hund⟩
/-- The difference makes the one tree of the other one. -/
theorem diff_on (ha : TOk a) (hb : TOk b) : onL (diffL a b) a = b := by
  have ho := diff_ord ha hb
  refine ord_ext_at (on_ord _ ha.ordP) hb.ordP fun q => ?_
  rw [at_on ho ha.ordP]
  cases hc : atP PM.p (diffL a b) q with
  | some m =>
    have h1 := diff_says ha hb hc
    show (if m.k = 3 then none else some (toE m)) = _
    by_cases hk : m.k = 3
    · rw [if_pos hk, h1.1 hk]
    · rw [if_neg hk, h1.2 hk]
  | none =>
    show (if hidesL (diffL a b) q = true then none else atP PE.p a q) = _
    by_cases hh : hidesL (diffL a b) q = true
    · rw [if_pos hh]
      obtain ⟨m, hm, hk, h1 | h1⟩ := hides_iff.1 hh
      · exact absurd h1 (atP_none.1 hc m hm)
      · symm
        rw [atP_none]
        rintro e he rfl
        have h2 := diff_says ha hb (atP_mem ho hm)
        have hmp : pathOkL m.p = true := by
          rcases diff_look ha hb (atP_mem ho hm) with ⟨h, _⟩ | ⟨_, _, h, _⟩
          · exact turned_path ha hb h
          · exact h
        obtain ⟨f, hf, hfp, hfd⟩ := hb.anc he hmp h1
        have h3 : atP PE.p b m.p = some f := (atP_iff hb.ordP).2 ⟨hf, hfp⟩
        rcases diff_kind ha hb hm with hk1 | hk1 | hk1
        · have := h2.2 (by omega)
          rw [h3] at this
          injection this with this
          rw [this] at hfd
          simp [toE, dirM, hk1] at hfd
        · exact hk hk1
        · have := h2.1 hk1
          rw [h3] at this; cases this
    · rw [if_neg hh]
      refine Classical.byContradiction fun hne => hh ?_
      have hq : q ∈ turnedL a b := (mem_turned ha.ordP hb.ordP q).2 hne
      have hbn : atP PE.p b q = none := by
        cases h : atP PE.p b q with
        | none => rfl
        | some e =>
          have : dmark b q = some (if e.d then ⟨q, 2, []⟩ else ⟨q, 1, e.x⟩) := by unfold dmark; rw [getL_at, h]
          rw [diff_base ha hb hq this] at hc; cases hc
      have han : ∃ e ∈ a, e.p = q := by
        cases h : atP PE.p a q with
        | none => rw [h, hbn] at hne; exact absurd rfl hne
        | some e => exact ⟨e, atP_some h⟩
      exact diff_hide ha hb _ q (Nat.le_refl _) han hbn
theorem diff_up (ha : TOk a) (hb : TOk b) {m : PM} (hm : m ∈ diffL a b) {s : Bs} (hs : pathOkL s = true) (hu : underL m.p s = true) : atP PM.p (diffL a b) s = some (updm s) := by
  rcases diff_look ha hb (atP_mem (diff_ord ha hb) hm) with ⟨h1, h2⟩ | ⟨_, _, _, _, q, hq, h3, h4⟩
  · exact diff_anc ha hb h1 (by rw [h2]; rfl) hs hu
  · exact diff_anc ha hb hq h3 hs (under_trans h4 hu)
theorem diff_path (ha : TOk a) (hb : TOk b) {m : PM} (hm : m ∈ diffL a b) : pathOkL m.p = true := by
  rcases diff_look ha hb (atP_mem (diff_ord ha hb) hm) with ⟨h1, _⟩ | ⟨_, _, h, _⟩
  · exact turned_path ha hb h1
  · exact h
theorem ord_sub_len : ∀ {s t : List Bs}, OrdP id s → OrdP id t → (∀ x ∈ s, x ∈ t) → s.length ≤ t.length := by
  intro s t
  induction t generalizing s with
  | nil =>
    intro _ _ h
    cases s with
    | nil => simp
    | cons x r => have := h x (by simp); cases this
  | cons y t ih =>
    intro hs ht h
    cases s with
    | nil => simp
    | cons x r =>
      rw [ordP_cons] at hs ht
      have hr : ∀ z ∈ r, z ∈ t := fun z hz => by
        rcases List.mem_cons.1 (h z (by simp [hz])) with h1 | h1
        · subst h1
          rcases List.mem_cons.1 (h x (by simp)) with h2 | h2
          · have := hs.1 z hz; rw [h2] at this; change bytesLess z z = true at this; rw [less_irrefl] at this; cases this
          · have := less_trans (hs.1 z hz) (ht.1 x h2); change bytesLess x x = true at this; rw [less_irrefl] at this; cases this
        · exact h1
      have := ih hs.2 ht.2 hr
      simp only [List.length_cons]; omega
theorem ord_mapM {t : List PM} (h : OrdP PM.p t) : OrdP id (t.map PM.p) := by
  unfold OrdP at *
  rw [List.pairwise_map]; exact h
theorem put_len_le {α : Type} {f : α → Bs} (a : List α) (y : α) : (putP f a y).length ≤ a.length + 1 := by
  induction a with
  | nil => simp [putP]
  | cons x a ih =>
    unfold putP
    split
    · simp only [List.length_cons]; omega
    · split <;> simp
theorem fold_len_le {α : Type} {f : α → Bs} (b a : List α) : (b.foldl (putP f) a).length ≤ a.length + b.length := by
  induction b generalizing a with
  | nil => simp
  | cons y b ih =>
    rw [List.foldl_cons]
    have h1 := ih (putP f a y)
    have h2 := put_len_le (f := f) a y
    simp only [List.length_cons]; omega
theorem diff_lok (ha : TOk a) (hb : TOk b) : LOk (diffL a b) := by
  have ho := diff_ord ha hb
  refine ⟨?_, fun m hm => ?_, ho, fun m hm => ?_, fun m hm _ => ?_⟩
  · have h1 := ord_fold (f := PE.p) (u := b) ha.ordP
    have h2 : ((diffL a b).map PM.p).length ≤ ((b.foldl (putP PE.p) a).map PE.p).length := by
      refine ord_sub_len (ord_mapM ho) (ord_map h1) fun s hs => ?_
      obtain ⟨m, hm, rfl⟩ := List.mem_map.1 hs
      have hin : ∃ e, atP PE.p (b.foldl (putP PE.p) a) m.p = some e := by
        rw [atP_fold hb.ordP.dis ha.ordP]
        cases hc : atP PE.p b m.p with
        | some e => exact ⟨e, rfl⟩
        | none =>
          rcases diff_look ha hb (atP_mem ho hm) with ⟨h3, _⟩ | ⟨_, _, _, ⟨f, hf, hfp, _⟩, _⟩
          · rw [mem_turned ha.ordP hb.ordP, hc] at h3
            cases hd : atP PE.p a m.p with
            | some e => exact ⟨e, rfl⟩
            | none => rw [hd] at h3; exact absurd rfl h3
          · exact absurd hfp (atP_none.1 hc f hf)
      obtain ⟨e, he⟩ := hin
      obtain ⟨h3, h4⟩ := atP_some he
      exact List.mem_map.2 ⟨e, h3, h4⟩
    rw [List.length_map, List.length_map] at h2
    have h3 := fold_len_le (f := PE.p) b a
    have := ha.most
    have := hb.most
    omega
  · have hp := diff_path ha hb hm
    rcases diff_look ha hb (atP_mem ho hm) with ⟨_, h1⟩ | ⟨_, h1, _⟩
    · unfold dmark at h1
      cases hg : getL b m.p with
      | some e =>
        rw [hg] at h1
        have h1 : (if e.d = true then PM.mk m.p 2 [] else ⟨m.p, 1, e.x⟩) = m := by injection h1
        have hx := hb.dat (hb.get.1 hg).1
        rw [← h1]
        split
        · simp [markOkL, hp, show dataOkL [] = true by decide]
        · simp [markOkL, hp, hx]
      | none =>
        rw [hg] at h1
        have h1 : (if upCodeL b m.p = 0 then some (PM.mk m.p 3 []) else none) = some m := h1
        split at h1
        · injection h1 with h1
          rw [← h1]
          simp [markOkL, hp, show dataOkL [] = true by decide]
        · cases h1
    · rw [h1]
      simp [markOkL, hp, show dataOkL [] = true by decide]
  · rw [upM_of ho]
    have hp := diff_path ha hb hm
    by_cases hr : upL m.p = [47]
    · exact .inl hr
    · have h1 := diff_up ha hb hm (up_path hp hr) (up_under hp)
      obtain ⟨h2, h3⟩ := atP_some h1
      exact .inr ⟨_, h2, h3, rfl⟩
  · cases hbb : bareL (diffL a b) m.p with
    | false => rfl
    | true =>
      obtain ⟨y, hy, hk, _⟩ := bare_iff.1 hbb
      rcases diff_kind ha hb hy with h | h | h <;> omega
theorem diff_self (ha : TOk a) : diffL a a = [] := by unfold diffL; rw [turned_self ha.ordP]; rfl
theorem diff_nil (ha : TOk a) (hb : TOk b) : diffL a b = [] ↔ a = b := by
  constructor
  · intro h
    have := diff_on ha hb
    rw [h, on_nil ha.ordP] at this
    exact this
  · rintro rfl; exact diff_self ha
/-- A mark that others are below is of a directory. -/
theorem diff_above (ha : TOk a) (hb : TOk b) {m n : PM} (hm : m ∈ diffL a b) (hn : n ∈ diffL a b) (hu : underL n.p m.p = true) : m.k = 2 := by
  have h1 := diff_up ha hb hn (diff_path ha hb hm) hu
  rw [atP_mem (diff_ord ha hb) hm] at h1
  injection h1 with h1
  rw [h1]
/-- Without a mark that no other is below it is another tree. -/
theorem diff_less (ha : TOk a) (hb : TOk b) {m : PM} (hm : m ∈ diffL a b) (hn : ∀ n ∈ diffL a b, underL n.p m.p = false) {less : List PM} (ho : OrdP PM.p less) (hl : ∀ n, n ∈ less ↔ n ∈ diffL a b ∧ n ≠ m) : onL less a ≠ b := by
  have hO := diff_ord ha hb
  intro he
  have h1 : m.p ∈ turnedL a b := by
    rcases diff_look ha hb (atP_mem hO hm) with ⟨h, _⟩ | ⟨_, _, _, _, q, hq, h3, h4⟩
    · exact h
    · obtain ⟨x, hx⟩ := Option.isSome_iff_exists.1 h3
      obtain ⟨h5, h6⟩ := atP_some (diff_base ha hb hq hx)
      have := hn x h5
      rw [h6, h4] at this; cases this
  rw [mem_turned ha.ordP hb.ordP] at h1
  have h2 := at_on ho ha.ordP m.p
  have h3 : atP PM.p less m.p = none := by
    rw [atP_none]
    intro n hnn hp
    obtain ⟨h4, h5⟩ := (hl n).1 hnn
    exact h5 ((diff_lok ha hb).same h4 hm hp)
  have h4 : hidesL less m.p = false := by
    cases hh : hidesL less m.p with
    | false => rfl
    | true =>
      obtain ⟨n, hnn, hk, h5 | h5⟩ := hides_iff.1 hh
      · exact absurd h5 (atP_none.1 h3 n hnn)
      · exact absurd (diff_above ha hb ((hl n).1 hnn).1 hm h5) hk
  rw [h3, he] at h2
  have h2 : atP PE.p b m.p = if hidesL less m.p = true then none else atP PE.p a m.p := h2
  rw [h4] at h2
  exact h1 h2.symm
theorem diff_count (ha : TOk a) (hb : TOk b) : ((diffL a b).filter fun m => decide (m.p ∈ turnedL a b)).length = ((turnedL a b).filter fun q => decide (upCodeL b q = 0)).length := by
  have ho := diff_ord ha hb
  have h1 : ((diffL a b).filter fun m => decide (m.p ∈ turnedL a b)).map PM.p = (turnedL a b).filter fun q => decide (upCodeL b q = 0) := by
    refine ord_ext (ord_mapM (ho.filter _)) ((ord_turned ha.ordP).filter _) fun s => ?_
    rw [List.mem_map, List.mem_filter]
    simp only [decide_eq_true_eq]
    constructor
    · rintro ⟨m, hm, rfl⟩
      obtain ⟨h2, h3⟩ := List.mem_filter.1 hm
      simp only [decide_eq_true_eq] at h3
      refine ⟨h3, ?_⟩
      rcases diff_look ha hb (atP_mem ho h2) with ⟨_, h4⟩ | ⟨h4, _⟩
      · exact (dmark_iff hb).1 (by rw [h4]; rfl)
      · exact absurd h3 h4
    · rintro ⟨h2, h3⟩
      obtain ⟨m, hm⟩ := Option.isSome_iff_exists.1 ((dmark_iff hb).2 h3)
      obtain ⟨h4, h5⟩ := atP_some (diff_base ha hb h2 hm)
      exact ⟨m, List.mem_filter.2 ⟨h4, by rw [h5]; simpa using h2⟩, h5⟩
  rw [← h1, List.length_map]
theorem diff_other (ha : TOk a) (hb : TOk b) {m : PM} (hm : m ∈ diffL a b) (h : m.p ∉ turnedL a b) : m.k = 2 ∧ ∃ q ∈ turnedL a b, underL q m.p = true := by
  rcases diff_look ha hb (atP_mem (diff_ord ha hb) hm) with ⟨h1, _⟩ | ⟨_, h1, _, _, q, hq, _, h4⟩
  · exact absurd h1 h
  · exact ⟨by rw [h1], q, hq, h4⟩
end
end Go.Proofs.YtobbodbkdcbflaaDoor
namespace Go.Proofs.YtobbodbkdcbflaaDoor
open Go.Op
theorem opOk_p {k : Int} {p r x : Bs} (h : opOkL k p r x = true) : pathOkL p = true := by
  unfold opOkL at h
  simp only [Bool.and_eq_true] at h
  exact h.1
theorem opOk_5 {p r x : Bs} : opOkL 5 p r x = (pathOkL p && (pathOkL r && x == [])) := by simp [opOkL]
theorem opOk_2 {p r x : Bs} : opOkL 2 p r x = (pathOkL p && (r == [] && dataOkL x)) := by simp [opOkL]
theorem opOk_1 {p r x : Bs} : opOkL 1 p r x = (pathOkL p && (r == [] && x == [])) := by simp [opOkL]
theorem opOk_3 {p r x : Bs} : opOkL 3 p r x = (pathOkL p && (r == [] && x == [])) := by simp [opOkL]
theorem opOk_4 {p r x : Bs} : opOkL 4 p r x = (pathOkL p && (r == [] && x == [])) := by simp [opOkL]
theorem opOk_k {k : Int} {p r x : Bs} (h : opOkL k p r x = true) : k = 1 ∨ k = 2 ∨ k = 3 ∨ k = 4 ∨ k = 5 := by
  by_cases h5 : k = 5
  · simp [h5]
  by_cases h2 : k = 2
  · simp [h2]
  by_cases h1 : k = 1 ∨ k = 3 ∨ k = 4
  · rcases h1 with h1 | h1 | h1 <;> simp [h1]
  · exfalso
    unfold opOkL at h
    rw [if_neg h5, if_neg h2, if_neg h1, Bool.and_false] at h
    cases h
theorem upCode_le (t : List PE) (q : Bs) : upCodeL t q = 0 ∨ upCodeL t q = 2 ∨ upCodeL t q = 3 := by
  unfold upCodeL
  split
  · exact .inl rfl
  · split
    · exact .inr (.inl rfl)
    · split
      · exact .inl rfl
      · exact .inr (.inr rfl)
theorem code_ne1 (t : List PE) (k : Int) (p r : Bs) : codeL t k p r ≠ 1 ∧ codeL t k p r ≤ 8 := by
  have key : ∀ q, upCodeL t q ≠ 1 ∧ upCodeL t q ≤ 8 := fun q => by rcases upCode_le t q with h | h | h <;> rw [h] <;> decide
  unfold codeL
  split
  · unfold makeC; split
    · exact key _
    · split
      · decide
      · split <;> decide
  · split
    · unfold putC; split
      · exact key _
      · split
        · split <;> decide
        · split <;> decide
    · split
      · unfold rmC; split
        · decide
        · split <;> decide
      · split
        · unfold rmdirC; split
          · decide
          · split
            · split <;> decide
            · decide
        · unfold moveC; split
          · decide
          · split
            · exact key _
            · split
              · decide
              · split
                · decide
                · split <;> decide
open Classical in
/-- How it ends. -/
noncomputable def tcode (t : List PE) (k : Int) (p r x : Bs) : Nat := if TOk t then (if opOkL k p r x = true then codeL t k p r else 1) else 1
open Classical in
/-- What is told. -/
noncomputable def tdo (t : List PE) (k : Int) (p r x : Bs) : List PE := if TOk t then (if tcode t k p r x = 0 then doL t k p r x else t) else []
section
variable {t : List PE} {k : Int} {p r x : Bs}
theorem tcode_bad (h : ¬ TOk t) : tcode t k p r x = 1 := by unfold tcode; rw [if_neg h]
theorem tdo_bad (h : ¬ TOk t) : tdo t k p r x = [] := by unfold tdo; rw [if_neg h]
theorem tcode_op (h : TOk t) (ho : opOkL k p r x = true) : tcode t k p r x = codeL t k p r := by unfold tcode; rw [if_pos h, if_pos ho]
theorem tcode_no (ho : ¬ opOkL k p r x = true) : tcode t k p r x = 1 := by
  unfold tcode
  rw [if_neg ho]
  split <;> rfl
theorem tdo_same (h : TOk t) (hc : tcode t k p r x ≠ 0) : tdo t k p r x = t := by unfold tdo; rw [if_pos h, if_neg hc]
theorem tcode_0 (hc : tcode t k p r x = 0) : TOk t ∧ opOkL k p r x = true ∧ codeL t k p r = 0 := by
  unfold tcode at hc
  split at hc
  · next h =>
    split at hc
    · next ho => exact ⟨h, ho, hc⟩
    · cases hc
  · cases hc
theorem tdo_do (hc : tcode t k p r x = 0) : tdo t k p r x = doL t k p r x := by
  unfold tdo
  rw [if_pos (tcode_0 hc).1, if_pos hc]
theorem tcode_1 (h : TOk t) : tcode t k p r x = 1 ↔ opOkL k p r x = false := by
  unfold tcode
  rw [if_pos h]
  by_cases ho : opOkL k p r x = true
  · rw [if_pos ho]
    constructor
    · intro h; exact absurd h (code_ne1 t k p r).1
    · intro h; rw [ho] at h; cases h
  · rw [if_neg ho]; simpa using ho
theorem doL_1 : doL t 1 p r x = putP PE.p t ⟨p, true, x⟩ := by simp [doL]
theorem doL_2 : doL t 2 p r x = putP PE.p t ⟨p, false, x⟩ := by simp [doL]
theorem doL_3 : doL t 3 p r x = t.filter fun e => !(e.p == p) := by simp [doL]
theorem doL_4 : doL t 4 p r x = t.filter fun e => !(e.p == p) := by simp [doL]
theorem doL_5 : doL t 5 p r x = mvL t p r := by simp [doL]
theorem code_1 : codeL t 1 p r = makeC t p := by simp [codeL]
theorem code_2 : codeL t 2 p r = putC t p := by simp [codeL]
theorem code_3 : codeL t 3 p r = rmC t p := by simp [codeL]
theorem code_4 : codeL t 4 p r = rmdirC t p := by simp [codeL]
theorem code_5 : codeL t 5 p r = moveC t p r := by simp [codeL]
/-- What is done to a right tree leaves it a right tree. -/
theorem do_tok (h : TOk t) (ho : opOkL k p r x = true) (hc : codeL t k p r = 0) : TOk (doL t k p r x) := by
  have hp := opOk_p ho
  rcases opOk_k ho with rfl | rfl | rfl | rfl | rfl
  · rw [opOk_1] at ho
    simp only [Bool.and_eq_true, beq_iff_eq] at ho
    obtain ⟨_, _, rfl⟩ := ho
    rw [code_1] at hc
    obtain ⟨h1, h2, h3⟩ := makeC_0 hc
    rw [doL_1]
    exact tok_put h hp (by decide) (fun _ => rfl) h1 (.inr ⟨h2, h3⟩)
  · rw [opOk_2] at ho
    simp only [Bool.and_eq_true, beq_iff_eq] at ho
    rw [code_2] at hc
    obtain ⟨h1, h2⟩ := putC_0 hc
    rw [doL_2]
    exact tok_put h hp ho.2.2 (fun h => by cases h) h1 h2
  · rw [code_3] at hc
    obtain ⟨e, h1, h2⟩ := rmC_0 hc
    rw [doL_3]
    exact tok_off h fun _ _ => .inr ⟨e, h1, h2⟩
  · rw [code_4] at hc
    obtain ⟨e, h1, h2, h3⟩ := rmdirC_0 hc
    rw [doL_4]
    refine tok_off h fun f hf => .inl fun hu => ?_
    have := h3 f hf
    rw [← hu, up_under (h.pth hf)] at this; cases this
  · rw [opOk_5] at ho
    simp only [Bool.and_eq_true, beq_iff_eq] at ho
    rw [code_5] at hc
    rw [doL_5]
    exact (mv_of h hp ho.2.1 hc).tok'
theorem tdo_tok (h : TOk t) : TOk (tdo t k p r x) := by
  by_cases hc : tcode t k p r x = 0
  · rw [tdo_do hc]; exact do_tok (tcode_0 hc).1 (tcode_0 hc).2.1 (tcode_0 hc).2.2
  · rw [tdo_same h hc]; exact h
/-- What the program has before it sorts is what is told. -/
theorem do_of_raw (h : TOk t) (ho : opOkL k p r x = true) (hc : codeL t k p r = 0) : DisP PE.p (rawL t k p r x) ∧ ∀ {s : List PE}, s.Perm (rawL t k p r x) → (s.Pairwise fun a b => bytesLess b.p a.p = false) → s = doL t k p r x := by
  have hp := opOk_p ho
  have off : OrdP PE.p (t.filter fun e => !(e.p == p)) := h.ordP.filter _
  rcases opOk_k ho with rfl | rfl | rfl | rfl | rfl
  · have hd : DisP PE.p (rawL t 1 p r x) := by
      have e : rawL t 1 p r x = (t.filter fun e => !(e.p == p)) ++ [⟨p, true, x⟩] := by simp [rawL]
      rw [e]
      unfold DisP
      rw [List.pairwise_append]
      refine ⟨off.dis, by simp, fun a ha b hb => ?_⟩
      rw [List.mem_singleton] at hb; subst hb
      have := (List.mem_filter.1 ha).2
      simpa using this
    refine ⟨hd, fun {s} h1 h2 => ?_⟩
    rw [doL_1]
    refine ord_ext (ord_of_sorted h1 hd h2) (ord_putP h.ordP _) fun e => ?_
    rw [h1.mem_iff, mem_putP h.ordP, show rawL t 1 p r x = (t.filter fun e => !(e.p == p)) ++ [⟨p, true, x⟩] by simp [rawL], List.mem_append, List.mem_filter, List.mem_singleton]
    simp only [Bool.not_eq_true', beq_eq_false_iff_ne]
    exact or_comm
  · have hd : DisP PE.p (rawL t 2 p r x) := by
      have e : rawL t 2 p r x = (t.filter fun e => !(e.p == p)) ++ [⟨p, false, x⟩] := by simp [rawL]
      rw [e]
      unfold DisP
      rw [List.pairwise_append]
      refine ⟨off.dis, by simp, fun a ha b hb => ?_⟩
      rw [List.mem_singleton] at hb; subst hb
      have := (List.mem_filter.1 ha).2
      simpa using this
    refine ⟨hd, fun {s} h1 h2 => ?_⟩
    rw [doL_2]
    refine ord_ext (ord_of_sorted h1 hd h2) (ord_putP h.ordP _) fun e => ?_
    rw [h1.mem_iff, mem_putP h.ordP, show rawL t 2 p r x = (t.filter fun e => !(e.p == p)) ++ [⟨p, false, x⟩] by simp [rawL], List.mem_append, List.mem_filter, List.mem_singleton]
    simp only [Bool.not_eq_true', beq_eq_false_iff_ne]
    exact or_comm
  · have e : rawL t 3 p r x = t.filter fun e => !(e.p == p) := by simp [rawL]
    rw [e, doL_3]
    refine ⟨off.dis, fun {s} h1 h2 => ?_⟩
    exact ord_ext (ord_of_sorted h1 off.dis h2) off fun e => h1.mem_iff
  · have e : rawL t 4 p r x = t.filter fun e => !(e.p == p) := by simp [rawL]
    rw [e, doL_4]
    refine ⟨off.dis, fun {s} h1 h2 => ?_⟩
    exact ord_ext (ord_of_sorted h1 off.dis h2) off fun e => h1.mem_iff
  · rw [opOk_5] at ho
    simp only [Bool.and_eq_true, beq_iff_eq] at ho
    rw [code_5] at hc
    have m := mv_of h hp ho.2.1 hc
    have e : rawL t 5 p r x = t.map (movedE p r) := by simp [rawL]
    rw [e, doL_5]
    exact ⟨m.dis, fun {s} h1 h2 => fold_of_perm h1 m.dis h2⟩
/-! Lookups in what is told. -/
theorem at_off (h : TOk t) (q : Bs) : atP PE.p (t.filter fun e => !(e.p == p)) q = if p = q then none else atP PE.p t q := by
  refine opt_ext fun e => ?_
  rw [atP_filter h.ordP]
  by_cases hq : p = q
  · rw [if_pos hq]
    constructor
    · rintro ⟨h1, h2⟩
      have := (atP_some h1).2
      simp [this, hq] at h2
    · intro h; cases h
  · rw [if_neg hq]
    constructor
    · exact fun h => h.1
    · intro h1
      refine ⟨h1, ?_⟩
      have := (atP_some h1).2
      simp [this, Ne.symm hq]
theorem turned_one {a b : List PE} (ha : OrdP PE.p a) (hb : OrdP PE.p b) {p : Bs} (h1 : atP PE.p a p ≠ atP PE.p b p) (h2 : ∀ q, p ≠ q → atP PE.p a q = atP PE.p b q) : turnedL a b = [p] := by
  refine ord_ext (ord_turned ha) (by simp [OrdP]) fun s => ?_
  rw [mem_turned ha hb, List.mem_singleton]
  constructor
  · intro h
    exact Classical.byContradiction fun hs => h (h2 s (Ne.symm hs))
  · rintro rfl; exact h1
end
end Go.Proofs.YtobbodbkdcbflaaDoor
namespace Go.Proofs.YtobbodbkdcbflaaDoor
open Go.RowKit
theorem anyE_at {xs : List En} {P : PE → Bool} (k : Nat) (e : En) (he : xs[k]? = some e) (h : P e.pl = true) : (xs.map En.pl).any P = true := List.any_eq_true.2 ⟨e.pl, List.mem_map.2 ⟨e, List.mem_of_getElem? he, rfl⟩, h⟩
theorem anyE_no {xs : List En} {P : PE → Bool} (h : ∀ (j : Nat) (f : En), xs[j]? = some f → P f.pl = false) : (xs.map En.pl).any P = false := by
  rw [List.any_eq_false]
  intro x hx
  obtain ⟨f, hf, rfl⟩ := List.mem_map.1 hx
  obtain ⟨j, hj⟩ := List.getElem?_of_mem hf
  rw [h j f hj]; simp
/-- A slice's address, as a call hands it on. -/
def Adr (a : Option Addr) (c : Nat) : Prop := (a = none ∧ c = 0) ∨ ∃ b off, a = some ⟨b, off, none⟩
theorem own_adr {w : World} {B : Nat} {e : TypeId} {size : Nat} {a : Option Addr} {n m c : Nat} {xs : List Value} (h : w.ownsRow B e size (.slice a n c) m xs) : Adr a c := by
  rcases h.2 with ⟨h1, _⟩ | ⟨g, cap, cur, e, _⟩
  · injection h1 with h2 h3 h4; exact .inl ⟨h2, h4⟩
  · injection e with h2 h3 h4; exact .inr ⟨g, 0, h2⟩
end Go.Proofs.YtobbodbkdcbflaaDoor
