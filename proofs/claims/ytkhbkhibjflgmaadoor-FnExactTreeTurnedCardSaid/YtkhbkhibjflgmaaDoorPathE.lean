/- The walks of impl.PathJoin, impl.PathUnder, impl.PathMove. Conditions: texts are short enough that their sum is a text. -/
import Derived.Test.YtkhbkhibjflgmaaDoorPathD
namespace Go.Proofs.YtkhbkhibjflgmaaDoor
open Go.RowKit
theorem beq_no {s : ByteArray} {t : Bs} (h : s.data.toList ≠ t) : (s.toList == t) = false := by rw [Lib.toList_data]; simpa using h
theorem beq_yes {s : ByteArray} {t : Bs} (h : s.data.toList = t) : (s.toList == t) = true := by rw [Lib.toList_data]; simpa using h
theorem beq_of (s : ByteArray) (t : Bs) : (s.toList == t) = (s.data.toList == t) := by rw [Lib.toList_data]
theorem ret_strb {a b : ByteArray} {x : Bool} (h : a.data.toList = b.data.toList) : Ending.returned (.tuple #[.string a, .bool x]) = .returned (.tuple #[.string b, .bool x]) := by rw [bytes_eq h]
theorem app_data (a b : ByteArray) : (a ++ b).data.toList = a.data.toList ++ b.data.toList := by simp
set_option maxHeartbeats 1000000 in
theorem pathJoin_c (d n r : ByteArray) (ok : Bool) (hr : Hid (joinL d.data.toList n.data.toList = r.data.toList)) (hok : Hid (joinOkL d.data.toList n.data.toList = ok)) (w : World) (hd : d.size ≤ 2000000) (hn : n.size ≤ 2000000) :
    Calls Tryd.prog 62 #[.string d, .string n] w fun e w' => e = .returned (.tuple #[.string r, .bool ok]) ∧ Below w.heap.size w w' := by
  have hnm : n.size ≤ maxLen := by unfold maxLen; omega
  have hdm : d.size ≤ maxLen := by unfold maxLen; omega
  have hf : Hid (joinOkL d.data.toList n.data.toList = false → ok = false ∧ r = ⟨#[]⟩) := fun h =>
    ⟨by rw [← hok.out, h], bytes_eq (by rw [← hr.out, joinL, h]; rfl)⟩
  cases hb : nameOkL n.data.toList with
  | false =>
    obtain ⟨rfl, rfl⟩ := hf.out (by simp [joinOkL, hb])
    have HB := Lib.hid hb; clear hb hf hr hok
    go_enter Tryd.func62, Tryd.ntmps62
    go_wp2_with (go_at_call 107; refine (nameOk_c _ _ HB _ hnm).mono ?_; rintro e w' ⟨rfl, rfl⟩)
    go_ret2
    exact ⟨rfl, Below.refl _ _⟩
  | true =>
    by_cases hroot : d.data.toList = [47]
    · have ht : joinOkL d.data.toList n.data.toList = true := by simp [joinOkL, hb, hroot]
      obtain rfl : ok = true := by rw [← hok.out, ht]
      have hR : Hid (r.data.toList = 47 :: n.data.toList) := by rw [Hid, ← hr.out, joinL, ht, hroot]; rfl
      have hq := beq_yes hroot
      have HB := Lib.hid hb; clear hb hf hr hok ht hroot
      go_enter Tryd.func62, Tryd.ntmps62
      go_wp2_with (go_at_call 107; refine (nameOk_c _ _ HB _ hnm).mono ?_; rintro e w' ⟨rfl, rfl⟩)
      go_ret2
      exact ⟨ret_strb (by rw [hR.out]; simp), Below.refl _ _⟩
    · have hq := beq_no hroot
      cases hp : pathOkL d.data.toList with
      | false =>
        obtain ⟨rfl, rfl⟩ := hf.out (by simp [joinOkL, hp, hroot])
        have HB := Lib.hid hb
        have HP := Lib.hid hp; clear hb hp hf hr hok hroot
        go_enter Tryd.func62, Tryd.ntmps62
        go_wp2_with (first | (go_at_call 107; refine (nameOk_c _ _ HB _ hnm).mono ?_; rintro e w' ⟨rfl, rfl⟩) | (go_at_call 61; refine (pathOk_c _ _ HP _ hdm).mono ?_; rintro e w' ⟨rfl, hb⟩))
        go_ret2
        exact ⟨rfl, hb⟩
      | true =>
        obtain ⟨l, hl⟩ : ∃ l, levelsL d.data.toList = l := ⟨_, rfl⟩
        by_cases h3 : l = 3
        · subst h3
          obtain ⟨rfl, rfl⟩ := hf.out (by simp [joinOkL, hl, hroot])
          have HB := Lib.hid hb
          have HL := Lib.hid hl
          have HP := Lib.hid hp; clear hb hp hf hr hok hroot hl
          go_enter Tryd.func62, Tryd.ntmps62
          go_wp2_with (first | (go_at_call 107; refine (nameOk_c _ _ HB _ hnm).mono ?_; rintro e w' ⟨rfl, rfl⟩) | (go_at_call 61; refine (pathOk_c _ _ HP _ hdm).mono ?_; rintro e w1 ⟨rfl, hb1⟩) | (go_at_call 108; refine (pathLevels_c _ _ HL _ hdm).mono ?_; rintro e w2 ⟨rfl, hb2⟩))
          go_ret2
          exact ⟨rfl, hb1.trans (hb2.mono hb1.size)⟩
        · have hl3 : l ≤ 3 := by
            have := (pathOk_names hp).1.1
            rw [← hl, levelsL, if_pos hp]; exact this
          have ht : joinOkL d.data.toList n.data.toList = true := by simp [joinOkL, hb, hp, hl]; omega
          obtain rfl : ok = true := by rw [← hok.out, ht]
          have hR : Hid (r.data.toList = d.data.toList ++ 47 :: n.data.toList) := by rw [Hid, ← hr.out, joinL, ht, if_pos rfl, if_neg hroot]
          have hl' : ((l : Int) == 3) = false := by simp; omega
          have HB := Lib.hid hb
          have HL := Lib.hid hl
          have HP := Lib.hid hp; clear hb hp hf hr hok hroot hl ht h3 hl3
          go_enter Tryd.func62, Tryd.ntmps62
          go_wp2_with (first | (go_at_call 107; refine (nameOk_c _ _ HB _ hnm).mono ?_; rintro e w' ⟨rfl, rfl⟩) | (go_at_call 61; refine (pathOk_c _ _ HP _ hdm).mono ?_; rintro e w1 ⟨rfl, hb1⟩) | (go_at_call 108; refine (pathLevels_c _ _ HL _ hdm).mono ?_; rintro e w2 ⟨rfl, hb2⟩))
          go_ret2
          exact ⟨ret_strb (by rw [hR.out]; simp), hb1.trans (hb2.mono hb1.size)⟩
set_option maxHeartbeats 1000000 in
theorem pathUnder_c (s d : ByteArray) (r : Bool) (hr : Hid (underL s.data.toList d.data.toList = r)) (w : World) (hs : s.size ≤ 2000000) (hd : d.size ≤ 2000000) :
    Calls Tryd.prog 39 #[.string s, .string d] w fun e w' => e = .returned (.bool r) ∧ Below w.heap.size w w' := by
  have hsm : s.size ≤ maxLen := by unfold maxLen; omega
  have hdm : d.size ≤ maxLen := by unfold maxLen; omega
  cases hp : pathOkL s.data.toList with
  | false =>
    obtain rfl : r = false := by rw [← hr.out]; simp [underL, hp]
    have HP := Lib.hid hp; clear hp hr
    go_enter Tryd.func39, Tryd.ntmps39
    go_wp2_with (go_at_call 61; refine (pathOk_c _ _ HP _ hsm).mono ?_; rintro e w' ⟨rfl, hb⟩)
    go_ret
    exact ⟨rfl, hb⟩
  | true =>
    by_cases hroot : d.data.toList = [47]
    · obtain rfl : r = true := by rw [← hr.out]; simp [underL, hp, hroot]
      have hq := beq_yes hroot
      have HP := Lib.hid hp; clear hp hr hroot
      go_enter Tryd.func39, Tryd.ntmps39
      go_wp2_with (go_at_call 61; refine (pathOk_c _ _ HP _ hsm).mono ?_; rintro e w' ⟨rfl, hb⟩)
      go_ret
      exact ⟨rfl, hb⟩
    · have hq := beq_no hroot
      cases hpd : pathOkL d.data.toList with
      | false =>
        obtain rfl : r = false := by rw [← hr.out]; simp [underL, hpd, hroot]
        have HP := Lib.hid hp
        have HD := Lib.hid hpd; clear hp hpd hr hroot
        go_enter Tryd.func39, Tryd.ntmps39
        go_wp2_with fail
        refine (pathOk_c _ _ HP _ hsm).mono ?_; rintro e w1 ⟨rfl, hb1⟩
        go_wp2_with fail
        refine (pathOk_c _ _ HD _ hdm).mono ?_; rintro e w2 ⟨rfl, hb2⟩
        go_wp2
        go_ret
        exact ⟨rfl, hb1.trans (hb2.mono hb1.size)⟩
      | true =>
        have hR : Hid (Lib.hasPrefix s.data.toList (d ++ ⟨#[47]⟩).data.toList = r) := by
          rw [Hid, ← hr.out]; simp [underL, hp, hpd, hroot, Lib.hasPrefix]
        obtain ⟨dd, hdd⟩ : ∃ dd : ByteArray, d ++ ⟨#[47]⟩ = dd := ⟨_, rfl⟩
        rw [hdd] at hR
        have HC := Tryd.strings_HasPrefix s dd
        rw [hR.out] at HC
        have HC' := Lib.hid HC; clear HC
        have HDD := Lib.hid hdd; clear hdd
        have HP := Lib.hid hp
        have HD := Lib.hid hpd; clear hp hpd hr hroot
        go_enter Tryd.func39, Tryd.ntmps39
        go_wp2_with fail
        refine (pathOk_c _ _ HP _ hsm).mono ?_; rintro e w1 ⟨rfl, hb1⟩
        go_wp2_with fail
        refine (pathOk_c _ _ HD _ hdm).mono ?_; rintro e w2 ⟨rfl, hb2⟩
        go_wp2_with fail
        rw [HDD.out]
        refine (HC'.out _).mono ?_; rintro e w3 ⟨rfl, rfl⟩
        go_wp2
        go_ret
        exact ⟨rfl, hb1.trans (hb2.mono hb1.size)⟩
end Go.Proofs.YtkhbkhibjflgmaaDoor
