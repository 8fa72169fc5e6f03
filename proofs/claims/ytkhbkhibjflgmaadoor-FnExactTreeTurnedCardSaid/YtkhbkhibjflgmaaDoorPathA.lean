/- The walks of the functions that look at one text: names and data. Conditions: a text is no longer than any text can be. -/
import Derived.Test.YtkhbkhibjflgmaaDoorBase
namespace Go.Proofs.YtkhbkhibjflgmaaDoor
open Go.RowKit
set_option maxHeartbeats 400000 in
theorem nameOk_c (s : ByteArray) (r : Bool) (hr : Hid (nameOkL s.data.toList = r)) (w : World) (hs : s.size ≤ maxLen) :
    Calls Tryd.prog 107 #[.string s] w fun e w' => e = .returned (.bool r) ∧ w = w' := by
  unfold maxLen at hs
  have hz := size_data s
  have HI : Hid (nameOkL s.data.toList = true ↔ 1 ≤ s.size ∧ s.size ≤ 3 ∧ s.data.toList.all isLo = true) := by rw [← hz]; exact nameOkL_iff _
  clear hz
  by_cases h1 : s.size < 1
  · obtain rfl : r = false := by
      cases r
      · rfl
      · have := HI.out.1 hr.out; omega
    go_enter Tryd.func107, Tryd.ntmps107
    go_wp2
    go_ret; exact ⟨rfl, rfl⟩
  by_cases h3 : 3 < s.size
  · obtain rfl : r = false := by
      cases r
      · rfl
      · have := HI.out.1 hr.out; omega
    go_enter Tryd.func107, Tryd.ntmps107
    go_wp2
    go_ret; exact ⟨rfl, rfl⟩
  go_enter Tryd.func107, Tryd.ntmps107
  go_wp2
  go_loop [3] (fun i => ∃ k : Nat, k ≤ s.size ∧ i = .int .i64 k ∧ (∀ j (hj : j < s.size), j < k → isLo s[j] = true)) (fun i => s.size - (intOf i).toNat)
  case atStart => exact ⟨0, Nat.zero_le _, rfl, fun j _ h => absurd h (by omega)⟩
  case round =>
    obtain ⟨k, hk, rfl, hall⟩ := hrel
    have HA := Lib.hid hall; clear hall
    by_cases hlt : k < s.size
    · by_cases hc : isLo s[k] = true
      · have hc' : 97 ≤ (s[k].toNat : Int) ∧ (s[k].toNat : Int) ≤ 122 := by simp [isLo] at hc; omega
        have HC := Lib.hid hc; clear hc
        obtain ⟨ha, hb⟩ := hc'
        go_wp2
        go_round
        case rel => exact ⟨k + 1, by omega, by go_num, fun j hj h => by
          by_cases e : j = k
          · subst e; exact HC.out
          · exact HA.out j hj (by omega)⟩
        case measure => simp [intOf]; omega
      · have hf : isLo s[k] = false := by simpa using hc
        obtain rfl : r = false := by
          cases r
          · rfl
          · have h4 := (HI.out.1 hr.out).2.2
            rw [not_all_of s isLo k hlt hf] at h4
            exact h4.symm
        have hc' : (s[k].toNat : Int) < 97 ∨ 122 < (s[k].toNat : Int) := by simp [isLo] at hc; omega
        clear hf hc
        rcases hc' with h | h
        all_goals
          go_wp2
          all_goals
            go_ret
            exact ⟨rfl, rfl⟩
    · obtain rfl : r = true := hr.out.symm.trans (HI.out.2 ⟨by omega, by omega, all_of s isLo (fun j hj => HA.out j hj (by omega))⟩)
      go_wp2
      go_ret
      exact ⟨rfl, rfl⟩
set_option maxHeartbeats 400000 in
theorem l1Name_c (s : ByteArray) (r : Bool) (hr : Hid (nameOkL s.data.toList = r)) (w : World) (hs : s.size ≤ maxLen) :
    Calls Tryd.prog 117 #[.string s] w fun e w' => e = .returned (.bool r) ∧ w = w' := by
  unfold maxLen at hs
  have hz := size_data s
  have HI : Hid (nameOkL s.data.toList = true ↔ 1 ≤ s.size ∧ s.size ≤ 3 ∧ s.data.toList.all isLo = true) := by rw [← hz]; exact nameOkL_iff _
  clear hz
  go_enter Tryd.func117, Tryd.ntmps117
  go_wp2
  go_loop [3] (fun i => ∃ k : Nat, k ≤ s.size ∧ i = .int .i64 k ∧ (∀ j (hj : j < s.size), j < k → isLo s[j] = true)) (fun i => s.size - (intOf i).toNat)
  case atStart => exact ⟨0, Nat.zero_le _, rfl, fun j _ h => absurd h (by omega)⟩
  case round =>
    obtain ⟨k, hk, rfl, hall⟩ := hrel
    have HA := Lib.hid hall; clear hall
    by_cases hlt : k < s.size
    · by_cases hc : isLo s[k] = true
      · have hc' : 97 ≤ (s[k].toNat : Int) ∧ (s[k].toNat : Int) ≤ 122 := by simp [isLo] at hc; omega
        have HC := Lib.hid hc; clear hc
        obtain ⟨ha, hb⟩ := hc'
        go_wp2
        go_round
        case rel => exact ⟨k + 1, by omega, by go_num, fun j hj h => by
          by_cases e : j = k
          · subst e; exact HC.out
          · exact HA.out j hj (by omega)⟩
        case measure => simp [intOf]; omega
      · have hf : isLo s[k] = false := by simpa using hc
        obtain rfl : r = false := by
          cases r
          · rfl
          · have h4 := (HI.out.1 hr.out).2.2
            rw [not_all_of s isLo k hlt hf] at h4
            exact h4.symm
        have hc' : (s[k].toNat : Int) < 97 ∨ 122 < (s[k].toNat : Int) := by simp [isLo] at hc; omega
        clear hf hc
        rcases hc' with h | h
        all_goals
          go_wp2
          all_goals
            go_ret
            exact ⟨rfl, rfl⟩
    · have HL : Hid (s.data.toList.all isLo = true) := all_of s isLo (fun j hj => HA.out j hj (by omega))
      by_cases h1 : 1 ≤ s.size
      · by_cases h3 : s.size ≤ 3
        · obtain rfl : r = true := hr.out.symm.trans (HI.out.2 ⟨h1, h3, HL.out⟩)
          go_wp2
          go_ret
          exact ⟨ret_bool (by simp; try omega), rfl⟩
        · obtain rfl : r = false := by
            cases r
            · rfl
            · have := HI.out.1 hr.out; omega
          go_wp2
          go_ret
          exact ⟨ret_bool (by simp; try omega), rfl⟩
      · obtain rfl : r = false := by
          cases r
          · rfl
          · have := HI.out.1 hr.out; omega
        go_wp2
        go_ret
        exact ⟨ret_bool (by simp; try omega), rfl⟩

set_option maxHeartbeats 800000 in
theorem dataOk_c (s : ByteArray) (r : Bool) (hr : Hid (dataOkL s.data.toList = r)) (w : World) (hs : s.size ≤ maxLen) :
    Calls Tryd.prog 77 #[.string s] w fun e w' => e = .returned (.bool r) ∧ w = w' := by
  unfold maxLen at hs
  have hz := size_data s
  have HI : Hid (dataOkL s.data.toList = true ↔ s.size ≤ 6 ∧ s.data.toList.all isData = true) := by rw [← hz]; exact dataOkL_iff _
  clear hz
  by_cases h6 : 6 < s.size
  · obtain rfl : r = false := by
      cases r
      · rfl
      · have := HI.out.1 hr.out; omega
    go_enter Tryd.func77, Tryd.ntmps77
    go_wp2
    go_ret; exact ⟨rfl, rfl⟩
  go_enter Tryd.func77, Tryd.ntmps77
  go_wp2
  go_loop [3] (fun i => ∃ k : Nat, k ≤ s.size ∧ i = .int .i64 k ∧ (∀ j (hj : j < s.size), j < k → isData s[j] = true)) (fun i => s.size - (intOf i).toNat)
  case atStart => exact ⟨0, Nat.zero_le _, rfl, fun j _ h => absurd h (by omega)⟩
  case round =>
    obtain ⟨k, hk, rfl, hall⟩ := hrel
    have HA := Lib.hid hall; clear hall
    by_cases hlt : k < s.size
    · by_cases hc : isData s[k] = true
      · have hc' : (48 ≤ (s[k].toNat : Int) ∧ (s[k].toNat : Int) ≤ 57) ∨ (97 ≤ (s[k].toNat : Int) ∧ (s[k].toNat : Int) ≤ 122) := by simp [isData, isLo] at hc; omega
        have HC := Lib.hid hc; clear hc
        rcases hc' with ⟨ha, hb⟩ | ⟨ha, hb⟩
        all_goals
          go_wp2
          go_round
          case rel => exact ⟨k + 1, by omega, by go_num, fun j hj h => by
            by_cases e : j = k
            · subst e; exact HC.out
            · exact HA.out j hj (by omega)⟩
          case measure => simp [intOf]; omega
      · have hf : isData s[k] = false := by simpa using hc
        obtain rfl : r = false := by
          cases r
          · rfl
          · have h4 := (HI.out.1 hr.out).2
            rw [not_all_of s isData k hlt hf] at h4
            exact h4.symm
        have hc' : (s[k].toNat : Int) < 48 ∨ (57 < (s[k].toNat : Int) ∧ (s[k].toNat : Int) < 97) ∨ 122 < (s[k].toNat : Int) := by simp [isData, isLo] at hc; omega
        clear hf hc
        rcases hc' with h | ⟨h, h'⟩ | h
        rotate_left
        · have hd : decide ((s[k].toNat : Int) ≤ 57) = false := by simp; omega
          go_wp2
          all_goals
            go_ret
            exact ⟨rfl, rfl⟩
        · have hd : decide ((s[k].toNat : Int) ≤ 57) = false := by simp; omega
          have hd' : decide ((s[k].toNat : Int) ≤ 122) = false := by simp; omega
          go_wp2
          all_goals
            go_ret
            exact ⟨rfl, rfl⟩
        all_goals
          go_wp2
          all_goals
            go_ret
            exact ⟨rfl, rfl⟩
    · have HL : Hid (s.data.toList.all isData = true) := all_of s isData (fun j hj => HA.out j hj (by omega))
      obtain rfl : r = true := hr.out.symm.trans (HI.out.2 ⟨by omega, HL.out⟩)
      go_wp2
      go_ret
      exact ⟨rfl, rfl⟩

set_option maxHeartbeats 800000 in
theorem l2Data_c (s : ByteArray) (r : Bool) (hr : Hid (dataOkL s.data.toList = r)) (w : World) (hs : s.size ≤ maxLen) :
    Calls Tryd.prog 73 #[.string s] w fun e w' => e = .returned (.bool r) ∧ w = w' := by
  unfold maxLen at hs
  have hz := size_data s
  have HI : Hid (dataOkL s.data.toList = true ↔ s.size ≤ 6 ∧ s.data.toList.all isData = true) := by rw [← hz]; exact dataOkL_iff _
  clear hz
  go_enter Tryd.func73, Tryd.ntmps73
  go_wp2
  go_loop [3] (fun i => ∃ k : Nat, k ≤ s.size ∧ i = .int .i64 k ∧ (∀ j (hj : j < s.size), j < k → isData s[j] = true)) (fun i => s.size - (intOf i).toNat)
  case atStart => exact ⟨0, Nat.zero_le _, rfl, fun j _ h => absurd h (by omega)⟩
  case round =>
    obtain ⟨k, hk, rfl, hall⟩ := hrel
    have HA := Lib.hid hall; clear hall
    by_cases hlt : k < s.size
    · by_cases hc : isData s[k] = true
      · have hc' : (48 ≤ (s[k].toNat : Int) ∧ (s[k].toNat : Int) ≤ 57) ∨ (97 ≤ (s[k].toNat : Int) ∧ (s[k].toNat : Int) ≤ 122) := by simp [isData, isLo] at hc; omega
        have HC := Lib.hid hc; clear hc
        rcases hc' with ⟨ha, hb⟩ | ⟨ha, hb⟩
        all_goals
          go_wp2
          go_round
          case rel => exact ⟨k + 1, by omega, by go_num, fun j hj h => by
            by_cases e : j = k
            · subst e; exact HC.out
            · exact HA.out j hj (by omega)⟩
          case measure => simp [intOf]; omega
      · have hf : isData s[k] = false := by simpa using hc
        obtain rfl : r = false := by
          cases r
          · rfl
          · have h4 := (HI.out.1 hr.out).2
            rw [not_all_of s isData k hlt hf] at h4
            exact h4.symm
        have hc' : (s[k].toNat : Int) < 48 ∨ (57 < (s[k].toNat : Int) ∧ (s[k].toNat : Int) < 97) ∨ 122 < (s[k].toNat : Int) := by simp [isData, isLo] at hc; omega
        clear hf hc
        rcases hc' with h | ⟨h, h'⟩ | h
        rotate_left
        · have hd : decide ((s[k].toNat : Int) ≤ 57) = false := by simp; omega
          go_wp2
          all_goals
            go_ret
            exact ⟨rfl, rfl⟩
        · have hd : decide ((s[k].toNat : Int) ≤ 57) = false := by simp; omega
          have hd' : decide ((s[k].toNat : Int) ≤ 122) = false := by simp; omega
          go_wp2
          all_goals
            go_ret
            exact ⟨rfl, rfl⟩
        all_goals
          go_wp2
          all_goals
            go_ret
            exact ⟨rfl, rfl⟩
    · have HL : Hid (s.data.toList.all isData = true) := all_of s isData (fun j hj => HA.out j hj (by omega))
      by_cases h6 : 6 < s.size
      · obtain rfl : r = false := by
          cases r
          · rfl
          · have := HI.out.1 hr.out; omega
        go_wp2
        go_ret
        exact ⟨ret_bool (by simp; try omega), rfl⟩
      · obtain rfl : r = true := hr.out.symm.trans (HI.out.2 ⟨by omega, HL.out⟩)
        go_wp2
        go_ret
        exact ⟨ret_bool (by simp; try omega), rfl⟩
end Go.Proofs.YtkhbkhibjflgmaaDoor
