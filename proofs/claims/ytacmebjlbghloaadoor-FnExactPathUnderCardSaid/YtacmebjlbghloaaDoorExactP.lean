/- The walks of the exact laws of paths: each returns true at every text. Conditions: texts are no longer than any text can be. -/
import Derived.Test.YtacmebjlbghloaaDoorPathI
namespace Go.Proofs.YtacmebjlbghloaaDoor
open Go.RowKit
def TrueBelow (w : World) (e : Ending) (w' : World) : Prop := e = .returned (.bool true) ∧ Below w.heap.size w w'
theorem str_of (l : Bs) : ∃ b : ByteArray, l = b.data.toList := ⟨⟨l.toArray⟩, by simp⟩
theorem beqs_self (s : ByteArray) : (s.toList == s.toList) = true := by simp
set_option maxHeartbeats 1000000 in
theorem exactPathOk_w (s : ByteArray) (w : World) (hs : s.size ≤ maxLen) : Calls Tryd.prog 3 #[.string s] w (TrueBelow w) := by
  obtain ⟨r, hr⟩ : ∃ r, pathOkL s.data.toList = r := ⟨_, rfl⟩
  have HR := Lib.hid hr; clear hr
  have hs2 := hs; unfold maxLen at hs2
  by_cases h : 1048576 < s.size
  · go_enter Tryd.func3, Tryd.ntmps3
    go_wp2
    go_ret
    exact ⟨rfl, Below.refl _ _⟩
  · cases r
    all_goals
      go_enter Tryd.func3, Tryd.ntmps3
      go_wp2_with fail
      refine (sPathOk_c _ _ HR _ hs).mono ?_; rintro e w1 ⟨rfl, hb1⟩
      go_wp2_with fail
      refine (pathOk_c _ _ HR _ hs).mono ?_; rintro e w2 ⟨rfl, hb2⟩
      go_wp2
      go_ret
      exact ⟨rfl, hb1.trans (hb2.mono hb1.size)⟩
set_option maxHeartbeats 1000000 in
theorem exactPathLevels_w (s : ByteArray) (w : World) (hs : s.size ≤ maxLen) : Calls Tryd.prog 4 #[.string s] w (TrueBelow w) := by
  obtain ⟨r, hr⟩ : ∃ r, levelsL s.data.toList = r := ⟨_, rfl⟩
  have HR := Lib.hid hr; clear hr
  have hs2 := hs; unfold maxLen at hs2
  by_cases h : 1048576 < s.size
  · go_enter Tryd.func4, Tryd.ntmps4
    go_wp2
    go_ret
    exact ⟨rfl, Below.refl _ _⟩
  · go_enter Tryd.func4, Tryd.ntmps4
    go_wp2_with fail
    refine (sPathLevels_c _ _ HR _ hs).mono ?_; rintro e w1 ⟨rfl, hb1⟩
    go_wp2_with fail
    refine (pathLevels_c _ _ HR _ hs).mono ?_; rintro e w2 ⟨rfl, hb2⟩
    go_wp2
    go_ret
    exact ⟨rfl, hb1.trans (hb2.mono hb1.size)⟩
set_option maxHeartbeats 1000000 in
theorem exactPathUp_w (s : ByteArray) (w : World) (hs : s.size ≤ maxLen) : Calls Tryd.prog 11 #[.string s] w (TrueBelow w) := by
  obtain ⟨r, hr⟩ := str_of (upL s.data.toList)
  have HR := Lib.hid hr; clear hr
  have hs2 := hs; unfold maxLen at hs2
  by_cases h : 1048576 < s.size
  · go_enter Tryd.func11, Tryd.ntmps11
    go_wp2
    go_ret
    exact ⟨rfl, Below.refl _ _⟩
  · go_enter Tryd.func11, Tryd.ntmps11
    go_wp2_with fail
    refine (sPathUp_c _ _ HR _ hs).mono ?_; rintro e w1 ⟨rfl, hb1⟩
    go_wp2_with fail
    refine (pathUp_c _ _ HR _ hs).mono ?_; rintro e w2 ⟨rfl, hb2⟩
    go_wp2
    go_ret
    exact ⟨rfl, hb1.trans (hb2.mono hb1.size)⟩
set_option maxHeartbeats 1000000 in
theorem exactPathName_w (s : ByteArray) (w : World) (hs : s.size ≤ maxLen) : Calls Tryd.prog 5 #[.string s] w (TrueBelow w) := by
  obtain ⟨r, hr⟩ := str_of (nameL s.data.toList)
  have HR := Lib.hid hr; clear hr
  have hs2 := hs; unfold maxLen at hs2
  by_cases h : 1048576 < s.size
  · go_enter Tryd.func5, Tryd.ntmps5
    go_wp2
    go_ret
    exact ⟨rfl, Below.refl _ _⟩
  · go_enter Tryd.func5, Tryd.ntmps5
    go_wp2_with fail
    refine (sPathName_c _ _ HR _ hs).mono ?_; rintro e w1 ⟨rfl, hb1⟩
    go_wp2_with fail
    refine (pathName_c _ _ HR _ hs).mono ?_; rintro e w2 ⟨rfl, hb2⟩
    go_wp2
    go_ret
    exact ⟨rfl, hb1.trans (hb2.mono hb1.size)⟩
set_option maxHeartbeats 1000000 in
theorem exactPathUnder_w (s d : ByteArray) (w : World) (hs : s.size ≤ maxLen) (hd : d.size ≤ maxLen) : Calls Tryd.prog 6 #[.string s, .string d] w (TrueBelow w) := by
  obtain ⟨r, hr⟩ : ∃ r, underL s.data.toList d.data.toList = r := ⟨_, rfl⟩
  have HR := Lib.hid hr; clear hr
  have hs2 := hs; unfold maxLen at hs2
  have hd2 := hd; unfold maxLen at hd2
  by_cases h : 1048576 < s.size
  · go_enter Tryd.func6, Tryd.ntmps6
    go_wp2
    go_ret
    exact ⟨rfl, Below.refl _ _⟩
  by_cases h' : 1048576 < d.size
  · go_enter Tryd.func6, Tryd.ntmps6
    go_wp2
    go_ret
    exact ⟨rfl, Below.refl _ _⟩
  · cases r
    all_goals
      go_enter Tryd.func6, Tryd.ntmps6
      go_wp2_with fail
      refine (sPathUnder_c _ _ _ HR _ (by omega) (by omega)).mono ?_; rintro e w1 ⟨rfl, hb1⟩
      go_wp2_with fail
      refine (pathUnder_c _ _ _ HR _ (by omega) (by omega)).mono ?_; rintro e w2 ⟨rfl, hb2⟩
      go_wp2
      go_ret
      exact ⟨rfl, hb1.trans (hb2.mono hb1.size)⟩
set_option maxHeartbeats 1000000 in
theorem exactPathJoin_w (s d : ByteArray) (w : World) (hs : s.size ≤ maxLen) (hd : d.size ≤ maxLen) : Calls Tryd.prog 7 #[.string s, .string d] w (TrueBelow w) := by
  obtain ⟨r, hr⟩ := str_of (joinL s.data.toList d.data.toList)
  obtain ⟨ok, hok⟩ : ∃ ok, joinOkL s.data.toList d.data.toList = ok := ⟨_, rfl⟩
  have HR := Lib.hid hr; clear hr
  have HK := Lib.hid hok; clear hok
  have hs2 := hs; unfold maxLen at hs2
  have hd2 := hd; unfold maxLen at hd2
  by_cases h : 1048576 < s.size
  · go_enter Tryd.func7, Tryd.ntmps7
    go_wp2
    go_ret
    exact ⟨rfl, Below.refl _ _⟩
  by_cases h' : 1048576 < d.size
  · go_enter Tryd.func7, Tryd.ntmps7
    go_wp2
    go_ret
    exact ⟨rfl, Below.refl _ _⟩
  · cases ok
    all_goals
      go_enter Tryd.func7, Tryd.ntmps7
      go_wp2_with fail
      refine (sPathJoin_c _ _ _ _ HR HK _ (by omega) (by omega)).mono ?_; rintro e w1 ⟨rfl, hb1⟩
      go_wp2_with fail
      refine (pathJoin_c _ _ _ _ HR HK _ (by omega) (by omega)).mono ?_; rintro e w2 ⟨rfl, hb2⟩
      go_wp2
      go_ret
      exact ⟨rfl, hb1.trans (hb2.mono hb1.size)⟩
set_option maxHeartbeats 1000000 in
theorem exactPathMove_w (s d t : ByteArray) (w : World) (hs : s.size ≤ maxLen) (hd : d.size ≤ maxLen) (ht : t.size ≤ maxLen) : Calls Tryd.prog 8 #[.string s, .string d, .string t] w (TrueBelow w) := by
  obtain ⟨r, hr⟩ := str_of (moveL s.data.toList d.data.toList t.data.toList)
  obtain ⟨ok, hok⟩ : ∃ ok, moveOkL s.data.toList d.data.toList t.data.toList = ok := ⟨_, rfl⟩
  have HR := Lib.hid hr; clear hr
  have HK := Lib.hid hok; clear hok
  have hs2 := hs; unfold maxLen at hs2
  have hd2 := hd; unfold maxLen at hd2
  have ht2 := ht; unfold maxLen at ht2
  by_cases h : 1048576 < s.size
  · go_enter Tryd.func8, Tryd.ntmps8
    go_wp2
    go_ret
    exact ⟨rfl, Below.refl _ _⟩
  by_cases h' : 1048576 < d.size
  · go_enter Tryd.func8, Tryd.ntmps8
    go_wp2
    go_ret
    exact ⟨rfl, Below.refl _ _⟩
  by_cases h'' : 1048576 < t.size
  · go_enter Tryd.func8, Tryd.ntmps8
    go_wp2
    go_ret
    exact ⟨rfl, Below.refl _ _⟩
  · cases ok
    all_goals
      go_enter Tryd.func8, Tryd.ntmps8
      go_wp2_with fail
      refine (sPathMove_c _ _ _ _ _ HR HK _ (by omega) (by omega) (by omega)).mono ?_; rintro e w1 ⟨rfl, hb1⟩
      go_wp2_with fail
      refine (pathMove_c _ _ _ _ _ HR HK _ (by omega) (by omega) (by omega)).mono ?_; rintro e w2 ⟨rfl, hb2⟩
      go_wp2
      go_ret
      exact ⟨rfl, hb1.trans (hb2.mono hb1.size)⟩
end Go.Proofs.YtacmebjlbghloaaDoor
