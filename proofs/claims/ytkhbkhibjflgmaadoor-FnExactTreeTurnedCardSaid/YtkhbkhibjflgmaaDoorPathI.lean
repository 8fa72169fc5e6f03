/- The walks of the reference's PathJoin, PathUnder, PathMove. Conditions: texts are short. -/
import Derived.Test.YtkhbkhibjflgmaaDoorPathH
namespace Go.Proofs.YtkhbkhibjflgmaaDoor
open Go.RowKit
theorem app3_data (d n : ByteArray) : (d ++ ⟨#[47]⟩ ++ n).data.toList = d.data.toList ++ 47 :: n.data.toList := by simp
set_option maxHeartbeats 2000000 in
theorem sPathMove_c (s f t r : ByteArray) (ok : Bool) (hr : Hid (moveL s.data.toList f.data.toList t.data.toList = r.data.toList)) (hok : Hid (moveOkL s.data.toList f.data.toList t.data.toList = ok)) (w : World) (hs : s.size ≤ 2000000) (hf : f.size ≤ 2000000) (ht : t.size ≤ 2000000) :
    Calls Tryd.prog 161 #[.string s, .string f, .string t] w fun e w' => e = .returned (.tuple #[.string r, .bool ok]) ∧ Below w.heap.size w w' := by
  have hsm : s.size ≤ maxLen := by unfold maxLen; omega
  have hfm : f.size ≤ maxLen := by unfold maxLen; omega
  have htm : t.size ≤ maxLen := by unfold maxLen; omega
  have hno : Hid (moveOkL s.data.toList f.data.toList t.data.toList = false → ok = false ∧ r = ⟨#[]⟩) := fun h =>
    ⟨by rw [← hok.out, h], bytes_eq (by rw [← hr.out, moveL, h]; rfl)⟩
  cases hp : pathOkL s.data.toList with
  | false =>
    obtain ⟨rfl, rfl⟩ := hno.out (by simp [moveOkL, hp])
    have HP := Lib.hid hp; clear hp hr hok hno
    go_enter Tryd.func161, Tryd.ntmps161
    go_wp2_with fail
    refine (sPathOk_c _ _ HP _ hsm).mono ?_; rintro e w1 ⟨rfl, hb1⟩
    go_wp2
    go_ret2
    exact ⟨rfl, hb1⟩
  | true =>
  cases hpf : pathOkL f.data.toList with
  | false =>
    obtain ⟨rfl, rfl⟩ := hno.out (by simp [moveOkL, hpf])
    have HP := Lib.hid hp
    have HF := Lib.hid hpf; clear hp hpf hr hok hno
    go_enter Tryd.func161, Tryd.ntmps161
    go_wp2_with fail
    refine (sPathOk_c _ _ HP _ hsm).mono ?_; rintro e w1 ⟨rfl, hb1⟩
    go_wp2_with fail
    refine (sPathOk_c _ _ HF _ hfm).mono ?_; rintro e w2 ⟨rfl, hb2⟩
    go_wp2
    go_ret2
    exact ⟨rfl, hb1.trans (hb2.mono hb1.size)⟩
  | true =>
  cases hpt : pathOkL t.data.toList with
  | false =>
    obtain ⟨rfl, rfl⟩ := hno.out (by simp [moveOkL, hpt])
    have HP := Lib.hid hp
    have HF := Lib.hid hpf
    have HT := Lib.hid hpt; clear hp hpf hpt hr hok hno
    go_enter Tryd.func161, Tryd.ntmps161
    go_wp2_with fail
    refine (sPathOk_c _ _ HP _ hsm).mono ?_; rintro e w1 ⟨rfl, hb1⟩
    go_wp2_with fail
    refine (sPathOk_c _ _ HF _ hfm).mono ?_; rintro e w2 ⟨rfl, hb2⟩
    go_wp2_with fail
    refine (sPathOk_c _ _ HT _ htm).mono ?_; rintro e w3 ⟨rfl, hb3⟩
    go_wp2
    go_ret2
    exact ⟨rfl, (hb1.trans (hb2.mono hb1.size)).trans (hb3.mono (Nat.le_trans hb1.size hb2.size))⟩
  | true =>
  have HP := Lib.hid hp
  have HF := Lib.hid hpf
  have HT := Lib.hid hpt
  have hue : underL s.data.toList f.data.toList = l1UnderL s.data.toList f.data.toList := by rw [under_eq]; simp [hp, hpf]
  by_cases he : s.data.toList = f.data.toList
  · obtain rfl : s = f := bytes_eq he
    have hM : moved s.data.toList s.data.toList t.data.toList = t.data.toList := by
      rw [moved, if_pos (.inl rfl)]; simp
    have hy : moveOkL s.data.toList s.data.toList t.data.toList = true := by simp [moveOkL, hM, hp, hpt]
    obtain rfl : ok = true := by rw [← hok.out, hy]
    obtain rfl : r = t := bytes_eq (by rw [← hr.out, moveL, if_pos hy, hM])
    clear hp hpf hpt hr hok hno he hM hy hue
    go_enter Tryd.func161, Tryd.ntmps161
    go_wp2_with fail
    refine (sPathOk_c _ _ HP _ hsm).mono ?_; rintro e w1 ⟨rfl, hb1⟩
    go_wp2_with fail
    refine (sPathOk_c _ _ HF _ hfm).mono ?_; rintro e w2 ⟨rfl, hb2⟩
    go_wp2_with fail
    refine (sPathOk_c _ _ HT _ htm).mono ?_; rintro e w3 ⟨rfl, hb3⟩
    go_wp2_with fail
    refine (sPathOk_c _ _ HT _ htm).mono ?_; rintro e w4 ⟨rfl, hb4⟩
    go_wp2
    go_ret2
    exact ⟨rfl, ((hb1.trans (hb2.mono hb1.size)).trans (hb3.mono (Nat.le_trans hb1.size hb2.size))).trans (hb4.mono (Nat.le_trans hb1.size (Nat.le_trans hb2.size hb3.size)))⟩
  · have hq := beqs_no he
    cases hu : underL s.data.toList f.data.toList with
    | false =>
      have hM : moved s.data.toList f.data.toList t.data.toList = s.data.toList := by rw [moved, if_neg (by simp [he, hu])]
      have hy : moveOkL s.data.toList f.data.toList t.data.toList = true := by simp [moveOkL, hM, hp, hpf, hpt]
      obtain rfl : ok = true := by rw [← hok.out, hy]
      obtain rfl : r = s := bytes_eq (by rw [← hr.out, moveL, if_pos hy, hM])
      have HU := Lib.hid (hue.symm.trans hu); clear hp hpf hpt hr hok hno he hM hy hu hue
      go_enter Tryd.func161, Tryd.ntmps161
      go_wp2_with fail
      refine (sPathOk_c _ _ HP _ hsm).mono ?_; rintro e w1 ⟨rfl, hb1⟩
      go_wp2_with fail
      refine (sPathOk_c _ _ HF _ hfm).mono ?_; rintro e w2 ⟨rfl, hb2⟩
      go_wp2_with fail
      refine (sPathOk_c _ _ HT _ htm).mono ?_; rintro e w3 ⟨rfl, hb3⟩
      go_wp2_with fail
      refine (l1Under_c _ _ _ HU _ hs hf).mono ?_; rintro e w4 ⟨rfl, rfl⟩
      go_wp2
      go_ret2
      exact ⟨rfl, ((hb1.trans (hb2.mono hb1.size)).trans (hb3.mono (Nat.le_trans hb1.size hb2.size)))⟩
    | true =>
      have hlen : f.size < s.size := by have := under_len hu hpf; rwa [size_data, size_data] at this
      have hM : Hid ((t ++ s.extract f.size s.size).data.toList = moved s.data.toList f.data.toList t.data.toList) := by
        rw [Hid, moved, if_pos (.inr hu), app_data, Lib.extract_to_end, size_data]
      obtain ⟨m, hm⟩ : ∃ m, t ++ s.extract f.size s.size = m := ⟨_, rfl⟩
      have hms : m.size ≤ 4000000 := by rw [← hm]; simp; omega
      have hmm : m.size ≤ maxLen := by unfold maxLen; omega
      rw [hm] at hM
      have HM := Lib.hid hm; clear hm
      have HU := Lib.hid (hue.symm.trans hu)
      cases hpm : pathOkL m.data.toList with
      | false =>
        obtain ⟨rfl, rfl⟩ := hno.out (by simp [moveOkL, ← hM.out, hpm])
        have HPM := Lib.hid hpm; clear hp hpf hpt hpm hr hok hno he hM hu hue
        go_enter Tryd.func161, Tryd.ntmps161
        go_wp2_with fail
        refine (sPathOk_c _ _ HP _ hsm).mono ?_; rintro e w1 ⟨rfl, hb1⟩
        go_wp2_with fail
        refine (sPathOk_c _ _ HF _ hfm).mono ?_; rintro e w2 ⟨rfl, hb2⟩
        go_wp2_with fail
        refine (sPathOk_c _ _ HT _ htm).mono ?_; rintro e w3 ⟨rfl, hb3⟩
        go_wp2_with fail
        refine (l1Under_c _ _ _ HU _ hs hf).mono ?_; rintro e w4 ⟨rfl, rfl⟩
        go_wp2_with fail
        rw [HM.out]
        refine (sPathOk_c _ _ HPM _ hmm).mono ?_; rintro e w5 ⟨rfl, hb5⟩
        go_wp2
        go_ret2
        exact ⟨rfl, (((hb1.trans (hb2.mono hb1.size)).trans (hb3.mono (Nat.le_trans hb1.size hb2.size)))).trans (hb5.mono (Nat.le_trans hb1.size (Nat.le_trans hb2.size hb3.size)))⟩
      | true =>
        have hy : moveOkL s.data.toList f.data.toList t.data.toList = true := by simp [moveOkL, ← hM.out, hpm, hp, hpf, hpt]
        obtain rfl : ok = true := by rw [← hok.out, hy]
        obtain rfl : r = m := bytes_eq (by rw [← hr.out, moveL, if_pos hy, hM.out])
        have HPM := Lib.hid hpm; clear hp hpf hpt hpm hr hok hno he hM hy hu hue
        go_enter Tryd.func161, Tryd.ntmps161
        go_wp2_with fail
        refine (sPathOk_c _ _ HP _ hsm).mono ?_; rintro e w1 ⟨rfl, hb1⟩
        go_wp2_with fail
        refine (sPathOk_c _ _ HF _ hfm).mono ?_; rintro e w2 ⟨rfl, hb2⟩
        go_wp2_with fail
        refine (sPathOk_c _ _ HT _ htm).mono ?_; rintro e w3 ⟨rfl, hb3⟩
        go_wp2_with fail
        refine (l1Under_c _ _ _ HU _ hs hf).mono ?_; rintro e w4 ⟨rfl, rfl⟩
        go_wp2_with fail
        rw [HM.out]
        refine (sPathOk_c _ _ HPM _ hmm).mono ?_; rintro e w5 ⟨rfl, hb5⟩
        go_wp2
        go_ret2
        exact ⟨rfl, (((hb1.trans (hb2.mono hb1.size)).trans (hb3.mono (Nat.le_trans hb1.size hb2.size)))).trans (hb5.mono (Nat.le_trans hb1.size (Nat.le_trans hb2.size hb3.size)))⟩
end Go.Proofs.YtkhbkhibjflgmaaDoor
